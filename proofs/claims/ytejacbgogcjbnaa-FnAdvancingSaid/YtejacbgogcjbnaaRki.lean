/- Ranks of entries, at the implementation. Conditions: as each contract says. -/
import Derived.Test.YtejacbgogcjbnaaRks
namespace Go.Proofs.Ytejacbgogcjbnaa
open Go.RowKit

def diffL (n : Nat) (es : List Ent) : Bool := es.any fun e => !(e.2.length == n)
def NoneL (n : Nat) (es : List Ent) (m : Nat) : Prop := diffL n (es.take m) = false
theorem NoneL.more {n : Nat} {es : List Ent} {m : Nat} (h : NoneL n es m) (hm : m < es.length) {k : Int} {xs : List Int} (he : es.getD m (0, []) = (k, xs)) (hn : xs.length = n) : NoneL n es (m + 1) := by
  unfold NoneL diffL at *
  rw [etake_get es m hm, List.any_append, h, he]
  simp [hn]
theorem diffL_none {n : Nat} {es : List Ent} {m : Nat} (h : NoneL n es m) (hm : es.length ≤ m) : diffL n es = false := by
  unfold NoneL at h
  rwa [List.take_of_length_le hm] at h
theorem diffL_here {n : Nat} {es : List Ent} {m : Nat} (hm : m < es.length) {k : Int} {xs : List Int} (he : es.getD m (0, []) = (k, xs)) (hn : xs.length ≠ n) : diffL n es = true := by
  unfold diffL
  rw [List.any_eq_true]
  exact ⟨(k, xs), by rw [← he, egetD_at _ _ hm]; exact List.getElem_mem hm, by simp [hn]⟩
theorem diffL_same (es : List Ent) : diffL (es.getD 0 (0, [])).2.length es = !sameLen es := by
  unfold diffL sameLen
  rw [List.all_eq_not_any_not]
  simp
set_option maxRecDepth 3000 in
set_option maxHeartbeats 1000000 in
theorem isDiff (k1 : Int) (A1 : Option Addr) (n c1 : Nat) (g b off m cm k0 n0 : Nat) (A0 : Option Addr) (c0 : Nat) (w : World) (hm : 0 < m) (hg : w.cell? ⟨g, 0, none⟩ = some (.slice (some ⟨b, off, none⟩) m cm)) (hc : w.cell? ⟨b, off + 1, none⟩ = some (.slice A0 n0 c0)) :
    Calls Try.prog 43 #[.agg #[.int .i64 k1, .slice A1 n c1], .pointer (some ⟨g, 0, none⟩)] w fun e w' => e = .returned (.bool (!(n == n0))) ∧ Below w.heap.size w w' := by
  have _ := k0
  have hgw := World.block_lt_of_cell? w _ hg
  have hbw := World.block_lt_of_cell? w _ hc
  have hb : Below w.heap.size w (w.alloc (.cells #[.int .i64 k1, .slice A1 n c1] 32)) := (by repeat (first | exact Below.refl _ _ | assumption | refine Below.setCell ?_ (by first | omega | (simp <;> omega)) _ | refine Below.alloc ?_ (by first | omega | (simp <;> omega)) _ | refine Below.drew ?_))
  have hg2 : (w.alloc (.cells #[.int .i64 k1, .slice A1 n c1] 32)).cell? ⟨g, 0, none⟩ = some (.slice (some ⟨b, off, none⟩) m cm) := (hb.cell (p := ⟨g, 0, none⟩) hgw).trans hg
  have hc2 : (w.alloc (.cells #[.int .i64 k1, .slice A1 n c1] 32)).cell? ⟨b, off + 1, none⟩ = some (.slice A0 n0 c0) := (hb.cell (p := ⟨b, off + 1, none⟩) hbw).trans hc
  have p0 : (0 : Int) < (m : Int) := by omega
  have hn1 : (w.alloc (.cells #[.int .i64 k1, .slice A1 n c1] 32)).cell? ⟨w.heap.size, 1, none⟩ = some (.slice A1 n c1) := by simp
  go_enter Try.func43, Try.ntmps43
  go_wp2_with fail
  go_quiet (fail)
  go_wp2_with fail
  go_ret
  exact ⟨ret_bool (by rw [Bool.eq_iff_iff]; simp; omega), belowDrewN hb _⟩
set_option maxRecDepth 3000 in
set_option maxHeartbeats 1000000 in
theorem indexDiff (A : Option Addr) (c cm : Nat) (es : List Ent) (g n0 : Nat) (w : World) (hx : EntsAt w A es) (hl : es.length ≤ 1048576) (hg : w.cell? ⟨g, 0, none⟩ = some (.slice A es.length cm)) (h0 : (es.getD 0 (0, [])).2.length = n0) :
    Calls Try.prog 73 #[.slice A es.length c, .func (.func 43) #[] #[.pointer (some ⟨g, 0, none⟩)]] w (IdxOfE (diffL n0 es) w) := by
  have hgw := World.block_lt_of_cell? w _ hg
  have H0 := Lib.hid h0
  clear h0
  go_enter Try.func73, Try.ntmps73
  go_wp2_with fail
  go_loopw [5, 8] (fun _ j wr => ∃ i : Nat, i ≤ es.length ∧ j = .int .i64 i ∧ Hid (NoneL n0 es i) ∧ Below w.heap.size w wr) (fun _ j _ => es.length - (intOf j).toNat)
  case atStart => exact ⟨0, Nat.zero_le _, rfl, by simp [Hid, NoneL, diffL], Below.refl _ _⟩
  case round =>
    obtain ⟨i, hi, rfl, HN, hB⟩ := hrel
    by_cases hlt : i < es.length
    · obtain ⟨b, off, e1, Ai, ci, ys, rfl, hb, hc0, hc1, hI, hcap, HX⟩ := (hx.below hB).at_ hlt
      obtain ⟨b', off', e0, A0, c0, zs, e', hb', hd0, hd1, hI', hcap', HZ⟩ := (hx.below hB).at_ (show 0 < es.length by omega)
      injection e' with e'
      injection e' with ee1 ee2
      subst ee1 ee2
      have hzn : zs.length = n0 := by have := H0.out; rw [HZ.out] at this; exact this
      have hd2 := cell_at0 hd1
      rw [hzn] at hd2
      have p0 : (0 : Int) ≤ (i : Int) := by omega
      have p1 : (i : Int) < (es.length : Int) := by omega
      have hcw : wr.cell? ⟨g, 0, none⟩ = some (.slice (some ⟨b, off, none⟩) es.length cm) := (hB.cell (p := ⟨g, 0, none⟩) hgw).trans hg
      clear hd0 hd1 hzn
      by_cases he : ys.length = n0
      · have hne : (!(ys.length == n0)) = false := by simp [he]
        have HNN : Hid (NoneL n0 es (i + 1)) := HN.out.more hlt HX.out he
        clear he
        go_wp2_with fail
        refine (isDiff e1 Ai ys.length ci g b off es.length cm 0 n0 A0 c0 _ (by omega) hcw hd2).mono ?_
        rintro e w1 ⟨rfl, hb1⟩
        rw [hne]
        clear hne
        go_wp2_with fail
        go_roundw
        case rel => exact ⟨i + 1, by omega, by go_num, HNN, belowStep hb1 hB⟩
        case measure => simp [intOf]; omega
      · have hne : (!(ys.length == n0)) = true := by simp [he]
        have HS := Lib.hid (diffL_here hlt HX.out he)
        clear he
        go_wp2_with fail
        refine (isDiff e1 Ai ys.length ci g b off es.length cm 0 n0 A0 c0 _ (by omega) hcw hd2).mono ?_
        rintro e w1 ⟨rfl, hb1⟩
        rw [hne]
        clear hne
        go_wp2_with fail
        go_ret
        exact ⟨i, rfl, by rw [HS.out]; simp, belowStep hb1 hB⟩
    · go_wp2_with fail
      go_ret
      exact ⟨-1, rfl, by rw [diffL_none HN.out (by omega)]; rfl, hB⟩
set_option maxHeartbeats 1000000 in
theorem containsDiff (A : Option Addr) (c cm : Nat) (es : List Ent) (g : Nat) (w : World) (hx : EntsAt w A es) (hl : es.length ≤ 1048576) (hg : w.cell? ⟨g, 0, none⟩ = some (.slice A es.length cm)) :
    Calls Try.prog 42 #[.slice A es.length c, .func (.func 43) #[] #[.pointer (some ⟨g, 0, none⟩)]] w fun e w' => e = .returned (.bool (!sameLen es)) ∧ Below w.heap.size w w' := by
  go_enter Try.func42, Try.ntmps42
  go_wp2_with fail
  refine (indexDiff A c cm es g _ _ hx hl hg rfl).mono ?_
  rintro e w1 ⟨i, rfl, hi, hb1⟩
  have HI := Lib.hid hi
  clear hi
  go_wp2_with fail
  go_ret
  exact ⟨ret_bool (by rw [← diffL_same, ← HI.out]), hb1⟩
set_option maxRecDepth 3000 in
set_option maxHeartbeats 2000000 in
theorem ranked1 (A : Option Addr) (c : Nat) (es : List Ent) (w : World) (hx : EntsAt w A es) (hcp : comparable es = true) :
    Calls Try.prog 44 #[.slice A es.length c, .func (.func 19) #[] #[]] w (IntsPost (ranksBy lessEE es) w) := by
  have hcp2 := hcp
  rw [comparable, Bool.and_eq_true] at hcp2
  have hl12 := (entsOk_parts hcp2.1).1
  have HOK := Lib.hid (entsOk_parts hcp2.1).2
  have HSL := Lib.hid hcp2.2
  clear hcp hcp2
  have hE : Fresh w.heap.size w (.slice none 0 0) [] := Fresh.nil _ _
  go_enter Try.func44, Try.ntmps44
  go_wp2_with fail
  go_loopw [5, 13] (fun v j wr => ∃ (i : Nat) (l : List Int), i ≤ es.length ∧ j = .int .i64 i ∧ Fresh w.heap.size wr v l ∧ Hid (ranksTo lessEE es i = l) ∧ Below w.heap.size w wr) (fun _ j _ => es.length - (intOf j).toNat)
  case atStart => exact ⟨0, [], Nat.zero_le _, rfl, hE, rfl, Below.refl _ _⟩
  case round =>
    obtain ⟨i, l, hi, rfl, hF, HL, hB⟩ := hrel
    clear hE
    by_cases hlt : i < es.length
    · obtain ⟨b, off, e1, Ai, ci, ys, rfl, hb, hc0, hc1, hI, hcap, HX⟩ := (hx.below hB).at_ hlt
      have p0 : (0 : Int) ≤ (i : Int) := by omega
      have p1 : (i : Int) < (es.length : Int) := by omega
      have hxw := hx.below hB
      have HV := Lib.hid (show entOk e1 ys = true by have := HOK.out i hlt; rw [HX.out] at this; exact this)
      have HYL : Hid (ys.length = (es.getD 0 (0, [])).2.length) := by have := sameLen_at HSL.out hlt; rw [HX.out] at this; exact this
      have hyn : ys.length ≤ 1048576 := by have := (entOk_parts HV.out).1; omega
      have hll : l.length ≤ 1048576 := by rw [← HL.out, ranksTo_len]; omega
      obtain ⟨wo, rfl⟩ : ∃ wo : World, wo = wr := ⟨_, rfl⟩
      have hbo : Below wo.heap.size wo (wo.alloc (.cells #[.int .i64 e1, .slice Ai ys.length ci] 32)) := (by repeat (first | exact Below.refl _ _ | assumption | refine Below.setCell ?_ (by first | omega | (simp <;> omega)) _ | refine Below.alloc ?_ (by first | omega | (simp <;> omega)) _ | refine Below.drew ?_))
      have g0 : (wo.alloc (.cells #[.int .i64 e1, .slice Ai ys.length ci] 32)).cell? ⟨wo.heap.size, 0, none⟩ = some (.int .i64 e1) := by simp
      have g1 : (wo.alloc (.cells #[.int .i64 e1, .slice Ai ys.length ci] 32)).cell? ⟨wo.heap.size, 1, none⟩ = some (.slice Ai ys.length ci) := by simp
      have hz : wo.heap.size < (wo.alloc (.cells #[.int .i64 e1, .slice Ai ys.length ci] 32)).heap.size := by simp
      go_wp2_with fail
      go_loopw [8, 19] (fun q j wr => ∃ (k : Nat) (x : Int), k ≤ es.length ∧ j = .int .i64 k ∧ q = .int .i64 x ∧ 1 ≤ x ∧ x ≤ 1 + (k : Int) ∧ Hid (countTo lessEE es (e1, ys) k = x) ∧ Below wo.heap.size wo wr ∧ wo.heap.size < wr.heap.size ∧ wr.cell? ⟨wo.heap.size, 0, none⟩ = some (.int .i64 e1) ∧ wr.cell? ⟨wo.heap.size, 1, none⟩ = some (.slice Ai ys.length ci)) (fun _ j _ => es.length - (intOf j).toNat)
      case atStart => exact ⟨0, 1, Nat.zero_le _, rfl, rfl, by omega, by omega, rfl, hbo, hz, g0, g1⟩
      case round =>
        obtain ⟨k, x, hk, rfl, rfl, x0, x1, HC, hb2, hz2, r0, r1⟩ := hrel
        clear g0 g1 hbo hz
        by_cases hlk : k < es.length
        · obtain ⟨b', off', e2, Ak, ck, zs, e', hb', hd0, hd1, hIk, hcapk, HZ⟩ := (hxw.below hb2).at_ hlk
          injection e' with e'
          injection e' with ee1 ee2
          subst ee1 ee2
          have q0 : (0 : Int) ≤ (k : Int) := by omega
          have q1 : (k : Int) < (es.length : Int) := by omega
          have hbk : Below wr.heap.size wr (wr.alloc (.cells #[.int .i64 e2, .slice Ak zs.length ck] 32)) := (by repeat (first | exact Below.refl _ _ | assumption | refine Below.setCell ?_ (by first | omega | (simp <;> omega)) _ | refine Below.alloc ?_ (by first | omega | (simp <;> omega)) _ | refine Below.drew ?_))
          have hIy := (hI.below hb2).below hbk
          have hIz := hIk.below hbk
          have s0 := (hbk.cell (p := ⟨wo.heap.size, 0, none⟩) hz2).trans r0
          have s1 := (hbk.cell (p := ⟨wo.heap.size, 1, none⟩) hz2).trans r1
          have HVZ := Lib.hid (show entOk e2 zs = true by have := HOK.out k hlk; rw [HZ.out] at this; exact this)
          have HZL : Hid (zs.length = ys.length) := by have := sameLen_at HSL.out hlk; rw [HZ.out] at this; exact this.trans HYL.out.symm
          have hzn : zs.length ≤ 1048576 := by have := (entOk_parts HVZ.out).1; omega
          have HEL := Lib.hid (entLess_less HVZ.out HV.out HZL.out)
          cases hs : lessEE (e2, zs) (e1, ys)
          all_goals
            have HS := Lib.hid hs
            clear hs
            go_wp2_with fail
            refine (implEntryLess e2 Ak ck zs e1 Ai ci ys zs.length ys.length _ (by exact hIz) (by exact hIy) rfl rfl hzn hyn).mono ?_
            rintro e w3 ⟨rfl, hb3⟩
            rw [HEL.out, HS.out]
            have hb4 := belowStep hb3 (belowStep hbk hb2)
            have hz3 : wo.heap.size < w3.heap.size := by have := hb3.size; simp at this; omega
            have t0 := (hb3.cell (p := ⟨wo.heap.size, 0, none⟩) (by simp; omega)).trans s0
            have t1 := (hb3.cell (p := ⟨wo.heap.size, 1, none⟩) (by simp; omega)).trans s1
            clear s0 s1 r0 r1
            go_wp2_with fail
            go_roundw
            case rel => exact ⟨k + 1, _, by omega, by go_num, rfl, by omega, by omega, by first | exact countTo_no HZ.out HC.out HS.out | exact countTo_yes HZ.out HC.out HS.out, hb4, hz3, t0, t1⟩
            case measure => simp [intOf]; omega
        · obtain rfl : k = es.length := by omega
          have HLN : Hid (ranksTo lessEE es (i + 1) = l ++ [x]) := ranksTo_more HX.out HL.out HC.out
          have hF2 := hF.below hb2
          have hB2 := belowStep hb2 hB
          have hBz := hB2.size
          clear hF r0 r1
          go_wp2_with (first | (at_builtin; refine append_one rfl (.tmp 30) (.tmp 32) rfl w.heap.size _ l x rfl (hF2.below (by repeat (first | exact Below.refl _ _ | assumption | refine Below.setCell ?_ (by first | omega | (simp <;> omega)) _ | refine Below.alloc ?_ (by first | omega | (simp <;> omega)) _ | refine Below.drew ?_))) wr.heap.size rfl (by simp) hll (by simp; omega) ?_; intro v4 w4 hF4 hg4 hb4))
          go_roundw
          case rel => exact ⟨i + 1, _, by omega, by go_num, hF4, HLN, (hB2.alloc hB2.size _).trans hb4⟩
          case measure => simp [intOf]; omega
    · obtain rfl : i = es.length := by omega
      go_wp2_with fail
      go_ret
      exact ⟨_, rfl, by rw [ranksBy, HL.out]; exact hF, hB⟩
set_option maxHeartbeats 1000000 in
theorem implRanks (A : Option Addr) (c : Nat) (es : List Ent) (w : World) (hx : EntsAt w A es) (hl : es.length ≤ 1048576) (hlc : es.length ≤ c) (hs : Short es) :
    Calls Try.prog 17 #[.slice A es.length c] w (RanksPost (comparable es) (ranksRes es) w) := by
  have hB0 : Below w.heap.size w (w.alloc (.cells #[.slice A es.length c] 26)) := (by repeat (first | exact Below.refl _ _ | assumption | refine Below.setCell ?_ (by first | omega | (simp <;> omega)) _ | refine Below.alloc ?_ (by first | omega | (simp <;> omega)) _ | refine Below.drew ?_))
  have g0 : (w.alloc (.cells #[.slice A es.length c] 26)).cell? ⟨w.heap.size, 0, none⟩ = some (.slice A es.length c) := by simp
  have hx0 := hx.below hB0
  cases hok : entsOk es
  · have HCP : Hid (comparable es = false) := by unfold Hid; rw [comparable, hok]; rfl
    go_enter Try.func17, Try.ntmps17
    go_wp2_with fail
    refine (implAve A c es _ (by exact hx0) hl hlc hs).mono ?_
    rintro e w1 ⟨rfl, hb1⟩
    rw [hok]
    clear hok hs
    go_wp2_with fail
    go_ret
    exact ⟨_, rfl, by rw [ranksRes, HCP.out]; exact Fresh.nil _ _, fun _ => rfl, belowStep hb1 hB0⟩
  · cases hsl : sameLen es
    · have HCP : Hid (comparable es = false) := by unfold Hid; rw [comparable, hok, hsl]; rfl
      go_enter Try.func17, Try.ntmps17
      go_wp2_with fail
      refine (implAve A c es _ (by exact hx0) hl hlc hs).mono ?_
      rintro e w1 ⟨rfl, hb1⟩
      rw [hok]
      have g1 := (hb1.cell (p := ⟨w.heap.size, 0, none⟩) (by simp)).trans g0
      have hB1 := belowStep hb1 hB0
      have hx1 := hx.below hB1
      clear hok hs g0
      go_wp2_with fail
      refine (containsDiff A c c es _ _ hx1 hl g1).mono ?_
      rintro e w2 ⟨rfl, hb2⟩
      rw [hsl]
      clear hsl
      go_wp2_with fail
      go_ret
      exact ⟨_, rfl, by rw [ranksRes, HCP.out]; exact Fresh.nil _ _, fun _ => rfl, belowStep hb2 hB1⟩
    · have HCP : Hid (comparable es = true) := by unfold Hid; rw [comparable, hok, hsl]; rfl
      go_enter Try.func17, Try.ntmps17
      go_wp2_with fail
      refine (implAve A c es _ (by exact hx0) hl hlc hs).mono ?_
      rintro e w1 ⟨rfl, hb1⟩
      rw [hok]
      have g1 := (hb1.cell (p := ⟨w.heap.size, 0, none⟩) (by simp)).trans g0
      have hB1 := belowStep hb1 hB0
      have hx1 := hx.below hB1
      have hz1 : w.heap.size < w1.heap.size := by have := hb1.size; simp at this; omega
      clear hok hs g0
      go_wp2_with fail
      refine (containsDiff A c c es _ _ hx1 hl g1).mono ?_
      rintro e w2 ⟨rfl, hb2⟩
      rw [hsl]
      have g2 := (hb2.cell (p := ⟨w.heap.size, 0, none⟩) hz1).trans g1
      have hB2 := belowStep hb2 hB1
      have hx2 := hx1.below hb2
      clear hsl g1
      go_wp2_with fail
      refine (ranked1 A c es _ hx2 HCP.out).mono ?_
      rintro e w3 ⟨v3, rfl, hF3, hb3⟩
      go_wp2_with fail
      go_ret
      exact ⟨v3, rfl, by rw [ranksRes, HCP.out, if_pos rfl]; exact hF3.mono hB2.size, (fun h => by rw [HCP.out] at h; cases h), belowStep hb3 hB2⟩
end Go.Proofs.Ytejacbgogcjbnaa
