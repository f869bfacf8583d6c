/- Are entries valid together: at both packages. Conditions: as each contract says. -/
import Derived.Test.YtejacbgogcjbnaaEo
namespace Go.Proofs.Ytejacbgogcjbnaa
open Go.RowKit

def IdxOfE (b : Bool) (w : World) (e : Ending) (w' : World) : Prop := ∃ i : Int, e = .returned (.int .i64 i) ∧ decide (0 ≤ i) = b ∧ Below w.heap.size w w'
theorem Short.take {es : List Ent} (h : Short es) (m : Nat) : Short (es.take m) := by
  intro i hi
  have h2 : i < es.length := by rw [List.length_take] at hi; omega
  have h3 : i < m := by rw [List.length_take] at hi; omega
  have e : (es.take m).getD i (0, []) = es.getD i (0, []) := by simp [List.getD_eq_getElem?_getD, h3]
  rw [e]; exact h i h2
theorem sameK_none {k : Int} {es : List Ent} {m : Nat} (h : NoneK k es m) (hm : es.length ≤ m) : sameK k es = false := by
  unfold NoneK at h
  rwa [List.take_of_length_le hm] at h
theorem sameK_here {k : Int} {es : List Ent} {m : Nat} (hm : m < es.length) {xs : List Int} (he : es.getD m (0, []) = (k, xs)) : sameK k es = true := by
  unfold sameK
  rw [List.any_eq_true]
  exact ⟨(k, xs), by rw [← he, egetD_at _ _ hm]; exact List.getElem_mem hm, by simp⟩
set_option maxHeartbeats 1000000 in
theorem isSame (k1 : Int) (v : Value) (k : Int) (g : Nat) (w : World) (hc : w.cell? ⟨g, 0, none⟩ = some (.int .i64 k)) :
    Calls Try.prog 72 #[.agg #[.int .i64 k1, v], .pointer (some ⟨g, 0, none⟩)] w fun e w' => e = .returned (.bool (k1 == k)) ∧ Below w.heap.size w w' := by
  have hg := World.block_lt_of_cell? w _ hc
  have hc2 : (w.alloc (.cells #[.int .i64 k1, v] 32)).cell? ⟨g, 0, none⟩ = some (.int .i64 k) := by
    have hb : Below w.heap.size w (w.alloc (.cells #[.int .i64 k1, v] 32)) := (by repeat (first | exact Below.refl _ _ | assumption | refine Below.setCell ?_ (by first | omega | (simp <;> omega)) _ | refine Below.alloc ?_ (by first | omega | (simp <;> omega)) _ | refine Below.drew ?_))
    exact (hb.cell (p := ⟨g, 0, none⟩) hg).trans hc
  go_enter Try.func72, Try.ntmps72
  go_wp2_with fail
  go_ret
  exact ⟨ret_bool (by simp), (by repeat (first | exact Below.refl _ _ | assumption | refine Below.setCell ?_ (by first | omega | (simp <;> omega)) _ | refine Below.alloc ?_ (by first | omega | (simp <;> omega)) _ | refine Below.drew ?_))⟩
set_option maxRecDepth 3000 in
set_option maxHeartbeats 1000000 in
theorem indexSame (A : Option Addr) (c : Nat) (es : List Ent) (k : Int) (g : Nat) (n : Nat) (hn : es.length = n) (w : World) (hx : EntsAt w A es) (hl : n ≤ 1048576) (hcm : w.cell? ⟨g, 0, none⟩ = some (.int .i64 k)) :
    Calls Try.prog 73 #[.slice A n c, .func (.func 72) #[] #[.pointer (some ⟨g, 0, none⟩)]] w (IdxOfE (sameK k es) w) := by
  subst hn
  have hgw := World.block_lt_of_cell? w _ hcm
  go_enter Try.func73, Try.ntmps73
  go_wp2_with fail
  go_loopw [5, 8] (fun _ j wr => ∃ i : Nat, i ≤ es.length ∧ j = .int .i64 i ∧ Hid (NoneK k es i) ∧ Below w.heap.size w wr) (fun _ j _ => es.length - (intOf j).toNat)
  case atStart => exact ⟨0, Nat.zero_le _, rfl, NoneK.zero _ _, Below.refl _ _⟩
  case round =>
    obtain ⟨i, hi, rfl, HN, hB⟩ := hrel
    by_cases hlt : i < es.length
    · obtain ⟨b, off, e1, Ai, ci, ys, rfl, hb, hc0, hc1, hI, hcap, HX⟩ := (hx.below hB).at_ hlt
      have p0 : (0 : Int) ≤ (i : Int) := by omega
      have p1 : (i : Int) < (es.length : Int) := by omega
      have hcw : wr.cell? ⟨g, 0, none⟩ = some (.int .i64 k) := (hB.cell (p := ⟨g, 0, none⟩) hgw).trans hcm
      by_cases he : e1 = k
      · subst he
        have HS := Lib.hid (sameK_here hlt HX.out)
        go_wp2_with fail
        refine (isSame e1 _ e1 g _ hcw).mono ?_
        rintro e w1 ⟨rfl, hb1⟩
        go_wp2_with fail
        go_ret
        exact ⟨i, rfl, by rw [HS.out]; simp, belowStep hb1 hB⟩
      · have hne : (e1 == k) = false := by simpa using he
        have HNN : Hid (NoneK k es (i + 1)) := HN.out.more hlt HX.out he
        clear he
        go_wp2_with fail
        refine (isSame e1 _ k g _ hcw).mono ?_
        rintro e w1 ⟨rfl, hb1⟩
        rw [hne]
        clear hne
        go_wp2_with fail
        go_roundw
        case rel => exact ⟨i + 1, by omega, by go_num, HNN, belowStep hb1 hB⟩
        case measure => simp [intOf]; omega
    · go_wp2_with fail
      go_ret
      exact ⟨-1, rfl, by rw [sameK_none HN.out (by omega)]; rfl, hB⟩
set_option maxHeartbeats 1000000 in
theorem containsSame (A : Option Addr) (c : Nat) (es : List Ent) (k : Int) (g : Nat) (n : Nat) (hn : es.length = n) (w : World) (hx : EntsAt w A es) (hl : n ≤ 1048576) (hcm : w.cell? ⟨g, 0, none⟩ = some (.int .i64 k)) :
    Calls Try.prog 42 #[.slice A n c, .func (.func 72) #[] #[.pointer (some ⟨g, 0, none⟩)]] w fun e w' => e = .returned (.bool (sameK k es)) ∧ Below w.heap.size w w' := by
  go_enter Try.func42, Try.ntmps42
  go_wp2_with fail
  refine (indexSame A c es k g n hn _ hx hl hcm).mono ?_
  rintro e w1 ⟨i, rfl, hi, hb1⟩
  have HI := Lib.hid hi
  clear hi
  go_wp2_with fail
  go_ret
  exact ⟨ret_bool (by rw [← HI.out]), hb1⟩
set_option maxRecDepth 3000 in
set_option maxHeartbeats 1000000 in
theorem implAve (A : Option Addr) (c : Nat) (es : List Ent) (w : World) (hx : EntsAt w A es) (hl : es.length ≤ 1048576) (hlc : es.length ≤ c) (hs : Short es) :
    Calls Try.prog 41 #[.slice A es.length c] w fun e w' => e = .returned (.bool (entsOk es)) ∧ Below w.heap.size w w' := by
  have HS := Lib.hid hs
  clear hs
  go_enter Try.func41, Try.ntmps41
  go_wp2_with fail
  go_loopw [3, 4, 7] (fun _ _ j wr => ∃ i : Nat, i ≤ es.length ∧ j = .int .i64 i ∧ Hid (goodTo es i = true) ∧ Below w.heap.size w wr) (fun _ _ j _ => es.length - (intOf j).toNat)
  case atStart => exact ⟨0, Nat.zero_le _, rfl, rfl, Below.refl _ _⟩
  case round =>
    obtain ⟨i, hi, rfl, HN, hB⟩ := hrel
    by_cases hlt : i < es.length
    · obtain ⟨b, off, e1, Ai, ci, ys, rfl, hb, hc0, hc1, hI, hcap, HX⟩ := (hx.below hB).at_ hlt
      have p0 : (0 : Int) ≤ (i : Int) := by omega
      have p1 : (i : Int) < (es.length : Int) := by omega
      have p2 : (i : Int) ≤ (c : Int) := by omega
      have hyl : ys.length ≤ 1048576 := by have := HS.out i hlt; rw [HX.out] at this; exact this
      have hB0 : Below wr.heap.size wr (wr.alloc (.cells #[.int .i64 e1, .slice Ai ys.length ci] 32)) := (by repeat (first | exact Below.refl _ _ | assumption | refine Below.setCell ?_ (by first | omega | (simp <;> omega)) _ | refine Below.alloc ?_ (by first | omega | (simp <;> omega)) _ | refine Below.drew ?_))
      have hI0 := hI.below hB0
      have hlen : (es.take i).length = i := by rw [List.length_take]; omega
      have HLEN := Lib.hid hlen
      have hBz := hB.size
      clear hlen
      cases hok : entOk e1 ys
      · have HBAD := Lib.hid (entsOk_bad hlt HX.out (.inl hok))
        go_wp2_with fail
        refine (implEntOk e1 Ai ci ys _ (by exact hI0) hyl).mono ?_
        rintro e w1 ⟨rfl, hb1⟩
        rw [hok]
        clear hok
        go_wp2_with fail
        go_ret
        exact ⟨ret_bool (by rw [entsOk, HBAD.out, Bool.and_false]), belowStep hb1 (hB.alloc hB.size _)⟩
      · have hgk : (wr.alloc (.cells #[.int .i64 e1, .slice Ai ys.length ci] 32)).cell? ⟨wr.heap.size, 0, none⟩ = some (.int .i64 e1) := by simp
        have hxw := hx.below hB
        go_wp2_with fail
        refine (implEntOk e1 Ai ci ys _ (by exact hI0) hyl).mono ?_
        rintro e w1 ⟨rfl, hb1⟩
        rw [hok]
        have hgk1 := (hb1.cell (p := ⟨wr.heap.size, 0, none⟩) (by simp)).trans hgk
        have hx1 := ((hxw.below hB0).below hb1).take i
        have hB1 := belowStep hb1 (hB.alloc hB.size _)
        clear hgk hI0 hb1 hxw
        cases hsk : sameK e1 (es.take i)
        · have HNN : Hid (goodTo es (i + 1) = true) := by unfold Hid; rw [goodTo_step HX.out, HN.out, hok, hsk]; rfl
          clear hok
          go_wp2_with fail
          refine (containsSame _ _ (es.take i) e1 _ i HLEN.out _ hx1 (by omega) hgk1).mono ?_
          rintro e w2 ⟨rfl, hb2⟩
          rw [hsk]
          clear hsk
          go_wp2_with fail
          go_roundw
          case rel => exact ⟨i + 1, by omega, by go_num, HNN, belowStep hb2 hB1⟩
          case measure => simp [intOf]; omega
        · have HBAD := Lib.hid (entsOk_bad hlt HX.out (.inr hsk))
          clear hok
          go_wp2_with fail
          refine (containsSame _ _ (es.take i) e1 _ i HLEN.out _ hx1 (by omega) hgk1).mono ?_
          rintro e w2 ⟨rfl, hb2⟩
          rw [hsk]
          clear hsk
          go_wp2_with fail
          go_ret
          exact ⟨ret_bool (by rw [entsOk, HBAD.out, Bool.and_false]), belowStep hb2 hB1⟩
    · obtain rfl : i = es.length := by omega
      go_wp2_with fail
      go_ret
      exact ⟨ret_bool (by rw [entsOk, HN.out, Bool.and_true]; exact decide_eq_decide.2 (by omega)), hB⟩
set_option maxRecDepth 3000 in
set_option maxHeartbeats 1000000 in
theorem specAve (A : Option Addr) (c : Nat) (es : List Ent) (w : World) (hx : EntsAt w A es) (hl : es.length ≤ 1048576) (hs : Short es) :
    Calls Try.prog 25 #[.slice A es.length c] w fun e w' => e = .returned (.bool (entsOk es)) ∧ Below w.heap.size w w' := by
  have HS := Lib.hid hs
  clear hs
  by_cases h12 : es.length ≤ 12
  · have h1 : ¬ (12 : Int) < (es.length : Int) := by omega
    go_enter Try.func25, Try.ntmps25
    go_wp2_with fail
    go_loopw [3, 4] (fun j _ wr => ∃ i : Nat, i ≤ es.length ∧ j = .int .i64 i ∧ Hid (goodTo es i = true) ∧ Below w.heap.size w wr) (fun j _ _ => es.length - (intOf j).toNat)
    case atStart => exact ⟨0, Nat.zero_le _, rfl, rfl, Below.refl _ _⟩
    case round =>
      obtain ⟨i, hi, rfl, HN, hB⟩ := hrel
      by_cases hlt : i < es.length
      · obtain ⟨b, off, e1, Ai, ci, ys, rfl, hb, hc0, hc1, hI, hcap, HX⟩ := (hx.below hB).at_ hlt
        have p0 : (0 : Int) ≤ (i : Int) := by omega
        have p1 : (i : Int) < (es.length : Int) := by omega
        have hyl : ys.length ≤ 1048576 := by have := HS.out i hlt; rw [HX.out] at this; exact this
        cases hok : entOk e1 ys
        · have HBAD := Lib.hid (entsOk_bad hlt HX.out (.inl hok))
          go_wp2_with fail
          refine (specEntOk e1 Ai ci ys _ (by exact hI) hyl).mono ?_
          rintro e w1 ⟨rfl, hb1⟩
          rw [hok]
          clear hok
          go_wp2_with fail
          go_ret
          exact ⟨ret_bool (by rw [entsOk, HBAD.out, Bool.and_false]), belowStep hb1 hB⟩
        · go_wp2_with fail
          refine (specEntOk e1 Ai ci ys _ (by exact hI) hyl).mono ?_
          rintro e w1 ⟨rfl, hb1⟩
          rw [hok]
          have HOK := Lib.hid hok
          clear hok
          have hB1 := belowStep hb1 hB
          have hx1 := (hx.below hB).below hb1
          have hci : w1.cell? ⟨b, off + i * 2, none⟩ = some (.int .i64 e1) := (hb1.cell (p := ⟨b, off + i * 2, none⟩) hb).trans hc0
          clear hc0 hc1 hI hb1
          go_wp2_with fail
          go_loopw [4] (fun j wr2 => ∃ m n : Nat, m ≤ i ∧ j = .int .i64 m ∧ Hid (NoneK e1 es m) ∧ wr2 = w1.drewN n) (fun j _ => i - (intOf j).toNat)
          case atStart => exact ⟨0, 0, Nat.zero_le _, rfl, NoneK.zero _ _, rfl⟩
          case round =>
            obtain ⟨m, n, hmi, rfl, HM, rfl⟩ := hrel
            by_cases hlm : m < i
            · obtain ⟨b2, off2, e2, Ai2, ci2, ys2, e', hb2, hc20, hc21, hI2, hcap2, HX2⟩ := hx1.at_ (show m < es.length by omega)
              injection e' with e'
              injection e' with ee1 ee2
              subst ee1 ee2
              have r0 : (0 : Int) ≤ (m : Int) := by omega
              have r1 : (m : Int) < (i : Int) := by omega
              have r2 : (m : Int) < (es.length : Int) := by omega
              clear hc21
              by_cases he : e2 = e1
              · subst he
                have HBAD := Lib.hid (entsOk_bad hlt HX.out (.inr (sameK_at hlm (by omega) HX2.out)))
                go_wp2_with fail
                go_quiet (fail)
                go_wp2_with fail
                go_ret
                exact ⟨ret_bool (by rw [entsOk, HBAD.out, Bool.and_false]), belowDrewN (belowDrewN hB1 _) _⟩
              · have hne : (e2 == e1) = false := by simpa using he
                have HMN : Hid (NoneK e1 es (m + 1)) := HM.out.more (by omega) HX2.out he
                clear he
                go_wp2_with fail
                go_quiet (fail)
                clear hne
                go_wp2_with fail
                go_roundw
                case rel => exact ⟨m + 1, n + nq, by omega, by go_num, HMN, rfl⟩
                case measure => simp [intOf]; omega
            · obtain rfl : m = i := by omega
              have HNN : Hid (goodTo es (m + 1) = true) := by unfold Hid; rw [goodTo_step HX.out, HN.out, HOK.out, show sameK e1 (es.take m) = false from HM.out]; rfl
              have hBn := belowDrewN hB1 n
              go_wp2_with fail
              go_roundw
              case rel => exact ⟨m + 1, by omega, by go_num, HNN, hBn⟩
              case measure => simp [intOf]; omega
      · obtain rfl : i = es.length := by omega
        go_wp2_with fail
        go_ret
        exact ⟨ret_bool (by rw [entsOk, HN.out]; simp [h12]), hB⟩
  · have h1 : (12 : Int) < (es.length : Int) := by omega
    go_enter Try.func25, Try.ntmps25
    go_wp2_with fail
    go_ret
    exact ⟨ret_bool (by simp [entsOk, h12]), Below.refl _ _⟩
end Go.Proofs.Ytejacbgogcjbnaa
