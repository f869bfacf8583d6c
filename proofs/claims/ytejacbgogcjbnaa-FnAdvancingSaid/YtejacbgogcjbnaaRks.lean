/- Ranks of entries, at both packages. Conditions: as each contract says. -/
import Derived.Test.YtejacbgogcjbnaaAve
import Derived.Test.YtejacbgogcjbnaaRk
namespace Go.Proofs.Ytejacbgogcjbnaa
open Go.RowKit

def RanksPost (b : Bool) (l : List Int) (w : World) (e : Ending) (w' : World) : Prop := ∃ v, e = .returned v ∧ Fresh w.heap.size w' v l ∧ (b = false → v = .slice none 0 0) ∧ Below w.heap.size w w'
def IntsPost (l : List Int) (w : World) (e : Ending) (w' : World) : Prop := ∃ v, e = .returned v ∧ Fresh w.heap.size w' v l ∧ Below w.heap.size w w'
theorem entLess_less {k1 k2 : Int} {xs ys : List Int} (h1 : entOk k1 xs = true) (h2 : entOk k2 ys = true) (hl : xs.length = ys.length) : entLess k1 xs k2 ys = lessEE (k1, xs) (k2, ys) := by
  simp [entLess, lessEE, h1, h2, hl]
theorem cell_at0 {w : World} {b off : Nat} {v : Value} (h : w.cell? ⟨b, off + 0 * 2 + 1, none⟩ = some v) : w.cell? ⟨b, off + 1, none⟩ = some v := by simpa using h
set_option maxHeartbeats 1000000 in
theorem specComparable (A : Option Addr) (c : Nat) (es : List Ent) (w : World) (hx : EntsAt w A es) (hl : es.length ≤ 1048576) (hs : Short es) :
    Calls Try.prog 45 #[.slice A es.length c] w fun e w' => e = .returned (.bool (comparable es)) ∧ Below w.heap.size w w' := by
  cases hok : entsOk es
  · go_enter Try.func45, Try.ntmps45
    go_wp2_with fail
    refine (specAve A c es _ hx hl hs).mono ?_
    rintro e w1 ⟨rfl, hb1⟩
    rw [hok]
    go_wp2_with fail
    go_ret
    exact ⟨ret_bool (by rw [comparable, hok]; rfl), hb1⟩
  · go_enter Try.func45, Try.ntmps45
    go_wp2_with fail
    refine (specAve A c es _ hx hl hs).mono ?_
    rintro e w1 ⟨rfl, hb1⟩
    rw [hok]
    have HOK := Lib.hid hok
    have hx1 := hx.below hb1
    clear hok hs
    go_wp2_with fail
    go_loopw [3] (fun j wr => ∃ i n : Nat, i ≤ es.length ∧ j = .int .i64 i ∧ Hid (SameTo es i) ∧ wr = w1.drewN n) (fun j _ => es.length - (intOf j).toNat)
    case atStart => exact ⟨0, 0, Nat.zero_le _, rfl, fun i hi => by omega, rfl⟩
    case round =>
      obtain ⟨i, n, hi, rfl, HS, rfl⟩ := hrel
      by_cases hlt : i < es.length
      · obtain ⟨b, off, e1, Ai, ci, ys, rfl, hb, hc0, hc1, hI, hcap, HX⟩ := hx1.at_ hlt
        obtain ⟨b', off', e0, A0, c0, zs, e', hb', hd0, hd1, hI', hcap', HZ⟩ := hx1.at_ (show 0 < es.length by omega)
        injection e' with e'
        injection e' with ee1 ee2
        subst ee1 ee2
        have hd2 := cell_at0 hd1
        have p0 : (0 : Int) ≤ (i : Int) := by omega
        have p1 : (i : Int) < (es.length : Int) := by omega
        have p2 : (0 : Int) < (es.length : Int) := by omega
        have p3 : 0 < es.length := by omega
        clear hc0 hd0 hd1
        by_cases he : ys.length = zs.length
        · have hne : ((ys.length : Int) != (zs.length : Int)) = false := by simp [he]
          have HSN : Hid (SameTo es (i + 1)) := HS.out.more (by rw [HX.out, HZ.out]; exact he)
          clear he
          go_wp2_with fail
          go_quiet (fail)
          clear hne
          go_wp2_with fail
          go_roundw
          case rel => exact ⟨i + 1, n + nq, by omega, by go_num, HSN, rfl⟩
          case measure => simp [intOf]; omega
        · have hne : ((ys.length : Int) != (zs.length : Int)) = true := by simp; omega
          have HNO : Hid (sameLen es = false) := sameLen_no hlt (by rw [HX.out, HZ.out]; exact he)
          clear he
          go_wp2_with fail
          go_quiet (fail)
          clear hne
          go_wp2_with fail
          go_ret
          exact ⟨ret_bool (by rw [comparable, HNO.out, Bool.and_false]), belowDrewN (belowDrewN hb1 _) _⟩
      · obtain rfl : i = es.length := by omega
        go_wp2_with fail
        go_ret
        exact ⟨ret_bool (by rw [comparable, HOK.out, HS.out.all]; rfl), belowDrewN hb1 _⟩
set_option maxRecDepth 3000 in
set_option maxHeartbeats 2000000 in
theorem specL26Ranks (A : Option Addr) (c : Nat) (es : List Ent) (w : World) (hx : EntsAt w A es) (hcp : comparable es = true) :
    Calls Try.prog 46 #[.slice A es.length c] w (IntsPost (ranksBy lessEE es) w) := by
  have hcp2 := hcp
  rw [comparable, Bool.and_eq_true] at hcp2
  have hl12 := (entsOk_parts hcp2.1).1
  have HOK := Lib.hid (entsOk_parts hcp2.1).2
  have HSL := Lib.hid hcp2.2
  clear hcp hcp2
  have hE : Fresh w.heap.size (w.alloc (.cells #[] 2)) (.slice (some ⟨w.heap.size, 0, none⟩) 0 0) [] := Fresh.empty (Nat.le_refl _)
  have hB0 : Below w.heap.size w (w.alloc (.cells #[] 2)) := (by repeat (first | exact Below.refl _ _ | assumption | refine Below.setCell ?_ (by first | omega | (simp <;> omega)) _ | refine Below.alloc ?_ (by first | omega | (simp <;> omega)) _ | refine Below.drew ?_))
  go_enter Try.func46, Try.ntmps46
  go_wp2_with fail
  go_loopw [3, 4] (fun v j wr => ∃ (i : Nat) (l : List Int), i ≤ es.length ∧ j = .int .i64 i ∧ Fresh w.heap.size wr v l ∧ Hid (ranksTo lessEE es i = l) ∧ Below w.heap.size w wr) (fun _ j _ => es.length - (intOf j).toNat)
  case atStart => exact ⟨0, [], Nat.zero_le _, rfl, hE, rfl, hB0⟩
  case round =>
    obtain ⟨i, l, hi, rfl, hF, HL, hB⟩ := hrel
    clear hE hB0
    by_cases hlt : i < es.length
    · obtain ⟨b, off, e1, Ai, ci, ys, rfl, hb, hc0, hc1, hI, hcap, HX⟩ := (hx.below hB).at_ hlt
      have p0 : (0 : Int) ≤ (i : Int) := by omega
      have p1 : (i : Int) < (es.length : Int) := by omega
      have hxw := hx.below hB
      have HV := Lib.hid (entOk_parts (show entOk e1 ys = true by have := HOK.out i hlt; rw [HX.out] at this; exact this))
      have HYL : Hid (ys.length = (es.getD 0 (0, [])).2.length) := by have := sameLen_at HSL.out hlt; rw [HX.out] at this; exact this
      have hll : l.length ≤ 1048576 := by rw [← HL.out, ranksTo_len]; omega
      obtain ⟨wo, rfl⟩ : ∃ wo : World, wo = wr := ⟨_, rfl⟩
      go_wp2_with fail
      go_loopw [5, 6] (fun q j wr => ∃ (k : Nat) (x : Int), k ≤ es.length ∧ j = .int .i64 k ∧ q = .int .i64 x ∧ 1 ≤ x ∧ x ≤ 1 + (k : Int) ∧ Hid (countTo lessEE es (e1, ys) k = x) ∧ Below wo.heap.size wo wr) (fun _ j _ => es.length - (intOf j).toNat)
      case atStart => exact ⟨0, 1, Nat.zero_le _, rfl, rfl, by omega, by omega, rfl, Below.refl _ _⟩
      case round =>
        obtain ⟨k, x, hk, rfl, rfl, x0, x1, HC, hb2⟩ := hrel
        by_cases hlk : k < es.length
        · obtain ⟨b', off', e2, Ak, ck, zs, e', hb', hd0, hd1, hIk, hcapk, HZ⟩ := (hxw.below hb2).at_ hlk
          injection e' with e'
          injection e' with ee1 ee2
          subst ee1 ee2
          have q0 : (0 : Int) ≤ (k : Int) := by omega
          have q1 : (k : Int) < (es.length : Int) := by omega
          have g0 : wr.cell? ⟨b, off + i * 2, none⟩ = some (.int .i64 e1) := (hb2.cell (p := ⟨b, off + i * 2, none⟩) hb).trans hc0
          have g1 : wr.cell? ⟨b, off + i * 2 + 1, none⟩ = some (.slice Ai ys.length ci) := (hb2.cell (p := ⟨b, off + i * 2 + 1, none⟩) hb).trans hc1
          have hIy := hI.below hb2
          have HVZ := Lib.hid (entOk_parts (show entOk e2 zs = true by have := HOK.out k hlk; rw [HZ.out] at this; exact this))
          have HZL : Hid (zs.length = ys.length) := by have := sameLen_at HSL.out hlk; rw [HZ.out] at this; exact this.trans HYL.out.symm
          have hyn : ys.length ≤ 5 := HV.out.1
          cases hs : lessE zs ys
          all_goals
            have HS := Lib.hid hs
            clear hs
            go_wp2_with fail
            go_region_held3 (fun w' => w'.cell? ⟨b, off + i * 2, none⟩ = some (.int .i64 e1) ∧ w'.cell? ⟨b, off + i * 2 + 1, none⟩ = some (.slice Ai ys.length ci) ∧ w'.cell? ⟨b, off + k * 2, none⟩ = some (.int .i64 e2) ∧ w'.cell? ⟨b, off + k * 2 + 1, none⟩ = some (.slice Ak zs.length ck))
              (first | go_keep | exact ⟨(hb3.cell (p := ⟨b, off + i * 2, none⟩) hb').trans g0, (hb3.cell (p := ⟨b, off + i * 2 + 1, none⟩) hb').trans g1, (hb3.cell (p := ⟨b, off + k * 2, none⟩) hb').trans hd0, (hb3.cell (p := ⟨b, off + k * 2 + 1, none⟩) hb').trans hd1⟩)
              (first | (go_at_call 74; rw [HZL.out]; refine (specL26Less _ _ _ _ _ _ _ _ _ _ (by exact hIk) (by exact hIy) HZL.out rfl hyn HVZ.out.2 HV.out.2).mono ?_; rintro e w3 ⟨rfl, hb3⟩; rw [HS.out]))
            have hb4 := belowStep hb3 hb2.drew
            go_wp2_with fail
            go_roundw
            case rel => exact ⟨k + 1, _, by omega, by go_num, rfl, by omega, by omega, by first | exact countTo_no HZ.out HC.out HS.out | exact countTo_yes HZ.out HC.out HS.out, hb4⟩
            case measure => simp [intOf]; omega
        · obtain rfl : k = es.length := by omega
          have HLN : Hid (ranksTo lessEE es (i + 1) = l ++ [x]) := ranksTo_more HX.out HL.out HC.out
          have hF2 := hF.below hb2
          have hB2 := belowStep hb2 hB
          have hBz := hB2.size
          clear hF
          go_wp2_with (first | (at_builtin; refine append_one rfl (.tmp 31) (.tmp 33) rfl w.heap.size _ l x rfl (hF2.below (by repeat (first | exact Below.refl _ _ | assumption | refine Below.setCell ?_ (by first | omega | (simp <;> omega)) _ | refine Below.alloc ?_ (by first | omega | (simp <;> omega)) _ | refine Below.drew ?_))) wr.heap.size rfl (by simp) hll (by simp; omega) ?_; intro v4 w4 hF4 hg4 hb4))
          go_roundw
          case rel => exact ⟨i + 1, _, by omega, by go_num, hF4, HLN, (hB2.alloc hB2.size _).trans hb4⟩
          case measure => simp [intOf]; omega
    · obtain rfl : i = es.length := by omega
      go_wp2_with fail
      go_ret
      exact ⟨_, rfl, by rw [ranksBy, HL.out]; exact hF, hB⟩
set_option maxHeartbeats 1000000 in
theorem specRanks (A : Option Addr) (c : Nat) (es : List Ent) (w : World) (hx : EntsAt w A es) (hl : es.length ≤ 1048576) (hs : Short es) :
    Calls Try.prog 18 #[.slice A es.length c] w (IntsPost (ranksRes es) w) := by
  cases hcp : comparable es
  · go_enter Try.func18, Try.ntmps18
    go_wp2_with fail
    refine (specComparable A c es _ hx hl hs).mono ?_
    rintro e w1 ⟨rfl, hb1⟩
    rw [hcp]
    have HCP := Lib.hid hcp
    clear hcp hs
    have hE : Fresh w.heap.size (w1.alloc (.cells #[] 2)) (.slice (some ⟨w1.heap.size, 0, none⟩) 0 0) [] := Fresh.empty hb1.size
    go_wp2_with fail
    go_ret
    exact ⟨_, rfl, by rw [ranksRes, HCP.out]; exact hE, hb1.alloc hb1.size _⟩
  · go_enter Try.func18, Try.ntmps18
    go_wp2_with fail
    refine (specComparable A c es _ hx hl hs).mono ?_
    rintro e w1 ⟨rfl, hb1⟩
    rw [hcp]
    have HCP := Lib.hid hcp
    clear hcp hs
    have hx1 := hx.below hb1
    go_wp2_with fail
    refine (specL26Ranks A c es _ hx1 HCP.out).mono ?_
    rintro e w2 ⟨v2, rfl, hF2, hb2⟩
    go_wp2_with fail
    go_ret
    exact ⟨v2, rfl, by rw [ranksRes, HCP.out, if_pos rfl]; exact hF2.mono hb1.size, belowStep hb2 hb1⟩
end Go.Proofs.Ytejacbgogcjbnaa
