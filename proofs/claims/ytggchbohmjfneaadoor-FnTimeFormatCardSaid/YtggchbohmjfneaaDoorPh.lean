/- A time read from its display form, at the program: the walk. Conditions: the string is no longer than the law allows. -/
import Derived.Test.YtggchbohmjfneaaDoorPg
namespace Go.Proofs.YtggchbohmjfneaaDoor
open Go.RowKit

set_option maxRecDepth 100000 in
set_option maxHeartbeats 2000000 in
theorem implParse (s : ByteArray) (w : World) (hs : s.size ≤ 1048576) : Calls Tryd.prog 6 #[.string s] w (Parsed (implAns s) (implOk s) w) := by
  have ed : (⟨#[68, 78, 70]⟩ : ByteArray).toList = [68, 78, 70] := by decide +kernel
  by_cases h1 : s = dnf
  · have t1 : (s.toList == [68, 78, 70]) = true := by rw [← ed, str_eqT]; exact decide_eq_true h1
    have HOK : Hid (implOk s = true) := by unfold Hid implOk; rw [if_pos h1]
    have HA : Hid (implAns s = -1) := by unfold Hid implAns; rw [if_pos h1]
    clear ed h1
    go_enter Tryd.func6, Tryd.ntmps6
    go_wp2_with fail
    go_ret2
    exact ⟨ret_ib HA.out.symm HOK.out.symm, Below.refl _ _⟩
  have t1 : (s.toList == [68, 78, 70]) = false := by rw [← ed, str_eqT]; exact decide_eq_false h1
  by_cases h8 : 8 < s.size
  · have f8 : (8 : Int) < (s.size : Int) := by omega
    have HOK : Hid (implOk s = false) := by unfold Hid implOk; rw [if_neg h1, if_pos h8]
    have HA : Hid (implAns s = 0) := by unfold Hid implAns; rw [if_neg h1, HOK.out]; rfl
    clear ed h1
    go_enter Tryd.func6, Tryd.ntmps6
    go_wp2_with fail
    go_ret2
    exact ⟨ret_ib HA.out.symm HOK.out.symm, Below.refl _ _⟩
  have f8 : ¬ (8 : Int) < (s.size : Int) := by omega
  have HOK : Hid (implOk s = (allDig (flatF s) && (inR (comb (nOf (flatF s))) 0 360000 && decide (fmtS (comb (nOf (flatF s))) = s)))) := by unfold Hid implOk; rw [if_neg h1, if_neg h8]
  have HA : Hid (implAns s = if implOk s = true then comb (nOf (flatF s)) else 0) := by unfold Hid implAns; rw [if_neg h1]
  have hfl := flatF_len s
  have HFI := Lib.hid (fun wx => fieldsOf s wx hs)
  obtain ⟨FL, hFL⟩ : ∃ FL, Lib.goFieldsP sepP s = FL := ⟨_, rfl⟩
  unfold flatF at HOK HA hfl
  rw [hFL] at HOK HA hfl HFI
  have hL8 : (flatL FL).length ≤ 8 := by omega
  clear hFL hfl ed h1
  go_enter Tryd.func6, Tryd.ntmps6
  go_wp2_with fail
  refine (HFI.out _).mono ?_
  rintro e w1 ⟨A, rfl, -, hcell, hfs, hb1⟩
  have HCELL := Lib.hid hcell
  clear hcell HFI
  go_wp2_with fail
  go_loop [4, 16] (fun n i => ∃ (k : Nat) (x : Int), k ≤ FL.length ∧ i = .int .i64 k ∧ n = .int .i64 x ∧ Hid (nOf (flatL (FL.take k)) = x) ∧ Hid (allDig (flatL (FL.take k)) = true)) (fun _ i => FL.length - (intOf i).toNat)
  case atStart => exact ⟨0, 0, Nat.zero_le _, rfl, rfl, rfl, rfl⟩
  case round =>
    obtain ⟨k, x, hk, rfl, rfl, HX, HD⟩ := hrel
    by_cases hlt : k < FL.length
    · have hc := HCELL.out k hlt
      obtain ⟨b, hb⟩ : ∃ b, FL.getD k ⟨#[]⟩ = b := ⟨_, rfl⟩
      have hbg : FL[k] = b := by rw [← hb, List.getD_eq_getElem?_getD, List.getElem?_eq_getElem hlt]; rfl
      rw [hb] at hc
      have hpre := flat_pre FL k hlt
      rw [hbg] at hpre
      have hmore := flatL_more FL k hlt
      rw [hbg] at hmore
      obtain ⟨P, hP⟩ : ∃ P, flatL (FL.take k) = P := ⟨_, rfl⟩
      rw [hP] at hpre hmore HX HD
      have hPl : P.length + b.size ≤ 8 := by
        have : (flatL FL).length = P.length + b.size + (flatL (FL.drop (k + 1))).length := by rw [hpre]; simp; omega
        omega
      have HPRE := Lib.hid hpre
      have HMORE := Lib.hid hmore
      have k0 : (0 : Int) ≤ (k : Int) := by omega
      have k1 : (k : Int) < (FL.length : Int) := by omega
      have hbl : b.size ≤ 9223372036854775807 := by omega
      clear hb hbg hpre hmore hP
      go_wp2_with fail
      go_loop [4, 22] (fun n i => ∃ (j : Nat) (y : Int), j ≤ b.size ∧ i = .int .i64 j ∧ n = .int .i64 y ∧ Hid (nOf (P ++ b.data.toList.take j) = y) ∧ Hid (allDig (P ++ b.data.toList.take j) = true)) (fun _ i => b.size - (intOf i).toNat)
      case atStart => exact ⟨0, x, Nat.zero_le _, rfl, rfl, by simpa using HX, by simpa using HD⟩
      case round =>
        obtain ⟨j, y, hj, rfl, rfl, HY, HE⟩ := hrel
        have hbd := nOf_bd HE.out (by rw [List.length_append]; have := List.length_take_le j b.data.toList; omega)
        rw [HY.out] at hbd
        obtain ⟨y0, y1⟩ := hbd
        by_cases hjl : j < b.size
        · have j0 : (0 : Int) ≤ (j : Int) := by omega
          have j1 : (j : Int) < (b.size : Int) := by omega
          have hsn := take_snocT b j hjl
          have HN : Hid (nOf (P ++ b.data.toList.take (j + 1)) = nStep y b[j]) := by unfold Hid; rw [hsn, ← List.append_assoc, nOf_snoc, HY.out]
          have HM : Hid (allDig (P ++ b.data.toList.take (j + 1)) = digB b[j]) := by unfold Hid; rw [hsn, ← List.append_assoc, allDig_snoc, HE.out]; rfl
          have hmem : b.data.toList = b.data.toList.take (j + 1) ++ b.data.toList.drop (j + 1) := (List.take_append_drop _ _).symm
          have HBAD : Hid (digB b[j] = false → allDig (flatL FL) = false) := fun h => by
            rw [HPRE.out, hmem, ← List.append_assoc, allDig_app, allDig_app, HM.out, h]
            rfl
          obtain ⟨z, hz⟩ : ∃ z, b[j].toNat = z := ⟨_, rfl⟩
          have z0 : (0 : Int) ≤ (z : Int) := by omega
          have z1 : (z : Int) ≤ 255 := by have := b[j].toNat_lt; omega
          unfold nStep at HN
          unfold digB at HM HBAD
          rw [hz] at HN HM HBAD
          have HW := Lib.hid (fun wx => within_any (z : Int) 48 57 wx)
          have hin : inR (z : Int) 48 57 = (decide (48 ≤ z) && decide (z ≤ 57)) := by
            rw [Bool.eq_iff_iff, inR_iff, Bool.and_eq_true, decide_eq_true_iff, decide_eq_true_iff]
            omega
          rw [hin] at HW
          obtain ⟨dd, hdd⟩ : ∃ dd, (decide (48 ≤ z) && decide (z ≤ 57)) = dd := ⟨_, rfl⟩
          rw [hdd] at HW HM HBAD
          clear hin hsn hmem
          cases dd with
          | false =>
            have HOK2 : Hid (implOk s = false) := by unfold Hid; rw [HOK.out, HBAD.out rfl]; rfl
            have HA2 : Hid (implAns s = 0) := by unfold Hid; rw [HA.out, HOK2.out]; rfl
            clear hdd
            go_wp2_with fail
            refine (HW.out _).mono ?_
            rintro e w2 ⟨rfl, rfl⟩
            go_wp2_with fail
            go_ret2
            exact ⟨ret_ib HA2.out.symm HOK2.out.symm, hb1⟩
          | true =>
            rw [Bool.and_eq_true, decide_eq_true_iff, decide_eq_true_iff] at hdd
            have d0 : (48 : Int) ≤ (z : Int) := by omega
            have d1 : (z : Int) ≤ 57 := by omega
            clear hdd
            go_wp2_with fail
            refine (HW.out _).mono ?_
            rintro e w2 ⟨rfl, rfl⟩
            go_wp2_with fail
            go_round
            case rel => exact ⟨j + 1, _, by omega, by go_num, rfl, HN, HM⟩
            case measure => simp [intOf]; omega
        · obtain rfl : j = b.size := by omega
          have hfull : b.data.toList.take b.size = b.data.toList := List.take_of_length_le (by simp)
          have HX2 : Hid (nOf (flatL (FL.take (k + 1))) = y) := by unfold Hid; rw [HMORE.out, ← hfull]; exact HY.out
          have HD2 : Hid (allDig (flatL (FL.take (k + 1))) = true) := by unfold Hid; rw [HMORE.out, ← hfull]; exact HE.out
          clear hfull
          go_wp2_with fail
          go_round
          case rel => exact ⟨k + 1, y, by omega, by go_num, rfl, HX2, HD2⟩
          case measure => simp [intOf]; omega
    · obtain rfl : k = FL.length := by omega
      have hall : FL.take FL.length = FL := List.take_of_length_le (Nat.le_refl _)
      rw [hall] at HX HD
      have hbd := nOf_bd HD.out hL8
      rw [HX.out] at hbd
      obtain ⟨x0, x1⟩ := hbd
      rw [HX.out, HD.out] at HOK
      rw [HX.out] at HA
      have HT := Lib.hid (fun wx => isTime_any (comb x) wx)
      have HF := Lib.hid (fun wx => implFmt (comb x) wx)
      have hcx : x / 10000 * 6000 + x % 10000 = comb x := rfl
      obtain ⟨y, hy⟩ : ∃ y, comb x = y := ⟨_, rfl⟩
      rw [hy] at hcx HT HF HOK HA
      obtain ⟨F, hF⟩ : ∃ F, fmtS y = F := ⟨_, rfl⟩
      rw [hF] at HF HOK
      cases hr : inR y 0 360000 with
      | false =>
        rw [hr] at HT HOK
        have HOK2 : Hid (implOk s = false) := by unfold Hid; rw [HOK.out]; rfl
        have HA2 : Hid (implAns s = 0) := by unfold Hid; rw [HA.out, HOK2.out]; rfl
        clear hr hF hall
        go_wp2_with fail
        refine (HT.out _).mono ?_
        rintro e w2 ⟨rfl, rfl⟩
        go_wp2_with fail
        go_ret2
        exact ⟨ret_ib HA2.out.symm HOK2.out.symm, hb1⟩
      | true =>
        rw [hr] at HT HOK
        by_cases h3 : F = s
        · have t4 : (!F.toList == s.toList) = false := by rw [str_eqT, decide_eq_true h3]; rfl
          have HOK2 : Hid (implOk s = true) := by unfold Hid; rw [HOK.out, decide_eq_true h3]; rfl
          have HA2 : Hid (implAns s = y) := by unfold Hid; rw [HA.out, HOK2.out]; rfl
          clear hr hF hall h3
          go_wp2_with fail
          refine (HT.out _).mono ?_
          rintro e w2 ⟨rfl, rfl⟩
          go_wp2_with fail
          refine (HF.out _).mono ?_
          rintro e w2 ⟨rfl, hb2⟩
          have hB2 := belowStep hb2 hb1
          go_wp2_with fail
          go_ret2
          exact ⟨ret_ib HA2.out.symm HOK2.out.symm, hB2⟩
        · have t4 : (!F.toList == s.toList) = true := by rw [str_eqT, decide_eq_false h3]; rfl
          have HOK2 : Hid (implOk s = false) := by unfold Hid; rw [HOK.out, decide_eq_false h3]; rfl
          have HA2 : Hid (implAns s = 0) := by unfold Hid; rw [HA.out, HOK2.out]; rfl
          clear hr hF hall h3
          go_wp2_with fail
          refine (HT.out _).mono ?_
          rintro e w2 ⟨rfl, rfl⟩
          go_wp2_with fail
          refine (HF.out _).mono ?_
          rintro e w2 ⟨rfl, hb2⟩
          have hB2 := belowStep hb2 hb1
          go_wp2_with fail
          go_ret2
          exact ⟨ret_ib HA2.out.symm HOK2.out.symm, hB2⟩
theorem implParseB (s : ByteArray) (w : World) (hs : s.size ≤ 1048576) : Calls Tryd.prog 6 #[.string s] w (Parsed (specAns s) (specOk s) w) := by
  have h := both s
  rw [← h.1, ← h.2]
  exact implParse s w hs
end Go.Proofs.YtggchbohmjfneaaDoor
