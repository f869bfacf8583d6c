/- The display form of a time, at both packages: two digits, and the whole form. Conditions: as each contract says. -/
import Derived.Test.YtggchbohmjfneaaDoorPc
namespace Go.Proofs.YtggchbohmjfneaaDoor
open Go.RowKit

theorem dec2_one {n : Nat} (h : n < 10) : dec2 n = [dg n] := if_pos h
theorem noOver {a b : ByteArray} {n : Nat} (ha : a.size ≤ n) (hb : b.size ≤ n) (hn : n ≤ 100000) : ¬ 9223372036854775807 < a.size + b.size := by omega
set_option maxHeartbeats 1000000 in
theorem implTwo (n : Nat) (h : n < 100) (w : World) : Calls Tryd.prog 19 #[.int .i64 n] w (Str (strL (two n)) w) := by
  obtain ⟨q, hq⟩ : ∃ q, n / 10 = q := ⟨_, rfl⟩
  obtain ⟨d, hd⟩ : ∃ d, n % 10 = d := ⟨_, rfl⟩
  have hqI : (n : Int) / 10 = (q : Int) := by omega
  have hdI : (n : Int) % 10 = (d : Int) := by omega
  have HS : Hid (strL (dec2 q) ++ strL (dec2 d) = strL (two n)) := by unfold Hid; rw [strL_add, dec2_one (by omega), dec2_one (by omega), two, hq, hd]; rfl
  have hz : ¬ 9223372036854775807 < (strL (dec2 q)).size + (strL (dec2 d)).size := noOver (n := 2) (by rw [strL_size]; exact dec2_len.2) (by rw [strL_size]; exact dec2_len.2) (by decide)
  have HQ : Hid (q < 100 ∧ d < 100) := by unfold Hid; omega
  have n0 : (0 : Int) ≤ (n : Int) := by omega
  have n1 : (n : Int) ≤ 99 := by omega
  clear hq hd
  go_enter Tryd.func19, Tryd.ntmps19
  go_wp2_with fail
  refine (implDec q HQ.out.1 _).mono ?_
  rintro e w1 ⟨rfl, hb1⟩
  go_wp2_with fail
  refine (implDec d HQ.out.2 _).mono ?_
  rintro e w2 ⟨rfl, hb2⟩
  have hB2 := belowStep hb2 hb1
  go_wp2_with fail
  go_ret
  exact ⟨ret_str HS.out, hB2⟩
set_option maxHeartbeats 1000000 in
theorem specTwo (n : Nat) (h : n < 100) (w : World) : Calls Tryd.prog 26 #[.int .i64 n] w (Str (strL (two n)) w) := by
  obtain ⟨q, hq⟩ : ∃ q, n / 10 = q := ⟨_, rfl⟩
  obtain ⟨d, hd⟩ : ∃ d, n % 10 = d := ⟨_, rfl⟩
  have hqI : (n : Int) / 10 = (q : Int) := by omega
  have hdI : (n : Int) % 10 = (d : Int) := by omega
  have HS : Hid (strL (dec2 q) ++ strL (dec2 d) = strL (two n)) := by unfold Hid; rw [strL_add, dec2_one (by omega), dec2_one (by omega), two, hq, hd]; rfl
  have hz : ¬ 9223372036854775807 < (strL (dec2 q)).size + (strL (dec2 d)).size := noOver (n := 2) (by rw [strL_size]; exact dec2_len.2) (by rw [strL_size]; exact dec2_len.2) (by decide)
  have HQ : Hid (q < 100 ∧ d < 100) := by unfold Hid; omega
  have n0 : (0 : Int) ≤ (n : Int) := by omega
  have n1 : (n : Int) ≤ 99 := by omega
  clear hq hd
  go_enter Tryd.func26, Tryd.ntmps26
  go_wp2_with fail
  refine (specDec q HQ.out.1 _).mono ?_
  rintro e w1 ⟨rfl, hb1⟩
  go_wp2_with fail
  refine (specDec d HQ.out.2 _).mono ?_
  rintro e w2 ⟨rfl, hb2⟩
  have hB2 := belowStep hb2 hb1
  go_wp2_with fail
  go_ret
  exact ⟨ret_str HS.out, hB2⟩
theorem isTime_any (n : Int) (w : World) : Calls Tryd.prog 17 #[.int .i64 n] w fun e w' => e = .returned (.bool (inR n 0 360000)) ∧ w = w' := by
  go_enter Tryd.func17, Tryd.ntmps17
  go_wp2_with (first | (go_at_call 16; refine (within_any _ _ _ _).mono ?_; rintro e w' ⟨rfl, rfl⟩))
  go_ret
  exact ⟨rfl, rfl⟩
theorem l25In_any (n : Int) (w : World) : Calls Tryd.prog 24 #[.int .i64 n] w fun e w' => e = .returned (.bool (inR n 0 360000)) ∧ w = w' := by
  go_enter Tryd.func24, Tryd.ntmps24
  go_wp2_with (first | (go_at_call 31; refine (inRange_any _ _ _ _).mono ?_; rintro e w' ⟨rfl, rfl⟩))
  go_ret
  exact ⟨rfl, rfl⟩
theorem fmtS_no {n : Int} (h1 : n ≠ -1) (h : inR n 0 360000 = false) : fmtS n = ⟨#[]⟩ := by
  unfold fmtS fmtL
  rw [if_neg h1, if_pos h]
set_option maxRecDepth 100000 in
set_option maxHeartbeats 1000000 in
theorem implFmt (n : Int) (w : World) : Calls Tryd.prog 10 #[.int .i64 n] w (Str (fmtS n) w) := by
  by_cases h1 : n = -1
  · subst h1
    have HS : Hid ((⟨#[68, 78, 70]⟩ : ByteArray) = fmtS (-1)) := rfl
    go_enter Tryd.func10, Tryd.ntmps10
    go_wp2_with fail
    go_ret
    exact ⟨ret_str HS.out, Below.refl _ _⟩
  have h1' : (n == -1) = false := by simpa using h1
  cases hr : inR n 0 360000 with
  | false =>
    have HS := Lib.hid (fmtS_no h1 hr)
    have HC := Lib.hid (fun wx => isTime_any n wx)
    rw [hr] at HC
    clear hr
    go_enter Tryd.func10, Tryd.ntmps10
    go_wp2_with fail
    refine (HC.out _).mono ?_
    rintro e w1 ⟨rfl, rfl⟩
    go_wp2_with fail
    go_ret
    exact ⟨ret_str HS.out.symm, Below.refl _ _⟩
  | true =>
    have hb := inR_iff.1 hr
    have HC := Lib.hid (fun wx => isTime_any n wx)
    rw [hr] at HC
    obtain ⟨m, rfl⟩ := Int.eq_ofNat_of_zero_le hb.1
    have hm : m ≤ 360000 := by omega
    have m0 : (0 : Int) ≤ (m : Int) := by omega
    have m1 : (m : Int) ≤ 360000 := by omega
    obtain ⟨d, hd⟩ : ∃ d, m % 100 = d := ⟨_, rfl⟩
    have hdI : (m : Int) % 100 = (d : Int) := by omega
    have l46 : (⟨#[46]⟩ : ByteArray) = strL [46] := rfl
    have l58 : (⟨#[58]⟩ : ByteArray) = strL [58] := rfl
    clear hr hb
    by_cases h6 : m < 6000
    · obtain ⟨q, hq⟩ : ∃ q, m / 100 = q := ⟨_, rfl⟩
      have hqI : (m : Int) / 100 = (q : Int) := by omega
      have m6 : (m : Int) < 6000 := by omega
      have HS : Hid (strL (dec2 q) ++ ⟨#[46]⟩ ++ strL (two d) = fmtS (m : Int)) := by unfold Hid; rw [l46, strL_add, strL_add]; unfold fmtS; rw [fmtL_low m h6, hq, hd]; rfl
      have hs1 : (strL (dec2 q)).size ≤ 2 := by rw [strL_size]; exact dec2_len.2
      have hs2 : (strL (two d)).size = 2 := strL_size _
      have hz1 : ¬ 9223372036854775807 < (strL (dec2 q)).size + (⟨#[46]⟩ : ByteArray).size := noOver (n := 2) hs1 (by decide) (by decide)
      have hz2 : ¬ 9223372036854775807 < (strL (dec2 q) ++ ⟨#[46]⟩).size + (strL (two d)).size := noOver (n := 5) (by rw [ByteArray.size_append]; have : (⟨#[46]⟩ : ByteArray).size = 1 := rfl; omega) (by omega) (by decide)
      have hz3 : ¬ 9223372036854775807 < (strL (dec2 q)).size + 1 := by omega
      have hz4 : ¬ 9223372036854775807 < (strL (dec2 q)).size + 1 + (strL (two d)).size := by omega
      have HQ : Hid (q < 100 ∧ d < 100) := by unfold Hid; omega
      clear hq hd l46 l58 hs1 hs2
      go_enter Tryd.func10, Tryd.ntmps10
      go_wp2_with fail
      refine (HC.out _).mono ?_
      rintro e w1 ⟨rfl, rfl⟩
      go_wp2_with fail
      refine (implDec q HQ.out.1 _).mono ?_
      rintro e w1 ⟨rfl, hb1⟩
      go_wp2_with fail
      refine (implTwo d HQ.out.2 _).mono ?_
      rintro e w2 ⟨rfl, hb2⟩
      have hB2 := belowStep hb2 hb1
      go_wp2_with fail
      go_ret
      exact ⟨ret_str HS.out, hB2⟩
    · obtain ⟨q, hq⟩ : ∃ q, m / 6000 = q := ⟨_, rfl⟩
      obtain ⟨c, hc⟩ : ∃ c, m % 6000 / 100 = c := ⟨_, rfl⟩
      have hqI : (m : Int) / 6000 = (q : Int) := by omega
      have hcI : (m : Int) % 6000 / 100 = (c : Int) := by omega
      have m6 : ¬ (m : Int) < 6000 := by omega
      have HS : Hid (strL (dec2 q) ++ ⟨#[58]⟩ ++ strL (two c) ++ ⟨#[46]⟩ ++ strL (two d) = fmtS (m : Int)) := by unfold Hid; rw [l46, l58, strL_add, strL_add, strL_add, strL_add]; unfold fmtS; rw [fmtL_high m (by omega) hm, hq, hc, hd]; rfl
      have hs1 : (strL (dec2 q)).size ≤ 2 := by rw [strL_size]; exact dec2_len.2
      have hs2 : (strL (two d)).size = 2 := strL_size _
      have hs3 : (strL (two c)).size = 2 := strL_size _
      have e46 : (⟨#[46]⟩ : ByteArray).size = 1 := rfl
      have e58 : (⟨#[58]⟩ : ByteArray).size = 1 := rfl
      have hz1 : ¬ 9223372036854775807 < (strL (dec2 q)).size + (⟨#[58]⟩ : ByteArray).size := noOver (n := 2) hs1 (by omega) (by decide)
      have hz2 : ¬ 9223372036854775807 < (strL (dec2 q) ++ ⟨#[58]⟩).size + (strL (two c)).size := noOver (n := 5) (by rw [ByteArray.size_append]; omega) (by omega) (by decide)
      have hz3 : ¬ 9223372036854775807 < (strL (dec2 q) ++ ⟨#[58]⟩ ++ strL (two c)).size + (⟨#[46]⟩ : ByteArray).size := noOver (n := 9) (by rw [ByteArray.size_append, ByteArray.size_append]; omega) (by omega) (by decide)
      have hz4 : ¬ 9223372036854775807 < (strL (dec2 q) ++ ⟨#[58]⟩ ++ strL (two c) ++ ⟨#[46]⟩).size + (strL (two d)).size := noOver (n := 9) (by rw [ByteArray.size_append, ByteArray.size_append, ByteArray.size_append]; omega) (by omega) (by decide)
      have hy1 : ¬ 9223372036854775807 < (strL (dec2 q)).size + 1 := by omega
      have hy2 : ¬ 9223372036854775807 < (strL (dec2 q)).size + 1 + (strL (two c)).size := by omega
      have hy3 : ¬ 9223372036854775807 < (strL (dec2 q)).size + 1 + (strL (two c)).size + 1 := by omega
      have hy4 : ¬ 9223372036854775807 < (strL (dec2 q)).size + 1 + (strL (two c)).size + 1 + (strL (two d)).size := by omega
      have HQ : Hid (q < 100 ∧ d < 100 ∧ c < 100) := by unfold Hid; omega
      clear hq hd hc l46 l58 hs1 hs2 hs3 e46 e58
      go_enter Tryd.func10, Tryd.ntmps10
      go_wp2_with fail
      refine (HC.out _).mono ?_
      rintro e w1 ⟨rfl, rfl⟩
      go_wp2_with fail
      refine (implDec q HQ.out.1 _).mono ?_
      rintro e w1 ⟨rfl, hb1⟩
      go_wp2_with fail
      refine (implTwo c HQ.out.2.2 _).mono ?_
      rintro e w2 ⟨rfl, hb2⟩
      have hB2 := belowStep hb2 hb1
      go_wp2_with fail
      refine (implTwo d HQ.out.2.1 _).mono ?_
      rintro e w3 ⟨rfl, hb3⟩
      have hB3 := belowStep hb3 hB2
      go_wp2_with fail
      go_ret
      exact ⟨ret_str HS.out, hB3⟩
set_option maxRecDepth 100000 in
set_option maxHeartbeats 1000000 in
theorem specFmt (n : Int) (w : World) : Calls Tryd.prog 13 #[.int .i64 n] w (Str (fmtS n) w) := by
  by_cases h1 : n = -1
  · subst h1
    have HS : Hid ((⟨#[68, 78, 70]⟩ : ByteArray) = fmtS (-1)) := rfl
    go_enter Tryd.func13, Tryd.ntmps13
    go_wp2_with fail
    go_ret
    exact ⟨ret_str HS.out, Below.refl _ _⟩
  have h1' : (n == -1) = false := by simpa using h1
  cases hr : inR n 0 360000 with
  | false =>
    have HS := Lib.hid (fmtS_no h1 hr)
    have HC := Lib.hid (fun wx => l25In_any n wx)
    rw [hr] at HC
    clear hr
    go_enter Tryd.func13, Tryd.ntmps13
    go_wp2_with fail
    refine (HC.out _).mono ?_
    rintro e w1 ⟨rfl, rfl⟩
    go_wp2_with fail
    go_ret
    exact ⟨ret_str HS.out.symm, Below.refl _ _⟩
  | true =>
    have hb := inR_iff.1 hr
    have HC := Lib.hid (fun wx => l25In_any n wx)
    rw [hr] at HC
    obtain ⟨m, rfl⟩ := Int.eq_ofNat_of_zero_le hb.1
    have hm : m ≤ 360000 := by omega
    have m0 : (0 : Int) ≤ (m : Int) := by omega
    have m1 : (m : Int) ≤ 360000 := by omega
    obtain ⟨d, hd⟩ : ∃ d, m % 100 = d := ⟨_, rfl⟩
    have hdI : (m : Int) % 100 = (d : Int) := by omega
    have l46 : (⟨#[46]⟩ : ByteArray) = strL [46] := rfl
    have l58 : (⟨#[58]⟩ : ByteArray) = strL [58] := rfl
    clear hr hb
    by_cases h6 : m < 6000
    · obtain ⟨q, hq⟩ : ∃ q, m / 100 = q := ⟨_, rfl⟩
      have hqI : (m : Int) / 100 = (q : Int) := by omega
      have m6 : (m : Int) < 6000 := by omega
      have HS : Hid (strL (dec2 q) ++ ⟨#[46]⟩ ++ strL (two d) = fmtS (m : Int)) := by unfold Hid; rw [l46, strL_add, strL_add]; unfold fmtS; rw [fmtL_low m h6, hq, hd]; rfl
      have hs1 : (strL (dec2 q)).size ≤ 2 := by rw [strL_size]; exact dec2_len.2
      have hs2 : (strL (two d)).size = 2 := strL_size _
      have hz1 : ¬ 9223372036854775807 < (strL (dec2 q)).size + (⟨#[46]⟩ : ByteArray).size := noOver (n := 2) hs1 (by decide) (by decide)
      have hz2 : ¬ 9223372036854775807 < (strL (dec2 q) ++ ⟨#[46]⟩).size + (strL (two d)).size := noOver (n := 5) (by rw [ByteArray.size_append]; have : (⟨#[46]⟩ : ByteArray).size = 1 := rfl; omega) (by omega) (by decide)
      have hz3 : ¬ 9223372036854775807 < (strL (dec2 q)).size + 1 := by omega
      have hz4 : ¬ 9223372036854775807 < (strL (dec2 q)).size + 1 + (strL (two d)).size := by omega
      have HQ : Hid (q < 100 ∧ d < 100) := by unfold Hid; omega
      clear hq hd l46 l58 hs1 hs2
      go_enter Tryd.func13, Tryd.ntmps13
      go_wp2_with fail
      refine (HC.out _).mono ?_
      rintro e w1 ⟨rfl, rfl⟩
      go_wp2_with fail
      refine (specDec q HQ.out.1 _).mono ?_
      rintro e w1 ⟨rfl, hb1⟩
      go_wp2_with fail
      refine (specTwo d HQ.out.2 _).mono ?_
      rintro e w2 ⟨rfl, hb2⟩
      have hB2 := belowStep hb2 hb1
      go_wp2_with fail
      go_ret
      exact ⟨ret_str HS.out, hB2⟩
    · obtain ⟨q, hq⟩ : ∃ q, m / 6000 = q := ⟨_, rfl⟩
      obtain ⟨c, hc⟩ : ∃ c, m % 6000 / 100 = c := ⟨_, rfl⟩
      have hqI : (m : Int) / 6000 = (q : Int) := by omega
      have hcI : (m : Int) % 6000 / 100 = (c : Int) := by omega
      have m6 : ¬ (m : Int) < 6000 := by omega
      have HS : Hid (strL (dec2 q) ++ ⟨#[58]⟩ ++ strL (two c) ++ ⟨#[46]⟩ ++ strL (two d) = fmtS (m : Int)) := by unfold Hid; rw [l46, l58, strL_add, strL_add, strL_add, strL_add]; unfold fmtS; rw [fmtL_high m (by omega) hm, hq, hc, hd]; rfl
      have hs1 : (strL (dec2 q)).size ≤ 2 := by rw [strL_size]; exact dec2_len.2
      have hs2 : (strL (two d)).size = 2 := strL_size _
      have hs3 : (strL (two c)).size = 2 := strL_size _
      have e46 : (⟨#[46]⟩ : ByteArray).size = 1 := rfl
      have e58 : (⟨#[58]⟩ : ByteArray).size = 1 := rfl
      have hz1 : ¬ 9223372036854775807 < (strL (dec2 q)).size + (⟨#[58]⟩ : ByteArray).size := noOver (n := 2) hs1 (by omega) (by decide)
      have hz2 : ¬ 9223372036854775807 < (strL (dec2 q) ++ ⟨#[58]⟩).size + (strL (two c)).size := noOver (n := 5) (by rw [ByteArray.size_append]; omega) (by omega) (by decide)
      have hz3 : ¬ 9223372036854775807 < (strL (dec2 q) ++ ⟨#[58]⟩ ++ strL (two c)).size + (⟨#[46]⟩ : ByteArray).size := noOver (n := 9) (by rw [ByteArray.size_append, ByteArray.size_append]; omega) (by omega) (by decide)
      have hz4 : ¬ 9223372036854775807 < (strL (dec2 q) ++ ⟨#[58]⟩ ++ strL (two c) ++ ⟨#[46]⟩).size + (strL (two d)).size := noOver (n := 9) (by rw [ByteArray.size_append, ByteArray.size_append, ByteArray.size_append]; omega) (by omega) (by decide)
      have hy1 : ¬ 9223372036854775807 < (strL (dec2 q)).size + 1 := by omega
      have hy2 : ¬ 9223372036854775807 < (strL (dec2 q)).size + 1 + (strL (two c)).size := by omega
      have hy3 : ¬ 9223372036854775807 < (strL (dec2 q)).size + 1 + (strL (two c)).size + 1 := by omega
      have hy4 : ¬ 9223372036854775807 < (strL (dec2 q)).size + 1 + (strL (two c)).size + 1 + (strL (two d)).size := by omega
      have HQ : Hid (q < 100 ∧ d < 100 ∧ c < 100) := by unfold Hid; omega
      clear hq hd hc l46 l58 hs1 hs2 hs3 e46 e58
      go_enter Tryd.func13, Tryd.ntmps13
      go_wp2_with fail
      refine (HC.out _).mono ?_
      rintro e w1 ⟨rfl, rfl⟩
      go_wp2_with fail
      refine (specDec q HQ.out.1 _).mono ?_
      rintro e w1 ⟨rfl, hb1⟩
      go_wp2_with fail
      refine (specTwo c HQ.out.2.2 _).mono ?_
      rintro e w2 ⟨rfl, hb2⟩
      have hB2 := belowStep hb2 hb1
      go_wp2_with fail
      refine (specTwo d HQ.out.2.1 _).mono ?_
      rintro e w3 ⟨rfl, hb3⟩
      have hB3 := belowStep hb3 hB2
      go_wp2_with fail
      go_ret
      exact ⟨ret_str HS.out, hB3⟩
end Go.Proofs.YtggchbohmjfneaaDoor
