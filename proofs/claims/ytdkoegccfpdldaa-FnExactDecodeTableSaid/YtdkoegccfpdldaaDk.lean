/- The table of a binary form at the program: too short, too long, or a wrong sum. Conditions: as each contract says. -/
import Derived.Test.YtdkoegccfpdldaaDj
import Derived.BigQuiet
namespace Go.Proofs.Ytdkoegccfpdldaa
open Go.RowKit

/-- The numbers that the head of a binary form holds. -/
structure Nums (s : ByteArray) (wd n1 n2 cn m sz : Nat) : Prop where
  e1 : wdOf s = wd
  e2 : cntOf s = cn
  e3 : endOf s = 7 + wd + m
  e4 : szOf s = sz
  e5 : cn * wd = m
  k1 : byteN s (5 + wd) = n1
  k2 : byteN s (6 + wd) = n2
  k3 : n1 * 256 + n2 = cn
  k4 : 7 + wd + m + (cn + 1) / 2 + 4 = sz
  b1 : wd ≤ 255
  b2 : n1 ≤ 255
  b3 : n2 ≤ 255
  b4 : m ≤ 16711425
theorem nums_of (s : ByteArray) : ∃ wd n1 n2 cn m sz, Nums s wd n1 n2 cn m sz := by
  have h1 := byteN_lt s 4
  have h2 := byteN_lt s (5 + wdOf s)
  have h3 := byteN_lt s (6 + wdOf s)
  refine ⟨_, _, _, _, _, _, rfl, rfl, rfl, rfl, rfl, rfl, rfl, rfl, rfl, h1, h2, h3, ?_⟩
  have h4 := cnt_le s
  have h5 : wdOf s ≤ 255 := h1
  calc cntOf s * wdOf s ≤ 65535 * 255 := Nat.mul_le_mul h4 h5
    _ = 16711425 := rfl
set_option maxRecDepth 100000 in
set_option maxHeartbeats 1000000 in
theorem implDecLens (s : ByteArray) (w : World) (hs : s.size ≤ 1048576) (h : 12 ≤ s.size) (h2 : s.extract 0 4 = ⟨#[80, 68, 66, 49]⟩) (h3 : 7 + wdOf s ≤ s.size) (h4 : s.size ≠ szOf s) :
    Calls Try.prog 11 #[.string s] w (DecI s w) := by
  have h12 : ¬ (s.size : Int) < 12 := by omega
  have d0 : (0 : Int) ≤ 4 := by omega
  have d1 : (4 : Int) ≤ (s.size : Int) := by omega
  have d2 : (4 : Int) < (s.size : Int) := by omega
  have HC : Hid (decCode s = if s.size < szOf s then 1 else 3) := by
    unfold Hid
    rw [decCode, if_neg (by omega), if_neg (by simp [h2]), if_neg (by omega)]
    by_cases h5 : s.size < szOf s
    · rw [if_pos h5, if_pos h5]
    · rw [if_neg h5, if_neg h5, if_pos (by omega)]
  have hne := magic_yes h2
  obtain ⟨wd, n1, n2, cn, m, sz, N⟩ := nums_of s
  have hb4 : s[4].toNat = wd := by rw [← N.e1]; exact byteN_is s 4 (by omega)
  have c0 : (0 : Int) ≤ (wd : Int) := by omega
  have c1 : (wd : Int) ≤ 255 := by have := N.b1; omega

  rw [N.e1] at h3
  rw [N.e4] at h4
  rw [N.e4] at HC
  have c2 : ¬ (s.size : Int) < 5 + (wd : Int) + 2 := by omega
  have e1 : (0 : Int) ≤ 5 + (wd : Int) + 2 - 2 := by omega
  have e2 : 5 + (wd : Int) + 2 - 2 < (s.size : Int) := by omega
  have e3 : (0 : Int) ≤ 5 + (wd : Int) + 2 - 1 := by omega
  have e4 : 5 + (wd : Int) + 2 - 1 < (s.size : Int) := by omega
  have e5 : (0 : Int) ≤ 5 + (wd : Int) := by omega
  have e6 : 5 + (wd : Int) < (s.size : Int) := by omega
  have e7 : (0 : Int) ≤ 5 + (wd : Int) + 1 := by omega
  have e8 : 5 + (wd : Int) + 1 < (s.size : Int) := by omega
  have w1 : IntKind.i64.wrap (5 + (wd : Int)) = 5 + (wd : Int) := IntWalk.i64_in _ (by omega)
  have w2 : IntKind.i64.wrap (5 + (wd : Int) + 1) = 5 + (wd : Int) + 1 := IntWalk.i64_in _ (by omega)
  have w3 : IntKind.i64.wrap (5 + (wd : Int) + 2 - 1) = 5 + (wd : Int) + 1 := by rw [IntWalk.i64_in _ (by omega)]; omega
  have g1 : (s[(5 + (wd : Int)).toNat]'(by omega)).toNat = n1 := by
    rw [← N.k1, ← byteN_is s _ (by omega)]
    congr 2 <;> omega
  have g2 : (s[(5 + (wd : Int) + 1).toNat]'(by omega)).toNat = n2 := by
    rw [← N.k2, ← byteN_is s _ (by omega)]
    congr 2 <;> omega
  have y1 : (n1 : Int) ≤ 255 := by have := N.b2; omega
  have y2 : (n2 : Int) ≤ 255 := by have := N.b3; omega
  have y3 : (cn : Int) ≤ 65535 := by have := N.k3; omega
  have y4 : (m : Int) ≤ 16711425 := by have := N.b4; omega
  have w4 : IntKind.i64.wrap (n1 : Int) = n1 := IntWalk.i64_in _ (by omega)
  have w5 : IntKind.i64.wrap (n2 : Int) = n2 := IntWalk.i64_in _ (by omega)
  have w6 : IntKind.i64.wrap ((n1 : Int) * 256) = (n1 : Int) * 256 := IntWalk.i64_in _ (by omega)
  have w7 : IntKind.i64.wrap ((n1 : Int) * 256 + n2) = (cn : Int) := by have := N.k3; rw [IntWalk.i64_in _ (by omega)]; omega
  have w8 : (cn : Int) * (wd : Int) = (m : Int) := by rw [← N.e5]; exact (Int.natCast_mul _ _).symm
  clear h2
  rcases Nat.lt_or_gt_of_ne h4 with h5 | h5
  · have c3 : (s.size : Int) < 5 + (wd : Int) + 2 + (m : Int) + ((cn : Int) + 1) / 2 + 4 := by have := N.k4; omega
    have HC1 : Hid (decCode s = 1) := by unfold Hid; rw [HC.out, if_pos h5]
    clear h4 h5 N
    go_enter Try.func11, Try.ntmps11
    go_wp2_with fail
    go_quiet (fail)
    clear w1 w2 w3 w4 w5 w6 w7 g1 g2 hb4
    go_wp2_with fail
    refine bodyPost_ret (v := .tuple #[.agg #[.slice none 0 0, .slice none 0 0, .slice none 0 0], .int .i64 1]) (by simp [results, Try.results11, go_sem]) rfl ?_
    exact DecI.bare HC1.out (by decide) (by repeat (first | exact Below.refl _ _ | assumption | refine Below.setCell ?_ (by first | omega | (simp <;> omega)) _ | refine Below.alloc ?_ (by first | omega | (simp <;> omega)) _ | refine Below.drew ?_ | refine belowDrewN ?_ _))
  · have c3 : ¬ (s.size : Int) < 5 + (wd : Int) + 2 + (m : Int) + ((cn : Int) + 1) / 2 + 4 := by have := N.k4; omega
    have c4 : 5 + (wd : Int) + 2 + (m : Int) + ((cn : Int) + 1) / 2 + 4 < (s.size : Int) := by have := N.k4; omega
    have HC1 : Hid (decCode s = 3) := by unfold Hid; rw [HC.out, if_neg (by omega)]
    clear h4 h5 N
    go_enter Try.func11, Try.ntmps11
    go_wp2_with fail
    go_quiet (fail)
    clear w1 w2 w3 w4 w5 w6 w7 g1 g2 hb4
    go_wp2_with fail
    refine bodyPost_ret (v := .tuple #[.agg #[.slice none 0 0, .slice none 0 0, .slice none 0 0], .int .i64 3]) (by simp [results, Try.results11, go_sem]) rfl ?_
    exact DecI.bare HC1.out (by decide) (by repeat (first | exact Below.refl _ _ | assumption | refine Below.setCell ?_ (by first | omega | (simp <;> omega)) _ | refine Below.alloc ?_ (by first | omega | (simp <;> omega)) _ | refine Below.drew ?_ | refine belowDrewN ?_ _))
end Go.Proofs.Ytdkoegccfpdldaa
