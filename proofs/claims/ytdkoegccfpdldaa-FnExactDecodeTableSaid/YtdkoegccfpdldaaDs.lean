/- The table of a binary form at the reference: the early answers. Conditions: as each contract says. -/
import Derived.Test.YtdkoegccfpdldaaDk
import Derived.Test.YtdkoegccfpdldaaEs
namespace Go.Proofs.Ytdkoegccfpdldaa
open Go.RowKit

def DecS (s : ByteArray) (w : World) (e : Ending) (w' : World) : Prop := ∃ A1 c1 A2 c2 A3 c3, e = .returned (.tuple #[.agg #[.slice A1 (decOf s).trk.length c1, .slice A2 (decOf s).pats.length c2, .slice A3 (decOf s).dist.length c3], .int .i64 (decCode s)]) ∧ IntsAt w' A1 (decOf s).trk ∧ LAt w' A2 (decOf s).pats ∧ IntsAt w' A3 (decOf s).dist ∧ Below w.heap.size w w'
theorem DecS.bare {s : ByteArray} {w w' : World} {c : Int} (hc : decCode s = c) (h0 : c ≠ 0) (hb : Below w.heap.size w w') : DecS s w (.returned (.tuple #[.agg #[.slice none 0 0, .slice none 0 0, .slice none 0 0], .int .i64 c])) w' := by
  have : decOf s = ⟨[], [], []⟩ := by rw [decOf, if_neg (by rw [hc]; exact h0)]
  refine ⟨none, 0, none, 0, none, 0, ?_, ?_, ?_, ?_, hb⟩
  · rw [this, hc]; rfl
  · rw [this]; exact fun k hk => absurd hk (Nat.not_lt_zero _)
  · rw [this]; exact fun k hk => absurd hk (Nat.not_lt_zero _)
  · rw [this]; exact fun k hk => absurd hk (Nat.not_lt_zero _)
set_option maxRecDepth 100000 in
set_option maxHeartbeats 1000000 in
theorem specDec12 (s : ByteArray) (w : World) (h : s.size < 12) :
    Calls Try.prog 10 #[.string s] w (DecS s w) := by
  have h12 : (s.size : Int) < 12 := by omega
  have HC : Hid (decCode s = 1) := by unfold Hid; rw [decCode, if_pos h]
  go_enter Try.func10, Try.ntmps10
  go_wp2_with fail
  refine bodyPost_ret (v := .tuple #[.agg #[.slice none 0 0, .slice none 0 0, .slice none 0 0], .int .i64 1]) (by simp [results, Try.results10, go_sem]) rfl ?_
  exact DecS.bare HC.out (by decide) (by repeat (first | exact Below.refl _ _ | assumption | refine Below.setCell ?_ (by first | omega | (simp <;> omega)) _ | refine Below.alloc ?_ (by first | omega | (simp <;> omega)) _ | refine Below.drew ?_))
set_option maxRecDepth 100000 in
set_option maxHeartbeats 1000000 in
theorem specDecMagic (s : ByteArray) (w : World) (h : 12 ≤ s.size) (h2 : s.extract 0 4 ≠ ⟨#[80, 68, 66, 49]⟩) :
    Calls Try.prog 10 #[.string s] w (DecS s w) := by
  have h12 : ¬ (s.size : Int) < 12 := by omega
  have d0 : (0 : Int) ≤ 4 := by omega
  have d1 : (4 : Int) ≤ (s.size : Int) := by omega
  have HC : Hid (decCode s = 2) := by unfold Hid; rw [decCode, if_neg (by omega), if_pos h2]
  have hne : (!(s.extract 0 4).toList == [80, 68, 66, 49]) = true := by
    have e : ([80, 68, 66, 49] : List UInt8) = (⟨#[80, 68, 66, 49]⟩ : ByteArray).toList := by decide +kernel
    rw [e, str_eq, decide_eq_false h2]; rfl
  clear h2
  go_enter Try.func10, Try.ntmps10
  go_wp2_with fail
  refine bodyPost_ret (v := .tuple #[.agg #[.slice none 0 0, .slice none 0 0, .slice none 0 0], .int .i64 2]) (by simp [results, Try.results10, go_sem]) rfl ?_
  exact DecS.bare HC.out (by decide) (by repeat (first | exact Below.refl _ _ | assumption | refine Below.setCell ?_ (by first | omega | (simp <;> omega)) _ | refine Below.alloc ?_ (by first | omega | (simp <;> omega)) _ | refine Below.drew ?_))
set_option maxRecDepth 100000 in
set_option maxHeartbeats 1000000 in
theorem specDecHead (s : ByteArray) (w : World) (hs : s.size ≤ 1048576) (h : 12 ≤ s.size) (h2 : s.extract 0 4 = ⟨#[80, 68, 66, 49]⟩) (h3 : s.size < 7 + wdOf s) :
    Calls Try.prog 10 #[.string s] w (DecS s w) := by
  have h12 : ¬ (s.size : Int) < 12 := by omega
  have d0 : (0 : Int) ≤ 4 := by omega
  have d1 : (4 : Int) ≤ (s.size : Int) := by omega
  have d2 : (4 : Int) < (s.size : Int) := by omega
  have HC : Hid (decCode s = 1) := by unfold Hid; rw [decCode, if_neg (by omega), if_neg (by simp [h2]), if_pos h3]
  have hne := magic_yes h2
  have hb4 : s[4].toNat = wdOf s := byteN_is s 4 (by omega)
  have c0 : (0 : Int) ≤ (s[4].toNat : Int) := by omega
  have c1 : (s[4].toNat : Int) ≤ 255 := by have := s[4].toNat_lt; omega
  have c2 : (s.size : Int) < 5 + (s[4].toNat : Int) + 2 := by omega
  clear h2 h3 hb4
  go_enter Try.func10, Try.ntmps10
  go_wp2_with fail
  refine bodyPost_ret (v := .tuple #[.agg #[.slice none 0 0, .slice none 0 0, .slice none 0 0], .int .i64 1]) (by simp [results, Try.results10, go_sem]) rfl ?_
  exact DecS.bare HC.out (by decide) (by repeat (first | exact Below.refl _ _ | assumption | refine Below.setCell ?_ (by first | omega | (simp <;> omega)) _ | refine Below.alloc ?_ (by first | omega | (simp <;> omega)) _ | refine Below.drew ?_))
set_option maxRecDepth 100000 in
set_option maxHeartbeats 1000000 in
theorem specDecLens (s : ByteArray) (w : World) (hs : s.size ≤ 1048576) (h : 12 ≤ s.size) (h2 : s.extract 0 4 = ⟨#[80, 68, 66, 49]⟩) (h3 : 7 + wdOf s ≤ s.size) (h4 : s.size ≠ szOf s) :
    Calls Try.prog 10 #[.string s] w (DecS s w) := by
  have h12 : ¬ (s.size : Int) < 12 := by omega
  have d0 : (0 : Int) ≤ 4 := by omega
  have d1 : (4 : Int) ≤ (s.size : Int) := by omega
  have d2 : (4 : Int) < (s.size : Int) := by omega
  have HC : Hid (decCode s = if s.size < szOf s then 1 else 3) := by
    unfold Hid
    rw [decCode, if_neg (by omega), if_neg (by simp [h2]), if_neg (by omega)]
    by_cases h5 : s.size < szOf s
    · rw [if_pos h5, if_pos h5]
    · rw [if_neg h5, if_neg h5, if_pos (by omega)]
  have hne := magic_yes h2
  obtain ⟨wd, n1, n2, cn, m, sz, N⟩ := nums_of s
  have hb4 : s[4].toNat = wd := by rw [← N.e1]; exact byteN_is s 4 (by omega)
  have c0 : (0 : Int) ≤ (wd : Int) := by omega
  have c1 : (wd : Int) ≤ 255 := by have := N.b1; omega

  rw [N.e1] at h3
  rw [N.e4] at h4
  rw [N.e4] at HC
  have c2 : ¬ (s.size : Int) < 5 + (wd : Int) + 2 := by omega
  have e5 : (0 : Int) ≤ 5 + (wd : Int) := by omega
  have e6 : 5 + (wd : Int) < (s.size : Int) := by omega
  have e7 : (0 : Int) ≤ 6 + (wd : Int) := by omega
  have e8 : 6 + (wd : Int) < (s.size : Int) := by omega
  have w1 : IntKind.i64.wrap (5 + (wd : Int)) = 5 + (wd : Int) := IntWalk.i64_in _ (by omega)
  have w2 : IntKind.i64.wrap (6 + (wd : Int)) = 6 + (wd : Int) := IntWalk.i64_in _ (by omega)
  have g1 : (s[(5 + (wd : Int)).toNat]'(by omega)).toNat = n1 := by
    rw [← N.k1, ← byteN_is s _ (by omega)]
    congr 2 <;> omega
  have g2 : (s[(6 + (wd : Int)).toNat]'(by omega)).toNat = n2 := by
    rw [← N.k2, ← byteN_is s _ (by omega)]
    congr 2 <;> omega
  have y1 : (n1 : Int) ≤ 255 := by have := N.b2; omega
  have y2 : (n2 : Int) ≤ 255 := by have := N.b3; omega
  have y3 : (cn : Int) ≤ 65535 := by have := N.k3; omega
  have y4 : (m : Int) ≤ 16711425 := by have := N.b4; omega
  have w4 : IntKind.i64.wrap (n1 : Int) = n1 := IntWalk.i64_in _ (by omega)
  have w5 : IntKind.i64.wrap (n2 : Int) = n2 := IntWalk.i64_in _ (by omega)
  have w6 : IntKind.i64.wrap ((n1 : Int) * 256) = (n1 : Int) * 256 := IntWalk.i64_in _ (by omega)
  have w7 : IntKind.i64.wrap ((n1 : Int) * 256 + n2) = (cn : Int) := by have := N.k3; rw [IntWalk.i64_in _ (by omega)]; omega
  have w8 : (cn : Int) * (wd : Int) = (m : Int) := by rw [← N.e5]; exact (Int.natCast_mul _ _).symm
  clear h2
  rcases Nat.lt_or_gt_of_ne h4 with h5 | h5
  · have c3 : (s.size : Int) < 7 + (wd : Int) + (m : Int) + ((cn : Int) + 1) / 2 + 4 := by have := N.k4; omega
    have HC1 : Hid (decCode s = 1) := by unfold Hid; rw [HC.out, if_pos h5]
    clear h4 h5 N
    go_enter Try.func10, Try.ntmps10
    go_wp2_with fail
    go_quiet (fail)
    clear w1 w2 w4 w5 w6 w7 g1 g2 hb4
    go_wp2_with fail
    refine bodyPost_ret (v := .tuple #[.agg #[.slice none 0 0, .slice none 0 0, .slice none 0 0], .int .i64 1]) (by simp [results, Try.results10, go_sem]) rfl ?_
    exact DecS.bare HC1.out (by decide) (by repeat (first | exact Below.refl _ _ | assumption | refine Below.setCell ?_ (by first | omega | (simp <;> omega)) _ | refine Below.alloc ?_ (by first | omega | (simp <;> omega)) _ | refine Below.drew ?_ | refine belowDrewN ?_ _))
  · have c3 : ¬ (s.size : Int) < 7 + (wd : Int) + (m : Int) + ((cn : Int) + 1) / 2 + 4 := by have := N.k4; omega
    have c4 : 7 + (wd : Int) + (m : Int) + ((cn : Int) + 1) / 2 + 4 < (s.size : Int) := by have := N.k4; omega
    have HC1 : Hid (decCode s = 3) := by unfold Hid; rw [HC.out, if_neg (by omega)]
    clear h4 h5 N
    go_enter Try.func10, Try.ntmps10
    go_wp2_with fail
    go_quiet (fail)
    clear w1 w2 w4 w5 w6 w7 g1 g2 hb4
    go_wp2_with fail
    refine bodyPost_ret (v := .tuple #[.agg #[.slice none 0 0, .slice none 0 0, .slice none 0 0], .int .i64 3]) (by simp [results, Try.results10, go_sem]) rfl ?_
    exact DecS.bare HC1.out (by decide) (by repeat (first | exact Below.refl _ _ | assumption | refine Below.setCell ?_ (by first | omega | (simp <;> omega)) _ | refine Below.alloc ?_ (by first | omega | (simp <;> omega)) _ | refine Below.drew ?_ | refine belowDrewN ?_ _))
end Go.Proofs.Ytdkoegccfpdldaa
