/- The table of a binary form at the program: no room for the head. Conditions: as each contract says. -/
import Derived.Test.YtdkoegccfpdldaaDi
namespace Go.Proofs.Ytdkoegccfpdldaa
open Go.RowKit

theorem magic_yes {s : ByteArray} (h : s.extract 0 4 = ⟨#[80, 68, 66, 49]⟩) : (!(s.extract 0 4).toList == [80, 68, 66, 49]) = false := by
  have e : ([80, 68, 66, 49] : List UInt8) = (⟨#[80, 68, 66, 49]⟩ : ByteArray).toList := by decide +kernel
  rw [e, str_eq, decide_eq_true h]; rfl
set_option maxRecDepth 100000 in
set_option maxHeartbeats 1000000 in
theorem implDecHead (s : ByteArray) (w : World) (hs : s.size ≤ 1048576) (h : 12 ≤ s.size) (h2 : s.extract 0 4 = ⟨#[80, 68, 66, 49]⟩) (h3 : s.size < 7 + wdOf s) :
    Calls Try.prog 11 #[.string s] w (DecI s w) := by
  have h12 : ¬ (s.size : Int) < 12 := by omega
  have d0 : (0 : Int) ≤ 4 := by omega
  have d1 : (4 : Int) ≤ (s.size : Int) := by omega
  have d2 : (4 : Int) < (s.size : Int) := by omega
  have HC : Hid (decCode s = 1) := by unfold Hid; rw [decCode, if_neg (by omega), if_neg (by simp [h2]), if_pos h3]
  have hne := magic_yes h2
  have hb4 : s[4].toNat = wdOf s := byteN_is s 4 (by omega)
  have c0 : (0 : Int) ≤ (s[4].toNat : Int) := by omega
  have c1 : (s[4].toNat : Int) ≤ 255 := by have := s[4].toNat_lt; omega
  have c2 : (s.size : Int) < 5 + (s[4].toNat : Int) + 2 := by omega
  clear h2 h3 hb4
  go_enter Try.func11, Try.ntmps11
  go_wp2_with fail
  refine bodyPost_ret (v := .tuple #[.agg #[.slice none 0 0, .slice none 0 0, .slice none 0 0], .int .i64 1]) (by simp [results, Try.results11, go_sem]) rfl ?_
  exact DecI.bare HC.out (by decide) (by repeat (first | exact Below.refl _ _ | assumption | refine Below.setCell ?_ (by first | omega | (simp <;> omega)) _ | refine Below.alloc ?_ (by first | omega | (simp <;> omega)) _ | refine Below.drew ?_))
end Go.Proofs.Ytdkoegccfpdldaa
