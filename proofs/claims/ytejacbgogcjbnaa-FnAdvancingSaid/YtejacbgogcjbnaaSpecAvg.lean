/- The trimmed average at the reference. Conditions: as each contract says. -/
import Derived.Test.YtejacbgogcjbnaaSpecTrim
namespace Go.Proofs.Ytejacbgogcjbnaa
open Go.RowKit

theorem specMean3 (A : Option Addr) (c : Nat) (xs : List Int) (h3 : xs.length = 3) (w : World) (hx : IntsAt w A xs) (hv : xs.all isRes = true) :
    Calls Try.prog 89 #[.slice A 3 c] w fun e w' => e = .returned (.int .i64 (meanOf xs)) ∧ w = w' := by
  have h := specL26Mean A c xs w hx (by omega) (by omega) hv
  rw [h3] at h
  exact h

set_option maxHeartbeats 1000000 in
theorem specAverage (A : Option Addr) (c : Nat) (xs : List Int) (h5 : xs.length = 5) (w : World) (hx : IntsAt w A xs) (hv : xs.all isRes = true) :
    Calls Try.prog 85 #[.slice A xs.length c] w fun e w' => e = .returned (.int .i64 (avgOf xs)) ∧ Below w.heap.size w w' := by
  have hlen3 : (mid3 xs).length = 3 := by rw [mid3, List.length_take, List.length_drop, isort_len, h5]; rfl
  have HL3 := Lib.hid hlen3
  have HV := Lib.hid hv
  have H5 := Lib.hid h5
  clear hlen3 hv h5
  go_enter Try.func85, Try.ntmps85
  go_wp2_with fail
  refine (specSorted A c xs _ hx (by have := H5.out; omega) HV.out).mono ?_
  rintro e w1 ⟨v1, rfl, hL1, hB1⟩
  obtain ⟨g, co, rfl, hco, hg, hgw, hI⟩ := hL1
  rw [isort_len, H5.out] at hco ⊢
  have hnc5 : (5 : Int) ≤ (co : Int) := by omega
  have hnc4 : (4 : Int) ≤ (co : Int) := by omega
  go_wp2_with fail
  refine (specMean3 _ _ (mid3 xs) HL3.out _ (by simpa [mid3] using hI.sub 1 3) (take3_isRes HV.out)).mono ?_
  rintro e w3 ⟨rfl, rfl⟩
  go_wp2_with fail
  go_ret
  exact ⟨rfl, hB1⟩

end Go.Proofs.Ytejacbgogcjbnaa
