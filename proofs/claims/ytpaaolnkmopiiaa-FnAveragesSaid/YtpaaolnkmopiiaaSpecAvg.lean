/- The trimmed average at the reference. Conditions: as each contract says. -/
import Derived.Test.YtpaaolnkmopiiaaSpecTrim
namespace Go.Proofs.Ytpaaolnkmopiiaa
open Go.RowKit

theorem specMean3 (A : Option Addr) (c : Nat) (xs : List Int) (h3 : xs.length = 3) (w : World) (hx : IntsAt w A xs) (hv : xs.all isRes = true) :
    Calls Try.prog 112 #[.slice A 3 c] w fun e w' => e = .returned (.int .i64 (meanOf xs)) ∧ w = w' := by
  have h := specL26Mean A c xs w hx (by omega) (by omega) hv
  rw [h3] at h
  exact h

set_option maxHeartbeats 1000000 in
theorem specAverage (A : Option Addr) (c : Nat) (xs : List Int) (h5 : xs.length = 5) (w : World) (hx : IntsAt w A xs) (hv : xs.all isRes = true) :
    Calls Try.prog 81 #[.slice A xs.length c] w fun e w' => e = .returned (.int .i64 (avgOf xs)) ∧ Below w.heap.size w w' := by
  have hlen3 : (mid3 xs).length = 3 := by rw [mid3, List.length_take, List.length_drop, isort_len, h5]; rfl
  have HL3 := Lib.hid hlen3
  have HV := Lib.hid hv
  have H5 := Lib.hid h5
  clear hlen3 hv h5
  go_enter Try.func81, Try.ntmps81
  go_wp2_with fail
  refine (specSorted A c xs _ hx (by have := H5.out; omega) HV.out).mono ?_
  rintro e w1 ⟨v1, rfl, hL1, hB1⟩
  obtain ⟨g, co, rfl, hco, hg, hgw, hI⟩ := hL1
  rw [isort_len, H5.out] at hco ⊢
  have hnc5 : (5 : Int) ≤ (co : Int) := by omega
  have hnc4 : (4 : Int) ≤ (co : Int) := by omega
  go_wp2_with fail
  refine (specMean3 _ _ (mid3 xs) HL3.out _ (by simpa [mid3] using hI.sub 1 3) (take3_isRes HV.out)).mono ?_
  rintro e w3 ⟨rfl, rfl⟩
  go_wp2_with fail
  go_ret
  exact ⟨rfl, hB1⟩

set_option maxHeartbeats 1000000 in
theorem specTrimmed (A : Option Addr) (c : Nat) (xs : List Int) (w : World) (hx : IntsAt w A xs) (hl : xs.length ≤ 1048576) :
    Calls Try.prog 45 #[.slice A xs.length c] w fun e w' => e = .returned (.int .i64 (avgRes xs)) ∧ Below w.heap.size w w' := by
  cases h : okTimes xs
  · go_enter Try.func45, Try.ntmps45
    go_wp2_with (first | (go_at_call 65; refine (specValidTimes _ _ xs _ hx hl).mono ?_; rintro e w' ⟨rfl, rfl⟩))
    go_ret
    exact ⟨ret_int (by simp [avgRes, h]), Below.refl _ _⟩
  by_cases h5 : xs.length = 5
  · have hall := okTimes_all h
    have ha := specAverage A c xs h5 w hx hall
    have hvt := specValidTimes A c xs w hx hl
    rw [h5] at ha hvt ⊢
    have H5 := Lib.hid h5
    have HA := Lib.hid ha
    have HALL := Lib.hid hall
    clear h5 ha hall
    go_enter Try.func45, Try.ntmps45
    go_wp2_with (first | (go_at_call 65; refine hvt.mono ?_; rintro e w' ⟨rfl, rfl⟩))
    refine HA.out.mono ?_
    rintro e w1 ⟨rfl, hB1⟩
    go_wp2_with fail
    go_ret
    exact ⟨ret_int (by rw [avgRes, h, H5.out]; rfl), hB1⟩
  · have hne : ((xs.length : Int) != 5) = true := by rw [bne_iff_ne]; omega
    have H5 := Lib.hid h5
    clear h5
    go_enter Try.func45, Try.ntmps45
    go_wp2_with (first | (go_at_call 65; refine (specValidTimes _ _ xs _ hx hl).mono ?_; rintro e w' ⟨rfl, rfl⟩))
    go_ret
    exact ⟨ret_int (by simp [avgRes, H5.out]), Below.refl _ _⟩
end Go.Proofs.Ytpaaolnkmopiiaa
