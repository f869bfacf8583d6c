/- Entries of a contest, by value: their validity at both packages, and the law file's helpers over them. Conditions: as each contract says. -/
import Derived.Test.YtejacbgogcjbnaaMean
import Derived.Test.YtejacbgogcjbnaaMark
namespace Go.Proofs.Ytejacbgogcjbnaa
open Go.RowKit

def entOk (k : Int) (xs : List Int) : Bool := inR k 0 999 && (decide (0 < xs.length) && okTimes xs)
def szLeft (left : Int) (n : Nat) : Int := if left < n then -1 else left - n

set_option maxHeartbeats 1000000 in
theorem specEntOk (k1 : Int) (A1 : Option Addr) (c1 : Nat) (xs1 : List Int) (w : World) (hx : IntsAt w A1 xs1) (hl : xs1.length ≤ 1048576) :
    Calls Try.prog 27 #[.agg #[.int .i64 k1, .slice A1 xs1.length c1]] w fun e w' => e = .returned (.bool (entOk k1 xs1)) ∧ Below w.heap.size w w' := by
  have hx2 : IntsAt (w.alloc (.cells #[.int .i64 k1, .slice A1 xs1.length c1] 32)) A1 xs1 := hx.below (by repeat (first | exact Below.refl _ _ | assumption | refine Below.setCell ?_ (by first | omega | (simp <;> omega)) _ | refine Below.alloc ?_ (by first | omega | (simp <;> omega)) _ | refine Below.drew ?_))
  cases h1 : inR k1 0 999
  · go_enter Try.func27, Try.ntmps27
    go_wp2_with (first | (go_at_call 55; refine (inRange_any _ _ _ _).mono ?_; rintro e w' ⟨rfl, rfl⟩))
    go_ret
    exact ⟨ret_bool (by rw [entOk, h1]; rfl), (by repeat (first | exact Below.refl _ _ | assumption | refine Below.setCell ?_ (by first | omega | (simp <;> omega)) _ | refine Below.alloc ?_ (by first | omega | (simp <;> omega)) _ | refine Below.drew ?_))⟩
  cases h2 : okTimes xs1
  · by_cases h3 : 0 < xs1.length
    all_goals
      go_enter Try.func27, Try.ntmps27
      go_wp2_with (first | (go_at_call 55; refine (inRange_any _ _ _ _).mono ?_; rintro e w' ⟨rfl, rfl⟩) | (go_at_call 29; refine (specValidTimes _ _ xs1 _ hx2 hl).mono ?_; rintro e w' ⟨rfl, rfl⟩))
      go_ret
      exact ⟨ret_bool (by rw [entOk, h1, h2]; simp), (by repeat (first | exact Below.refl _ _ | assumption | refine Below.setCell ?_ (by first | omega | (simp <;> omega)) _ | refine Below.alloc ?_ (by first | omega | (simp <;> omega)) _ | refine Below.drew ?_))⟩
  · by_cases h3 : 0 < xs1.length
    · have p3 : (0 : Int) < (xs1.length : Int) := by omega
      go_enter Try.func27, Try.ntmps27
      go_wp2_with (first | (go_at_call 55; refine (inRange_any _ _ _ _).mono ?_; rintro e w' ⟨rfl, rfl⟩) | (go_at_call 29; refine (specValidTimes _ _ xs1 _ hx2 hl).mono ?_; rintro e w' ⟨rfl, rfl⟩))
      go_ret
      exact ⟨ret_bool (by rw [entOk, h1, h2]; simp [h3]), (by repeat (first | exact Below.refl _ _ | assumption | refine Below.setCell ?_ (by first | omega | (simp <;> omega)) _ | refine Below.alloc ?_ (by first | omega | (simp <;> omega)) _ | refine Below.drew ?_))⟩
    · have p3 : decide ((0 : Int) < (xs1.length : Int)) = false := decide_eq_false (by omega)
      go_enter Try.func27, Try.ntmps27
      go_wp2_with (first | (go_at_call 55; refine (inRange_any _ _ _ _).mono ?_; rintro e w' ⟨rfl, rfl⟩) | (go_at_call 29; refine (specValidTimes _ _ xs1 _ hx2 hl).mono ?_; rintro e w' ⟨rfl, rfl⟩))
      go_ret
      exact ⟨ret_bool (by rw [entOk, h1, h2]; simp [h3]), (by repeat (first | exact Below.refl _ _ | assumption | refine Below.setCell ?_ (by first | omega | (simp <;> omega)) _ | refine Below.alloc ?_ (by first | omega | (simp <;> omega)) _ | refine Below.drew ?_))⟩

set_option maxHeartbeats 1000000 in
theorem implEntOk (k1 : Int) (A1 : Option Addr) (c1 : Nat) (xs1 : List Int) (w : World) (hx : IntsAt w A1 xs1) (hl : xs1.length ≤ 1048576) :
    Calls Try.prog 36 #[.agg #[.int .i64 k1, .slice A1 xs1.length c1]] w fun e w' => e = .returned (.bool (entOk k1 xs1)) ∧ Below w.heap.size w w' := by
  have hx2 : IntsAt (w.alloc (.cells #[.int .i64 k1, .slice A1 xs1.length c1] 32)) A1 xs1 := hx.below (by repeat (first | exact Below.refl _ _ | assumption | refine Below.setCell ?_ (by first | omega | (simp <;> omega)) _ | refine Below.alloc ?_ (by first | omega | (simp <;> omega)) _ | refine Below.drew ?_))
  cases h1 : inR k1 0 999
  · go_enter Try.func36, Try.ntmps36
    go_wp2_with (first | (go_at_call 65; refine (within_any _ _ _ _).mono ?_; rintro e w' ⟨rfl, rfl⟩))
    go_ret
    exact ⟨ret_bool (by rw [entOk, h1]; rfl), (by repeat (first | exact Below.refl _ _ | assumption | refine Below.setCell ?_ (by first | omega | (simp <;> omega)) _ | refine Below.alloc ?_ (by first | omega | (simp <;> omega)) _ | refine Below.drew ?_))⟩
  cases h2 : okTimes xs1
  · by_cases h3 : 0 < xs1.length
    all_goals
      go_enter Try.func36, Try.ntmps36
      go_wp2_with (first | (go_at_call 65; refine (within_any _ _ _ _).mono ?_; rintro e w' ⟨rfl, rfl⟩) | (go_at_call 38; refine (implValidTimes _ _ xs1 _ hx2 hl).mono ?_; rintro e w' ⟨rfl, rfl⟩))
      go_ret
      exact ⟨ret_bool (by rw [entOk, h1, h2]; simp), (by repeat (first | exact Below.refl _ _ | assumption | refine Below.setCell ?_ (by first | omega | (simp <;> omega)) _ | refine Below.alloc ?_ (by first | omega | (simp <;> omega)) _ | refine Below.drew ?_))⟩
  · by_cases h3 : 0 < xs1.length
    · have p3 : (0 : Int) < (xs1.length : Int) := by omega
      go_enter Try.func36, Try.ntmps36
      go_wp2_with (first | (go_at_call 65; refine (within_any _ _ _ _).mono ?_; rintro e w' ⟨rfl, rfl⟩) | (go_at_call 38; refine (implValidTimes _ _ xs1 _ hx2 hl).mono ?_; rintro e w' ⟨rfl, rfl⟩))
      go_ret
      exact ⟨ret_bool (by rw [entOk, h1, h2]; simp [h3]), (by repeat (first | exact Below.refl _ _ | assumption | refine Below.setCell ?_ (by first | omega | (simp <;> omega)) _ | refine Below.alloc ?_ (by first | omega | (simp <;> omega)) _ | refine Below.drew ?_))⟩
    · have p3 : decide ((0 : Int) < (xs1.length : Int)) = false := decide_eq_false (by omega)
      go_enter Try.func36, Try.ntmps36
      go_wp2_with (first | (go_at_call 65; refine (within_any _ _ _ _).mono ?_; rintro e w' ⟨rfl, rfl⟩) | (go_at_call 38; refine (implValidTimes _ _ xs1 _ hx2 hl).mono ?_; rintro e w' ⟨rfl, rfl⟩))
      go_ret
      exact ⟨ret_bool (by rw [entOk, h1, h2]; simp [h3]), (by repeat (first | exact Below.refl _ _ | assumption | refine Below.setCell ?_ (by first | omega | (simp <;> omega)) _ | refine Below.alloc ?_ (by first | omega | (simp <;> omega)) _ | refine Below.drew ?_))⟩


theorem eqEnt_self (k : Int) (xs : List Int) : (k == k && sameB xs xs) = true := by simp [sameB_yes rfl]
theorem szLeft_yes {n : Nat} (h : n ≤ 1048576) : ¬ szLeft 1048576 n < 0 := by rw [szLeft, if_neg (by omega)]; omega
theorem szLeft_no {n : Nat} (h : ¬ n ≤ 1048576) : szLeft 1048576 n < 0 := by rw [szLeft, if_pos (by omega)]; omega
end Go.Proofs.Ytejacbgogcjbnaa
