/- Entries of a contest, by value: their validity at both packages, and the law file's helpers over them. Conditions: as each contract says. -/
import Derived.Test.YtpaaolnkmopiiaaMean
import Derived.Test.YtpaaolnkmopiiaaMark
namespace Go.Proofs.Ytpaaolnkmopiiaa
open Go.RowKit

def entOk (k : Int) (xs : List Int) : Bool := inR k 0 999 && (decide (0 < xs.length) && okTimes xs)
def szLeft (left : Int) (n : Nat) : Int := if left < n then -1 else left - n

set_option maxHeartbeats 1000000 in
theorem specEntOk (k1 : Int) (A1 : Option Addr) (c1 : Nat) (xs1 : List Int) (w : World) (hx : IntsAt w A1 xs1) (hl : xs1.length ≤ 1048576) :
    Calls Try.prog 59 #[.agg #[.int .i64 k1, .slice A1 xs1.length c1]] w fun e w' => e = .returned (.bool (entOk k1 xs1)) ∧ Below w.heap.size w w' := by
  have hx2 : IntsAt (w.alloc (.cells #[.int .i64 k1, .slice A1 xs1.length c1] 44)) A1 xs1 := hx.below (by repeat (first | exact Below.refl _ _ | assumption | refine Below.setCell ?_ (by first | omega | (simp <;> omega)) _ | refine Below.alloc ?_ (by first | omega | (simp <;> omega)) _ | refine Below.drew ?_))
  cases h1 : inR k1 0 999
  · go_enter Try.func59, Try.ntmps59
    go_wp2_with (first | (go_at_call 88; refine (inRange_any _ _ _ _).mono ?_; rintro e w' ⟨rfl, rfl⟩))
    go_ret
    exact ⟨ret_bool (by rw [entOk, h1]; rfl), (by repeat (first | exact Below.refl _ _ | assumption | refine Below.setCell ?_ (by first | omega | (simp <;> omega)) _ | refine Below.alloc ?_ (by first | omega | (simp <;> omega)) _ | refine Below.drew ?_))⟩
  cases h2 : okTimes xs1
  · by_cases h3 : 0 < xs1.length
    all_goals
      go_enter Try.func59, Try.ntmps59
      go_wp2_with (first | (go_at_call 88; refine (inRange_any _ _ _ _).mono ?_; rintro e w' ⟨rfl, rfl⟩) | (go_at_call 65; refine (specValidTimes _ _ xs1 _ hx2 hl).mono ?_; rintro e w' ⟨rfl, rfl⟩))
      go_ret
      exact ⟨ret_bool (by rw [entOk, h1, h2]; simp), (by repeat (first | exact Below.refl _ _ | assumption | refine Below.setCell ?_ (by first | omega | (simp <;> omega)) _ | refine Below.alloc ?_ (by first | omega | (simp <;> omega)) _ | refine Below.drew ?_))⟩
  · by_cases h3 : 0 < xs1.length
    · have p3 : (0 : Int) < (xs1.length : Int) := by omega
      go_enter Try.func59, Try.ntmps59
      go_wp2_with (first | (go_at_call 88; refine (inRange_any _ _ _ _).mono ?_; rintro e w' ⟨rfl, rfl⟩) | (go_at_call 65; refine (specValidTimes _ _ xs1 _ hx2 hl).mono ?_; rintro e w' ⟨rfl, rfl⟩))
      go_ret
      exact ⟨ret_bool (by rw [entOk, h1, h2]; simp [h3]), (by repeat (first | exact Below.refl _ _ | assumption | refine Below.setCell ?_ (by first | omega | (simp <;> omega)) _ | refine Below.alloc ?_ (by first | omega | (simp <;> omega)) _ | refine Below.drew ?_))⟩
    · have p3 : decide ((0 : Int) < (xs1.length : Int)) = false := decide_eq_false (by omega)
      go_enter Try.func59, Try.ntmps59
      go_wp2_with (first | (go_at_call 88; refine (inRange_any _ _ _ _).mono ?_; rintro e w' ⟨rfl, rfl⟩) | (go_at_call 65; refine (specValidTimes _ _ xs1 _ hx2 hl).mono ?_; rintro e w' ⟨rfl, rfl⟩))
      go_ret
      exact ⟨ret_bool (by rw [entOk, h1, h2]; simp [h3]), (by repeat (first | exact Below.refl _ _ | assumption | refine Below.setCell ?_ (by first | omega | (simp <;> omega)) _ | refine Below.alloc ?_ (by first | omega | (simp <;> omega)) _ | refine Below.drew ?_))⟩

set_option maxHeartbeats 1000000 in
theorem implEntOk (k1 : Int) (A1 : Option Addr) (c1 : Nat) (xs1 : List Int) (w : World) (hx : IntsAt w A1 xs1) (hl : xs1.length ≤ 1048576) :
    Calls Try.prog 60 #[.agg #[.int .i64 k1, .slice A1 xs1.length c1]] w fun e w' => e = .returned (.bool (entOk k1 xs1)) ∧ Below w.heap.size w w' := by
  have hx2 : IntsAt (w.alloc (.cells #[.int .i64 k1, .slice A1 xs1.length c1] 44)) A1 xs1 := hx.below (by repeat (first | exact Below.refl _ _ | assumption | refine Below.setCell ?_ (by first | omega | (simp <;> omega)) _ | refine Below.alloc ?_ (by first | omega | (simp <;> omega)) _ | refine Below.drew ?_))
  cases h1 : inR k1 0 999
  · go_enter Try.func60, Try.ntmps60
    go_wp2_with (first | (go_at_call 94; refine (within_any _ _ _ _).mono ?_; rintro e w' ⟨rfl, rfl⟩))
    go_ret
    exact ⟨ret_bool (by rw [entOk, h1]; rfl), (by repeat (first | exact Below.refl _ _ | assumption | refine Below.setCell ?_ (by first | omega | (simp <;> omega)) _ | refine Below.alloc ?_ (by first | omega | (simp <;> omega)) _ | refine Below.drew ?_))⟩
  cases h2 : okTimes xs1
  · by_cases h3 : 0 < xs1.length
    all_goals
      go_enter Try.func60, Try.ntmps60
      go_wp2_with (first | (go_at_call 94; refine (within_any _ _ _ _).mono ?_; rintro e w' ⟨rfl, rfl⟩) | (go_at_call 74; refine (implValidTimes _ _ xs1 _ hx2 hl).mono ?_; rintro e w' ⟨rfl, rfl⟩))
      go_ret
      exact ⟨ret_bool (by rw [entOk, h1, h2]; simp), (by repeat (first | exact Below.refl _ _ | assumption | refine Below.setCell ?_ (by first | omega | (simp <;> omega)) _ | refine Below.alloc ?_ (by first | omega | (simp <;> omega)) _ | refine Below.drew ?_))⟩
  · by_cases h3 : 0 < xs1.length
    · have p3 : (0 : Int) < (xs1.length : Int) := by omega
      go_enter Try.func60, Try.ntmps60
      go_wp2_with (first | (go_at_call 94; refine (within_any _ _ _ _).mono ?_; rintro e w' ⟨rfl, rfl⟩) | (go_at_call 74; refine (implValidTimes _ _ xs1 _ hx2 hl).mono ?_; rintro e w' ⟨rfl, rfl⟩))
      go_ret
      exact ⟨ret_bool (by rw [entOk, h1, h2]; simp [h3]), (by repeat (first | exact Below.refl _ _ | assumption | refine Below.setCell ?_ (by first | omega | (simp <;> omega)) _ | refine Below.alloc ?_ (by first | omega | (simp <;> omega)) _ | refine Below.drew ?_))⟩
    · have p3 : decide ((0 : Int) < (xs1.length : Int)) = false := decide_eq_false (by omega)
      go_enter Try.func60, Try.ntmps60
      go_wp2_with (first | (go_at_call 94; refine (within_any _ _ _ _).mono ?_; rintro e w' ⟨rfl, rfl⟩) | (go_at_call 74; refine (implValidTimes _ _ xs1 _ hx2 hl).mono ?_; rintro e w' ⟨rfl, rfl⟩))
      go_ret
      exact ⟨ret_bool (by rw [entOk, h1, h2]; simp [h3]), (by repeat (first | exact Below.refl _ _ | assumption | refine Below.setCell ?_ (by first | omega | (simp <;> omega)) _ | refine Below.alloc ?_ (by first | omega | (simp <;> omega)) _ | refine Below.drew ?_))⟩


set_option maxHeartbeats 1000000 in
theorem szInts (A : Option Addr) (n c : Nat) (left : Int) (w : World) (hn : n ≤ 9223372036854775807) (h0 : 0 ≤ left) (h1 : left ≤ 1048576) :
    Calls Try.prog 66 #[.slice A n c, .int .i64 left] w fun e w' => e = .returned (.int .i64 (szLeft left n)) ∧ w = w' := by
  by_cases h : left < (n : Int)
  · have h2 : left - (n : Int) < 0 := by omega
    go_enter Try.func66, Try.ntmps66
    go_wp2
    go_ret
    exact ⟨ret_int (by rw [szLeft, if_pos h]), rfl⟩
  · have h2 : ¬ left - (n : Int) < 0 := by omega
    go_enter Try.func66, Try.ntmps66
    go_wp2
    go_ret
    exact ⟨ret_int (by rw [szLeft, if_neg (by omega)]), rfl⟩

set_option maxHeartbeats 1000000 in
theorem szEnt (k1 : Int) (A1 : Option Addr) (c1 : Nat) (xs1 : List Int) (left : Int) (w : World) (hn : xs1.length ≤ 9223372036854775807) (h0 : 0 ≤ left) (h1 : left ≤ 1048576) :
    Calls Try.prog 30 #[.agg #[.int .i64 k1, .slice A1 xs1.length c1], .int .i64 left] w fun e w' => e = .returned (.int .i64 (szLeft left xs1.length)) ∧ Below w.heap.size w w' := by
  by_cases h : left < (xs1.length : Int)
  · have hs : szLeft left xs1.length = -1 := by rw [szLeft, if_pos h]
    have HS := Lib.hid hs
    have h2 : szLeft left xs1.length < 0 := by omega
    clear hs
    go_enter Try.func30, Try.ntmps30
    go_wp2_with (first | (go_at_call 66; refine (szInts _ _ _ _ _ hn h0 h1).mono ?_; rintro e w' ⟨rfl, rfl⟩))
    go_ret
    exact ⟨ret_int HS.out.symm, (by repeat (first | exact Below.refl _ _ | assumption | refine Below.setCell ?_ (by first | omega | (simp <;> omega)) _ | refine Below.alloc ?_ (by first | omega | (simp <;> omega)) _ | refine Below.drew ?_))⟩
  · have h2 : ¬ szLeft left xs1.length < 0 := by rw [szLeft, if_neg h]; omega
    go_enter Try.func30, Try.ntmps30
    go_wp2_with (first | (go_at_call 66; refine (szInts _ _ _ _ _ hn h0 h1).mono ?_; rintro e w' ⟨rfl, rfl⟩))
    go_ret
    exact ⟨rfl, (by repeat (first | exact Below.refl _ _ | assumption | refine Below.setCell ?_ (by first | omega | (simp <;> omega)) _ | refine Below.alloc ?_ (by first | omega | (simp <;> omega)) _ | refine Below.drew ?_))⟩

set_option maxHeartbeats 1000000 in
theorem toEnt (k1 : Int) (A1 : Option Addr) (c1 : Nat) (xs1 : List Int) (w : World) (hx : IntsAt w A1 xs1) (hl : xs1.length ≤ 1048576) :
    Calls Try.prog 31 #[.agg #[.int .i64 k1, .slice A1 xs1.length c1]] w fun e w' => ∃ v, e = .returned (.agg #[.int .i64 k1, v]) ∧ Fresh w.heap.size w' v xs1 ∧ Below w.heap.size w w' := by
  go_enter Try.func31, Try.ntmps31
  go_wp2_with fail
  refine (toInts A1 c1 xs1 _ (by exact hx.below (by repeat (first | exact Below.refl _ _ | assumption | refine Below.setCell ?_ (by first | omega | (simp <;> omega)) _ | refine Below.alloc ?_ (by first | omega | (simp <;> omega)) _ | refine Below.drew ?_))) hl).mono ?_
  rintro e w1 ⟨v1, rfl, hF1, hb1⟩
  have hB1 : Below w.heap.size w w1 := belowStep hb1 (by repeat (first | exact Below.refl _ _ | assumption | refine Below.setCell ?_ (by first | omega | (simp <;> omega)) _ | refine Below.alloc ?_ (by first | omega | (simp <;> omega)) _ | refine Below.drew ?_)); obtain ⟨hc1, hf1⟩ := bcell hb1; have hz1 : w.heap.size < w1.heap.size := by have := hb1.size; (try simp at this); omega
  have hz2 : w.heap.size + 1 < w1.heap.size := by have := hb1.size; simp at this; omega
  have hz3 : w.heap.size + 1 + 1 < w1.heap.size := by have := hb1.size; simp at this; omega
  have hF3 : Fresh (w.heap.size + 3) w1 v1 xs1 := hF1.mono (by simp)
  obtain ⟨A2, c2, rfl, -, -⟩ := hF1.ints
  go_wp2_with fail
  exact bodyPost_ret (v := .agg #[.int .i64 k1, .slice A2 xs1.length c2]) (by simp [results, Try.results31, go_sem, hc1]) rfl
    ⟨_, rfl, Fresh.mono (B := w.heap.size + 3) (by exact ((hF3.setCell (by simp) _).setCell (by simp) _).setCell (by simp) _) (by omega), ((hB1.setCell (by simp; omega) _).setCell (by simp) _).setCell (by simp) _⟩

set_option maxHeartbeats 1000000 in
theorem eqEnt (k1 : Int) (A1 : Option Addr) (c1 : Nat) (xs1 : List Int) (k2 : Int) (A2 : Option Addr) (c2 : Nat) (xs2 : List Int) (w : World) (hx : IntsAt w A1 xs1) (hy : IntsAt w A2 xs2) (hl : xs1.length ≤ 1048576) :
    Calls Try.prog 33 #[.agg #[.int .i64 k1, .slice A1 xs1.length c1], .agg #[.int .i64 k2, .slice A2 xs2.length c2]] w fun e w' => e = .returned (.bool (k1 == k2 && sameB xs1 xs2)) ∧ Below w.heap.size w w' := by
  by_cases hk : k1 = k2
  · subst hk
    cases hs : sameB xs1 xs2
    all_goals
      go_enter Try.func33, Try.ntmps33
      go_wp2_with fail
      refine (eqInts A1 A2 c1 c2 xs1 xs2 _ (by exact hx.below (by repeat (first | exact Below.refl _ _ | assumption | refine Below.setCell ?_ (by first | omega | (simp <;> omega)) _ | refine Below.alloc ?_ (by first | omega | (simp <;> omega)) _ | refine Below.drew ?_))) (by exact hy.below (by repeat (first | exact Below.refl _ _ | assumption | refine Below.setCell ?_ (by first | omega | (simp <;> omega)) _ | refine Below.alloc ?_ (by first | omega | (simp <;> omega)) _ | refine Below.drew ?_))) hl).mono ?_
      rintro e w1 ⟨rfl, n, rfl⟩
      go_wp2_with fail
      go_ret
      exact ⟨ret_bool (by simp), belowDrewN (by repeat (first | exact Below.refl _ _ | assumption | refine Below.setCell ?_ (by first | omega | (simp <;> omega)) _ | refine Below.alloc ?_ (by first | omega | (simp <;> omega)) _ | refine Below.drew ?_)) n⟩
  · have hk2 : (k1 != k2) = true := by simpa using hk
    have hk3 : (k1 == k2) = false := by simpa using hk
    have HK := Lib.hid hk
    clear hk
    go_enter Try.func33, Try.ntmps33
    go_wp2_with fail
    go_ret
    exact ⟨ret_bool (by rw [hk3]; rfl), (by repeat (first | exact Below.refl _ _ | assumption | refine Below.setCell ?_ (by first | omega | (simp <;> omega)) _ | refine Below.alloc ?_ (by first | omega | (simp <;> omega)) _ | refine Below.drew ?_))⟩
theorem eqEnt_self (k : Int) (xs : List Int) : (k == k && sameB xs xs) = true := by simp [sameB_yes rfl]
theorem szLeft_yes {n : Nat} (h : n ≤ 1048576) : ¬ szLeft 1048576 n < 0 := by rw [szLeft, if_neg (by omega)]; omega
theorem szLeft_no {n : Nat} (h : ¬ n ≤ 1048576) : szLeft 1048576 n < 0 := by rw [szLeft, if_pos (by omega)]; omega
end Go.Proofs.Ytpaaolnkmopiiaa
