/- EntryLess at both packages. Conditions: as each contract says. -/
import Derived.Test.YtejacbgogcjbnaaEL
namespace Go.Proofs.Ytejacbgogcjbnaa
open Go.RowKit

theorem specEntOkN (k1 : Int) (A1 : Option Addr) (c1 n : Nat) (xs1 : List Int) (hn : xs1.length = n) (w : World) (hx : IntsAt w A1 xs1) (hl : n ≤ 1048576) :
    Calls Try.prog 27 #[.agg #[.int .i64 k1, .slice A1 n c1]] w fun e w' => e = .returned (.bool (entOk k1 xs1)) ∧ Below w.heap.size w w' := by
  subst hn
  exact specEntOk k1 A1 c1 xs1 w hx hl
theorem implEntOkN (k1 : Int) (A1 : Option Addr) (c1 n : Nat) (xs1 : List Int) (hn : xs1.length = n) (w : World) (hx : IntsAt w A1 xs1) (hl : n ≤ 1048576) :
    Calls Try.prog 36 #[.agg #[.int .i64 k1, .slice A1 n c1]] w fun e w' => e = .returned (.bool (entOk k1 xs1)) ∧ Below w.heap.size w w' := by
  subst hn
  exact implEntOk k1 A1 c1 xs1 w hx hl
theorem entOk_parts {k : Int} {xs : List Int} (h : entOk k xs = true) : xs.length ≤ 5 ∧ xs.all isRes = true := by
  rw [entOk, Bool.and_eq_true, Bool.and_eq_true] at h
  exact ⟨okTimes_len h.2.2, okTimes_all h.2.2⟩

end Go.Proofs.Ytejacbgogcjbnaa
