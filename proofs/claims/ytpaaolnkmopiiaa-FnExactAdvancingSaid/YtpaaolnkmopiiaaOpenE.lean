/- Arguments opened: entries. -/
import Derived.Test.YtpaaolnkmopiiaaOpen
namespace Go.Proofs.Ytpaaolnkmopiiaa
open Go.RowKit Go.ChangeShapes Go.WideShapes Go.ChangeAt Go.Deep
set_option maxRecDepth 100000
section
variable {H : Type} {enc : TypeId × Value → H} {w : World} {base : Nat} {spare : Nat → Bool} {held : Bool}
theorem arg_entry {r : Reach} {b0 : Nat} {v : Value} {d : DataW H} {p : List MemPlace} (hv : Value.okWide Try.prog w r b0 48 v) (h : DataW.Trod enc Try.prog w base spare held 48 v d p) :
    ∃ k1 A1 c1 xs1, v = .agg #[.int .i64 k1, .slice A1 (xs1 : List Int).length c1] ∧ IntsAt w A1 xs1 ∧ xs1.length ≤ maxLen := by
  obtain ⟨l, n, rfl, hl, hf⟩ := open_agg Try.underlying48 (by kernel_rfl) (by kernel_rfl) hv h
  obtain ⟨u0, y0, e0, t0⟩ := hf 0 _ rfl
  obtain ⟨u1, y1, e1, t1⟩ := hf 1 _ rfl
  obtain ⟨a0, rfl, _⟩ := int_of_trod t0
  obtain ⟨A, c, xs, rfl, hi, _, hm⟩ := ints_of_trod t1
  refine ⟨a0, A, c, xs, ?_, hi, hm⟩
  match l, hl with
  | [c0, c1], _ =>
    simp at e0 e1
    subst e0 e1
    rfl
end
end Go.Proofs.Ytpaaolnkmopiiaa
