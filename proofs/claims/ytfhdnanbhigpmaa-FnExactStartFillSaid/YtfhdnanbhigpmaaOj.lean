/- Arguments opened: a puzzle. -/
import Derived.Test.YtfhdnanbhigpmaaOt
import Derived.Test.YtfhdnanbhigpmaaPz
namespace Go.Proofs.Ytfhdnanbhigpmaa
open Go.RowKit Go.ChangeShapes Go.WideShapes Go.ChangeAt Go.Deep
set_option maxRecDepth 100000

/-- A puzzle as a law gets it. -/
structure PA where
  A : Option Addr
  c : Nat
  p : Pz
def PA.val (g : PA) : Value := .agg #[.int .i64 g.p.pts, .string g.p.names, .slice g.A g.p.moves.length g.c]
structure PA.Ok (w : World) (g : PA) : Prop where
  at_ : LAt w g.A g.p.moves
  m1 : g.p.names.size ≤ 9223372036854775807
  m2 : g.p.moves.length ≤ 9223372036854775807
  m3 : ∀ i, i < g.p.moves.length → (g.p.moves.getD i []).length ≤ 9223372036854775807
section
variable {H : Type} {enc : TypeId × Value → H} {w : World} {base : Nat} {spare : Nat → Bool} {held : Bool}
theorem arg_puzzle {r : Reach} {b0 : Nat} {v : Value} {d : DataW H} {p : List MemPlace} (hv : Value.okWide Try.prog w r b0 42 v) (h : DataW.Trod enc Try.prog w base spare held 42 v d p) :
    ∃ g : PA, v = g.val ∧ g.Ok w := by
  obtain ⟨l, n, rfl, hl, hf⟩ := open_agg Try.underlying42 (by kernel_rfl) (by kernel_rfl) hv h
  obtain ⟨u0, y0, e0, t0⟩ := hf 0 _ rfl
  obtain ⟨u1, y1, e1, t1⟩ := hf 1 _ rfl
  obtain ⟨u2, y2, e2, t2⟩ := hf 2 _ rfl
  obtain ⟨n0, rfl, -, -⟩ := int_of_trod t0
  obtain ⟨s1, c1, -, hs1⟩ := DataW.trod_string Try.underlying9 t1
  simp only [List.cons.injEq, and_true] at c1
  subst c1
  obtain ⟨A2, c2, ls, rfl, b1, b2, b3⟩ := lists_of_trod t2
  unfold maxLen at *
  refine ⟨⟨A2, c2, ⟨n0, s1, ls⟩⟩, ?_, ⟨b1, by dsimp only; omega, by dsimp only; omega, fun i hi => by have := b3 i hi; dsimp only; omega⟩⟩
  have hl3 : l.length = 3 := hl
  match l, hl3 with
  | [x, y, z], _ =>
    simp only [List.getElem?_cons_zero, List.getElem?_cons_succ, Option.some.injEq] at e0 e1 e2
    subst e0 e1 e2
    rfl
end
end Go.Proofs.Ytfhdnanbhigpmaa
