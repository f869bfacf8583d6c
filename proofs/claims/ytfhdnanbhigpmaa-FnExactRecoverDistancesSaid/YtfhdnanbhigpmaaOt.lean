/- Arguments opened: a table. -/
import Derived.Test.YtfhdnanbhigpmaaOpen
import Derived.Test.YtfhdnanbhigpmaaTa
namespace Go.Proofs.Ytfhdnanbhigpmaa
open Go.RowKit Go.ChangeShapes Go.WideShapes Go.ChangeAt Go.Deep
set_option maxRecDepth 100000

/-- A table as a law gets it. -/
structure TA where
  A1 : Option Addr
  c1 : Nat
  A2 : Option Addr
  c2 : Nat
  A3 : Option Addr
  c3 : Nat
  t : Tb
def TA.val (g : TA) : Value := .agg #[.slice g.A1 g.t.trk.length g.c1, .slice g.A2 g.t.pats.length g.c2, .slice g.A3 g.t.dist.length g.c3]
structure TA.Ok (w : World) (g : TA) : Prop where
  h1 : IntsAt w g.A1 g.t.trk
  h2 : LAt w g.A2 g.t.pats
  h3 : IntsAt w g.A3 g.t.dist
  m1 : g.t.trk.length ≤ 9223372036854775807
  m2 : g.t.pats.length ≤ 9223372036854775807
  m3 : ∀ i, i < g.t.pats.length → (g.t.pats.getD i []).length ≤ 9223372036854775807
  m4 : g.t.dist.length ≤ 9223372036854775807
section
variable {H : Type} {enc : TypeId × Value → H} {w : World} {base : Nat} {spare : Nat → Bool} {held : Bool}

theorem ints_of_trodC {fuel : Nat} {v : Value} {x : DataW H × List MemPlace} (h : DataW.trod enc Try.prog w base spare held fuel 31 [v] = some x) :
    ∃ A c xs, v = .slice A (xs : List Int).length c ∧ IntsAt w A xs ∧ Fits xs ∧ xs.length ≤ maxLen ∧ xs.length ≤ c := by
  rcases open_ints Try.underlying31 Try.underlying2 (by kernel_rfl) h with ⟨hcs, _⟩ | ⟨a, len, cap, zs, hcs, _, hl, hm, hz, _, hcell, hwz⟩
  · simp only [List.cons.injEq, and_true] at hcs
    exact ⟨none, 0, [], hcs, IntsAt.nil _ _, fun x hx => by simp at hx, by simp, by simp⟩
  · simp only [List.cons.injEq, and_true] at hcs
    have hlz : len ≤ zs.length := by rw [hz]; split <;> omega
    have hlt : (zs.take len).length = len := by rw [List.length_take]; omega
    refine ⟨some a, cap, zs.take len, by rw [hlt]; exact hcs, fun k hk => ?_, fun x hx => i64_bounds (hwz x (List.mem_of_mem_take hx)), by omega, by omega⟩
    rw [hlt] at hk
    have hc := hcell k (by omega)
    obtain ⟨b, off, spot⟩ := a
    have hb := World.block_lt_of_cell? w _ hc
    have hspot : spot = none := by
      have := World.cell?_spot (hcell 0 (by omega))
      simpa [Addr.add] using this
    subst hspot
    have e : (⟨b, off, none⟩ : Addr).add k = ⟨b, off + k, none⟩ := by unfold Addr.add; split <;> simp_all
    rw [e] at hc hb
    refine ⟨b, off, rfl, hb, ?_⟩
    rw [hc]
    simp [List.getD_eq_getElem?_getD, hk]
theorem cellsInts : Try.prog.cellsOf 31 = 1 := by kernel_rfl
theorem lists_of_trod {fuel : Nat} {v : Value} {x : DataW H × List MemPlace} (hf : DataW.trod enc Try.prog w base spare held fuel 27 [v] = some x) :
    ∃ A c ls, v = .slice A (ls : List (List Int)).length c ∧ LAt w A ls ∧ ls.length ≤ maxLen ∧ ∀ i, i < ls.length → (ls.getD i []).length ≤ maxLen := by
  rcases open_slice Try.underlying27 hf with ⟨hcs, _⟩ | ⟨a, len, cap, m, n, D, Pl, hcs, _, hl, hm, hmm, _, hi⟩
  · simp only [List.cons.injEq, and_true] at hcs
    exact ⟨none, 0, [], hcs, fun i hi => by simp at hi, by simp, fun i hi => by simp at hi⟩
  · simp only [List.cons.injEq, and_true] at hcs
    have hmle : len ≤ m := by rw [hmm]; split <;> omega
    rw [cellsInts] at hi
    have hex : ∀ i, i < len → ∃ e : List Int, ∃ (A : Option Addr) (c : Nat), w.cell? (a.add i) = some (.slice A e.length c) ∧ IntsAt w A e ∧ e.length ≤ maxLen ∧ e.length ≤ c := by
      intro i hil
      obtain ⟨cs', hc, ht⟩ := hi i (by omega)
      obtain ⟨_, hlen, hat⟩ := World.cells?_some hc
      match cs', hlen with
      | [u], _ =>
        obtain ⟨A, c, xs, rfl, h2, _, h4, h5⟩ := ints_of_trodC ht
        have := hat 0 (by omega)
        refine ⟨xs, A, c, ?_, h2, h4, h5⟩
        simpa [add_add] using this
    obtain ⟨f, hfe⟩ := choose_lt hex
    have hget : ∀ i, i < len → ((List.range len).map f).getD i [] = f i := fun i hil => by simp [List.getD_eq_getElem?_getD, hil]
    refine ⟨some a, cap, (List.range len).map f, by simpa using hcs, fun i hil => ?_, by simp; omega, fun i hil => ?_⟩
    · have hil2 : i < len := by simpa using hil
      rw [hget i hil2]
      obtain ⟨A, c, h1, h2, h3, h4⟩ := hfe i hil2
      obtain ⟨b, off, spot⟩ := a
      have hspot : spot = none := by
        obtain ⟨_, _, g1, _⟩ := hfe 0 (by omega)
        have := World.cell?_spot g1
        simpa [Addr.add] using this
      subst hspot
      rw [Addr.add_lit] at h1
      exact ⟨b, off, A, c, rfl, World.block_lt_of_cell? w _ h1, h4, h1, h2⟩
    · have hil2 : i < len := by simpa using hil
      rw [hget i hil2]
      obtain ⟨A, c, _, _, h3, _⟩ := hfe i hil2
      exact h3
theorem arg_table {r : Reach} {b0 : Nat} {v : Value} {d : DataW H} {p : List MemPlace} (hv : Value.okWide Try.prog w r b0 66 v) (h : DataW.Trod enc Try.prog w base spare held 66 v d p) :
    ∃ g : TA, v = g.val ∧ g.Ok w := by
  obtain ⟨l, n, rfl, hl, hf⟩ := open_agg Try.underlying66 (by kernel_rfl) (by kernel_rfl) hv h
  obtain ⟨u0, y0, e0, t0⟩ := hf 0 _ rfl
  obtain ⟨u1, y1, e1, t1⟩ := hf 1 _ rfl
  obtain ⟨u2, y2, e2, t2⟩ := hf 2 _ rfl
  obtain ⟨A1, c1, xs, rfl, a1, -, a2, -⟩ := ints_of_trodC t0
  obtain ⟨A2, c2, ls, rfl, b1, b2, b3⟩ := lists_of_trod t1
  obtain ⟨A3, c3, ys, rfl, d1, -, d2, -⟩ := ints_of_trodC t2
  unfold maxLen at *
  refine ⟨⟨A1, c1, A2, c2, A3, c3, ⟨xs, ls, ys⟩⟩, ?_, ⟨a1, b1, d1, by dsimp only; omega, by dsimp only; omega, fun i hi => by have := b3 i hi; dsimp only; omega, by dsimp only; omega⟩⟩
  have hl3 : l.length = 3 := hl
  match l, hl3 with
  | [x, y, z], _ =>
    simp only [List.getElem?_cons_zero, List.getElem?_cons_succ, Option.some.injEq] at e0 e1 e2
    subst e0 e1 e2
    rfl
end
end Go.Proofs.Ytfhdnanbhigpmaa
