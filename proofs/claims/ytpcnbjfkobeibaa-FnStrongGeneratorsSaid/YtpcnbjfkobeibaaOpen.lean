/- Arguments opened: a number, numbers, lists of numbers. -/
import Derived.Test.YtpcnbjfkobeibaaLs
import Derived.Test.YtpcnbjfkobeibaaFacts
import Derived.Test.YtpcnbjfkobeibaaDice
import Derived.Deep.Slices
import Derived.Deep.Fields
import Derived.ChangeSame
namespace Go.Proofs.Ytpcnbjfkobeibaa
open Go.RowKit Go.ChangeShapes Go.WideShapes Go.ChangeAt Go.Deep
set_option maxRecDepth 100000

section
variable {H : Type} {enc : TypeId × Value → H} {w : World} {base : Nat} {spare : Nat → Bool} {held : Bool}

theorem i64_bounds {n : Int} (h : (Lit.int .i64 n).wf = true) : -9223372036854775808 ≤ n ∧ n ≤ 9223372036854775807 := by
  simpa [Lit.wf, IntKind.min, IntKind.max, IntKind.signed, IntKind.bits] using h
theorem ints_of_trod {fuel : Nat} {v : Value} {x : DataW H × List MemPlace} (h : DataW.trod enc Try.prog w base spare held fuel 23 [v] = some x) :
    ∃ A c xs, v = .slice A (xs : List Int).length c ∧ IntsAt w A xs ∧ Fits xs ∧ xs.length ≤ maxLen ∧ xs.length ≤ c := by
  rcases open_ints Try.underlying23 Try.underlying2 (by kernel_rfl) h with ⟨hcs, _⟩ | ⟨a, len, cap, zs, hcs, _, hl, hm, hz, _, hcell, hwz⟩
  · simp only [List.cons.injEq, and_true] at hcs
    exact ⟨none, 0, [], hcs, IntsAt.nil _ _, fun x hx => by simp at hx, by simp, by simp⟩
  · simp only [List.cons.injEq, and_true] at hcs
    have hlz : len ≤ zs.length := by rw [hz]; split <;> omega
    have hlt : (zs.take len).length = len := by rw [List.length_take]; omega
    refine ⟨some a, cap, zs.take len, by rw [hlt]; exact hcs, fun k hk => ?_, fun x hx => i64_bounds (hwz x (List.mem_of_mem_take hx)), by omega, by omega⟩
    rw [hlt] at hk
    have hc := hcell k (by omega)
    obtain ⟨b, off, spot⟩ := a
    have hb := World.block_lt_of_cell? w _ hc
    have hspot : spot = none := by
      have := World.cell?_spot (hcell 0 (by omega))
      simpa [Addr.add] using this
    subst hspot
    have e : (⟨b, off, none⟩ : Addr).add k = ⟨b, off + k, none⟩ := by unfold Addr.add; split <;> simp_all
    rw [e] at hc hb
    refine ⟨b, off, rfl, hb, ?_⟩
    rw [hc]
    simp [List.getD_eq_getElem?_getD, hk]
theorem arg_int {r : Reach} {b0 : Nat} {v : Value} {d : DataW H} {p : List MemPlace} (hv : Value.okWide Try.prog w r b0 2 v) (h : DataW.Trod enc Try.prog w base spare held 2 v d p) :
    ∃ n : Int, v = .int .i64 n ∧ -9223372036854775808 ≤ n ∧ n ≤ 9223372036854775807 := by
  obtain ⟨a, rfl, _, _, wa⟩ := open_int Try.underlying2 hv h
  exact ⟨a, rfl, i64_bounds wa⟩
theorem arg_ints {r : Reach} {b0 : Nat} {v : Value} {d : DataW H} {p : List MemPlace} (hv : Value.okWide Try.prog w r b0 23 v) (h : DataW.Trod enc Try.prog w base spare held 23 v d p) :
    ∃ A c xs, v = .slice A (xs : List Int).length c ∧ IntsAt w A xs ∧ Fits xs ∧ xs.length ≤ maxLen := by
  obtain ⟨a, len, cap, rfl⟩ := okWide_slice Try.underlying23 hv
  obtain ⟨fuel, hf⟩ := h
  obtain ⟨A, c, xs, h1, h2, h3, h4, _⟩ := ints_of_trod hf
  exact ⟨A, c, xs, h1, h2, h3, h4⟩
theorem arg_bytes {r : Reach} {b0 : Nat} {v : Value} {d : DataW H} {p : List MemPlace} (hv : Value.okWide Try.prog w r b0 37 v) (h : DataW.Trod enc Try.prog w base spare held 37 v d p) :
    ∃ A c xs, v = .slice A (xs : List Int).length c ∧ BytesAt w A xs ∧ xs.length ≤ maxLen := by
  obtain ⟨a, len, cap, rfl⟩ := okWide_slice Try.underlying37 hv
  obtain ⟨fuel, hf⟩ := h
  rcases open_ints Try.underlying37 Try.underlying5 (by kernel_rfl) hf with ⟨hcs, _⟩ | ⟨a, len, cap, zs, hcs, _, hl, hm, hz, _, hcell, hwz⟩
  · simp only [Value.cells, List.cons.injEq, and_true] at hcs
    exact ⟨none, 0, [], hcs, fun k hk => by simp at hk, by simp⟩
  · simp only [Value.cells, List.cons.injEq, and_true] at hcs
    have hlz : len ≤ zs.length := by rw [hz]; split <;> omega
    have hlt : (zs.take len).length = len := by rw [List.length_take]; omega
    refine ⟨some a, cap, zs.take len, by rw [hlt]; exact hcs, fun k hk => ?_, by omega⟩
    rw [hlt] at hk
    have hc := hcell k (by omega)
    obtain ⟨b, off, spot⟩ := a
    have hb := World.block_lt_of_cell? w _ hc
    have hspot : spot = none := by
      have := World.cell?_spot (hcell 0 (by omega))
      simpa [Addr.add] using this
    subst hspot
    have e : (⟨b, off, none⟩ : Addr).add k = ⟨b, off + k, none⟩ := by unfold Addr.add; split <;> simp_all
    rw [e] at hc hb
    have e2 : (zs.take len).getD k 0 = zs.getD k 0 := by simp [List.getD_eq_getElem?_getD, hk]
    have hw := hwz (zs.getD k 0) (by rw [getD_at _ _ (by omega)]; exact List.getElem_mem _)
    have hw2 : 0 ≤ zs.getD k 0 ∧ zs.getD k 0 ≤ 255 := by simpa [Lit.wf, IntKind.min, IntKind.max, IntKind.signed, IntKind.bits] using hw
    rw [e2]
    exact ⟨b, off, rfl, hb, hc, hw2⟩
theorem cellsInts : Try.prog.cellsOf 23 = 1 := by kernel_rfl
theorem arg_intss {r : Reach} {b0 : Nat} {v : Value} {d : DataW H} {p : List MemPlace} (hv : Value.okWide Try.prog w r b0 22 v) (h : DataW.Trod enc Try.prog w base spare held 22 v d p) :
    ∃ A c ls, v = .slice A (ls : List (List Int)).length c ∧ LAt w A ls ∧ ls.length ≤ maxLen ∧ ∀ i, i < ls.length → (ls.getD i []).length ≤ maxLen := by
  obtain ⟨a, len, cap, rfl⟩ := okWide_slice Try.underlying22 hv
  obtain ⟨fuel, hf⟩ := h
  rcases open_slice Try.underlying22 hf with ⟨hcs, _⟩ | ⟨a, len, cap, m, n, D, Pl, hcs, _, hl, hm, hmm, _, hi⟩
  · simp only [Value.cells, List.cons.injEq, and_true] at hcs
    exact ⟨none, 0, [], hcs, fun i hi => by simp at hi, by simp, fun i hi => by simp at hi⟩
  · simp only [Value.cells, List.cons.injEq, and_true] at hcs
    have hmle : len ≤ m := by rw [hmm]; split <;> omega
    rw [cellsInts] at hi
    have hex : ∀ i, i < len → ∃ e : List Int, ∃ (A : Option Addr) (c : Nat), w.cell? (a.add i) = some (.slice A e.length c) ∧ IntsAt w A e ∧ e.length ≤ maxLen ∧ e.length ≤ c := by
      intro i hil
      obtain ⟨cs', hc, ht⟩ := hi i (by omega)
      obtain ⟨_, hlen, hat⟩ := World.cells?_some hc
      match cs', hlen with
      | [u], _ =>
        obtain ⟨A, c, xs, rfl, h2, _, h4, h5⟩ := ints_of_trod ht
        have := hat 0 (by omega)
        refine ⟨xs, A, c, ?_, h2, h4, h5⟩
        simpa [add_add] using this
    obtain ⟨f, hfe⟩ := choose_lt hex
    have hget : ∀ i, i < len → ((List.range len).map f).getD i [] = f i := fun i hil => by simp [List.getD_eq_getElem?_getD, hil]
    refine ⟨some a, cap, (List.range len).map f, by simpa using hcs, fun i hil => ?_, by simp; omega, fun i hil => ?_⟩
    · have hil2 : i < len := by simpa using hil
      rw [hget i hil2]
      obtain ⟨A, c, h1, h2, h3, h4⟩ := hfe i hil2
      obtain ⟨b, off, spot⟩ := a
      have hspot : spot = none := by
        obtain ⟨_, _, g1, _⟩ := hfe 0 (by omega)
        have := World.cell?_spot g1
        simpa [Addr.add] using this
      subst hspot
      rw [Addr.add_lit] at h1
      exact ⟨b, off, A, c, rfl, World.block_lt_of_cell? w _ h1, h4, h1, h2⟩
    · have hil2 : i < len := by simpa using hil
      rw [hget i hil2]
      obtain ⟨A, c, _, _, h3, _⟩ := hfe i hil2
      exact h3
end
end Go.Proofs.Ytpcnbjfkobeibaa
