/- Arguments opened: slices of entries. -/
import Derived.Test.YtpaaolnkmopiiaaOpenE
import Derived.Test.YtpaaolnkmopiiaaEnts
namespace Go.Proofs.Ytpaaolnkmopiiaa
open Go.RowKit Go.ChangeShapes Go.WideShapes Go.ChangeAt Go.Deep
set_option maxRecDepth 100000
section
variable {H : Type} {enc : TypeId × Value → H} {w : World} {base : Nat} {spare : Nat → Bool} {held : Bool}
theorem ints_of_trod_cap {fuel : Nat} {v : Value} {x : DataW H × List MemPlace} (h : DataW.trod enc Try.prog w base spare held fuel 26 [v] = some x) :
    ∃ A c xs, v = .slice A (xs : List Int).length c ∧ IntsAt w A xs ∧ xs.length ≤ maxLen ∧ xs.length ≤ c := by
  rcases open_ints Try.underlying26 Try.underlying2 (by kernel_rfl) h with ⟨hcs, _⟩ | ⟨a, len, cap, zs, hcs, _, hl, hm, hz, _, hcell, hwz⟩
  · simp only [List.cons.injEq, and_true] at hcs
    exact ⟨none, 0, [], hcs, IntsAt.nil _ _, by simp, by simp⟩
  · simp only [List.cons.injEq, and_true] at hcs
    have hlz : len ≤ zs.length := by rw [hz]; split <;> omega
    have hlt : (zs.take len).length = len := by rw [List.length_take]; omega
    refine ⟨some a, cap, zs.take len, by rw [hlt]; exact hcs, fun k hk => ?_, by omega, by omega⟩
    rw [hlt] at hk
    have hc := hcell k (by omega)
    obtain ⟨b, off, spot⟩ := a
    have hb := World.block_lt_of_cell? w _ hc
    have hspot : spot = none := by
      have := World.cell?_spot (hcell 0 (by omega))
      simpa [Addr.add] using this
    subst hspot
    have e : (⟨b, off, none⟩ : Addr).add k = ⟨b, off + k, none⟩ := by unfold Addr.add; split <;> simp_all
    rw [e] at hc hb
    refine ⟨b, off, rfl, hb, ?_⟩
    rw [hc]
    simp [List.getD_eq_getElem?_getD, hk]
theorem open_cells {P : Program} {t : TypeId} {fs : Array Field} (hs : P.underlying t = some (.struct fs)) (hone : oneCellFields P fs = true) (hC : P.cellsOf t = fs.size) {fuel : Nat} {cs : List Value} {x : DataW H × List MemPlace}
    (h : DataW.trod enc P w base spare held fuel t cs = some x) : cs.length = fs.size ∧ ∃ n, ∀ (j : Nat) (f : Field), fs[j]? = some f → ∃ u y, cs[j]? = some u ∧ DataW.trod enc P w base spare held n f.type [u] = some y := by
  obtain ⟨xs, n, _, _, hcl, hlen, hg⟩ := DataW.trod_struct hs h
  have hl : cs.length = fs.size := by rw [hcl, hC]
  refine ⟨hl, n, fun j f hj => ?_⟩
  obtain ⟨o, k⟩ := hone_of hone j f hj
  have hjl : j < fs.size := (Array.getElem?_eq_some_iff.1 hj).1
  have hx : xs[j]? = some (xs[j]'(by omega)) := List.getElem?_eq_getElem (by omega)
  have hu : cs[j]? = some (cs[j]'(by omega)) := List.getElem?_eq_getElem (by omega)
  have h1 := hg j f hj
  rw [o, k, hx] at h1
  have e : (cs.drop j).take 1 = [cs[j]'(by omega)] := by
    rw [List.drop_eq_getElem_cons (by omega)]
    rfl
  rw [e] at h1
  exact ⟨_, _, hu, h1⟩
theorem cellsEnt : Try.prog.cellsOf 48 = 2 := by kernel_rfl
theorem entry_of_cells {fuel : Nat} {a : Addr} {i : Nat} {cs : List Value} {x : DataW H × List MemPlace} (hc : w.cells? base (a.add (i * 2)) 2 = some cs) (h : DataW.trod enc Try.prog w base spare held fuel 48 cs = some x) :
    ∃ (k : Int) (A : Option Addr) (c : Nat) (xs : List Int), w.cell? (a.add (i * 2)) = some (.int .i64 k) ∧ w.cell? (a.add (i * 2 + 1)) = some (.slice A xs.length c) ∧ IntsAt w A xs ∧ xs.length ≤ maxLen ∧ xs.length ≤ c := by
  obtain ⟨_, hlen, hat⟩ := World.cells?_some hc
  obtain ⟨hl, n, hf⟩ := open_cells Try.underlying48 (by kernel_rfl) (by kernel_rfl) h
  obtain ⟨u0, y0, e0, t0⟩ := hf 0 _ rfl
  obtain ⟨u1, y1, e1, t1⟩ := hf 1 _ rfl
  obtain ⟨k, rfl, _⟩ := int_of_trod t0
  obtain ⟨A, c, xs, rfl, hi, hm, hcap⟩ := ints_of_trod_cap t1
  refine ⟨k, A, c, xs, ?_, ?_, hi, hm, hcap⟩
  · have := hat 0 (by omega)
    rw [e0] at this
    rwa [add_add, Nat.add_zero] at this
  · have := hat 1 (by omega)
    rw [e1] at this
    rwa [add_add] at this
theorem arg_entries {r : Reach} {b0 : Nat} {v : Value} {d : DataW H} {p : List MemPlace} (hv : Value.okWide Try.prog w r b0 24 v) (h : DataW.Trod enc Try.prog w base spare held 24 v d p) :
    ∃ A c es, v = .slice A (es : List Ent).length c ∧ EntsAt w A es ∧ es.length ≤ maxLen ∧ ∀ i, i < es.length → (es.getD i (0, [])).2.length ≤ maxLen := by
  obtain ⟨a, len, cap, rfl⟩ := okWide_slice Try.underlying24 hv
  obtain ⟨fuel, hf⟩ := h
  rcases open_slice Try.underlying24 hf with ⟨hcs, _⟩ | ⟨a, len, cap, m, n, D, Pl, hcs, _, hl, hm, hmm, _, hi⟩
  · simp only [Value.cells, List.cons.injEq, and_true] at hcs
    exact ⟨none, 0, [], hcs, EntsAt.nil _ _, by simp, fun i hi => by simp at hi⟩
  · simp only [Value.cells, List.cons.injEq, and_true] at hcs
    have hmle : len ≤ m := by rw [hmm]; split <;> omega
    rw [cellsEnt] at hi
    have hex : ∀ i, i < len → ∃ e : Ent, ∃ (A : Option Addr) (c : Nat), w.cell? (a.add (i * 2)) = some (.int .i64 e.1) ∧ w.cell? (a.add (i * 2 + 1)) = some (.slice A e.2.length c) ∧ IntsAt w A e.2 ∧ e.2.length ≤ maxLen ∧ e.2.length ≤ c := by
      intro i hil
      obtain ⟨cs', hc, ht⟩ := hi i (by omega)
      obtain ⟨k, A, c, xs, h1, h2, h3, h4, h5⟩ := entry_of_cells hc ht
      exact ⟨(k, xs), A, c, h1, h2, h3, h4, h5⟩
    obtain ⟨f, hfe⟩ := choose_lt hex
    have hget : ∀ i, i < len → ((List.range len).map f).getD i (0, []) = f i := fun i hil => by simp [List.getD_eq_getElem?_getD, hil]
    refine ⟨some a, cap, (List.range len).map f, by simpa using hcs, fun i hil => ?_, by simp; omega, fun i hil => ?_⟩
    · have hil2 : i < len := by simpa using hil
      rw [hget i hil2]
      obtain ⟨A, c, h1, h2, h3, _, h5⟩ := hfe i hil2
      obtain ⟨b, off, spot⟩ := a
      have hspot : spot = none := by
        obtain ⟨_, _, g1, _⟩ := hfe 0 (by omega)
        have := World.cell?_spot g1
        simpa [Addr.add] using this
      subst hspot
      rw [Addr.add_lit] at h1 h2
      exact ⟨b, off, rfl, World.block_lt_of_cell? w _ h1, A, c, h5, h1, by rw [← Nat.add_assoc] at h2; exact h2, h3⟩
    · have hil2 : i < len := by simpa using hil
      rw [hget i hil2]
      obtain ⟨A, c, _, _, _, h4, _⟩ := hfe i hil2
      exact h4
end
end Go.Proofs.Ytpaaolnkmopiiaa
