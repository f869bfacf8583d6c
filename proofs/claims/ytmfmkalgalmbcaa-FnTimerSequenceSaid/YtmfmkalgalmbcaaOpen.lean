/- Arguments opened: what a law's argument reads as. -/
import Derived.Test.YtmfmkalgalmbcaaFacts
import Derived.Test.YtmfmkalgalmbcaaDice
import Derived.Test.YtmfmkalgalmbcaaTe
import Derived.Deep.Slices
import Derived.Deep.Fields
import Derived.ChangeSame
import Derived.ChangeArms
namespace Go.Proofs.Ytmfmkalgalmbcaa
open Go.RowKit Go.ChangeShapes Go.WideShapes Go.ChangeAt Go.Deep
set_option maxRecDepth 100000

section
variable {H : Type} {enc : TypeId × Value → H} {w : World} {base : Nat} {spare : Nat → Bool} {held : Bool}
theorem i64_bounds {n : Int} (h : (Lit.int .i64 n).wf = true) : -9223372036854775808 ≤ n ∧ n ≤ 9223372036854775807 := by
  simpa [Lit.wf, IntKind.min, IntKind.max, IntKind.signed, IntKind.bits] using h
theorem int_of_trod {fuel : Nat} {v : Value} {x : DataW H × List MemPlace} (h : DataW.trod enc Try.prog w base spare held fuel 2 [v] = some x) :
    ∃ n : Int, v = .int .i64 n ∧ -9223372036854775808 ≤ n ∧ n ≤ 9223372036854775807 := by
  obtain ⟨n, e, _, hw⟩ := DataW.trod_int Try.underlying2 h
  simp only [List.cons.injEq, and_true] at e
  exact ⟨n, e, i64_bounds hw⟩
theorem open_agg {P : Program} {r : Reach} {b0 : Nat} {t : TypeId} {fs : Array Field} {v : Value} {d : DataW H} {p : List MemPlace} (hs : P.underlying t = some (.struct fs)) (hone : oneCellFields P fs = true)
    (hC : P.cellsOf t = fs.size) (hv : Value.okWide P w r b0 t v) (h : DataW.Trod enc P w base spare held t v d p) :
    ∃ (l : List Value) (n : Nat), v = .agg l.toArray ∧ l.length = fs.size ∧ ∀ (j : Nat) (f : Field), fs[j]? = some f → ∃ u y, l[j]? = some u ∧ DataW.trod enc P w base spare held n f.type [u] = some y := by
  obtain ⟨⟨l⟩, rfl, hsz⟩ := okWide_struct hs hv
  obtain ⟨fuel, hf⟩ := h
  obtain ⟨xs, n, _, _, _, hlen, hg⟩ := DataW.trod_struct hs hf
  refine ⟨l, n, rfl, by simpa [hC] using hsz, fun j f hj => ?_⟩
  obtain ⟨o, k⟩ := hone_of hone j f hj
  have hjl : j < fs.size := (Array.getElem?_eq_some_iff.1 hj).1
  have hl : l.length = fs.size := by simpa [hC] using hsz
  have hx : xs[j]? = some (xs[j]'(by omega)) := List.getElem?_eq_getElem (by omega)
  have hu : l[j]? = some (l[j]'(by omega)) := List.getElem?_eq_getElem (by omega)
  have h1 := hg j f hj
  rw [o, k, hx] at h1
  have e : (((Value.agg l.toArray).cells.toList.drop j).take 1) = [l[j]'(by omega)] := by
    simp only [Value.cells]
    rw [List.drop_eq_getElem_cons (by omega)]
    rfl
  rw [e] at h1
  exact ⟨_, _, hu, h1⟩


theorem bool_of_trod {fuel : Nat} {v : Value} {x : DataW H × List MemPlace} (h : DataW.trod enc Try.prog w base spare held fuel 4 [v] = some x) : ∃ b : Bool, v = .bool b := by
  obtain ⟨b, e, _⟩ := DataW.trod_bool Try.underlying4 h
  simp only [List.cons.injEq, and_true] at e
  exact ⟨b, e⟩
theorem arg_timer {r : Reach} {b0 : Nat} {v : Value} {d : DataW H} {p : List MemPlace} (hv : Value.okWide Try.prog w r b0 23 v) (h : DataW.Trod enc Try.prog w base spare held 23 v d p) :
    ∃ t : Tm, v = .agg #[.int .i64 t.ph, .int .i64 t.la, .int .i64 t.ins, .int .i64 t.dn, .int .i64 t.st, .int .i64 t.sp, .int .i64 t.pe, .bool t.fl] := by
  obtain ⟨l, n, rfl, hl, hf⟩ := open_agg Try.underlying23 (by kernel_rfl) (by kernel_rfl) hv h
  obtain ⟨u0, y0, e0, t0⟩ := hf 0 _ rfl
  obtain ⟨u1, y1, e1, t1⟩ := hf 1 _ rfl
  obtain ⟨u2, y2, e2, t2⟩ := hf 2 _ rfl
  obtain ⟨u3, y3, e3, t3⟩ := hf 3 _ rfl
  obtain ⟨u4, y4, e4, t4⟩ := hf 4 _ rfl
  obtain ⟨u5, y5, e5, t5⟩ := hf 5 _ rfl
  obtain ⟨u6, y6, e6, t6⟩ := hf 6 _ rfl
  obtain ⟨u7, y7, e7, t7⟩ := hf 7 _ rfl
  obtain ⟨a0, rfl, _⟩ := int_of_trod t0
  obtain ⟨a1, rfl, _⟩ := int_of_trod t1
  obtain ⟨a2, rfl, _⟩ := int_of_trod t2
  obtain ⟨a3, rfl, _⟩ := int_of_trod t3
  obtain ⟨a4, rfl, _⟩ := int_of_trod t4
  obtain ⟨a5, rfl, _⟩ := int_of_trod t5
  obtain ⟨a6, rfl, _⟩ := int_of_trod t6
  obtain ⟨a7, rfl⟩ := bool_of_trod t7
  refine ⟨⟨a0, a1, a2, a3, a4, a5, a6, a7⟩, ?_⟩
  match l, hl with
  | [c0, c1, c2, c3, c4, c5, c6, c7], _ =>
    simp at e0 e1 e2 e3 e4 e5 e6 e7
    subst e0 e1 e2 e3 e4 e5 e6 e7
    rfl
theorem arg_bytes {r : Reach} {b0 : Nat} {v : Value} {d : DataW H} {p : List MemPlace} (hv : Value.okWide Try.prog w r b0 35 v) (h : DataW.Trod enc Try.prog w base spare held 35 v d p) :
    ∃ A c xs, v = .slice A (xs : List Int).length c ∧ BytesAt w A xs ∧ xs.length ≤ maxLen := by
  obtain ⟨a, len, cap, rfl⟩ := okWide_slice Try.underlying35 hv
  obtain ⟨fuel, hf⟩ := h
  rcases open_ints Try.underlying35 Try.underlying5 (by kernel_rfl) hf with ⟨hcs, _⟩ | ⟨a, len, cap, zs, hcs, _, hl, hm, hz, _, hcell, hwz⟩
  · simp only [Value.cells, List.cons.injEq, and_true] at hcs
    exact ⟨none, 0, [], hcs, fun k hk => by simp at hk, by simp⟩
  · simp only [Value.cells, List.cons.injEq, and_true] at hcs
    have hlz : len ≤ zs.length := by rw [hz]; split <;> omega
    have hlt : (zs.take len).length = len := by rw [List.length_take]; omega
    refine ⟨some a, cap, zs.take len, by rw [hlt]; exact hcs, fun k hk => ?_, by omega⟩
    rw [hlt] at hk
    have hc := hcell k (by omega)
    obtain ⟨b, off, spot⟩ := a
    have hb := World.block_lt_of_cell? w _ hc
    have hspot : spot = none := by
      have := World.cell?_spot (hcell 0 (by omega))
      simpa [Addr.add] using this
    subst hspot
    have e : (⟨b, off, none⟩ : Addr).add k = ⟨b, off + k, none⟩ := by unfold Addr.add; split <;> simp_all
    rw [e] at hc hb
    have e2 : (zs.take len).getD k 0 = zs.getD k 0 := by simp [List.getD_eq_getElem?_getD, hk]
    have hw := hwz (zs.getD k 0) (by rw [getD_at _ _ (by omega)]; exact List.getElem_mem _)
    have hw2 : 0 ≤ zs.getD k 0 ∧ zs.getD k 0 ≤ 255 := by simpa [Lit.wf, IntKind.min, IntKind.max, IntKind.signed, IntKind.bits] using hw
    rw [e2]
    exact ⟨b, off, rfl, hb, hc, hw2⟩
theorem open_cells {P : Program} {t : TypeId} {fs : Array Field} (hs : P.underlying t = some (.struct fs)) (hone : oneCellFields P fs = true) (hC : P.cellsOf t = fs.size) {fuel : Nat} {cs : List Value} {x : DataW H × List MemPlace}
    (h : DataW.trod enc P w base spare held fuel t cs = some x) : cs.length = fs.size ∧ ∃ n, ∀ (j : Nat) (f : Field), fs[j]? = some f → ∃ u y, cs[j]? = some u ∧ DataW.trod enc P w base spare held n f.type [u] = some y := by
  obtain ⟨xs, n, _, _, hcl, hlen, hg⟩ := DataW.trod_struct hs h
  have hl : cs.length = fs.size := by rw [hcl, hC]
  refine ⟨hl, n, fun j f hj => ?_⟩
  obtain ⟨o, k⟩ := hone_of hone j f hj
  have hjl : j < fs.size := (Array.getElem?_eq_some_iff.1 hj).1
  have hx : xs[j]? = some (xs[j]'(by omega)) := List.getElem?_eq_getElem (by omega)
  have hu : cs[j]? = some (cs[j]'(by omega)) := List.getElem?_eq_getElem (by omega)
  have h1 := hg j f hj
  rw [o, k, hx] at h1
  have e : (cs.drop j).take 1 = [cs[j]'(by omega)] := by
    rw [List.drop_eq_getElem_cons (by omega)]
    rfl
  rw [e] at h1
  exact ⟨_, _, hu, h1⟩
theorem cellsEvt : Try.prog.cellsOf 49 = 2 := by kernel_rfl
theorem event_of_cells {fuel : Nat} {a : Addr} {i : Nat} {cs : List Value} {x : DataW H × List MemPlace} (hc : w.cells? base (a.add (i * 2)) 2 = some cs) (h : DataW.trod enc Try.prog w base spare held fuel 49 cs = some x) :
    ∃ (k t : Int), w.cell? (a.add (i * 2)) = some (.int .i64 k) ∧ w.cell? (a.add (i * 2 + 1)) = some (.int .i64 t) := by
  obtain ⟨_, hlen, hat⟩ := World.cells?_some hc
  obtain ⟨hl, n, hf⟩ := open_cells Try.underlying49 (by kernel_rfl) (by kernel_rfl) h
  obtain ⟨u0, y0, e0, t0⟩ := hf 0 _ rfl
  obtain ⟨u1, y1, e1, t1⟩ := hf 1 _ rfl
  obtain ⟨k, rfl, _⟩ := int_of_trod t0
  obtain ⟨t, rfl, _⟩ := int_of_trod t1
  refine ⟨k, t, ?_, ?_⟩
  · have := hat 0 (by omega)
    rw [e0] at this
    rwa [add_add, Nat.add_zero] at this
  · have := hat 1 (by omega)
    rw [e1] at this
    rwa [add_add] at this
theorem arg_events {r : Reach} {b0 : Nat} {v : Value} {d : DataW H} {p : List MemPlace} (hv : Value.okWide Try.prog w r b0 24 v) (h : DataW.Trod enc Try.prog w base spare held 24 v d p) :
    ∃ A c es, v = .slice A (es : List Ev).length c ∧ EvsAt w A es ∧ es.length ≤ maxLen := by
  obtain ⟨a, len, cap, rfl⟩ := okWide_slice Try.underlying24 hv
  obtain ⟨fuel, hf⟩ := h
  rcases open_slice Try.underlying24 hf with ⟨hcs, _⟩ | ⟨a, len, cap, m, n, D, Pl, hcs, _, hl, hm, hmm, _, hi⟩
  · simp only [Value.cells, List.cons.injEq, and_true] at hcs
    exact ⟨none, 0, [], hcs, EvsAt.nil _ _, by simp⟩
  · simp only [Value.cells, List.cons.injEq, and_true] at hcs
    have hmle : len ≤ m := by rw [hmm]; split <;> omega
    rw [cellsEvt] at hi
    have hex : ∀ i, i < len → ∃ e : Ev, w.cell? (a.add (i * 2)) = some (.int .i64 e.1) ∧ w.cell? (a.add (i * 2 + 1)) = some (.int .i64 e.2) := by
      intro i hil
      obtain ⟨cs', hc, ht⟩ := hi i (by omega)
      obtain ⟨k, t, h1, h2⟩ := event_of_cells hc ht
      exact ⟨(k, t), h1, h2⟩
    obtain ⟨f, hfe⟩ := choose_lt hex
    have hget : ∀ i, i < len → ((List.range len).map f).getD i (0, 0) = f i := fun i hil => by simp [List.getD_eq_getElem?_getD, hil]
    refine ⟨some a, cap, (List.range len).map f, by simpa using hcs, fun i hil => ?_, by simp; omega⟩
    have hil2 : i < len := by simpa using hil
    rw [hget i hil2]
    obtain ⟨h1, h2⟩ := hfe i hil2
    obtain ⟨b, off, spot⟩ := a
    have hspot : spot = none := by
      obtain ⟨g1, _⟩ := hfe 0 (by omega)
      have := World.cell?_spot g1
      simpa [Addr.add] using this
    subst hspot
    rw [Addr.add_lit] at h1 h2
    exact ⟨b, off, rfl, World.block_lt_of_cell? w _ h1, h1, by rw [← Nat.add_assoc] at h2; exact h2⟩
end
end Go.Proofs.Ytmfmkalgalmbcaa
