/- A stabilizer chain in memory: its rows of representatives and its lists of generators. Conditions: as each lemma says. -/
import Derived.Test.YtpcnbjfkobeibaaId
import Derived.Test.YtpcnbjfkobeibaaGD
namespace Go.Proofs.Ytpcnbjfkobeibaa
open Go.RowKit Grp

variable {ok : Nat → Prop}
theorem gRefl (w : World) (row : Option Nat) : w.grownBy w row := ⟨rfl, rfl, rfl, Nat.le_refl _, fun _ _ _ => rfl⟩
theorem rowB {w w' : World} {H : Nat} {o : Obj} (hb : Below w.heap.size w w') (h : w.heap[H]? = some o) : w'.heap[H]? = some o := (hb.block H (Array.getElem?_eq_some_iff.1 h).1).trans h
theorem rowS {w : World} {H : Nat} {o : Obj} {a : Addr} {v : Value} (h : w.heap[H]? = some o) (hne : H ≠ a.block) : (w.setCell a v).heap[H]? = some o := (heap_setCell_other w a H v hne).trans h
theorem row_free {w : World} {g : Nat} {cs : Array Value} {p : Nat} {T : TypeId} (h : w.heap[g]? = some (.cells cs T (0, 0))) : w.frozen? ⟨g, p, none⟩ = false := by simp [World.frozen?, h]
theorem row_lt {w : World} {g : Nat} {o : Obj} (h : w.heap[g]? = some o) : g < w.heap.size := (Array.getElem?_eq_some_iff.1 h).1
theorem list_cell {w : World} {g : Nat} {cs : List Value} {T : TypeId} {p : Nat} {v : Value} (h : w.heap[g]? = some (.cells cs.toArray T (0, 0))) (hp : cs[p]? = some v) : w.cell? ⟨g, p, none⟩ = some v := by
  rw [cell_of_row w g p _ _ (0, 0) h, List.getElem?_toArray]; exact hp
theorem list_store {w : World} {g : Nat} {cs : List Value} {T : TypeId} {p : Nat} (v : Value) (h : w.heap[g]? = some (.cells cs.toArray T (0, 0))) : (w.setCell ⟨g, p, none⟩ v).heap[g]? = some (.cells (cs.set p v).toArray T (0, 0)) := by
  have := heap_setCell_same w g p _ _ v h
  simpa using this
/-- Blocks of numbers of which ok holds stay as they are. -/
def KeepI (ok : Nat → Prop) (w w' : World) : Prop := w.heap.size ≤ w'.heap.size ∧ ∀ (b : Nat) (cs : Array Value), ok b → w.heap[b]? = some (Obj.cells cs 2 (0, 0)) → w'.heap[b]? = some (Obj.cells cs 2 (0, 0))
theorem KeepI.refl (w : World) : KeepI ok w w := ⟨Nat.le_refl _, fun _ _ _ h => h⟩
theorem KeepI.trans {a b c : World} (h : KeepI ok a b) (h2 : KeepI ok b c) : KeepI ok a c := ⟨Nat.le_trans h.1 h2.1, fun k cs o e => h2.2 k cs o (h.2 k cs o e)⟩
theorem KeepI.below {w w' : World} (hb : Below w.heap.size w w') : KeepI ok w w' := ⟨hb.size, fun _ _ _ e => rowB hb e⟩
theorem KeepI.set {w : World} {g p : Nat} {cs : Array Value} {T : TypeId} {z : Nat × Nat} (v : Value) (h : w.heap[g]? = some (.cells cs T z)) (ht : T ≠ 2) : KeepI ok w (w.setCell ⟨g, p, none⟩ v) := by
  refine ⟨by simp, fun b cs' _ e => rowS e fun e2 => ?_⟩
  dsimp only at e2
  rw [e2, h] at e
  simp at e
  exact ht e.2.1
theorem KeepI.grown {w w' : World} {g : Nat} {cs : Array Value} {T : TypeId} {z : Nat × Nat} (hg : w.grownBy w' (some g)) (h : w.heap[g]? = some (.cells cs T z)) (ht : T ≠ 2) : KeepI ok w w' := by
  refine ⟨hg.size, fun b cs' _ e => (hg.block b (row_lt e) fun e2 => ?_).trans e⟩
  injection e2 with e2
  rw [e2, h] at e
  simp at e
  exact ht e.2.1
theorem KeepI.grown0 {w w' : World} (hg : w.grownBy w' none) : KeepI ok w w' := ⟨hg.size, fun b _ _ e => (hg.block b (row_lt e) (by simp)).trans e⟩
theorem KeepI.grownQ {w w' : World} {g : Nat} (hg : w.grownBy w' (some g)) (hn : ¬ ok g) : KeepI ok w w' := ⟨hg.size, fun b _ o e => (hg.block b (row_lt e) (fun e2 => hn (by injection e2 with e2; rw [← e2]; exact o))).trans e⟩
/-- v is a slice of the permutation p, at the start of a block of numbers. -/
def PermV (ok : Nat → Prop) (w : World) (v : Value) (n : Nat) (p : List Nat) : Prop :=
  p.length = n ∧ ∃ g c cs, ok g ∧ v = .slice (some ⟨g, 0, none⟩) n c ∧ w.heap[g]? = some (.cells cs 2 (0, 0)) ∧ IntsAt w (some ⟨g, 0, none⟩) (natI p)
theorem PermV.keep {w w' : World} {v : Value} {n : Nat} {p : List Nat} (h : PermV ok w v n p) (hk : KeepI ok w w') : PermV ok w' v n p := by
  obtain ⟨h1, g, c, cs, h0, h2, h3, h4⟩ := h
  have h5 := hk.2 g cs h0 h3
  refine ⟨h1, g, c, cs, h0, h2, h5, fun k hkl => ?_⟩
  obtain ⟨b, off, e, hlt, hc⟩ := h4 k hkl
  injection e with e
  injection e with e1 e2
  subst e1 e2
  refine ⟨g, 0, rfl, row_lt h5, ?_⟩
  rw [cell_of_row w' g _ _ _ (0, 0) h5]
  rwa [cell_of_row w g _ _ _ (0, 0) h3] at hc
theorem PermV.ints {w : World} {v : Value} {n : Nat} {p : List Nat} (h : PermV ok w v n p) : ∃ g c, v = .slice (some ⟨g, 0, none⟩) n c ∧ IntsAt w (some ⟨g, 0, none⟩) (natI p) ∧ p.length = n := by
  obtain ⟨h1, g, c, cs, _, h2, _, h4⟩ := h
  exact ⟨g, c, h2, h4, h1⟩
theorem Fresh.perm {B : Nat} {w : World} {v : Value} {p : List Nat} {n : Nat} (h : Fresh B w v (natI p)) (hp : p.length = n) (hn : 0 < n) (ho : ∀ b, B ≤ b → b < w.heap.size → ok b) : PermV ok w v n p := by
  have hi := h.ints
  have hl := natI_len p
  rcases h.2 with ⟨rfl, h0⟩ | ⟨g, cap, cur, rfl, hb, hg, hnc, hcm, hcs, htake⟩
  · omega
  · obtain ⟨A, c, e, h2, _⟩ := hi
    simp only [Value.slice.injEq] at e
    obtain ⟨e1, _, e3⟩ := e
    subst e1 e3
    exact ⟨hp, g, _, cur, ho g hb (row_lt hg), by rw [hl, hp], hg, h2⟩
theorem PermV.weak {ok' : Nat → Prop} {w : World} {v : Value} {n : Nat} {p : List Nat} (h : PermV ok w v n p) (ho : ∀ b, ok b → b < w.heap.size → ok' b) : PermV ok' w v n p := by
  obtain ⟨h1, g, c, cs, h0, h2, h3, h4⟩ := h
  exact ⟨h1, g, c, cs, ho g h0 (row_lt h3), h2, h3, h4⟩
def RepV (ok : Nat → Prop) (w : World) (v : Value) (n : Nat) : Option (List Nat) → Prop
  | none => v = .slice none 0 0
  | some t => PermV ok w v n t
theorem RepV.keep {w w' : World} {v : Value} {n : Nat} {o : Option (List Nat)} (h : RepV ok w v n o) (hk : KeepI ok w w') : RepV ok w' v n o := by
  cases o with
  | none => exact h
  | some t => exact PermV.keep h hk
/-- A list of permutations of the call's own. -/
def GenV (ok : Nat → Prop) (B n : Nat) (w : World) (v : Value) (l : List (List Nat)) : Prop :=
  ∃ cs : List Value, w.ownsRow B 23 1 v l.length cs ∧ ∀ j, j < l.length → ∃ u, cs[j]? = some u ∧ PermV ok w u n (l.getD j [])
theorem GenV.kept {B n : Nat} {w w' : World} {v : Value} {l : List (List Nat)} {row : Option Nat} (h : GenV ok B n w v l) (hg : w.grownBy w' row) (hk : KeepI ok w w') (hne : ∀ b, v.ownBlock = some b → row ≠ some b) : GenV ok B n w' v l := by
  obtain ⟨cs, h1, h2⟩ := h
  refine ⟨cs, h1.kept hg ?_, fun j hj => ?_⟩
  · cases hv : v.ownBlock with
    | none => exact .inl rfl
    | some b => exact .inr fun e => hne b hv e.symm
  · obtain ⟨u, a, b⟩ := h2 j hj
    exact ⟨u, a, b.keep hk⟩
theorem GenV.shape {B n : Nat} {w : World} {v : Value} {l : List (List Nat)} (h : GenV ok B n w v l) : ∃ A c, v = .slice A l.length c ∧ ∀ j, j < l.length → ∃ g u, A = some ⟨g, 0, none⟩ ∧ g < w.heap.size ∧ w.cell? ⟨g, j, none⟩ = some u ∧ PermV ok w u n (l.getD j []) := by
  obtain ⟨cs, h1, h2⟩ := h
  rcases h1.2 with ⟨rfl, hn⟩ | ⟨g, cap, cur, rfl, hb, hg, hnc, hcm, hcs, htake⟩
  · exact ⟨none, 0, by rw [hn], fun j hj => by omega⟩
  · refine ⟨_, cap, rfl, fun j hj => ?_⟩
    obtain ⟨u, a, b⟩ := h2 j hj
    refine ⟨g, u, rfl, row_lt hg, ?_, b⟩
    rw [World.ownsRow.cellAt h1 j (by omega)]
    exact a
theorem GenV.lt {B n : Nat} {w : World} {v : Value} {l : List (List Nat)} (h : GenV ok B n w v l) {b : Nat} (hb : v.ownBlock = some b) : B ≤ b ∧ b < w.heap.size := by
  obtain ⟨cs, h1, h2⟩ := h
  exact World.ownsRow.lt h1 b hb
theorem GenV.block {B n : Nat} {w : World} {v : Value} {l : List (List Nat)} (h : GenV ok B n w v l) {b : Nat} (hb : v.ownBlock = some b) : ∃ cs, w.heap[b]? = some (.cells cs 23 (0, 0)) := by
  obtain ⟨cs, h1, h2⟩ := h
  rcases h1.2 with ⟨rfl, hn⟩ | ⟨g, cap, cur, rfl, _, hg, _⟩
  · simp [Value.ownBlock] at hb
  · simp [Value.ownBlock] at hb
    subst hb
    exact ⟨_, hg⟩
/-- The places of a chain's parts. -/
structure Sh where
  Rb : Nat
  Gb : Nat
  cr : Nat
  cg : Nat
  R : Nat → Nat
structure Body (ok : Nat → Prop) (B n : Nat) (w : World) (s : Sh) (T : Tab) (Gs : Nat → List (List Nat)) : Prop where
  rb : ∃ rs : List Value, w.heap[s.Rb]? = some (.cells rs.toArray 22 (0, 0)) ∧ ∀ i, i < n → rs[i]? = some (.slice (some ⟨s.R i, 0, none⟩) n n)
  row : ∀ i, i < n → ∃ cs : List Value, w.heap[s.R i]? = some (.cells cs.toArray 23 (0, 0)) ∧ ∀ y, y < n → ∃ v, cs[y]? = some v ∧ RepV ok w v n (T i y)
  gb : ∃ gs : List Value, w.heap[s.Gb]? = some (.cells gs.toArray 22 (0, 0)) ∧ ∀ i, i < n → ∃ v, gs[i]? = some v ∧ GenV ok B n w v (Gs i) ∧
    (∀ b, v.ownBlock = some b → (∀ j, j < n → b ≠ s.R j) ∧ ∀ j u, j < n → gs[j]? = some u → u.ownBlock = some b → i = j)
  inj : ∀ i j, i < n → j < n → s.R i = s.R j → i = j
  ne : s.Rb ≠ s.Gb
  B1 : B ≤ s.Rb
  B2 : B ≤ s.Gb
  B3 : ∀ i, i < n → B ≤ s.R i
theorem gB {w w' : World} (hb : Below w.heap.size w w') (row : Option Nat) : w.grownBy w' row := ⟨hb.os, hb.tape, hb.output, hb.size, fun k hk _ => hb.block k hk⟩
theorem Body.below {B n : Nat} {w w' : World} {s : Sh} {T : Tab} {Gs : Nat → List (List Nat)} (h : Body ok B n w s T Gs) (hb : Below w.heap.size w w') : Body ok B n w' s T Gs := by
  obtain ⟨⟨rs, r1, r2⟩, row, ⟨gs, g1, g2⟩, inj, ne, B1, B2, B3⟩ := h
  have hk : KeepI ok w w' := KeepI.below hb
  refine ⟨⟨rs, rowB hb r1, r2⟩, fun i hi => ?_, ⟨gs, rowB hb g1, fun i hi => ?_⟩, inj, ne, B1, B2, B3⟩
  · obtain ⟨cs, c1, c2⟩ := row i hi
    refine ⟨cs, rowB hb c1, fun y hy => ?_⟩
    obtain ⟨v, a, b⟩ := c2 y hy
    exact ⟨v, a, b.keep hk⟩
  · obtain ⟨v, a, b, c⟩ := g2 i hi
    exact ⟨v, a, b.kept (gB hb none) hk (by simp), c⟩
theorem Body.drewN {B n : Nat} {w : World} {s : Sh} {T : Tab} {Gs : Nat → List (List Nat)} (h : Body ok B n w s T Gs) (k : Nat) : Body ok B n (w.drewN k) s T Gs := h.below (belowDrewN (Below.refl _ _) k)
theorem Body.readRb {B n : Nat} {w : World} {s : Sh} {T : Tab} {Gs : Nat → List (List Nat)} (h : Body ok B n w s T Gs) {i : Nat} (hi : i < n) : w.cell? ⟨s.Rb, i, none⟩ = some (.slice (some ⟨s.R i, 0, none⟩) n n) := by
  obtain ⟨rs, r1, r2⟩ := h.rb
  exact list_cell r1 (r2 i hi)
theorem Body.readRow {B n : Nat} {w : World} {s : Sh} {T : Tab} {Gs : Nat → List (List Nat)} (h : Body ok B n w s T Gs) {i y : Nat} (hi : i < n) (hy : y < n) :
    ∃ v, w.cell? ⟨s.R i, y, none⟩ = some v ∧ RepV ok w v n (T i y) ∧ w.frozen? ⟨s.R i, y, none⟩ = false := by
  obtain ⟨cs, c1, c2⟩ := h.row i hi
  obtain ⟨v, a, b⟩ := c2 y hy
  exact ⟨v, list_cell c1 a, b, row_free c1⟩
theorem Body.readGb {B n : Nat} {w : World} {s : Sh} {T : Tab} {Gs : Nat → List (List Nat)} (h : Body ok B n w s T Gs) {i : Nat} (hi : i < n) :
    ∃ v, w.cell? ⟨s.Gb, i, none⟩ = some v ∧ GenV ok B n w v (Gs i) ∧ w.frozen? ⟨s.Gb, i, none⟩ = false := by
  obtain ⟨gs, g1, g2⟩ := h.gb
  obtain ⟨v, a, b, _⟩ := g2 i hi
  exact ⟨v, list_cell g1 a, b, row_free g1⟩
theorem Body.weak {ok' : Nat → Prop} {B n : Nat} {w : World} {s : Sh} {T : Tab} {Gs : Nat → List (List Nat)} (h : Body ok B n w s T Gs) (ho : ∀ b, ok b → b < w.heap.size → ok' b) : Body ok' B n w s T Gs := by
  obtain ⟨r, row, ⟨gs, g1, g2⟩, inj, ne, B1, B2, B3⟩ := h
  refine ⟨r, fun i hi => ?_, ⟨gs, g1, fun i hi => ?_⟩, inj, ne, B1, B2, B3⟩
  · obtain ⟨cs, c1, c2⟩ := row i hi
    refine ⟨cs, c1, fun y hy => ?_⟩
    obtain ⟨v, a, b⟩ := c2 y hy
    refine ⟨v, a, ?_⟩
    cases hT : T i y with
    | none => rw [hT] at b; exact b
    | some t => rw [hT] at b; exact PermV.weak b ho
  · obtain ⟨v, a, ⟨cs, b1, b2⟩, c⟩ := g2 i hi
    refine ⟨v, a, ⟨cs, b1, fun j hj => ?_⟩, c⟩
    obtain ⟨u, d, e⟩ := b2 j hj
    exact ⟨u, d, e.weak ho⟩
/-- A block of numbers that no permutation lies in has changed. -/
theorem Body.other {B n : Nat} {w w' : World} {s : Sh} {T : Tab} {Gs : Nat → List (List Nat)} {g : Nat} {ds : Array Value} (h : Body ok B n w s T Gs) (hg : w.grownBy w' (some g)) (hd : w.heap[g]? = some (.cells ds 2 (0, 0))) (hn : ¬ ok g) : Body ok B n w' s T Gs := by
  obtain ⟨⟨rs, r1, r2⟩, row, ⟨gs, g1, g2⟩, inj, ne, B1, B2, B3⟩ := h
  have hk : KeepI ok w w' := KeepI.grownQ hg hn
  have keep : ∀ {H : Nat} {cs : Array Value} {t : TypeId}, w.heap[H]? = some (.cells cs t (0, 0)) → t ≠ 2 → w'.heap[H]? = some (.cells cs t (0, 0)) := by
    intro H cs t hH ht
    refine (hg.block H (row_lt hH) fun e => ?_).trans hH
    injection e with e
    rw [e, hd] at hH
    simp at hH
    exact ht hH.2.symm
  refine ⟨⟨rs, keep r1 (by decide), r2⟩, fun i hi => ?_, ⟨gs, keep g1 (by decide), fun i hi => ?_⟩, inj, ne, B1, B2, B3⟩
  · obtain ⟨cs, c1, c2⟩ := row i hi
    refine ⟨cs, keep c1 (by decide), fun y hy => ?_⟩
    obtain ⟨v, a, b⟩ := c2 y hy
    exact ⟨v, a, b.keep hk⟩
  · obtain ⟨v, a, b, c⟩ := g2 i hi
    refine ⟨v, a, b.kept hg hk fun q hq e => ?_, c⟩
    injection e with e
    obtain ⟨es, he⟩ := b.block hq
    rw [← e, hd] at he
    simp at he
/-- A representative is laid in its row. -/
theorem Body.setRow {B n : Nat} {w : World} {s : Sh} {T : Tab} {Gs : Nat → List (List Nat)} (h : Body ok B n w s T Gs) {i y : Nat} (hi : i < n) (_hy : y < n) {v : Value} {t : List Nat} (hv : PermV ok w v n t) :
    Body ok B n (w.setCell ⟨s.R i, y, none⟩ v) s (updT T i y t) Gs ∧ KeepI ok w (w.setCell ⟨s.R i, y, none⟩ v) ∧ Below B w (w.setCell ⟨s.R i, y, none⟩ v) := by
  obtain ⟨⟨rs, r1, r2⟩, row, ⟨gs, g1, g2⟩, inj, ne, B1, B2, B3⟩ := h
  obtain ⟨cs, c1, c2⟩ := row i hi
  have hk : KeepI ok w (w.setCell ⟨s.R i, y, none⟩ v) := KeepI.set v c1 (by decide)
  have hgr : w.grownBy (w.setCell ⟨s.R i, y, none⟩ v) (some (s.R i)) := ⟨rfl, rfl, rfl, by simp, fun k _ hne => heap_setCell_other w ⟨s.R i, y, none⟩ k v (fun e => hne (by rw [e]))⟩
  have hRb : s.Rb ≠ s.R i := fun e => by rw [e, c1] at r1; simp at r1
  have hGb : s.Gb ≠ s.R i := fun e => by rw [e, c1] at g1; simp at g1
  refine ⟨⟨⟨rs, rowS r1 hRb, r2⟩, fun j hj => ?_, ⟨gs, rowS g1 hGb, fun j hj => ?_⟩, inj, ne, B1, B2, B3⟩, hk, (Below.refl _ _).setCell (p := ⟨s.R i, y, none⟩) (B3 i hi) _⟩
  · by_cases e : j = i
    · subst e
      refine ⟨_, list_store v c1, fun z hz => ?_⟩
      obtain ⟨u, a, b⟩ := c2 z hz
      by_cases ez : z = y
      · subst ez
        refine ⟨v, ?_, ?_⟩
        · rw [List.getElem?_set, if_pos rfl, if_pos (by have := (List.getElem?_eq_some_iff.1 a).1; exact this)]
        · simp only [updT, and_self, if_true]
          exact PermV.keep hv hk
      · refine ⟨u, ?_, ?_⟩
        · rw [List.getElem?_set, if_neg (fun e => ez e.symm)]; exact a
        · simp only [updT, ez, and_false, if_false]
          exact b.keep hk
    · obtain ⟨ds, d1, d2⟩ := row j hj
      refine ⟨ds, rowS d1 (fun e2 => e (inj j i hj hi e2)), fun z hz => ?_⟩
      obtain ⟨u, a, b⟩ := d2 z hz
      refine ⟨u, a, ?_⟩
      simp only [updT, e, false_and, if_false]
      exact b.keep hk
  · obtain ⟨u, a, b, c⟩ := g2 j hj
    refine ⟨u, a, b.kept hgr hk fun q hq e2 => ?_, c⟩
    injection e2 with e2
    exact (c q hq).1 i hi e2.symm
def updG (Gs : Nat → List (List Nat)) (i : Nat) (l : List (List Nat)) : Nat → List (List Nat) := fun a => if a = i then l else Gs a
/-- A generator has been appended to a level's list, and the list is laid in its place. -/
theorem Body.setGen {B n : Nat} {w w2 : World} {s : Sh} {T : Tab} {Gs : Nat → List (List Nat)} (h : Body ok B n w s T Gs) {i : Nat} (hi : i < n) {v v2 : Value} {l : List (List Nat)} (hc : w.cell? ⟨s.Gb, i, none⟩ = some v)
    (hg : w.grownBy w2 v.ownBlock) (h2 : GenV ok B n w2 v2 l) (hat : v2.ownBlock = v.ownBlock ∨ v2.ownBlock = some w.heap.size) :
    Body ok B n (w2.setCell ⟨s.Gb, i, none⟩ v2) s T (updG Gs i l) ∧ KeepI ok w (w2.setCell ⟨s.Gb, i, none⟩ v2) ∧ Below B w (w2.setCell ⟨s.Gb, i, none⟩ v2) := by
  obtain ⟨⟨rs, r1, r2⟩, row, ⟨gs, g1, g2⟩, inj, ne, B1, B2, B3⟩ := h
  obtain ⟨v', a, b, c⟩ := g2 i hi
  have hvv : v' = v := by
    have := list_cell g1 a
    rw [hc] at this
    exact (Option.some.inj this).symm
  subst hvv
  have hk1 : KeepI ok w w2 := by
    cases hv : v'.ownBlock with
    | none => rw [hv] at hg; exact KeepI.grown0 hg
    | some q =>
      obtain ⟨cs, hq⟩ := b.block hv
      rw [hv] at hg
      exact KeepI.grown hg hq (by decide)
  -- blocks of other types, and rows, are as they were
  have keep : ∀ {H : Nat} {o : Obj}, w.heap[H]? = some o → (∀ q, v'.ownBlock = some q → q ≠ H) → w2.heap[H]? = some o := by
    intro H o ho hne
    refine (hg.block H (row_lt ho) fun e => hne H e.symm rfl).trans ho
  have hnb : ∀ {H : Nat} {cs : Array Value} {t : TypeId} {z : Nat × Nat}, w.heap[H]? = some (.cells cs t z) → t ≠ 23 → ∀ q, v'.ownBlock = some q → q ≠ H := by
    intro H cs t z hH ht q hq e
    obtain ⟨ds, hd⟩ := b.block hq
    rw [e, hH] at hd
    simp at hd
    exact ht hd.2.1
  have r1' := keep r1 (hnb r1 (by decide))
  have g1' := keep g1 (hnb g1 (by decide))
  have hk2 : KeepI ok w2 (w2.setCell ⟨s.Gb, i, none⟩ v2) := KeepI.set v2 g1' (by decide)
  have hk := hk1.trans hk2
  have hgr2 : w2.grownBy (w2.setCell ⟨s.Gb, i, none⟩ v2) (some s.Gb) := ⟨rfl, rfl, rfl, by simp, fun k _ hne => heap_setCell_other w2 ⟨s.Gb, i, none⟩ k v2 (fun e => hne (by rw [e]))⟩
  have hbel : Below B w w2 := by
    refine (Below.refl _ _).grown hg ?_ ?_
    · exact Nat.le_trans B2 (Nat.le_of_lt (row_lt g1))
    · intro k hk; exact (b.lt hk).1
  -- no list's block is the place of the lists
  have own_ne : ∀ {w0 : World} {u : Value} {l0 : List (List Nat)} {ds : Array Value}, GenV ok B n w0 u l0 → w0.heap[s.Gb]? = some (.cells ds 22 (0, 0)) → ∀ q, u.ownBlock = some q → some s.Gb ≠ some q := by
    intro w0 u l0 ds hu hd q hq e
    obtain ⟨es, he⟩ := hu.block hq
    injection e with e
    rw [← e, hd] at he
    simp at he
  refine ⟨⟨⟨rs, rowS r1' ne, r2⟩, fun j hj => ?_, ⟨gs.set i v2, list_store v2 g1', fun j hj => ?_⟩, inj, ne, B1, B2, B3⟩, hk, hbel.setCell (p := ⟨s.Gb, i, none⟩) B2 _⟩
  · obtain ⟨ds, d1, d2⟩ := row j hj
    have d1' := keep d1 (fun q hq => (c q hq).1 j hj)
    refine ⟨ds, rowS d1' (fun e => by dsimp only at e; rw [e, g1'] at d1'; simp at d1'), fun y hy => ?_⟩
    obtain ⟨u, a2, b2⟩ := d2 y hy
    exact ⟨u, a2, b2.keep hk⟩
  · have hil : i < gs.length := (List.getElem?_eq_some_iff.1 a).1
    -- v2's block is new or is v's
    have hv2 : ∀ q, v2.ownBlock = some q → (∀ j, j < n → q ≠ s.R j) ∧ ∀ j u, j < n → j ≠ i → gs[j]? = some u → u.ownBlock ≠ some q := by
      intro q hq
      rcases hat with h4 | h4
      · rw [h4] at hq
        exact ⟨(c q hq).1, fun j u hj hne hu hx => hne ((c q hq).2 j u hj hu hx).symm⟩
      · rw [h4] at hq
        injection hq with hq
        refine ⟨fun j hj e => ?_, fun j u hj hne hu hx => ?_⟩
        · obtain ⟨ds, d1, _⟩ := row j hj
          have := row_lt d1
          omega
        · obtain ⟨u', a3, b3, _⟩ := g2 j hj
          rw [hu] at a3
          injection a3 with a3
          subst a3
          have := (b3.lt hx).2
          omega
    by_cases e : j = i
    · subst e
      refine ⟨v2, by rw [List.getElem?_set, if_pos rfl, if_pos hil], ?_, fun q hq => ⟨(hv2 q hq).1, fun k u hk hu hx => ?_⟩⟩
      · simp only [updG, if_true]
        exact h2.kept hgr2 hk2 (own_ne h2 g1')
      · by_cases e2 : k = j
        · exact e2.symm
        · rw [List.getElem?_set, if_neg (fun e3 => e2 e3.symm)] at hu
          exact absurd hx ((hv2 q hq).2 k u hk e2 hu)
    · obtain ⟨u, a2, b2, c2⟩ := g2 j hj
      have hne : ∀ q, u.ownBlock = some q → v'.ownBlock ≠ some q := fun q hq hx => e ((c2 q hq).2 i v' hi a hx)
      have b2' : GenV ok B n w2 u (Gs j) := b2.kept hg hk1 hne
      refine ⟨u, by rw [List.getElem?_set, if_neg (fun e3 => e e3.symm)]; exact a2, ?_, fun q hq => ⟨(c2 q hq).1, fun k u' hk' hu hx => ?_⟩⟩
      · simp only [updG, e, if_false]
        exact b2'.kept hgr2 hk2 (own_ne b2' g1')
      · by_cases e2 : k = i
        · subst e2
          rw [List.getElem?_set, if_pos rfl, if_pos hil] at hu
          injection hu with hu
          subst hu
          exact absurd hq ((hv2 q hx).2 j u hj e a2)
        · rw [List.getElem?_set, if_neg (fun e3 => e2 e3.symm)] at hu
          exact (c2 q hq).2 k u' hk' hu hx
end Go.Proofs.Ytpcnbjfkobeibaa
