/- The state of the reference's chain while permutations are added; blocks that are left alone. Conditions: as each lemma says. -/
import Derived.Test.YtpcnbjfkobeibaaSt
import Derived.Test.YtpcnbjfkobeibaaGD
namespace Go.Proofs.Ytpcnbjfkobeibaa
open Go.RowKit Grp

/-- The blocks of which pr holds are none of the chain's. -/
structure Away (pr : Nat → Prop) (n : Nat) (w : World) (s : Sh) : Prop where
  lt : ∀ b, pr b → b < w.heap.size
  R : ∀ i, i < n → ¬ pr (s.R i)
  G : ¬ pr s.Gb
  own : ∀ i v b, i < n → w.cell? ⟨s.Gb, i, none⟩ = some v → v.ownBlock = some b → ¬ pr b
structure Sp (pr : Nat → Prop) (tc : Array Value) (B n C : Nat) (s : Sh) (w wr : World) (T : Tab) (Gs : Nat → List (List Nat)) : Prop where
  top : wr.heap[C]? = some (.cells tc 106 (0, 0))
  body : Body (fun _ => True) B n wr s T Gs
  below : Below B w wr
  keep : KeepI (fun _ => True) w wr
  away : Away pr n wr s
  same : ∀ b, pr b → wr.heap[b]? = w.heap[b]?
variable {pr : Nat → Prop} {tc : Array Value} {B n k C : Nat} {s : Sh} {w wr w2 w3 : World} {T T2 : Tab} {Gs Gs2 : Nat → List (List Nat)}
theorem Sp.size (h : Sp pr tc B n C s w wr T Gs) : B ≤ wr.heap.size := by
  obtain ⟨gs, h1⟩ := h.body.gbRow
  exact Nat.le_trans h.body.B2 (Nat.le_of_lt (row_lt h1))
theorem Sp.start (ht : w.heap[C]? = some (.cells tc 106 (0, 0))) (hb : Body (fun _ => True) B n w s T Gs) (ha : Away pr n w s) : Sp pr tc B n C s w w T Gs :=
  ⟨ht, hb, Below.refl _ _, KeepI.refl _, ha, fun _ _ => rfl⟩
theorem Away.gb (h : Away pr n w s) {gs : List Value} (h1 : w.heap[s.Gb]? = some (.cells gs.toArray 22 (0, 0))) (h2 : w2.heap[s.Gb]? = some (.cells gs.toArray 22 (0, 0))) (hs : w.heap.size ≤ w2.heap.size) : Away pr n w2 s :=
  ⟨fun b hb => Nat.lt_of_lt_of_le (h.lt b hb) hs, h.R, h.G, fun i v b hi hc => h.own i v b hi ((cell_same h1 h2).symm.trans hc)⟩
theorem Sp.more (h : Sp pr tc B n C s w wr T Gs) (hb : Below wr.heap.size wr w2) : Sp pr tc B n C s w w2 T Gs := by
  obtain ⟨gs, h1⟩ := h.body.gbRow
  exact ⟨rowB hb h.top, h.body.below hb, h.below.trans (hb.mono h.size), h.keep.trans (KeepI.below hb), h.away.gb h1 (rowB hb h1) hb.size, fun b hp => (hb.block b (h.away.lt b hp)).trans (h.same b hp)⟩
theorem Sp.row {y : Nat} {v : Value} {t : List Nat} (h : Sp pr tc B n C s w wr T Gs) (hk : k < n) (hy : y < n) (hv : PermV (fun _ => True) wr v n t) : Sp pr tc B n C s w (wr.setCell ⟨s.R k, y, none⟩ v) (updT T k y t) Gs := by
  obtain ⟨b1, b2, b3⟩ := h.body.setRow hk hy hv
  obtain ⟨cs, c1, _⟩ := h.body.row k hk
  obtain ⟨gs, g1⟩ := h.body.gbRow
  have hne : s.Gb ≠ s.R k := fun e => by rw [e, c1] at g1; simp at g1
  refine ⟨rowS h.top fun e => ?_, b1, h.below.trans b3, h.keep.trans (KeepI.set v c1 (by decide)), h.away.gb g1 (rowS g1 hne) (by simp), fun b hp => (heap_setCell_other wr ⟨s.R k, y, none⟩ b v fun e => ?_).trans (h.same b hp)⟩
  · dsimp only at e
    have := h.top
    rw [e, c1] at this
    simp at this
  · dsimp only at e
    exact h.away.R k hk (e ▸ hp)
/-- A generator appended and laid. -/
theorem Sp.gen {v v2 : Value} {l : List (List Nat)} (h : Sp pr tc B n C s w wr T Gs) (hk : k < n) (hc : wr.cell? ⟨s.Gb, k, none⟩ = some v) (hg : wr.grownBy w2 v.ownBlock) (h2 : GenV (fun _ => True) B n w2 v2 l) (hat : v2.ownBlock = v.ownBlock ∨ v2.ownBlock = some wr.heap.size) :
    Sp pr tc B n C s w (w2.setCell ⟨s.Gb, k, none⟩ v2) T (updG Gs k l) := by
  obtain ⟨b1, b2, b3⟩ := h.body.setGen hk hc hg h2 hat
  obtain ⟨k1, k2, k3⟩ := h.body.gbKept hk hc hg
  obtain ⟨gs, g1, gl⟩ := h.body.gbRow2
  have g2 := k3 g1 (by decide)
  have g3 := list_store (p := k) v2 g2
  have hkl := gl k hk
  have hCne : C ≠ s.Gb := fun e => by have := h.top; rw [e, g1] at this; simp at this
  refine ⟨rowS (k3 h.top (by decide)) hCne, b1, h.below.trans b3, h.keep.trans b2, ⟨fun b hb => ?_, h.away.R, h.away.G, fun i u b hi hu hub hp => ?_⟩, fun b hp => ?_⟩
  · have := h.away.lt b hb
    have := hg.size
    simp
    omega
  · by_cases e : i = k
    · subst e
      rw [list_cell g3 (v := v2) (by rw [List.getElem?_set, if_pos rfl, if_pos hkl])] at hu
      obtain rfl : v2 = u := Option.some.inj hu
      rcases hat with h4 | h4
      · rw [h4] at hub
        exact h.away.own i v b hi hc hub hp
      · rw [h4] at hub
        injection hub with hub
        have := h.away.lt b hp
        omega
    · have e1 : gs[i]? = some (gs[i]'(gl i hi)) := List.getElem?_eq_getElem (gl i hi)
      rw [list_cell g3 (v := gs[i]'(gl i hi)) (by rw [List.getElem?_set, if_neg (fun e2 => e e2.symm)]; exact e1)] at hu
      obtain rfl : gs[i]'(gl i hi) = u := Option.some.inj hu
      exact h.away.own i _ b hi (list_cell g1 e1) hub hp
  · have h1 : b ≠ s.Gb := fun e => h.away.G (e ▸ hp)
    rw [heap_setCell_other w2 ⟨s.Gb, k, none⟩ b v2 h1, hg.block b (h.away.lt b hp) (fun e => h.away.own k v b hk hc e.symm hp)]
    exact h.same b hp
theorem Sp.trans {pr' : Nat → Prop} (h : Sp pr tc B n C s w wr T Gs) (h2 : Sp pr' tc B n C s wr w3 T2 Gs2) (hp : ∀ b, pr b → pr' b) : Sp pr tc B n C s w w3 T2 Gs2 :=
  ⟨h2.top, h2.body, h.below.trans h2.below, h.keep.trans h2.keep, ⟨fun b hb => h2.away.lt b (hp b hb), fun i hi hb => h2.away.R i hi (hp _ hb), fun hb => h2.away.G (hp _ hb), fun i v b hi hc ho hb => h2.away.own i v b hi hc ho (hp b hb)⟩, fun b hb => (h2.same b (hp b hb)).trans (h.same b hb)⟩
abbrev tcS (n : Nat) (s : Sh) : Array Value := #[.int .i64 (n : Int), .slice (some ⟨s.Rb, 0, none⟩) n s.cr, .slice (some ⟨s.Gb, 0, none⟩) n s.cg]
def GenPost (pr : Nat → Prop) (B n k C : Nat) (s : Sh) (T : Tab) (Gs : Nat → List (List Nat)) (p : List Nat) (w : World) (e : Ending) (w' : World) : Prop :=
  e = .returned (.tuple #[]) ∧ ∃ (T' : Tab) (Gs' : Nat → List (List Nat)), Sp pr (tcS n s) B n C s w w' T' Gs' ∧ Added n k T Gs p T' Gs'
def ProdPost (pr : Nat → Prop) (B n k C : Nat) (s : Sh) (L : List (List Nat)) (T : Tab) (Gs : Nat → List (List Nat)) (p : List Nat) (w : World) (e : Ending) (w' : World) : Prop :=
  e = .returned (.tuple #[]) ∧ ∃ (T' : Tab) (Gs' : Nat → List (List Nat)), Sp pr (tcS n s) B n C s w w' T' Gs' ∧ Prodded n k L T Gs p T' Gs'
/-- The contract of addGenerator at a level. -/
def GenAt (B n k C : Nat) (s : Sh) : Prop := ∀ (pr : Nat → Prop) (T : Tab) (Gs : Nat → List (List Nat)) (v : Value) (p : List Nat) (w : World), w.heap[C]? = some (.cells (tcS n s) 106 (0, 0)) → Body (fun _ => True) B n w s T Gs → Away pr n w s →
    PermV (fun _ => True) w v n p → IsP n p → Fix k p → Full n T Gs k → (∀ j, k ≤ j → j ≤ n → (Gs j).length ≤ orbSum n T j (n - j)) → Calls Try.prog 128 #[.pointer (some ⟨C, 0, none⟩), .int .i64 (k : Int), v] w (GenPost pr B n k C s T Gs p w)
end Go.Proofs.Ytpcnbjfkobeibaa
