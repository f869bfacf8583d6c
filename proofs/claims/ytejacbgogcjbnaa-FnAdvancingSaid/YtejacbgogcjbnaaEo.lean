/- Slices of entries of the call's own: made by the law file's copy, compared, written over. Conditions: as each contract says. -/
import Derived.Test.YtejacbgogcjbnaaEs
namespace Go.Proofs.Ytejacbgogcjbnaa
open Go.RowKit

def rowOf (F : Nat → Value) (N : Nat) : List Value := (List.range N).map F
theorem rowOf_len (F : Nat → Value) (N : Nat) : (rowOf F N).length = N := by simp [rowOf]
theorem rowOf_get (F : Nat → Value) (N p : Nat) (h : p < N) : (rowOf F N)[p]? = some (F p) := by simp [rowOf, h]
def upd {α : Type} (F : Nat → α) (p : Nat) (v : α) : Nat → α := fun j => if j = p then v else F j
theorem upd_same {α : Type} (F : Nat → α) (p : Nat) (v : α) : upd F p v p = v := by simp [upd]
theorem upd_other {α : Type} (F : Nat → α) {p j : Nat} (v : α) (h : j ≠ p) : upd F p v j = F j := by simp [upd, h]
theorem rowOf_set (F : Nat → Value) (N p : Nat) (v : Value) : (rowOf F N).set p v = rowOf (upd F p v) N := by
  refine List.ext_getElem? fun i => ?_
  rw [List.getElem?_set, rowOf_len]
  by_cases h : p = i
  · subst h
    rw [if_pos rfl]
    by_cases hp : p < N
    · rw [if_pos hp, rowOf_get _ _ _ hp, upd_same]
    · rw [if_neg hp, List.getElem?_eq_none (by rw [rowOf_len]; omega)]
  · rw [if_neg h]
    by_cases hp : i < N
    · rw [rowOf_get _ _ _ hp, rowOf_get _ _ _ hp, upd_other _ _ (fun e => h e.symm)]
    · rw [List.getElem?_eq_none (by rw [rowOf_len]; omega), List.getElem?_eq_none (by rw [rowOf_len]; omega)]
theorem toArray_set (l : List Value) (j : Nat) (v : Value) : l.toArray.setIfInBounds j v = (l.set j v).toArray := by simp
theorem row_store {w : World} {g : Nat} {F : Nat → Value} {N p : Nat} {T : TypeId} (v : Value) (h : w.heap[g]? = some (.cells (rowOf F N).toArray T (0, 0))) : (w.setCell ⟨g, p, none⟩ v).heap[g]? = some (.cells (rowOf (upd F p v) N).toArray T (0, 0)) := by
  have := heap_setCell_same w g p _ _ v h
  rwa [toArray_set, rowOf_set] at this
theorem row_cell {w : World} {g : Nat} {F : Nat → Value} {N p : Nat} {T : TypeId} (h : w.heap[g]? = some (.cells (rowOf F N).toArray T (0, 0))) (hp : p < N) : w.cell? ⟨g, p, none⟩ = some (F p) := by
  rw [cell_of_row w g p _ _ (0, 0) h, List.getElem?_toArray, rowOf_get _ _ _ hp]
theorem row_free {w : World} {g : Nat} {cs : Array Value} {p : Nat} {T : TypeId} (h : w.heap[g]? = some (.cells cs T (0, 0))) : w.frozen? ⟨g, p, none⟩ = false := by simp [World.frozen?, h]
theorem entInfo : (Try.prog.info? 32).map (fun i => (i.zero, i.size, i.bytes)) = some (some (.agg #[.int .i64 0, .slice none 0 0]), 2, 32) := by kernel_rfl
def zeroF : Nat → Value := fun j => if j % 2 = 0 then .int .i64 0 else .slice none 0 0
theorem made_row (n : Nat) : (madeCells #[Value.int .i64 0, Value.slice none 0 0] (n * 2)).toList = rowOf zeroF (n * 2) := by
  refine List.ext_getElem? fun i => ?_
  by_cases h : i < n * 2
  · rw [rowOf_get _ _ _ h]
    simp only [madeCells, Array.getElem?_toList, Array.getElem?_map]
    rw [Array.getElem?_range, if_pos h]
    rcases Nat.mod_two_eq_zero_or_one i with e | e <;> simp [zeroF, e]
  · rw [List.getElem?_eq_none (by simp [madeCells]; omega), List.getElem?_eq_none (by rw [rowOf_len]; omega)]
theorem whole_of_made2 {w : World} {B g n : Nat} {xs : List Value} (h : w.ownsRow B 32 2 (.slice (some ⟨g, 0, none⟩) n n) n xs) : w.heap[g]? = some (.cells xs.toArray 32 (0, 0)) := by
  rcases h.2 with ⟨he, _⟩ | ⟨g', cap, cur, he, _, hg, _, _, hcs, htake⟩
  · simp at he
  · simp only [Value.slice.injEq, Option.some.injEq, Addr.mk.injEq] at he
    obtain ⟨⟨rfl, _⟩, _, rfl⟩ := he
    have e : cur.toList = xs := by
      rw [← htake, List.take_of_length_le]
      simp [hcs]
    rw [hg, ← e]
/-- Block g is a row of n entries, of which the first k are es's: each list in blocks of its own. -/
structure OwnTo (w : World) (g n k : Nat) (es : List Ent) (F T : Nat → Value) (B : Nat → Nat) : Prop where
  row : w.heap[g]? = some (.cells (rowOf F (n * 2)).toArray 32 (0, 0))
  low : g < B 0
  top : B k ≤ w.heap.size
  key : ∀ i, i < k → F (i * 2) = .int .i64 (es.getD i (0, [])).1
  val : ∀ i, i < k → F (i * 2 + 1) = T i
  own : ∀ i, i < k → Fresh (B i) w (T i) (es.getD i (0, [])).2
  cap : ∀ i, i < k → ∀ h, (T i).ownBlock = some h → h < B (i + 1)
  up : ∀ i, i < k → B i ≤ B (i + 1)
theorem OwnTo.up0 {w : World} {g n k : Nat} {es : List Ent} {F T : Nat → Value} {B : Nat → Nat} (h : OwnTo w g n k es F T B) : ∀ i, i ≤ k → B 0 ≤ B i := by
  intro i
  induction i with
  | zero => intro _; exact Nat.le_refl _
  | succ i ih => intro hi; exact Nat.le_trans (ih (by omega)) (h.up i (by omega))
theorem OwnTo.below {w w' : World} {g n k : Nat} {es : List Ent} {F T : Nat → Value} {B : Nat → Nat} (h : OwnTo w g n k es F T B) (hb : Below w.heap.size w w') : OwnTo w' g n k es F T B := by
  have hg : g < w.heap.size := (Array.getElem?_eq_some_iff.1 h.row).1
  exact ⟨(hb.block g hg).trans h.row, h.low, Nat.le_trans h.top hb.size, h.key, h.val, fun i hi => (h.own i hi).below hb, h.cap, h.up⟩
theorem OwnTo.step {w w1 : World} {g n k : Nat} {es : List Ent} {F T : Nat → Value} {B : Nat → Nat} (h : OwnTo w g n k es F T B) (hb : Below w.heap.size w w1) {c : Int} {v : Value} {xs : List Int}
    (he : es.getD k (0, []) = (c, xs)) (hF : Fresh w.heap.size w1 v xs) :
    OwnTo ((w1.setCell ⟨g, k * 2, none⟩ (.int .i64 c)).setCell ⟨g, k * 2 + 1, none⟩ v) g n (k + 1) es (upd (upd F (k * 2) (.int .i64 c)) (k * 2 + 1) v) (upd T k v) (upd B (k + 1) w1.heap.size) := by
  have h1 := h.below hb
  have hlow : ∀ i, i ≤ k → g < B i := fun i hi => Nat.lt_of_lt_of_le h.low (h.up0 i hi)
  have hset : ∀ {Bi : Nat} {u : Value} {ys : List Int}, g < Bi → Fresh Bi w1 u ys → Fresh Bi ((w1.setCell ⟨g, k * 2, none⟩ (.int .i64 c)).setCell ⟨g, k * 2 + 1, none⟩ v) u ys :=
    fun hb hf => (hf.setCell (a := ⟨g, k * 2, none⟩) hb _).setCell (a := ⟨g, k * 2 + 1, none⟩) hb _
  refine ⟨row_store v (row_store (.int .i64 c) h1.row), ?_, ?_, fun i hi => ?_, fun i hi => ?_, fun i hi => ?_, fun i hi x hx => ?_, fun i hi => ?_⟩
  · rw [upd_other _ _ (by omega)]; exact h.low
  · rw [upd_same]; simp
  · rcases Nat.lt_or_ge i k with h2 | h2
    · rw [upd_other _ _ (by omega), upd_other _ _ (by omega)]; exact h.key i h2
    · obtain rfl : i = k := by omega
      rw [upd_other _ _ (by omega), upd_same, he]
  · rcases Nat.lt_or_ge i k with h2 | h2
    · rw [upd_other _ _ (by omega), upd_other _ _ (by omega), upd_other _ _ (by omega)]; exact h.val i h2
    · obtain rfl : i = k := by omega
      rw [upd_same, upd_same]
  · rcases Nat.lt_or_ge i k with h2 | h2
    · rw [upd_other B _ (by omega), upd_other T _ (by omega)]; exact hset (hlow i (by omega)) (h1.own i h2)
    · obtain rfl : i = k := by omega
      rw [upd_other B _ (by omega), upd_same, he]; exact hset (hlow i (by omega)) (hF.mono h.top)
  · rcases Nat.lt_or_ge i k with h2 | h2
    · rw [upd_other T _ (by omega)] at hx
      rw [upd_other B _ (by omega)]; exact h.cap i h2 x hx
    · obtain rfl : i = k := by omega
      rw [upd_same] at hx
      rw [upd_same]; exact hF.under x hx
  · rcases Nat.lt_or_ge i k with h2 | h2
    · rw [upd_other B _ (by omega), upd_other B _ (by omega)]; exact h.up i h2
    · obtain rfl : i = k := by omega
      rw [upd_other B _ (by omega), upd_same]; exact Nat.le_trans h.top hb.size
/-- v is a slice of the call's own entries es, all in blocks from lo on and below hi. -/
def FEnts (lo hi : Nat) (w : World) (v : Value) (es : List Ent) : Prop :=
  ∃ g F T B, v = .slice (some ⟨g, 0, none⟩) es.length es.length ∧ lo ≤ g ∧ OwnTo w g es.length es.length es F T B ∧ B es.length ≤ hi ∧ hi ≤ w.heap.size
theorem FEnts.below {lo hi : Nat} {w w' : World} {v : Value} {es : List Ent} (h : FEnts lo hi w v es) (hb : Below w.heap.size w w') : FEnts lo hi w' v es := by
  obtain ⟨g, F, T, B, h1, h2, h3, h4, h5⟩ := h
  exact ⟨g, F, T, B, h1, h2, h3.below hb, h4, Nat.le_trans h5 hb.size⟩
theorem FEnts.ents {lo hi : Nat} {w : World} {v : Value} {es : List Ent} (h : FEnts lo hi w v es) : ∃ g, v = .slice (some ⟨g, 0, none⟩) es.length es.length ∧ EntsAt w (some ⟨g, 0, none⟩) es := by
  obtain ⟨g, F, T, B, rfl, _, h3, _, _⟩ := h
  refine ⟨g, rfl, fun i hi => ⟨g, 0, rfl, (Array.getElem?_eq_some_iff.1 h3.row).1, ?_⟩⟩
  obtain ⟨A, c, hc, hT, hI⟩ := (h3.own i hi).capped
  refine ⟨A, c, hc, ?_, ?_, hI⟩
  · rw [Nat.zero_add, row_cell h3.row (by omega), h3.key i hi]
  · rw [Nat.zero_add, row_cell h3.row (by omega), h3.val i hi, hT]
def ToPost (es : List Ent) (w : World) (e : Ending) (w' : World) : Prop := ∃ v, e = .returned v ∧ FEnts w.heap.size w'.heap.size w' v es ∧ Below w.heap.size w w'
/-- w' is w but for the blocks from lo on and below hi, and new ones. -/
structure OnlyIn (lo hi : Nat) (w w' : World) : Prop where
  os : w'.os = w.os
  tape : w'.tape = w.tape
  output : w'.output = w.output
  size : w.heap.size ≤ w'.heap.size
  block : ∀ k, k < w.heap.size → k < lo ∨ hi ≤ k → w'.heap[k]? = w.heap[k]?
theorem OnlyIn.refl (lo hi : Nat) (w : World) : OnlyIn lo hi w w := ⟨rfl, rfl, rfl, Nat.le_refl _, fun _ _ _ => rfl⟩
theorem OnlyIn.setCell {lo hi : Nat} {w w' : World} (h : OnlyIn lo hi w w') {a : Addr} (h1 : lo ≤ a.block) (h2 : a.block < hi) (v : Value) : OnlyIn lo hi w (w'.setCell a v) :=
  ⟨h.os, h.tape, h.output, by simpa using h.size, fun k hk hc => (heap_setCell_other w' a k v (by omega)).trans (h.block k hk hc)⟩
theorem OnlyIn.grown {lo hi : Nat} {w w1 w2 : World} {row : Option Nat} (h : OnlyIn lo hi w w1) (hg : w1.grownBy w2 row) (hr : ∀ g, row = some g → lo ≤ g ∧ g < hi) : OnlyIn lo hi w w2 :=
  ⟨hg.os.trans h.os, hg.tape.trans h.tape, hg.output.trans h.output, Nat.le_trans h.size hg.size, fun k hk hc => (hg.block k (Nat.lt_of_lt_of_le hk h.size) (fun e => by have := hr k e.symm; omega)).trans (h.block k hk hc)⟩
theorem OnlyIn.below {lo hi B : Nat} {a w w' : World} (h : OnlyIn lo hi w w') (hb : Below B a w) (hB : B ≤ lo) (hB2 : B ≤ w.heap.size) : Below B a w' :=
  ⟨h.os.trans hb.os, h.tape.trans hb.tape, h.output.trans hb.output, Nat.le_trans hb.size h.size, fun k hk => (h.block k (by omega) (.inl (by omega))).trans (hb.block k hk)⟩
theorem Fresh.onlyHi {lo hi B : Nat} {w w' : World} {v : Value} {xs : List Int} (hF : Fresh B w v xs) (h : OnlyIn lo hi w w') (hB : hi ≤ B) : Fresh B w' v xs := by
  refine ⟨hF.1, ?_⟩
  rcases hF.2 with hn | ⟨g, cap, cur, rfl, hbg, hgg, rest⟩
  · exact .inl hn
  · exact .inr ⟨g, cap, cur, rfl, hbg, by rw [h.block g (Array.getElem?_eq_some_iff.1 hgg).1 (.inr (by omega))]; exact hgg, rest⟩
theorem IntsAt.onlyLo {lo hi : Nat} {w0 w w' : World} {A : Option Addr} {xs : List Int} (h0 : IntsAt w0 A xs) (h1 : IntsAt w A xs) (hlo : w0.heap.size ≤ lo) (h : OnlyIn lo hi w w') : IntsAt w' A xs := by
  intro k hk
  obtain ⟨b, off, e, hb, hc⟩ := h1 k hk
  obtain ⟨b', off', e', hb', _⟩ := h0 k hk
  rw [e] at e'
  injection e' with e'
  injection e' with e1 e2
  subst e1
  exact ⟨b, off, e, Nat.lt_of_lt_of_le hb h.size, (World.cell?_of_block (a := ⟨b, off + k, none⟩) (h.block b hb (.inl (by omega)))).trans hc⟩
theorem OwnTo.upij {w : World} {g n k : Nat} {es : List Ent} {F T : Nat → Value} {B : Nat → Nat} (h : OwnTo w g n k es F T B) (i : Nat) : ∀ j, i ≤ j → j ≤ k → B i ≤ B j := by
  intro j
  induction j with
  | zero => intro h1 _; rw [show i = 0 from by omega]; exact Nat.le_refl _
  | succ j ih =>
    intro h1 h2
    rcases Nat.lt_or_ge i (j + 1) with h3 | h3
    · exact Nat.le_trans (ih (by omega) (by omega)) (h.up j (by omega))
    · rw [show i = j + 1 from by omega]; exact Nat.le_refl _
def MarkPost (lo hi : Nat) (w : World) (e : Ending) (w' : World) : Prop := ∃ q : Int, e = .returned (.int .i64 q) ∧ 0 ≤ q ∧ OnlyIn lo hi w w'
end Go.Proofs.Ytejacbgogcjbnaa
