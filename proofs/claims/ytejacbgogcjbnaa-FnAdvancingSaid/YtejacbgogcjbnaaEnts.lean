/- Entries in memory; what it means that entries are valid together. No conditions. -/
import Derived.Test.YtejacbgogcjbnaaEL4
namespace Go.Proofs.Ytejacbgogcjbnaa
open Go.RowKit

abbrev Ent := Int × List Int
def EntAt (w : World) (b p : Nat) (e : Ent) : Prop := ∃ Ai ci, e.2.length ≤ ci ∧ w.cell? ⟨b, p, none⟩ = some (.int .i64 e.1) ∧ w.cell? ⟨b, p + 1, none⟩ = some (.slice Ai e.2.length ci) ∧ IntsAt w Ai e.2
def EntsAt (w : World) (A : Option Addr) (es : List Ent) : Prop := ∀ i, i < es.length → ∃ b off, A = some ⟨b, off, none⟩ ∧ b < w.heap.size ∧ EntAt w b (off + i * 2) (es.getD i (0, []))
theorem EntsAt.nil (w : World) (A : Option Addr) : EntsAt w A [] := fun i hi => by simp at hi
theorem EntsAt.below {w w' : World} {A : Option Addr} {es : List Ent} (h : EntsAt w A es) (hb : Below w.heap.size w w') : EntsAt w' A es := by
  intro i hi
  obtain ⟨b, off, e, hlt, Ai, ci, h1, h2, h3, h4⟩ := h i hi
  exact ⟨b, off, e, Nat.lt_of_lt_of_le hlt hb.size, Ai, ci, h1, (hb.cell (p := ⟨b, off + i * 2, none⟩) hlt).trans h2, (hb.cell (p := ⟨b, off + i * 2 + 1, none⟩) hlt).trans h3, h4.below hb⟩
theorem EntsAt.at_ {w : World} {A : Option Addr} {es : List Ent} (h : EntsAt w A es) {i : Nat} (hi : i < es.length) :
    ∃ b off k Ai ci xs, A = some ⟨b, off, none⟩ ∧ b < w.heap.size ∧ w.cell? ⟨b, off + i * 2, none⟩ = some (.int .i64 k) ∧ w.cell? ⟨b, off + i * 2 + 1, none⟩ = some (.slice Ai (xs : List Int).length ci) ∧ IntsAt w Ai xs ∧ xs.length ≤ ci ∧ Hid (es.getD i (0, []) = (k, xs)) := by
  obtain ⟨b, off, e, hlt, Ai, ci, h1, h2, h3, h4⟩ := h i hi
  exact ⟨b, off, _, Ai, ci, _, e, hlt, h2, h3, h4, h1, rfl⟩
theorem EntsAt.take {w : World} {A : Option Addr} {es : List Ent} (h : EntsAt w A es) (m : Nat) : EntsAt w A (es.take m) := by
  intro k hk
  have hk2 : k < es.length := by rw [List.length_take] at hk; omega
  have hk3 : k < m := by rw [List.length_take] at hk; omega
  have e : (es.take m).getD k (0, []) = es.getD k (0, []) := by simp [List.getD_eq_getElem?_getD, hk3]
  rw [e]
  exact h k hk2
theorem egetD_at (es : List Ent) (k : Nat) (h : k < es.length) : es.getD k (0, []) = es[k] := by simp [List.getD_eq_getElem?_getD, h]
theorem etake_get (es : List Ent) (k : Nat) (hk : k < es.length) : es.take (k + 1) = es.take k ++ [es.getD k (0, [])] := by
  rw [List.take_succ_eq_append_getElem hk, List.getD_eq_getElem?_getD, List.getElem?_eq_getElem hk]; rfl
/-- All of the first m entries have lists that a law's argument may have. -/
def Short (es : List Ent) : Prop := ∀ i, i < es.length → (es.getD i (0, [])).2.length ≤ 1048576
/-! Validity of entries together. -/
def sameK (k : Int) (es : List Ent) : Bool := es.any fun o => o.1 == k
def goodTo (es : List Ent) : Nat → Bool
  | 0 => true
  | i + 1 => goodTo es i && (entOk (es.getD i (0, [])).1 (es.getD i (0, [])).2 && !sameK (es.getD i (0, [])).1 (es.take i))
def entsOk (es : List Ent) : Bool := decide (es.length ≤ 12) && goodTo es es.length
theorem goodTo_false {es : List Ent} {i : Nat} (h : goodTo es i = false) (j : Nat) : goodTo es (i + j) = false := by
  induction j with
  | zero => exact h
  | succ j ih => rw [← Nat.add_assoc, goodTo, ih]; rfl
theorem goodTo_step {es : List Ent} {i : Nat} {k : Int} {xs : List Int} (he : es.getD i (0, []) = (k, xs)) : goodTo es (i + 1) = (goodTo es i && (entOk k xs && !sameK k (es.take i))) := by rw [goodTo, he]
theorem entsOk_bad {es : List Ent} {i : Nat} (hi : i < es.length) {k : Int} {xs : List Int} (he : es.getD i (0, []) = (k, xs)) (h : entOk k xs = false ∨ sameK k (es.take i) = true) : goodTo es es.length = false := by
  have h1 : goodTo es (i + 1) = false := by
    rw [goodTo_step he]
    rcases h with h | h <;> simp [h]
  have := goodTo_false h1 (es.length - (i + 1))
  rwa [show i + 1 + (es.length - (i + 1)) = es.length from by omega] at this
theorem goodTo_at {es : List Ent} : ∀ {m : Nat}, goodTo es m = true → ∀ i, i < m → entOk (es.getD i (0, [])).1 (es.getD i (0, [])).2 = true
  | m + 1, h, i, hi => by
    rw [goodTo, Bool.and_eq_true, Bool.and_eq_true] at h
    rcases Nat.lt_or_ge i m with h1 | h1
    · exact goodTo_at h.1 i h1
    · rw [show i = m from by omega]; exact h.2.1
theorem entsOk_parts {es : List Ent} (h : entsOk es = true) : es.length ≤ 12 ∧ ∀ i, i < es.length → entOk (es.getD i (0, [])).1 (es.getD i (0, [])).2 = true := by
  rw [entsOk, Bool.and_eq_true, decide_eq_true_eq] at h
  exact ⟨h.1, goodTo_at h.2⟩
def NoneK (k : Int) (es : List Ent) (m : Nat) : Prop := sameK k (es.take m) = false
theorem NoneK.zero (k : Int) (es : List Ent) : NoneK k es 0 := by simp [NoneK, sameK]
theorem NoneK.more {k : Int} {es : List Ent} {m : Nat} (h : NoneK k es m) (hm : m < es.length) {k' : Int} {xs : List Int} (he : es.getD m (0, []) = (k', xs)) (hne : k' ≠ k) : NoneK k es (m + 1) := by
  unfold NoneK sameK at *
  rw [etake_get es m hm, List.any_append, h, he]
  simp [hne]
theorem sameK_at {k : Int} {es : List Ent} {m i : Nat} (hm : m < i) (hi : i ≤ es.length) {xs : List Int} (he : es.getD m (0, []) = (k, xs)) : sameK k (es.take i) = true := by
  unfold sameK
  rw [List.any_eq_true]
  refine ⟨(k, xs), ?_, by simp⟩
  rw [← he, egetD_at _ _ (by omega), List.mem_take_iff_getElem]
  exact ⟨m, by omega, rfl⟩
end Go.Proofs.Ytejacbgogcjbnaa
