/- The fields of a string: plain facts. -/
import Derived.Test.YtggchbohmjfneaaDoorPa
import Derived.Lib.FieldsP
import Derived.Lib.TrimUEq
import Derived.Lib.DecodeN
namespace Go.Proofs.YtggchbohmjfneaaDoor
open Go.RowKit

theorem get_list (s : ByteArray) (i : Nat) (h : i < s.size) : s.get! i = s.data.toList[i]'(by simpa using h) := by
  rw [Array.getElem_toList]
  exact getElem!_pos s.data i h
theorem dec_width (s : ByteArray) (pos : Nat) (h : pos < s.size) : pos < pos + (Utf8.decode s pos).2 ∧ pos + (Utf8.decode s pos).2 ≤ s.size := by
  have h1 := Lib.width_pos s pos
  have h2 := Lib.decodeN_le_n' (s.size - pos) (s.get! pos).toNat (s.get! (pos + 1)).toNat (s.get! (pos + 2)).toNat (s.get! (pos + 3)).toNat (by omega)
  rw [← Lib.decode_at] at h2
  omega
def lensOf (l : List (Nat × Nat)) : Nat := (l.map fun x => x.2 - x.1).sum
theorem lensOf_snoc (l : List (Nat × Nat)) (x : Nat × Nat) : lensOf (l ++ [x]) = lensOf l + (x.2 - x.1) := by simp [lensOf]
theorem spans_len (p : Nat → Bool) (s : ByteArray) : ∀ (f pos : Nat) (st : Option Nat) (acc : List (Nat × Nat)), pos ≤ s.size → (∀ a, st = some a → a ≤ pos) → lensOf (Lib.closeSpans s (Lib.spansFromP p s f pos st acc)) + (st.getD pos) ≤ lensOf acc + s.size
  | 0, pos, st, acc, h, hs => by
    cases st with
    | none => simp [Lib.spansFromP, Lib.closeSpans]; omega
    | some a =>
      have := hs a rfl
      simp [Lib.spansFromP, Lib.closeSpans, lensOf_snoc]
      omega
  | f + 1, pos, st, acc, h, hs => by
    unfold Lib.spansFromP
    by_cases hlt : pos < s.size
    · rw [if_pos hlt]
      obtain ⟨w1, w2⟩ := dec_width s pos hlt
      split
      · cases st with
        | none =>
          have := spans_len p s f _ none acc w2 (fun a e => by cases e)
          simp only [Option.getD_none] at this ⊢
          omega
        | some a =>
          have h1 := hs a rfl
          have := spans_len p s f _ none (acc ++ [(a, pos)]) w2 (fun a e => by cases e)
          simp only [Option.getD_none, Option.getD_some, lensOf_snoc] at this ⊢
          omega
      · cases st with
        | none =>
          have := spans_len p s f _ (some pos) acc w2 (fun a e => by injection e with e; omega)
          simp only [Option.getD_none, Option.getD_some] at this ⊢
          omega
        | some a =>
          have h1 := hs a rfl
          have := spans_len p s f _ (some a) acc w2 (fun a e => by injection e with e; omega)
          simp only [Option.getD_some] at this ⊢
          omega
    · rw [if_neg hlt]
      cases st with
      | none => simp [Lib.closeSpans]; omega
      | some a =>
        have := hs a rfl
        simp [Lib.closeSpans, lensOf_snoc]
        omega
theorem fields_len (p : Nat → Bool) (s : ByteArray) : ((Lib.goFieldsP p s).map ByteArray.size).sum ≤ s.size := by
  have h := spans_len p s s.size 0 none [] (Nat.zero_le _) (fun a e => by cases e)
  simp only [Option.getD_none, Nat.add_zero] at h
  have e : lensOf [] = 0 := rfl
  rw [e, Nat.zero_add] at h
  refine Nat.le_trans ?_ h
  unfold Lib.goFieldsP Lib.spansOfP lensOf
  rw [List.map_map]
  generalize Lib.closeSpans s _ = l
  induction l with
  | nil => exact Nat.le_refl _
  | cons x l ih =>
    simp only [List.map_cons, List.sum_cons, Function.comp]
    have : (s.extract x.1 x.2).size ≤ x.2 - x.1 := by rw [ByteArray.size_extract]; omega
    omega
/-! The bytes of the fields, where all bytes are ASCII. -/
def sepP (r : Nat) : Bool := r == 58 || r == 46
theorem sepP_b (c : UInt8) : sepP c.toNat = sepB c := by
  unfold sepP sepB
  have h1 : (c.toNat == 58) = (c == 58) := by
    rw [Bool.eq_iff_iff]
    simp only [beq_iff_eq]
    exact ⟨fun e => UInt8.toNat_inj.1 e, fun e => by rw [e]; rfl⟩
  have h2 : (c.toNat == 46) = (c == 46) := by
    rw [Bool.eq_iff_iff]
    simp only [beq_iff_eq]
    exact ⟨fun e => UInt8.toNat_inj.1 e, fun e => by rw [e]; rfl⟩
  rw [h1, h2]
def cutL (l : List UInt8) (a b : Nat) : List UInt8 := (l.take b).drop a
theorem cutL_none (l : List UInt8) (a : Nat) : cutL l a a = [] := by
  unfold cutL
  rw [List.drop_eq_nil_iff, List.length_take]
  omega
theorem cutL_more (l : List UInt8) {a b : Nat} (hab : a ≤ b) (h : b < l.length) : cutL l a (b + 1) = cutL l a b ++ [l[b]] := by
  unfold cutL
  rw [List.take_succ_eq_append_getElem h, List.drop_append_of_le_length (by rw [List.length_take]; omega)]
def flatOf (l : List UInt8) (acc : List (Nat × Nat)) : List UInt8 := (acc.map fun x => cutL l x.1 x.2).flatten
theorem flatOf_snoc (l : List UInt8) (acc : List (Nat × Nat)) (x : Nat × Nat) : flatOf l (acc ++ [x]) = flatOf l acc ++ cutL l x.1 x.2 := by simp [flatOf]
def openL (l : List UInt8) (st : Option Nat) (pos : Nat) : List UInt8 := match st with
  | some a => cutL l a pos
  | none => []
theorem cutL_full (l : List UInt8) (a n : Nat) (h : n = l.length) : cutL l a n = l.drop a := by
  subst h
  unfold cutL
  rw [List.take_length]
theorem spans_flat (s : ByteArray) (h7 : ∀ c, c ∈ s.data.toList → c.toNat < 128) : ∀ (f pos : Nat) (st : Option Nat) (acc : List (Nat × Nat)), pos ≤ s.size → s.size ≤ pos + f → (∀ a, st = some a → a ≤ pos) →
    flatOf s.data.toList (Lib.closeSpans s (Lib.spansFromP sepP s f pos st acc)) = flatOf s.data.toList acc ++ openL s.data.toList st pos ++ (s.data.toList.drop pos).filter (fun c => !sepB c) := by
  have hsz : s.size = s.data.toList.length := by simp
  have hend : ∀ (pos : Nat) (st : Option Nat) (acc : List (Nat × Nat)), s.size ≤ pos → pos ≤ s.size → flatOf s.data.toList (Lib.closeSpans s (acc, st)) = flatOf s.data.toList acc ++ openL s.data.toList st pos ++ (s.data.toList.drop pos).filter (fun c => !sepB c) := by
    intro pos st acc h1 h2
    have e : pos = s.size := by omega
    subst e
    rw [List.drop_eq_nil_iff.2 (by omega), List.filter_nil, List.append_nil]
    cases st with
    | none => simp [Lib.closeSpans, openL]
    | some a => simp only [Lib.closeSpans, openL, flatOf_snoc]
  intro f
  induction f with
  | zero => intro pos st acc h hf hs; exact hend pos st acc (by omega) h
  | succ f ih =>
    intro pos st acc h hf hs
    unfold Lib.spansFromP
    by_cases hlt : pos < s.size
    · rw [if_pos hlt]
      have hlt2 : pos < s.data.toList.length := by omega
      have hc : (s.get! pos).toNat < 128 := by rw [get_list s pos hlt]; exact h7 _ (List.getElem_mem _)
      have hd : Utf8.decode s pos = ((s.get! pos).toNat, 1) := by rw [Lib.decode_at, Lib.decodeN_ascii _ _ _ _ _ hc]
      have hdrop : s.data.toList.drop pos = s.data.toList[pos] :: s.data.toList.drop (pos + 1) := List.drop_eq_getElem_cons hlt2
      rw [hd]
      dsimp only
      rw [sepP_b, get_list s pos hlt, hdrop, List.filter_cons]
      cases hb : sepB s.data.toList[pos] with
      | true =>
        simp only [Bool.not_true, if_pos]
        rw [if_neg (by decide)]
        cases st with
        | none =>
          dsimp only
          rw [ih (pos + 1) none acc (by omega) (by omega) (fun a e => by cases e)]
          rfl
        | some a =>
          dsimp only
          rw [ih (pos + 1) none _ (by omega) (by omega) (fun a e => by cases e), flatOf_snoc]
          simp only [openL, List.append_nil]
      | false =>
        rw [if_neg (by decide), if_pos (by rfl)]
        cases st with
        | none =>
          dsimp only
          rw [ih (pos + 1) (some pos) acc (by omega) (by omega) (fun a e => by injection e with e; omega)]
          simp only [openL]
          rw [cutL_more _ (Nat.le_refl _) hlt2, cutL_none]
          simp
        | some a =>
          dsimp only
          have ha := hs a rfl
          rw [ih (pos + 1) (some a) acc (by omega) (by omega) (fun a e => by injection e with e; omega)]
          simp only [openL]
          rw [cutL_more _ ha hlt2]
          simp
    · rw [if_neg hlt]
      exact hend pos st acc (by omega) h
theorem ext_cut (s : ByteArray) (a b : Nat) : (s.extract a b).data.toList = cutL s.data.toList a b := by
  rw [ByteArray.data_extract, Array.toList_extract, List.extract_eq_take_drop]
  unfold cutL
  rw [List.drop_take]
theorem fields_flat (s : ByteArray) (h7 : ∀ c, c ∈ s.data.toList → c.toNat < 128) : ((Lib.goFieldsP sepP s).map fun b => b.data.toList).flatten = s.data.toList.filter fun c => !sepB c := by
  have h := spans_flat s h7 s.size 0 none [] (Nat.zero_le _) (by omega) (fun a e => by cases e)
  unfold Lib.goFieldsP Lib.spansOfP
  rw [List.map_map]
  have e : (fun b : ByteArray => b.data.toList) ∘ (fun x : Nat × Nat => s.extract x.1 x.2) = fun x => cutL s.data.toList x.1 x.2 := by
    funext x
    exact ext_cut s x.1 x.2
  rw [e]
  have h2 : flatOf s.data.toList [] = [] := rfl
  simp only [openL, h2, List.nil_append, List.drop_zero] at h
  exact h
end Go.Proofs.YtggchbohmjfneaaDoor
