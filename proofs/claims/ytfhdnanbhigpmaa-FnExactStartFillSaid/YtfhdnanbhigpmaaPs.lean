/- Lists sorted by their order: search and insertion, plain. -/
import Derived.Test.YtfhdnanbhigpmaaAl
namespace Go.Proofs.Ytfhdnanbhigpmaa
open Go.RowKit

theorem precAt_iff (a b : List Int) : ∀ m k, precAt a b k m = true ↔ ∃ j, k ≤ j ∧ j < k + m ∧ (∀ i, k ≤ i → i < j → a.getD i 0 = b.getD i 0) ∧ a.getD j 0 < b.getD j 0
  | 0, k => by
    constructor
    · intro h; cases h
    · rintro ⟨j, h1, h2, -⟩; omega
  | m + 1, k => by
    by_cases e : a.getD k 0 = b.getD k 0
    · rw [prec_same e, precAt_iff a b m (k + 1)]
      constructor
      · rintro ⟨j, h1, h2, h3, h4⟩
        refine ⟨j, by omega, by omega, fun i hi hij => ?_, h4⟩
        by_cases e2 : i = k
        · rw [e2]; exact e
        · exact h3 i (by omega) hij
      · rintro ⟨j, h1, h2, h3, h4⟩
        have hjk : j ≠ k := fun e2 => by subst e2; omega
        exact ⟨j, by omega, by omega, fun i hi hij => h3 i (by omega) hij, h4⟩
    · rw [prec_diff e]
      constructor
      · intro h
        exact ⟨k, by omega, by omega, fun i hi hij => by omega, of_decide_eq_true h⟩
      · rintro ⟨j, h1, h2, h3, h4⟩
        have hjk : j = k := Classical.byContradiction fun e2 => e (h3 k (by omega) (by omega))
        exact decide_eq_true (hjk ▸ h4)
theorem precL_iff (a b : List Int) : precL a b = true ↔ ∃ j, j < a.length ∧ (∀ i, i < j → a.getD i 0 = b.getD i 0) ∧ a.getD j 0 < b.getD j 0 := by
  unfold precL
  rw [precAt_iff]
  constructor
  · rintro ⟨j, h1, h2, h3, h4⟩; exact ⟨j, by omega, fun i hi => h3 i (by omega) hi, h4⟩
  · rintro ⟨j, h1, h2, h3⟩; exact ⟨j, by omega, by omega, fun i _ hi => h2 i hi, h3⟩
theorem precL_irr (a : List Int) : precL a a = false := by
  rw [← Bool.not_eq_true, precL_iff]
  rintro ⟨j, h1, h2, h3⟩
  omega
theorem precL_trans {a b c : List Int} (hl : a.length = b.length) (h1 : precL a b = true) (h2 : precL b c = true) : precL a c = true := by
  rw [precL_iff] at h1 h2 ⊢
  obtain ⟨i, i1, i2, i3⟩ := h1
  obtain ⟨j, j1, j2, j3⟩ := h2
  rcases Nat.lt_trichotomy i j with h | h | h
  · refine ⟨i, i1, fun k hk => (i2 k hk).trans (j2 k (by omega)), ?_⟩
    rw [← j2 i h]; exact i3
  · subst h
    exact ⟨i, i1, fun k hk => (i2 k hk).trans (j2 k hk), by omega⟩
  · refine ⟨j, by omega, fun k hk => (i2 k (by omega)).trans (j2 k hk), ?_⟩
    rw [i2 j h]; exact j3
theorem precL_total {a b : List Int} (hl : a.length = b.length) (hne : a ≠ b) (h : precL a b = false) : precL b a = true := by
  have hd : ∃ j, j < a.length ∧ a.getD j 0 ≠ b.getD j 0 := Classical.byContradiction fun h2 => hne (List.ext_getElem hl fun i h3 h4 => by
    rw [← getD_at _ _ h3, ← getD_at _ _ h4]
    exact Classical.byContradiction fun h5 => h2 ⟨i, h3, h5⟩)
  have hmin : ∀ n, (∃ j, j < n ∧ j < a.length ∧ a.getD j 0 ≠ b.getD j 0) → ∃ j, j < a.length ∧ (∀ i, i < j → a.getD i 0 = b.getD i 0) ∧ a.getD j 0 ≠ b.getD j 0 := by
    intro n
    induction n with
    | zero => rintro ⟨j, h, -⟩; omega
    | succ n ih =>
      rintro ⟨j, h1, h2, h3⟩
      by_cases hx : ∃ j, j < n ∧ j < a.length ∧ a.getD j 0 ≠ b.getD j 0
      · exact ih hx
      · refine ⟨j, h2, fun i hi => ?_, h3⟩
        exact Classical.byContradiction fun h4 => hx ⟨i, by omega, by omega, h4⟩
  obtain ⟨j0, k1, k2⟩ := hd
  obtain ⟨j, h1, h2, h3⟩ := hmin (j0 + 1) ⟨j0, by omega, k1, k2⟩
  rw [← Bool.not_eq_true, precL_iff] at h
  rw [precL_iff]
  refine ⟨j, by omega, fun i hi => (h2 i hi).symm, ?_⟩
  have : ¬ a.getD j 0 < b.getD j 0 := fun h4 => h ⟨j, h1, h2, h4⟩
  omega
/-- The list at a sorted place. -/
def srtAt (ls : List (List Int)) (srt : List Nat) (i : Nat) : List Int := ls.getD (srt.getD i 0) []
structure SortOk (L : Nat) (ls : List (List Int)) (srt : List Nat) : Prop where
  rows : ∀ i, i < ls.length → (ls.getD i []).length = L
  len : srt.length = ls.length
  lt : ∀ i, i < srt.length → srt.getD i 0 < ls.length
  all : ∀ m, m < ls.length → ∃ i, i < srt.length ∧ srt.getD i 0 = m
  ord : ∀ i j, i < j → j < srt.length → precL (srtAt ls srt i) (srtAt ls srt j) = true
theorem SortOk.nil (L : Nat) : SortOk L [] [] := ⟨fun i hi => by simp at hi, rfl, fun i hi => by simp at hi, fun i hi => by simp at hi, fun i j _ hj => by simp at hj⟩
theorem SortOk.wid {L : Nat} {ls : List (List Int)} {srt : List Nat} (h : SortOk L ls srt) {i : Nat} (hi : i < srt.length) : (srtAt ls srt i).length = L := h.rows _ (h.lt i hi)
/-- Every place before `a` precedes x, none from `a` on. -/
def SlotOk (ls : List (List Int)) (srt : List Nat) (x : List Int) (a : Nat) : Prop := a ≤ srt.length ∧ (∀ i, i < a → precL (srtAt ls srt i) x = true) ∧ ∀ i, a ≤ i → i < srt.length → precL (srtAt ls srt i) x = false
/-- The search's bounds. -/
def SlotIn (ls : List (List Int)) (srt : List Nat) (x : List Int) (lo hi : Nat) : Prop := lo ≤ hi ∧ hi ≤ srt.length ∧ (∀ i, i < lo → precL (srtAt ls srt i) x = true) ∧ ∀ i, hi ≤ i → i < srt.length → precL (srtAt ls srt i) x = false
theorem SlotIn.start (ls : List (List Int)) (srt : List Nat) (x : List Int) : SlotIn ls srt x 0 srt.length := ⟨Nat.zero_le _, Nat.le_refl _, fun i hi => by omega, fun i hi h2 => by omega⟩
theorem SlotIn.end_ {ls : List (List Int)} {srt : List Nat} {x : List Int} {lo hi : Nat} (h : SlotIn ls srt x lo hi) (hlt : ¬ lo < hi) : SlotOk ls srt x lo := by
  obtain ⟨h1, h2, h3, h4⟩ := h
  obtain rfl : lo = hi := by omega
  exact ⟨h2, h3, h4⟩
theorem SlotIn.up {L : Nat} {ls : List (List Int)} {srt : List Nat} {x : List Int} {lo hi mid : Nat} (hs : SortOk L ls srt) (h : SlotIn ls srt x lo hi) (hm : mid < hi) (hp : precL (srtAt ls srt mid) x = true) : SlotIn ls srt x (mid + 1) hi := by
  obtain ⟨h1, h2, h3, h4⟩ := h
  refine ⟨by omega, h2, fun i hi => ?_, h4⟩
  by_cases e : i = mid
  · rw [e]; exact hp
  · exact precL_trans (by rw [hs.wid (by omega), hs.wid (by omega)]) (hs.ord i mid (by omega) (by omega)) hp
theorem SlotIn.down {L : Nat} {ls : List (List Int)} {srt : List Nat} {x : List Int} {lo hi mid : Nat} (hs : SortOk L ls srt) (h : SlotIn ls srt x lo hi) (hl : lo ≤ mid) (hm : mid < hi) (hp : precL (srtAt ls srt mid) x = false) : SlotIn ls srt x lo mid := by
  obtain ⟨h1, h2, h3, h4⟩ := h
  refine ⟨hl, by omega, h3, fun i hi h5 => ?_⟩
  by_cases e : i = mid
  · rw [e]; exact hp
  · rw [← Bool.not_eq_true]
    intro h6
    have := precL_trans (by rw [hs.wid (by omega), hs.wid h5]) (hs.ord mid i (by omega) h5) h6
    rw [hp] at this
    cases this
/-- Whether x stands at the place found. -/
theorem SlotOk.found {L : Nat} {ls : List (List Int)} {srt : List Nat} {x : List Int} {a : Nat} (hs : SortOk L ls srt) (h : SlotOk ls srt x a) : inL ls x = true ↔ a < srt.length ∧ srtAt ls srt a = x := by
  obtain ⟨h1, h2, h3⟩ := h
  rw [inL_iff]
  constructor
  · intro hm
    obtain ⟨m, hm1, hm2⟩ := List.mem_iff_getElem.1 hm
    obtain ⟨i, hi1, hi2⟩ := hs.all m hm1
    have hx : srtAt ls srt i = x := by unfold srtAt; rw [hi2, ← hm2, List.getD_eq_getElem?_getD, List.getElem?_eq_getElem hm1]; rfl
    have hai : a ≤ i := Classical.byContradiction fun hc => by
      have := h2 i (by omega)
      rw [hx, precL_irr] at this
      cases this
    refine ⟨by omega, ?_⟩
    by_cases e : a = i
    · rw [e]; exact hx
    · have g1 := hs.ord a i (by omega) hi1
      rw [hx, h3 a (by omega) (by omega)] at g1
      cases g1
  · rintro ⟨h4, h5⟩
    rw [← h5]
    unfold srtAt
    have := hs.lt a h4
    rw [List.getD_eq_getElem?_getD, List.getElem?_eq_getElem this]
    exact List.getElem_mem this
/-- The insertion. -/
def insN (srt : List Nat) (a n : Nat) : List Nat := srt.take a ++ n :: srt.drop a
theorem insN_len (srt : List Nat) (a n : Nat) : (insN srt a n).length = srt.length + 1 := by unfold insN; simp; omega
theorem insN_get (srt : List Nat) (a n : Nat) (ha : a ≤ srt.length) (i : Nat) : (insN srt a n).getD i 0 = if i < a then srt.getD i 0 else if i = a then n else srt.getD (i - 1) 0 := by
  unfold insN
  rw [List.getD_eq_getElem?_getD]
  have hl : (srt.take a).length = a := by rw [List.length_take]; omega
  by_cases e1 : i < a
  · rw [if_pos e1, List.getElem?_append_left (by omega), List.getElem?_take_of_lt e1, ← List.getD_eq_getElem?_getD]
  · rw [if_neg e1, List.getElem?_append_right (by omega), hl]
    by_cases e2 : i = a
    · rw [if_pos e2, e2, Nat.sub_self]; rfl
    · rw [if_neg e2, show i - a = (i - a - 1) + 1 from by omega, List.getElem?_cons_succ, List.getElem?_drop, show a + (i - a - 1) = i - 1 from by omega, ← List.getD_eq_getElem?_getD]
theorem SortOk.add {L : Nat} {ls : List (List Int)} {srt : List Nat} {x : List Int} {a : Nat} (hs : SortOk L ls srt) (h : SlotOk ls srt x a) (hx : x.length = L) (hn : inL ls x = false) : SortOk L (ls ++ [x]) (insN srt a ls.length) := by
  have hsl := hs.len
  obtain ⟨h1, h2, h3⟩ := h
  have hget := fun i => insN_get srt a ls.length h1 i
  have hlen := insN_len srt a ls.length
  have hold : ∀ i, i < srt.length → (ls ++ [x]).getD (srt.getD i 0) [] = srtAt ls srt i := fun i hi => getDsnocI _ _ _ (hs.lt i hi)
  have hat : ∀ i, i < srt.length + 1 → srtAt (ls ++ [x]) (insN srt a ls.length) i = if i < a then srtAt ls srt i else if i = a then x else srtAt ls srt (i - 1) := by
    intro i hi
    unfold srtAt
    rw [hget i]
    by_cases e1 : i < a
    · rw [if_pos e1, if_pos e1]; exact hold i (by omega)
    · rw [if_neg e1, if_neg e1]
      by_cases e2 : i = a
      · rw [if_pos e2, if_pos e2]; exact getDlastI _ _
      · rw [if_neg e2, if_neg e2]; exact hold (i - 1) (by omega)
  have hxx : ∀ i, i < srt.length → srtAt ls srt i ≠ x := fun i hi e => by
    rw [← Bool.not_eq_true, inL_iff] at hn
    refine hn ?_
    rw [← e]
    unfold srtAt
    have := hs.lt i hi
    rw [List.getD_eq_getElem?_getD, List.getElem?_eq_getElem this]
    exact List.getElem_mem this
  refine ⟨fun i hi => ?_, by simp [hlen, hsl], fun i hi => ?_, fun m hm => ?_, fun i j hij hj => ?_⟩
  · rw [List.length_append, List.length_singleton] at hi
    by_cases e : i < ls.length
    · rw [getDsnocI _ _ _ e]; exact hs.rows i e
    · obtain rfl : i = ls.length := by omega
      rw [getDlastI]; exact hx
  · rw [hlen] at hi
    rw [hget i, List.length_append, List.length_singleton]
    by_cases e1 : i < a
    · rw [if_pos e1]; have := hs.lt i (by omega); omega
    · rw [if_neg e1]
      by_cases e2 : i = a
      · rw [if_pos e2]; omega
      · rw [if_neg e2]; have := hs.lt (i - 1) (by omega); omega
  · rw [List.length_append, List.length_singleton] at hm
    rw [hlen]
    by_cases e : m < ls.length
    · obtain ⟨i, hi1, hi2⟩ := hs.all m e
      by_cases e1 : i < a
      · exact ⟨i, by omega, by rw [hget i, if_pos e1]; exact hi2⟩
      · exact ⟨i + 1, by omega, by rw [hget (i + 1), if_neg (by omega), if_neg (by omega), Nat.add_sub_cancel]; exact hi2⟩
    · obtain rfl : m = ls.length := by omega
      exact ⟨a, by omega, by rw [hget a, if_neg (by omega), if_pos rfl]⟩
  · rw [hlen] at hj
    rw [hat i (by omega), hat j hj]
    by_cases j1 : j < a
    · rw [if_pos j1, if_pos (by omega)]; exact hs.ord i j hij (by omega)
    · rw [if_neg j1]
      by_cases j2 : j = a
      · rw [if_pos j2, if_pos (by omega)]; exact h2 i (by omega)
      · rw [if_neg j2]
        by_cases i1 : i < a
        · rw [if_pos i1]; exact hs.ord i (j - 1) (by omega) (by omega)
        · rw [if_neg i1]
          by_cases i2 : i = a
          · rw [if_pos i2]
            exact precL_total (by rw [hs.wid (by omega), hx]) (hxx (j - 1) (by omega)) (h3 (j - 1) (by omega) (by omega))
          · rw [if_neg i2]; exact hs.ord (i - 1) (j - 1) (by omega) (by omega)
end Go.Proofs.Ytfhdnanbhigpmaa
