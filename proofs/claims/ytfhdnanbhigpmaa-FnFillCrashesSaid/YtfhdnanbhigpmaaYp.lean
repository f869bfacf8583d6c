/- Distances out of residues, plainly. Conditions: as each theorem says. -/
import Derived.Test.YtfhdnanbhigpmaaRu
namespace Go.Proofs.Ytfhdnanbhigpmaa
open Go.RowKit Grp

theorem ch_le {p : Pz} {trk : List Int} {i : Nat} (hq : buildQ p trk = true) (hi : chOk (mvsOf p.moves) trk i) : i ≤ 3000 := by
  obtain ⟨N, g1, g2, g3, g4, g5, g6⟩ := ch_full hq
  have := g6 i hi
  have := this.1.cap
  omega
theorem addB_len {s s' : Bs} {x : List Int} {d : Int} (h : addB s x d = some s') : s.ls.length ≤ s'.ls.length := by
  unfold addB at h
  split at h
  · injection h with h; rw [h]; exact Nat.le_refl _
  · split at h
    · cases h
    · injection h with h; rw [← h]; simp
theorem innB_len {k : Nat} : ∀ (mvs : List (List Int)) (s s' : Bs), innB k mvs s = some s' → s.ls.length ≤ s'.ls.length := by
  intro mvs
  induction mvs with
  | nil => intro s s' h; simp only [innB, Option.some.injEq] at h; rw [h]; exact Nat.le_refl _
  | cons m r ih =>
    intro s s' h
    simp only [innB] at h
    cases hq : addB s (nextOf k m s) (depOf k s) with
    | none => rw [hq] at h; cases h
    | some t => rw [hq] at h; exact Nat.le_trans (addB_len hq) (ih t s' h)
theorem bfsB_len {mvs : List (List Int)} : ∀ (f k : Nat) (s r : Bs), bfsB mvs f k s = some r → s.ls.length ≤ r.ls.length := by
  intro f
  induction f with
  | zero => intro k s r h; simp only [bfsB, Option.some.injEq] at h; rw [h]; exact Nat.le_refl _
  | succ f ih =>
    intro k s r h
    simp only [bfsB] at h
    split at h
    · cases hq : innB k mvs s with
      | none => rw [hq] at h; cases h
      | some t => rw [hq] at h; exact Nat.le_trans (innB_len _ _ _ hq) (ih _ t r h)
    · injection h with h; rw [h]; exact Nat.le_refl _
/-- Where the job ends, its table is the one that is built. -/
theorem ch_fin {p : Pz} {trk : List Int} {r : Bs} (hq : buildQ p trk = true) (hr : searchB (mvsOf p.moves) trk = some r) {i : Nat} (hi : chOk (mvsOf p.moves) trk i) (h : r.ls.length ≤ i ∨ (chF (mvsOf p.moves) trk i).1.ls.length ≤ i) : (chF (mvsOf p.moves) trk i).1 = r ∧ i = r.ls.length := by
  have ht : trkQ p trk = true := by
    unfold buildQ at hq
    rw [Bool.and_eq_true] at hq
    exact hq.1
  obtain ⟨N, -, -, h3, -, h5, -⟩ := trk_parts ht
  obtain ⟨g1, g2, g3⟩ := ch_bfs h3.all h5 hr i hi
  have g4 := bfsB_len _ _ _ _ g2
  have g5 := g1.cap
  rw [bfs_end (by omega) (by omega)] at g2
  injection g2 with g2
  rw [g2] at g3 g4 h
  exact ⟨g2, by omega⟩

section
variable {mvs : List (List Int)} {trk : List Int} {p : Pz} {r : Bs}
theorem ch_lsP {i j : Nat} (h : i ≤ j) : (chF mvs trk i).1.ls <+: (chF mvs trk j).1.ls := by
  induction h with
  | refl => exact List.prefix_refl _
  | step _ ih => exact ih.trans (List.prefix_append _ _)
theorem ch_dsP {i j : Nat} (h : i ≤ j) : (chF mvs trk i).1.ds <+: (chF mvs trk j).1.ds := by
  induction h with
  | refl => exact List.prefix_refl _
  | step _ ih => exact ih.trans (List.prefix_append _ _)
theorem pre_getD {α : Type} {a b : List α} {d : α} {i : Nat} (h : a <+: b) (hi : i < a.length) : b.getD i d = a.getD i d := by
  obtain ⟨t, rfl⟩ := h
  rw [List.getD_eq_getElem?_getD, List.getElem?_append_left hi, ← List.getD_eq_getElem?_getD]
theorem ch_reach (hq : buildQ p trk = true) : ∃ n, chOk (mvsOf p.moves) trk n ∧ (chF (mvsOf p.moves) trk n).1.ls.length ≤ n := by
  apply Classical.byContradiction
  intro hno
  have h : ∀ i, chOk (mvsOf p.moves) trk i := by
    intro i
    induction i with
    | zero => exact fun j hj => absurd hj (Nat.not_lt_zero _)
    | succ i ih => exact ch_next ih (Nat.lt_of_not_le fun q => hno ⟨i, ih, q⟩)
  have := ch_le hq (h 3001)
  omega
theorem tbl_of (hq : buildQ p trk = true) (hr : searchB (mvsOf p.moves) trk = some r) : chOk (mvsOf p.moves) trk r.ls.length ∧ (chF (mvsOf p.moves) trk r.ls.length).1 = r := by
  obtain ⟨n, h1, h2⟩ := ch_reach hq
  obtain ⟨h3, h4⟩ := ch_fin hq hr h1 (.inr h2)
  rw [h4] at h1 h3
  exact ⟨h1, h3⟩
theorem addTo_acc {ls : List (List Int)} {pat : List Int} : ∀ (ms acc : List (List Int)), acc <+: addTo ls pat ms acc := by
  intro ms
  induction ms with
  | nil => intro acc; exact List.prefix_refl _
  | cons m r ih =>
    intro acc
    simp only [addTo]
    split
    · exact ih acc
    · exact (List.prefix_append _ _).trans (ih _)
theorem addTo_has {ls : List (List Int)} {pat m : List Int} : ∀ (ms acc : List (List Int)), m ∈ ms → pickI m pat ∈ ls ++ addTo ls pat ms acc := by
  intro ms
  induction ms with
  | nil => intro acc h; cases h
  | cons m2 r ih =>
    intro acc h
    simp only [addTo]
    rcases List.mem_cons.1 h with rfl | h
    · split
      · rename_i q
        have q2 := inL_iff.1 q
        rcases List.mem_append.1 q2 with q3 | q3
        · exact List.mem_append.2 (.inl q3)
        · exact List.mem_append.2 (.inr ((addTo_acc r acc).subset q3))
      · exact List.mem_append.2 (.inr ((addTo_acc r _).subset (by simp)))
    · split
      · exact ih _ h
      · exact ih _ h
theorem tbl_closed (hq : buildQ p trk = true) (hr : searchB (mvsOf p.moves) trk = some r) {i : Nat} (hi : i < r.ls.length) {m : List Int} (hm : m ∈ mvsOf p.moves) : pickI m (r.ls.getD i []) ∈ r.ls := by
  obtain ⟨h1, h2⟩ := tbl_of hq hr
  have h3 := h1 i hi
  have h4 := ch_lsP (mvs := mvsOf p.moves) (trk := trk) (i := i) (j := r.ls.length) (by omega)
  have h5 := ch_lsP (mvs := mvsOf p.moves) (trk := trk) (i := i + 1) (j := r.ls.length) (by omega)
  rw [h2] at h4 h5
  rw [pre_getD h4 h3]
  exact h5.subset (addTo_has (ls := (chF (mvsOf p.moves) trk i).1.ls) (mvsOf p.moves) [] hm)
theorem tbl_nodup (hq : buildQ p trk = true) (hr : searchB (mvsOf p.moves) trk = some r) : r.ls.Nodup := by
  have := ch_nodup (mvs := mvsOf p.moves) (trk := trk) r.ls.length
  rwa [(tbl_of hq hr).2] at this
end
/-- The place of a pattern's neighbour. -/
def nbI (mvs ls : List (List Int)) (i j : Nat) : Nat := ls.idxOf (pickI (mvs.getD j []) (ls.getD i []))
theorem idx_uniq {ls : List (List Int)} {x : List Int} {k : Nat} (hn : ls.Nodup) (hk : k < ls.length) (h : ls.getD k [] = x) : ls.idxOf x = k := by
  have hx : x ∈ ls := by rw [← h, List.getD_eq_getElem?_getD, List.getElem?_eq_getElem hk]; exact List.getElem_mem hk
  have h1 := List.idxOf_lt_length_of_mem hx
  have h2 : ls[ls.idxOf x] = x := List.getElem_idxOf h1
  rw [List.getD_eq_getElem?_getD, List.getElem?_eq_getElem hk] at h
  exact (List.getElem_inj hn).1 (h2.trans h.symm)
section
variable {mvs : List (List Int)} {trk : List Int} {p : Pz} {r : Bs}
theorem mvs_mem {j : Nat} (hj : j < mvs.length) : mvs.getD j [] ∈ mvs := by rw [List.getD_eq_getElem?_getD, List.getElem?_eq_getElem hj]; exact List.getElem_mem hj
theorem nb_ok (hq : buildQ p trk = true) (hr : searchB (mvsOf p.moves) trk = some r) {i j : Nat} (hi : i < r.ls.length) (hj : j < (mvsOf p.moves).length) : nbI (mvsOf p.moves) r.ls i j < r.ls.length ∧ r.ls.getD (nbI (mvsOf p.moves) r.ls i j) [] = pickI ((mvsOf p.moves).getD j []) (r.ls.getD i []) := by
  have h := tbl_closed hq hr hi (mvs_mem hj)
  have h1 := List.idxOf_lt_length_of_mem h
  refine ⟨h1, ?_⟩
  unfold nbI
  rw [List.getD_eq_getElem?_getD, List.getElem?_eq_getElem h1]
  exact List.getElem_idxOf h1
theorem nb_is (hq : buildQ p trk = true) (hr : searchB (mvsOf p.moves) trk = some r) {i j k : Nat} (hk : k < r.ls.length) (h : r.ls.getD k [] = pickI ((mvsOf p.moves).getD j []) (r.ls.getD i [])) : nbI (mvsOf p.moves) r.ls i j = k := idx_uniq (tbl_nodup hq hr) hk h
end
/-- The row of a pattern's neighbours; the step down; the whole way down. -/
def rowN (mvs ls : List (List Int)) (i : Nat) : List Nat := (List.range mvs.length).map (nbI mvs ls i)
def fitR (res : List Int) (i k : Nat) : Bool := decide (res.getD k 0 = (res.getD i 0 + 2) % 3)
def stepR (mvs ls : List (List Int)) (res : List Int) (i : Nat) : Option Nat := (rowN mvs ls i).find? (fitR res i)
def walkR (mvs ls : List (List Int)) (res : List Int) : Nat → Nat → Nat → Option Nat
  | 0, i, m => if i = 0 then some m else none
  | f + 1, i, m => if i = 0 then some m else (match stepR mvs ls res i with
    | none => none
    | some k => walkR mvs ls res f k (m + 1))
def distR (mvs ls : List (List Int)) (res : List Int) (i : Nat) : Option Nat := walkR mvs ls res ls.length i 0
def allW (mvs ls : List (List Int)) (res : List Int) : Bool := (List.range ls.length).all fun i => (distR mvs ls res i).isSome
def listW (mvs ls : List (List Int)) (res : List Int) (k : Nat) : List Int := (List.range k).map fun i => (((distR mvs ls res i).getD 0 : Nat) : Int)
section
variable {mvs ls : List (List Int)} {res : List Int}
theorem rowN_len (i : Nat) : (rowN mvs ls i).length = mvs.length := by simp [rowN]
theorem rowN_at {i j : Nat} (hj : j < mvs.length) : (rowN mvs ls i).getD j 0 = nbI mvs ls i j := by simp [rowN, List.getD_eq_getElem?_getD, hj]
theorem step_some {i j : Nat} (hj : j < mvs.length) (hno : ∀ k, k < j → fitR res i (nbI mvs ls i k) = false) (h : fitR res i (nbI mvs ls i j) = true) : stepR mvs ls res i = some (nbI mvs ls i j) := by
  unfold stepR rowN
  have e : List.find? (fitR res i ∘ nbI mvs ls i) (List.range mvs.length) = some j := List.find?_eq_some_iff_getElem.2 ⟨h, j, by simpa using hj, by simp, fun k hk => by simpa using hno k hk⟩
  rw [List.find?_map, e]
  rfl
theorem step_none {i : Nat} (hno : ∀ k, k < mvs.length → fitR res i (nbI mvs ls i k) = false) : stepR mvs ls res i = none := by
  unfold stepR rowN
  rw [List.find?_eq_none]
  intro x hx
  obtain ⟨k, hk, rfl⟩ := List.mem_map.1 hx
  rw [hno k (List.mem_range.1 hk)]
  decide
theorem desc_zero (f m : Nat) : walkR mvs ls res f 0 m = some m := by cases f <;> simp [walkR]
theorem desc_out {i : Nat} (hi : i ≠ 0) (m : Nat) : walkR mvs ls res 0 i m = none := by simp [walkR, hi]
theorem desc_stop {i f m : Nat} (hi : i ≠ 0) (h : stepR mvs ls res i = none) : walkR mvs ls res f i m = none := by
  cases f <;> simp [walkR, hi, h]
theorem desc_next {i f m k : Nat} (hi : i ≠ 0) (h : stepR mvs ls res i = some k) : walkR mvs ls res (f + 1) i m = walkR mvs ls res f k (m + 1) := by
  simp [walkR, hi, h]
theorem desc_bd : ∀ (f i m d : Nat), walkR mvs ls res f i m = some d → m ≤ d ∧ d ≤ m + f := by
  intro f
  induction f with
  | zero =>
    intro i m d h
    by_cases hi : i = 0
    · simp [walkR, hi] at h; omega
    · simp [walkR, hi] at h
  | succ f ih =>
    intro i m d h
    by_cases hi : i = 0
    · simp [walkR, hi] at h; omega
    · cases hs : stepR mvs ls res i with
      | none => simp [walkR, hi, hs] at h
      | some k =>
        simp [walkR, hi, hs] at h
        have := ih k (m + 1) d h
        omega
theorem listW_more (k : Nat) : listW mvs ls res (k + 1) = listW mvs ls res k ++ [(((distR mvs ls res k).getD 0 : Nat) : Int)] := by simp [listW, List.range_succ]
theorem listW_len (k : Nat) : (listW mvs ls res k).length = k := by simp [listW]
theorem allW_iff : allW mvs ls res = true ↔ ∀ i, i < ls.length → (distR mvs ls res i).isSome = true := by
  unfold allW
  rw [List.all_eq_true]
  exact ⟨fun h i hi => h i (List.mem_range.2 hi), fun h i hi => h i (List.mem_range.1 hi)⟩
theorem allW_no {i : Nat} (hi : i < ls.length) (h : distR mvs ls res i = none) : allW mvs ls res = false := by
  rw [Bool.eq_false_iff]
  intro q
  have := allW_iff.1 q i hi
  rw [h] at this
  cases this
end
end Go.Proofs.Ytfhdnanbhigpmaa
