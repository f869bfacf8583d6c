/- A job that is filled step by step, plain. A job's chain of expansions is the breadth-first search, plain. -/
import Derived.Test.YtfhdnanbhigpmaaSf
import Derived.Test.YtfhdnanbhigpmaaNu
namespace Go.Proofs.Ytfhdnanbhigpmaa
section
open Go.RowKit Grp

theorem nums_cat (xs ys : List Int) : strOfNums xs ++ strOfNums ys = strOfNums (xs ++ ys) := by
  unfold strOfNums
  apply ByteArray.ext
  simp [List.map_append]
/-- What the moves add to ls from the pattern pat; acc has been added. -/
def addTo (ls : List (List Int)) (pat : List Int) : List (List Int) → List (List Int) → List (List Int)
  | [], acc => acc
  | m :: r, acc => if inL (ls ++ acc) (pickI m pat) = true then addTo ls pat r acc else addTo ls pat r (acc ++ [pickI m pat])
def addedB (mvs ls : List (List Int)) (k : Nat) : List (List Int) := addTo ls (ls.getD k []) mvs []
def headL (k : Nat) (ad : List (List Int)) : List Int := bytesBy (numAt (k : Int) 2) 2 ++ bytesBy (numAt (ad.length : Int) 1) 1 ++ ad.flatten
def recS (k : Nat) (ad : List (List Int)) : ByteArray := strOfNums (headL k ad)
def fullS (k : Nat) (ad : List (List Int)) : ByteArray := recS k ad ++ strOfNums (bytesBy (numAt (cksum (recS k ad).data.toList) 4) 4)
theorem inL_append (a b : List (List Int)) (x : List Int) : inL (a ++ b) x = (inL a x || inL b x) := by unfold inL; exact List.any_append
theorem addTo_old {ls : List (List Int)} {pat : List Int} {mvs acc : List (List Int)} {i : Nat} (hi : i < mvs.length) (h : inL (ls ++ acc) (pickI (mvs.getD i []) pat) = true) : addTo ls pat (mvs.drop i) acc = addTo ls pat (mvs.drop (i + 1)) acc := by
  rw [List.drop_eq_getElem_cons hi]
  rw [List.getD_eq_getElem?_getD, List.getElem?_eq_getElem hi] at h
  simp only [addTo]
  exact if_pos h
theorem addTo_new {ls : List (List Int)} {pat : List Int} {mvs acc : List (List Int)} {i : Nat} (hi : i < mvs.length) (h : inL (ls ++ acc) (pickI (mvs.getD i []) pat) = false) : addTo ls pat (mvs.drop i) acc = addTo ls pat (mvs.drop (i + 1)) (acc ++ [pickI (mvs.getD i []) pat]) := by
  rw [List.drop_eq_getElem_cons hi]
  rw [List.getD_eq_getElem?_getD, List.getElem?_eq_getElem hi] at h ⊢
  simp only [addTo]
  exact if_neg (by rw [show (some mvs[i]).getD [] = mvs[i] from rfl] at h; rw [h]; decide)
theorem addTo_end {ls : List (List Int)} {pat : List Int} {mvs acc : List (List Int)} {i : Nat} (hi : mvs.length ≤ i) : addTo ls pat (mvs.drop i) acc = acc := by
  rw [List.drop_eq_nil_of_le hi]; rfl
theorem addTo_len (ls : List (List Int)) (pat : List Int) : ∀ mvs acc, (addTo ls pat mvs acc).length ≤ acc.length + mvs.length := by
  intro mvs
  induction mvs with
  | nil => intro acc; exact Nat.le_refl _
  | cons m r ih =>
    intro acc
    simp only [addTo]
    split
    · have := ih acc; simp only [List.length_cons]; omega
    · have := ih (acc ++ [pickI m pat]); simp only [List.length_append, List.length_cons, List.length_nil] at this ⊢; omega
/-- Rows of L points. -/
def RowsOk (N L : Nat) (ls : List (List Int)) : Prop := ∀ i, i < ls.length → PtsOk N L (ls.getD i [])
theorem RowsOk.snoc {N L : Nat} {ls : List (List Int)} (h : RowsOk N L ls) {x : List Int} (hx : PtsOk N L x) : RowsOk N L (ls ++ [x]) := fun i hi => by
  rw [List.length_append, List.length_singleton] at hi
  by_cases e : i < ls.length
  · rw [getDsnocI _ _ _ e]; exact h i e
  · obtain rfl : i = ls.length := by omega
    rw [getDlastI]; exact hx
theorem addTo_rows {N L : Nat} {ls : List (List Int)} {pat : List Int} (hp : PtsOk N L pat) : ∀ mvs acc, (∀ i, i < mvs.length → PtsOk N N (mvs.getD i [])) → RowsOk N L acc → RowsOk N L (addTo ls pat mvs acc) := by
  intro mvs
  induction mvs with
  | nil => intro acc _ h; exact h
  | cons m r ih =>
    intro acc hm h
    have h0 := hm 0 (by simp)
    have hr : ∀ i, i < r.length → PtsOk N N (r.getD i []) := fun i hi => hm (i + 1) (by simpa using hi)
    simp only [addTo]
    split
    · exact ih acc hr h
    · exact ih _ hr (h.snoc (PtsOk.pick h0 hp))
theorem flat_len {N L : Nat} : ∀ {ls : List (List Int)}, RowsOk N L ls → ls.flatten.length = ls.length * L := by
  intro ls
  induction ls with
  | nil => intro _; simp
  | cons x r ih =>
    intro h
    have h0 := h 0 (by simp)
    have hr : RowsOk N L r := fun i hi => h (i + 1) (by simpa using hi)
    have hx : x.length = L := h0.1
    rw [List.flatten_cons, List.length_append, ih hr, hx, List.length_cons, Nat.succ_mul]
    omega
end
section
open Go.RowKit Grp

/-- The table behind the expansion of entry k. -/
def nextB (mvs : List (List Int)) (s : Bs) (k : Nat) : Bs := ⟨s.ls ++ addedB mvs s.ls k, s.ds ++ List.replicate (addedB mvs s.ls k).length (depOf k s)⟩
theorem innB_next {k : Nat} {ls0 : List (List Int)} {ds0 : List Int} (hk : k < ls0.length) (hk2 : k < ds0.length) : ∀ (mvs : List (List Int)) (acc : List (List Int)) (s' : Bs), innB k mvs ⟨ls0 ++ acc, ds0 ++ List.replicate acc.length (ds0.getD k 0 + 1)⟩ = some s' → s' = ⟨ls0 ++ addTo ls0 (ls0.getD k []) mvs acc, ds0 ++ List.replicate (addTo ls0 (ls0.getD k []) mvs acc).length (ds0.getD k 0 + 1)⟩ := by
  intro mvs
  induction mvs with
  | nil => intro acc s' h; simp only [innB, Option.some.injEq] at h; rw [← h]; rfl
  | cons m r ih =>
    intro acc s' h
    have e1 : (ls0 ++ acc).getD k [] = ls0.getD k [] := by rw [List.getD_eq_getElem?_getD, List.getElem?_append_left hk, ← List.getD_eq_getElem?_getD]
    have e2 : (ds0 ++ List.replicate acc.length (ds0.getD k 0 + 1)).getD k 0 = ds0.getD k 0 := by rw [List.getD_eq_getElem?_getD, List.getElem?_append_left hk2, ← List.getD_eq_getElem?_getD]
    simp only [innB, addB, nextOf, depOf, e1, e2] at h
    simp only [addTo]
    by_cases hin : inL (ls0 ++ acc) (pickI m (ls0.getD k [])) = true
    · rw [if_pos hin] at h ⊢
      exact ih acc s' h
    · rw [if_neg hin] at h ⊢
      by_cases hl : (ls0 ++ acc).length = 3000
      · rw [if_pos hl] at h; cases h
      · rw [if_neg hl] at h
        have e3 : ds0 ++ List.replicate acc.length (ds0.getD k 0 + 1) ++ [ds0.getD k 0 + 1] = ds0 ++ List.replicate (acc ++ [pickI m (ls0.getD k [])]).length (ds0.getD k 0 + 1) := by
          rw [List.length_append, List.length_singleton, List.replicate_succ', List.append_assoc]
        simp only [e3, List.append_assoc] at h
        exact ih _ s' h
theorem innB_nextB {k : Nat} {mvs : List (List Int)} {s s' : Bs} (hk : k < s.ls.length) (hd : s.ds.length = s.ls.length) (h : innB k mvs s = some s') : s' = nextB mvs s k := by
  have := innB_next (k := k) (ls0 := s.ls) (ds0 := s.ds) hk (by omega) mvs [] s' (by simpa using h)
  rw [this]
  rfl
theorem innB_ok {N L k : Nat} : ∀ (mvs : List (List Int)) (s s' : Bs), (∀ i, i < mvs.length → PtsOk N N (mvs.getD i [])) → BsOk N L s → k < s.ls.length → innB k mvs s = some s' → BsOk N L s' ∧ s.ls.length ≤ s'.ls.length := by
  intro mvs
  induction mvs with
  | nil => intro s s' _ hs _ h; simp only [innB, Option.some.injEq] at h; rw [← h]; exact ⟨hs, Nat.le_refl _⟩
  | cons m r ih =>
    intro s s' hm hs hk h
    have h0 := hm 0 (by simp)
    have hr : ∀ i, i < r.length → PtsOk N N (r.getD i []) := fun i hi => hm (i + 1) (by simpa using hi)
    simp only [innB, addB] at h
    by_cases hin : inL s.ls (nextOf k m s) = true
    · rw [if_pos hin] at h
      exact ih s s' hr hs hk h
    · rw [if_neg hin] at h
      by_cases hl : s.ls.length = 3000
      · rw [if_pos hl] at h; cases h
      · rw [if_neg hl] at h
        have hd := hs.depth hk
        have := ih _ s' hr (hs.more hl (PtsOk.pick h0 (hs.rows k hk)) hd.1 hd.2.1) (by simp; omega) h
        exact ⟨this.1, by have := this.2; simp at this; omega⟩
/-- The chain: table and log behind i expansions. -/
def chF (mvs : List (List Int)) (trk : List Int) : Nat → Bs × ByteArray
  | 0 => (⟨[trk], [0]⟩, ⟨#[]⟩)
  | i + 1 => (nextB mvs (chF mvs trk i).1 i, (chF mvs trk i).2 ++ fullS i (addedB mvs (chF mvs trk i).1.ls i))
/-- The first i expansions can be made. -/
def chOk (mvs : List (List Int)) (trk : List Int) (i : Nat) : Prop := ∀ j, j < i → j < (chF mvs trk j).1.ls.length
theorem chOk.less {mvs : List (List Int)} {trk : List Int} {i j : Nat} (h : chOk mvs trk i) (hj : j ≤ i) : chOk mvs trk j := fun k hk => h k (by omega)
theorem ch_bfs {N L : Nat} {mvs : List (List Int)} {trk : List Int} {r : Bs} (hm : ∀ i, i < mvs.length → PtsOk N N (mvs.getD i [])) (ht : PtsOk N L trk) (hr : searchB mvs trk = some r) : ∀ i, chOk mvs trk i → BsOk N L (chF mvs trk i).1 ∧ bfsB mvs (3001 - i) i (chF mvs trk i).1 = some r ∧ i ≤ (chF mvs trk i).1.ls.length := by
  intro i
  induction i with
  | zero =>
    intro _
    refine ⟨⟨rfl, by simp [chF], fun i hi => ?_, fun i hi => ?_⟩, hr, Nat.zero_le _⟩
    · obtain rfl : i = 0 := by simpa [chF] using hi
      exact ht
    · obtain rfl : i = 0 := by simpa [chF] using hi
      exact ⟨by simp [chF], by simp [chF]⟩
  | succ i ih =>
    intro h
    obtain ⟨h1, h2, h3⟩ := ih (h.less (by omega))
    have hi := h i (by omega)
    have hcap := h1.cap
    rw [bfs_row hi hcap] at h2
    unfold restB at h2
    rw [List.drop_zero] at h2
    cases hq : innB i mvs (chF mvs trk i).1 with
    | none => rw [hq] at h2; cases h2
    | some s' =>
      rw [hq] at h2
      have h4 := innB_nextB hi h1.len hq
      have h5 := innB_ok mvs _ s' hm h1 hi hq
      have e : (chF mvs trk (i + 1)).1 = s' := h4.symm
      rw [e]
      refine ⟨h5.1, ?_, by have := h5.2; omega⟩
      rw [show 3001 - (i + 1) = 3000 - i from by omega]
      exact h2
theorem full_size (k : Nat) {N L : Nat} {ad : List (List Int)} (h : RowsOk N L ad) : (fullS k ad).size = 7 + ad.length * L := by
  have z2 : (bytesBy (numAt (k : Int) 2) 2).length = 2 := by rw [num2]; rfl
  have z1 : (bytesBy (numAt (ad.length : Int) 1) 1).length = 1 := by rw [num1]; rfl
  unfold fullS
  rw [ByteArray.size_append]
  unfold recS headL
  rw [strOfNums_size, strOfNums_size, List.length_append, List.length_append, flat_len h, z2, z1, num4]
  simp
  omega
end
end Go.Proofs.Ytfhdnanbhigpmaa
