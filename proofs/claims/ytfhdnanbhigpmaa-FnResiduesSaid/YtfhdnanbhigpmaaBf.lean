/- The breadth-first search over patterns, plain. -/
import Derived.Test.YtfhdnanbhigpmaaGi
import Derived.Test.YtfhdnanbhigpmaaPg
import Derived.Test.YtfhdnanbhigpmaaKy
namespace Go.Proofs.Ytfhdnanbhigpmaa
open Go.RowKit Grp

def natOf (m : List Int) : List Nat := m.map Int.toNat
def invI (m : List Int) : List Int := natI (inv (natOf m))
def pickI (mv pat : List Int) : List Int := pat.map fun x => mv.getD x.toNat 0
/-- The moves in the order of the letters: each and its inverse. -/
def mvsOf : List (List Int) → List (List Int)
  | [] => []
  | m :: r => m :: invI m :: mvsOf r
/-- What has been found: the lists and their depths. -/
structure Bs where
  ls : List (List Int)
  ds : List Int
def inL (ls : List (List Int)) (x : List Int) : Bool := ls.any fun y => decide (y = x)
theorem inL_iff {ls : List (List Int)} {x : List Int} : inL ls x = true ↔ x ∈ ls := by
  unfold inL
  rw [List.any_eq_true]
  exact ⟨fun ⟨k, h1, h2⟩ => by rw [← of_decide_eq_true h2]; exact h1, fun h => ⟨x, h, decide_eq_true rfl⟩⟩
def addB (s : Bs) (x : List Int) (d : Int) : Option Bs := if inL s.ls x = true then some s else if s.ls.length = 3000 then none else some ⟨s.ls ++ [x], s.ds ++ [d]⟩
def nextOf (k : Nat) (m : List Int) (s : Bs) : List Int := pickI m (s.ls.getD k [])
def depOf (k : Nat) (s : Bs) : Int := s.ds.getD k 0 + 1
def innB (k : Nat) : List (List Int) → Bs → Option Bs
  | [], s => some s
  | m :: r, s => match addB s (nextOf k m s) (depOf k s) with
    | none => none
    | some s' => innB k r s'
def bfsB (mvs : List (List Int)) : Nat → Nat → Bs → Option Bs
  | 0, _, s => some s
  | f + 1, k, s => if k < s.ls.length then (match innB k mvs s with
      | none => none
      | some s' => bfsB mvs f (k + 1) s') else some s
def searchB (mvs : List (List Int)) (start : List Int) : Option Bs := bfsB mvs 3001 0 ⟨[start], [0]⟩
/-- Points below n, L of them. -/
def PtsOk (n L : Nat) (x : List Int) : Prop := x.length = L ∧ ∀ j, j < L → 0 ≤ x.getD j 0 ∧ x.getD j 0 < n
structure BsOk (n L : Nat) (s : Bs) : Prop where
  len : s.ds.length = s.ls.length
  cap : s.ls.length ≤ 3000
  rows : ∀ i, i < s.ls.length → PtsOk n L (s.ls.getD i [])
  dep : ∀ i, i < s.ls.length → 0 ≤ s.ds.getD i 0 ∧ s.ds.getD i 0 ≤ i
theorem getDsnocZ (l : List Int) (p : Int) (j : Nat) (hj : j < l.length) : (l ++ [p]).getD j 0 = l.getD j 0 := by rw [List.getD_eq_getElem?_getD, List.getD_eq_getElem?_getD, List.getElem?_append_left hj]
theorem getDlastZ (l : List Int) (p : Int) : (l ++ [p]).getD l.length 0 = p := by rw [List.getD_eq_getElem?_getD, List.getElem?_append_right (Nat.le_refl _), Nat.sub_self]; rfl
theorem BsOk.more {n L : Nat} {s : Bs} (h : BsOk n L s) (hc : s.ls.length ≠ 3000) {x : List Int} (hx : PtsOk n L x) {d : Int} (d0 : 0 ≤ d) (d1 : d ≤ s.ls.length) : BsOk n L ⟨s.ls ++ [x], s.ds ++ [d]⟩ := by
  have hcap := h.cap
  refine ⟨by simp [h.len], by simp; omega, fun i hi => ?_, fun i hi => ?_⟩
  · dsimp only at hi ⊢
    rw [List.length_append, List.length_singleton] at hi
    by_cases e : i < s.ls.length
    · rw [getDsnocI _ _ _ e]; exact h.rows i e
    · obtain rfl : i = s.ls.length := by omega
      rw [getDlastI]; exact hx
  · dsimp only at hi ⊢
    rw [List.length_append, List.length_singleton] at hi
    by_cases e : i < s.ls.length
    · rw [getDsnocZ _ _ _ (by rw [h.len]; exact e)]; exact h.dep i e
    · obtain rfl : i = s.ls.length := by omega
      rw [← h.len, getDlastZ, h.len]; exact ⟨d0, d1⟩
theorem BsOk.depth {n L k : Nat} {s : Bs} (h : BsOk n L s) (hk : k < s.ls.length) : 0 ≤ depOf k s ∧ depOf k s ≤ s.ls.length ∧ depOf k s ≤ 3000 := by
  have h1 := h.dep k hk
  have h2 := h.cap
  unfold depOf
  omega
theorem PtsOk.pick {n L : Nat} {mv pat : List Int} (hm : PtsOk n n mv) (hp : PtsOk n L pat) : PtsOk n L (pickI mv pat) := by
  refine ⟨by unfold pickI; rw [List.length_map]; exact hp.1, fun j hj => ?_⟩
  have h1 := hp.2 j hj
  have e : (pickI mv pat).getD j 0 = mv.getD (pat.getD j 0).toNat 0 := by
    have hj2 : j < pat.length := by rw [hp.1]; exact hj
    unfold pickI
    rw [List.getD_eq_getElem?_getD, List.getElem?_map, List.getElem?_eq_getElem hj2, getD_at _ _ hj2]
    rfl
  rw [e]
  exact hm.2 _ (by omega)
theorem pickI_at {mv pat : List Int} {j : Nat} (hj : j < pat.length) : (pickI mv pat).getD j 0 = mv.getD (pat.getD j 0).toNat 0 := by
  unfold pickI
  rw [List.getD_eq_getElem?_getD, List.getElem?_map, List.getElem?_eq_getElem hj, getD_at _ _ hj]
  rfl
theorem innB_at {k : Nat} {mvs : List (List Int)} {i : Nat} (hi : i < mvs.length) (s : Bs) : innB k (mvs.drop i) s = match addB s (nextOf k (mvs.getD i []) s) (depOf k s) with
    | none => none
    | some s' => innB k (mvs.drop (i + 1)) s' := by
  rw [List.drop_eq_getElem_cons hi, List.getD_eq_getElem?_getD, List.getElem?_eq_getElem hi]
  rfl
theorem innB_end {k : Nat} {mvs : List (List Int)} {i : Nat} (hi : mvs.length ≤ i) (s : Bs) : innB k (mvs.drop i) s = some s := by
  rw [List.drop_eq_nil_of_le hi]; rfl
/-- What is to come, in the midst of the row k. -/
def restB (mvs : List (List Int)) (k i : Nat) (s : Bs) : Option Bs := match innB k (mvs.drop i) s with
  | none => none
  | some s' => bfsB mvs (3000 - k) (k + 1) s'
theorem bfs_row {mvs : List (List Int)} {k : Nat} {s : Bs} (hk : k < s.ls.length) (hc : s.ls.length ≤ 3000) : bfsB mvs (3001 - k) k s = restB mvs k 0 s := by
  rw [show 3001 - k = (3000 - k) + 1 from by omega]
  unfold bfsB restB
  rw [if_pos hk]
  rfl
theorem bfs_end {mvs : List (List Int)} {k : Nat} {s : Bs} (hk : s.ls.length ≤ k) (hc : k ≤ 3000) : bfsB mvs (3001 - k) k s = some s := by
  rw [show 3001 - k = (3000 - k) + 1 from by omega]
  unfold bfsB
  rw [if_neg (by omega)]
theorem rest_end {mvs : List (List Int)} {k i : Nat} {s : Bs} (hi : mvs.length ≤ i) : restB mvs k i s = bfsB mvs (3001 - (k + 1)) (k + 1) s := by
  unfold restB
  rw [innB_end hi]
  rw [show 3001 - (k + 1) = 3000 - k from by omega]
theorem rest_old {mvs : List (List Int)} {k i : Nat} {s : Bs} (hi : i < mvs.length) (h : inL s.ls (nextOf k (mvs.getD i []) s) = true) : restB mvs k i s = restB mvs k (i + 1) s := by
  unfold restB
  rw [innB_at hi]
  unfold addB
  rw [if_pos h]
theorem rest_full {mvs : List (List Int)} {k i : Nat} {s : Bs} (hi : i < mvs.length) (h : inL s.ls (nextOf k (mvs.getD i []) s) = false) (hl : s.ls.length = 3000) : restB mvs k i s = none := by
  unfold restB
  rw [innB_at hi]
  unfold addB
  rw [if_neg (by rw [h]; decide), if_pos hl]
theorem rest_new {mvs : List (List Int)} {k i : Nat} {s : Bs} (hi : i < mvs.length) (h : inL s.ls (nextOf k (mvs.getD i []) s) = false) (hl : s.ls.length ≠ 3000) : restB mvs k i s = restB mvs k (i + 1) ⟨s.ls ++ [nextOf k (mvs.getD i []) s], s.ds ++ [depOf k s]⟩ := by
  unfold restB
  rw [innB_at hi]
  unfold addB
  rw [if_neg (by rw [h]; decide), if_neg hl]
/-! The moves. -/
theorem mvsOf_len (ms : List (List Int)) : (mvsOf ms).length = 2 * ms.length := by
  induction ms with
  | nil => rfl
  | cons m r ih => simp only [mvsOf, List.length_cons, ih]; omega
theorem mvsOf_even (ms : List (List Int)) : ∀ i, i < ms.length → (mvsOf ms).getD (2 * i) [] = ms.getD i [] := by
  induction ms with
  | nil => intro i hi; simp at hi
  | cons m r ih =>
    intro i hi
    cases i with
    | zero => rfl
    | succ i =>
      have := ih i (by simpa using hi)
      rw [show 2 * (i + 1) = 2 * i + 1 + 1 from by omega]
      exact this
theorem mvsOf_odd (ms : List (List Int)) : ∀ i, i < ms.length → (mvsOf ms).getD (2 * i + 1) [] = invI (ms.getD i []) := by
  induction ms with
  | nil => intro i hi; simp at hi
  | cons m r ih =>
    intro i hi
    cases i with
    | zero => rfl
    | succ i =>
      have := ih i (by simpa using hi)
      rw [show 2 * (i + 1) + 1 = 2 * i + 1 + 1 + 1 from by omega]
      exact this
theorem natOf_natI (p : List Nat) : natOf (natI p) = p := by
  unfold natOf natI
  rw [List.map_map]
  exact (List.map_congr_left (fun x _ => by simp)).trans (List.map_id _)
theorem isP_pts {n : Nat} {p : List Nat} (h : IsP n p) : PtsOk n n (natI p) := ⟨by rw [natI_len, h.len], fun j hj => by rw [natI_getD]; have := h.lt hj; omega⟩
/-- Valid moves: permutations of n points. -/
def MvsOk (n : Nat) (ms : List (List Int)) : Prop := ∀ i, i < ms.length → ∃ p, IsP n p ∧ ms.getD i [] = natI p
theorem MvsOk.all {n : Nat} {ms : List (List Int)} (h : MvsOk n ms) : ∀ i, i < (mvsOf ms).length → PtsOk n n ((mvsOf ms).getD i []) := by
  intro i hi
  rw [mvsOf_len] at hi
  obtain ⟨p, hp, e⟩ := h (i / 2) (by omega)
  rcases Nat.mod_two_eq_zero_or_one i with e2 | e2
  · rw [show i = 2 * (i / 2) from by omega, mvsOf_even ms _ (by omega), e]
    exact isP_pts hp
  · rw [show i = 2 * (i / 2) + 1 from by omega, mvsOf_odd ms _ (by omega), e]
    unfold invI
    rw [natOf_natI]
    exact isP_pts hp.inv
/-! Keys. -/
def keysOf (ls : List (List Int)) : List ByteArray := ls.map strOfNums
end Go.Proofs.Ytfhdnanbhigpmaa
