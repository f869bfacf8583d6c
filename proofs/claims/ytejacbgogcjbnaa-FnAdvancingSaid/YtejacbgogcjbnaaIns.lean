/- Plain laws on insertion sort of results. No program is named here. -/
import Derived.Test.YtejacbgogcjbnaaMean
namespace Go.Proofs.Ytejacbgogcjbnaa
open Go.RowKit

/-- x goes in among the first j of l, behind the last of them that is not greater. -/
def insAt (l : List Int) (x : Int) : Nat → List Int
  | 0 => x :: l
  | j + 1 => if lessR x (l.getD j 0) then insAt l x j else l.take (j + 1) ++ x :: l.drop (j + 1)
def ins (l : List Int) (x : Int) : List Int := insAt l x l.length
def isort (xs : List Int) : List Int := xs.foldl ins []
theorem insAt_len (l : List Int) (x : Int) (j : Nat) : (insAt l x j).length = l.length + 1 := by
  induction j with
  | zero => simp [insAt]
  | succ j ih =>
    unfold insAt
    split
    · exact ih
    · rw [List.length_append, List.length_cons, ← Nat.add_assoc, ← List.length_append, List.take_append_drop]
theorem ins_len (l : List Int) (x : Int) : (ins l x).length = l.length + 1 := insAt_len l x _
theorem isort_more (xs : List Int) (k : Nat) (hk : k < xs.length) {x : Int} (hx : xs.getD k 0 = x) : isort (xs.take (k + 1)) = ins (isort (xs.take k)) x := by
  unfold isort
  rw [take_get xs k hk, List.foldl_append, hx]
  rfl
theorem isort_len (xs : List Int) : (isort xs).length = xs.length := by
  have : ∀ (ys l : List Int), (ys.foldl ins l).length = l.length + ys.length := by
    intro ys
    induction ys with
    | nil => intro l; simp
    | cons y ys ih => intro l; rw [List.foldl_cons, ih, ins_len, List.length_cons]; omega
  have := this xs []
  simpa [isort] using this
theorem insAt_perm (l : List Int) (x : Int) (j : Nat) : (insAt l x j).Perm (x :: l) := by
  induction j with
  | zero => exact List.Perm.refl _
  | succ j ih =>
    unfold insAt
    split
    · exact ih
    · refine List.perm_middle.trans ?_
      rw [List.take_append_drop]
theorem isort_perm (xs : List Int) : (isort xs).Perm xs := by
  have : ∀ (ys l : List Int), (ys.foldl ins l).Perm (ys ++ l) := by
    intro ys
    induction ys with
    | nil => intro l; exact List.Perm.refl _
    | cons y ys ih =>
      intro l
      rw [List.foldl_cons]
      refine (ih _).trans ?_
      rw [List.cons_append]
      refine (List.Perm.append_left ys (insAt_perm l y l.length)).trans ?_
      exact List.perm_middle
  have := this xs []
  simpa [isort] using this
theorem isort_isRes {xs : List Int} (h : xs.all isRes = true) : (isort xs).all isRes = true := by
  rw [List.all_eq_true] at *
  exact fun x hx => h x ((isort_perm xs).mem_iff.1 hx)
def avgOf (xs : List Int) : Int := meanOf (((isort xs).drop 1).take 3)
def avgRes (xs : List Int) : Int := if okTimes xs && xs.length == 5 then avgOf xs else -2
end Go.Proofs.Ytejacbgogcjbnaa
