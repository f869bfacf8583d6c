/- The bytes of a table: plain facts. -/
import Derived.Test.YtdkoegccfpdldaaNu
import Derived.Test.YtdkoegccfpdldaaTs
import Derived.Test.YtdkoegccfpdldaaSum
import Derived.Test.YtdkoegccfpdldaaPn
namespace Go.Proofs.Ytdkoegccfpdldaa
open Go.RowKit

theorem ckTo_bd (l : List UInt8) : 0 ≤ (ckTo l).1 ∧ (ckTo l).1 ≤ 65521 ∧ 0 ≤ (ckTo l).2 ∧ (ckTo l).2 ≤ 65521 := by
  unfold ckTo
  have : ∀ (l : List UInt8) (p : Int × Int), 0 ≤ p.1 → p.1 ≤ 65521 → 0 ≤ p.2 → p.2 ≤ 65521 → 0 ≤ (l.foldl ckStep p).1 ∧ (l.foldl ckStep p).1 ≤ 65521 ∧ 0 ≤ (l.foldl ckStep p).2 ∧ (l.foldl ckStep p).2 ≤ 65521 := by
    intro l
    induction l with
    | nil => intro p a b c d; exact ⟨a, b, c, d⟩
    | cons x l ih =>
      intro p a b c d
      rw [List.foldl_cons]
      refine ih _ ?_ ?_ ?_ ?_ <;> simp only [ckStep] <;> omega
  exact this l (1, 0) (by decide) (by decide) (by decide) (by decide)
theorem ck_bd (l : List UInt8) : 0 ≤ cksum l ∧ cksum l ≤ 9223372036854775807 := by
  have := ckTo_bd l
  unfold cksum
  omega
def hdL (t : Tb) : List Int := [80, 68, 66, 49] ++ [(t.trk.length : Int)]
def mdL (t : Tb) : List Int := [(t.pats.length : Int) / 256, (t.pats.length : Int) % 256]
def bodyL (t : Tb) : List Int := hdL t ++ t.trk ++ mdL t ++ t.pats.flatten ++ bytesBy (nib t.dist) ((t.dist.length + 1) / 2)
def encL (t : Tb) : List Int := bodyL t ++ bytesBy (numAt (cksum (strOfNums (bodyL t)).data.toList) 4) 4
noncomputable def encOk (t : Tb) : Bool := wfQ t && allIn t.dist 15
noncomputable def encS (t : Tb) : ByteArray := if encOk t then strOfNums (encL t) else ⟨#[]⟩
theorem strOfNums_add (xs ys : List Int) : strOfNums xs ++ strOfNums ys = strOfNums (xs ++ ys) := by
  apply ByteArray.ext
  simp [strOfNums]
structure GoodT (t : Tb) : Prop where
  l1 : 1 ≤ t.trk.length
  l2 : t.trk.length ≤ 20
  tv : ∀ k, k < t.trk.length → 0 ≤ t.trk.getD k 0 ∧ t.trk.getD k 0 ≤ 255
  p1 : 1 ≤ t.pats.length
  p2 : t.pats.length ≤ 3000
  rl : ∀ i, i < t.pats.length → (t.pats.getD i []).length = t.trk.length
  rv : ∀ i, i < t.pats.length → ∀ k, k < (t.pats.getD i []).length → 0 ≤ (t.pats.getD i []).getD k 0 ∧ (t.pats.getD i []).getD k 0 ≤ 255
  dl : t.dist.length = t.pats.length
theorem good_of {t : Tb} (h : wfQ t = true) : GoodT t := by
  obtain ⟨h1, h2, h3, h4, h5⟩ := wfQ_iff.1 h
  obtain ⟨a, b⟩ := ptQ_iff.1 h1
  have c := b.len (by decide)
  refine ⟨a, by omega, fun k hk => ?_, h2, h3, fun i hi => ?_, fun i hi k hk => ?_, h4⟩
  · have := b k hk; omega
  · exact (diQ_iff.1 (h5 i hi).1).1
  · have := (diQ_iff.1 (h5 i hi).1).2 k hk; omega
theorem flat_more {ls : List (List Int)} {i : Nat} (h : i < ls.length) : (ls.take (i + 1)).flatten = (ls.take i).flatten ++ ls.getD i [] := by
  rw [List.take_succ_eq_append_getElem h, List.flatten_append]
  simp [List.getD_eq_getElem?_getD, List.getElem?_eq_getElem h]
theorem flat_len {ls : List (List Int)} {m : Nat} (h : ∀ i, i < ls.length → (ls.getD i []).length ≤ m) : ∀ i, i ≤ ls.length → (ls.take i).flatten.length ≤ i * m := by
  intro i
  induction i with
  | zero => intro _; simp
  | succ i ih =>
    intro hi
    rw [flat_more (by omega), List.length_append, Nat.succ_mul]
    have := ih (by omega)
    have := h i (by omega)
    omega
end Go.Proofs.Ytdkoegccfpdldaa
