/- A time read from its display form: both packages give one answer. Plain. -/
import Derived.Test.YtggchbohmjfneaaDoorPe
namespace Go.Proofs.YtggchbohmjfneaaDoor
open Go.RowKit

def allDig (l : List UInt8) : Bool := l.all digB
def flatL (L : List ByteArray) : List UInt8 := (L.map fun b => b.data.toList).flatten
def flatF (s : ByteArray) : List UInt8 := flatL (Lib.goFieldsP sepP s)
noncomputable def implOk (s : ByteArray) : Bool := if s = dnf then true else if 8 < s.size then false else allDig (flatF s) && (inR (comb (nOf (flatF s))) 0 360000 && decide (fmtS (comb (nOf (flatF s))) = s))
noncomputable def implAns (s : ByteArray) : Int := if s = dnf then -1 else if implOk s = true then comb (nOf (flatF s)) else 0
theorem fmtS_size (n : Int) : (fmtS n).size = (fmtL n).length := by unfold fmtS; simp [ByteArray.size]
theorem formOf {s : ByteArray} {m : Nat} (hm : m ≤ 360000) (h : s = fmtS (m : Int)) : s ≠ dnf ∧ s ≠ ⟨#[]⟩ ∧ valL s.data.toList = m ∧ s.size ≤ 8 ∧ allDig (flatF s) = true ∧ comb (nOf (flatF s)) = m := by
  have hl := fmtL_len m hm
  have hsz : s.size = (fmtL (m : Int)).length := by rw [h, fmtS_size]
  obtain ⟨h1, h2, h3⟩ := digs_all m hm
  have hf : flatF s = digsOf m := by
    unfold flatF flatL
    rw [fields_flat s (by rw [h]; exact h3), h]
    rfl
  refine ⟨fun e => ?_, fun e => ?_, by rw [h]; exact valL_fmt m hm, by omega, ?_, by rw [hf]; exact h2⟩
  · rw [e] at hsz
    have : dnf.size = 3 := rfl
    omega
  · rw [e] at hsz
    have : (⟨#[]⟩ : ByteArray).size = 0 := rfl
    omega
  · rw [hf]
    unfold allDig
    rw [List.all_eq_true]
    exact h1
theorem val_pos (l : List UInt8) : 0 ≤ valL l := by
  have := vOf_bd l 12
  unfold valL
  omega
theorem both (s : ByteArray) : implOk s = specOk s ∧ implAns s = specAns s := by
  by_cases hd : s = dnf
  · have h1 : implOk s = true := by unfold implOk; rw [if_pos hd]
    have hn : specN s = -1 := by unfold specN; rw [if_pos hd]
    have hf : fmtS (-1) = dnf := rfl
    have h2 : specOk s = true := by
      unfold specOk
      rw [hn, hf, decide_eq_true hd.symm, decide_eq_false (by rw [hd]; decide)]
      rfl
    refine ⟨by rw [h1, h2], ?_⟩
    unfold implAns specAns
    rw [if_pos hd, if_pos h2, hn]
  have hn : specN s = valL s.data.toList := by unfold specN; rw [if_neg hd]
  by_cases hm : ∃ m : Nat, m ≤ 360000 ∧ s = fmtS (m : Int)
  · obtain ⟨m, hm1, hm2⟩ := hm
    obtain ⟨-, a2, a3, a4, a5, a6⟩ := formOf hm1 hm2
    have h1 : implOk s = true := by
      unfold implOk
      rw [if_neg hd, if_neg (by omega), a5, a6, decide_eq_true hm2.symm, inR_iff.2 ⟨by omega, by omega⟩]
      rfl
    have h2 : specOk s = true := by
      unfold specOk
      rw [hn, a3, decide_eq_true hm2.symm, decide_eq_false a2]
      rfl
    refine ⟨by rw [h1, h2], ?_⟩
    unfold implAns specAns
    rw [if_neg hd, if_pos h1, if_pos h2, hn, a3, a6]
  · have key : ∀ y : Int, inR y 0 360000 = true → fmtS y ≠ s := by
      intro y hy e
      have := inR_iff.1 hy
      exact hm ⟨y.toNat, by omega, by rw [← e]; congr 1; omega⟩
    have h1 : implOk s = false := by
      unfold implOk
      rw [if_neg hd]
      split
      · rfl
      · cases hr : inR (comb (nOf (flatF s))) 0 360000 with
        | false => simp
        | true => rw [decide_eq_false (key _ hr)]; simp
    have h2 : specOk s = false := by
      unfold specOk
      rw [hn]
      by_cases he : s = ⟨#[]⟩
      · rw [decide_eq_true he]; rfl
      · have hv := val_pos s.data.toList
        have : fmtS (valL s.data.toList) ≠ s := by
          cases hr : inR (valL s.data.toList) 0 360000 with
          | true => exact key _ hr
          | false => rw [fmtS_no (by omega) hr]; exact fun e => he e.symm
        rw [decide_eq_false this]
        simp
    refine ⟨by rw [h1, h2], ?_⟩
    unfold implAns specAns
    rw [if_neg hd, h1, h2]
    rfl
/-! Bounds. -/
theorem nOf_snoc (l : List UInt8) (c : UInt8) : nOf (l ++ [c]) = nStep (nOf l) c := by simp [nOf]
theorem allDig_snoc (l : List UInt8) (c : UInt8) : allDig (l ++ [c]) = (allDig l && digB c) := by simp [allDig]
theorem allDig_app (a b : List UInt8) : allDig (a ++ b) = (allDig a && allDig b) := by simp [allDig]
theorem nTake_bd (l : List UInt8) (h : allDig l = true) : ∀ k, 0 ≤ nOf (l.take k) ∧ nOf (l.take k) ≤ 10 ^ k - 1 := by
  intro k
  induction k with
  | zero => simp [nOf]
  | succ k ih =>
    have hp : (0 : Int) < 10 ^ k := Int.pow_pos (by decide)
    rw [Int.pow_succ]
    by_cases hk : k < l.length
    · have hc : digB l[k] = true := (List.all_eq_true.1 h) _ (List.getElem_mem _)
      unfold digB at hc
      rw [Bool.and_eq_true, decide_eq_true_iff, decide_eq_true_iff] at hc
      rw [List.take_succ_eq_append_getElem hk, nOf_snoc, nStep]
      omega
    · rw [List.take_of_length_le (by omega : l.length ≤ k)] at ih
      rw [List.take_of_length_le (by omega : l.length ≤ k + 1)]
      omega
theorem nOf_bd {l : List UInt8} (h : allDig l = true) (hl : l.length ≤ 8) : 0 ≤ nOf l ∧ nOf l ≤ 99999999 := by
  have h1 := nTake_bd l h 8
  rw [List.take_of_length_le hl] at h1
  have : (10 : Int) ^ 8 = 100000000 := by decide
  omega
theorem flatL_len (L : List ByteArray) : (flatL L).length = (L.map ByteArray.size).sum := by
  unfold flatL
  rw [List.length_flatten, List.map_map]
  rfl
theorem flatF_len (s : ByteArray) : (flatF s).length ≤ s.size := by
  unfold flatF
  rw [flatL_len]
  exact fields_len _ _
theorem flatL_more (L : List ByteArray) (k : Nat) (h : k < L.length) : flatL (L.take (k + 1)) = flatL (L.take k) ++ L[k].data.toList := by
  unfold flatL
  rw [List.take_succ_eq_append_getElem h, List.map_append, List.flatten_append]
  simp only [List.map_cons, List.map_nil, List.flatten_cons, List.flatten_nil, List.append_nil]
theorem flatL_split (L : List ByteArray) (k : Nat) : flatL L = flatL (L.take k) ++ flatL (L.drop k) := by
  unfold flatL
  rw [← List.flatten_append, ← List.map_append, List.take_append_drop]
theorem flat_pre (L : List ByteArray) (k : Nat) (h : k < L.length) : flatL L = flatL (L.take k) ++ L[k].data.toList ++ flatL (L.drop (k + 1)) := by
  rw [flatL_split L (k + 1), flatL_more L k h]
end Go.Proofs.YtggchbohmjfneaaDoor
