/- A table whose binary form is the string itself: its nibbles unpack. Plain. -/
import Derived.Test.YtdkoegccfpdldaaDo
namespace Go.Proofs.Ytdkoegccfpdldaa
open Go.RowKit

theorem flat_eq {ls : List (List Int)} {m : Nat} (h : ∀ i, i < ls.length → (ls.getD i []).length = m) : ∀ i, i ≤ ls.length → (ls.take i).flatten.length = i * m := by
  intro i
  induction i with
  | zero => intro _; simp
  | succ i ih =>
    intro hi
    rw [flat_more (by omega), List.length_append, Nat.succ_mul, ih (by omega), h i (by omega)]
theorem mid_of {s : ByteArray} {A N C : List Int} (h : strOfNums (A ++ N ++ C) = s) : s.extract A.length (A.length + N.length) = strOfNums N := by
  subst h
  apply ByteArray.ext
  rw [ByteArray.data_extract]
  apply Array.toList_inj.1
  rw [Array.toList_extract, strOfNums_data, strOfNums_data, List.extract_eq_take_drop, List.map_append, List.map_append]
  rw [List.append_assoc, List.drop_left' (by simp), Nat.add_sub_cancel_left, List.take_left' (by simp)]
theorem ok_of {s : ByteArray} (hsz : s.size = szOf s) (ho : encOk (decT s) = true) (he : encS (decT s) = s) : unOk (nibsIn s) (cntOf s) = true := by
  have ho2 := ho
  rw [encOk, Bool.and_eq_true] at ho2
  have G := good_of ho2.1
  obtain ⟨l1, l2⟩ := decT_len s
  have hn := G.p2
  rw [l1] at hn
  have htl : (decT s).trk.length = wdOf s := by
    have : (decT s).trk.length = (numsOf (s.extract 5 (5 + wdOf s))).length := rfl
    rw [this, numsOf_len, ext_len _ _ _ (by rw [hsz]; unfold szOf endOf; omega)]
    omega
  rw [encS, if_pos ho] at he
  have hfl : (decT s).pats.flatten.length = cntOf s * wdOf s := by
    have := flat_eq (ls := (decT s).pats) (m := wdOf s) (fun i hi => by rw [G.rl i hi, htl]) _ (Nat.le_refl _)
    rwa [List.take_length, l1] at this
  have hA : (hdL (decT s) ++ (decT s).trk ++ mdL (decT s) ++ (decT s).pats.flatten).length = endOf s := by
    rw [List.length_append, List.length_append, List.length_append, hfl, htl]
    unfold endOf
    simp [hdL, mdL]
    omega
  have hN : (bytesBy (nib (decT s).dist) (((decT s).dist.length + 1) / 2)).length = (cntOf s + 1) / 2 := by rw [bytesBy_len, l2]
  have hm := mid_of he
  rw [hA, hN, l2] at hm
  have hni : nibsIn s = strOfNums (bytesBy (nib (decT s).dist) ((cntOf s + 1) / 2)) := by
    unfold nibsIn
    rw [← hm]
    congr 1
  have hns : (nibsIn s).size = (cntOf s + 1) / 2 := by rw [hni, strOfNums_size, bytesBy_len]
  unfold unOk
  rw [Bool.and_eq_true, Bool.and_eq_true]
  refine ⟨⟨inR_iff.2 ⟨by omega, by omega⟩, decide_eq_true (by rw [hns]; omega)⟩, decide_eq_true ?_⟩
  rw [Int.toNat_natCast]
  exact hni.symm
end Go.Proofs.Ytdkoegccfpdldaa
