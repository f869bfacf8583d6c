/- Packing of residues, at both packages. Conditions: as each contract says. -/
import Derived.Test.YtdkoegccfpdldaaPn
namespace Go.Proofs.Ytdkoegccfpdldaa
open Go.RowKit

def rpart (ys : List Int) (m : Nat) : Nat → Int
  | 0 => 0
  | e + 1 => 4 * rpart ys m e + ys.getD (m + e) 3
theorem rpart_four (ys : List Int) (m : Nat) (h : m % 4 = 0) : rpart ys m 4 = rsd ys (m / 4) := by
  simp only [rpart, rsd]
  rw [show 4 * (m / 4) = m from by omega, Nat.add_zero]
  omega
def Small3 (ys : List Int) : Prop := ∀ k, k < ys.length → 0 ≤ ys.getD k 0 ∧ ys.getD k 0 ≤ 3
theorem Small3.any {ys : List Int} (h : Small3 ys) (k : Nat) : 0 ≤ ys.getD k 3 ∧ ys.getD k 3 ≤ 3 := by
  rcases Nat.lt_or_ge k ys.length with hk | hk
  · rw [getD_any 3 0 hk]; exact h k hk
  · rw [List.getD_eq_getElem?_getD, List.getElem?_eq_none hk]; decide
theorem rpart_bd {ys : List Int} (h : Small3 ys) (m e : Nat) (he : e ≤ 3) : 0 ≤ rpart ys m e ∧ rpart ys m e ≤ 63 := by
  have a0 := h.any m
  have a1 := h.any (m + 1)
  have a2 := h.any (m + 2)
  match e, he with
  | 0, _ => simp [rpart]
  | 1, _ => simp only [rpart, Nat.add_zero]; omega
  | 2, _ => simp only [rpart, Nat.add_zero]; omega
  | 3, _ => simp only [rpart, Nat.add_zero]; omega
theorem rsd_bd {ys : List Int} (h : Small3 ys) (j : Nat) : 0 ≤ rsd ys j ∧ rsd ys j ≤ 255 := by
  have a0 := h.any (4 * j)
  have a1 := h.any (4 * j + 1)
  have a2 := h.any (4 * j + 2)
  have a3 := h.any (4 * j + 3)
  unfold rsd
  omega
def thirds (xs : List Int) : List Int := xs.map fun x => x % 3
theorem thirds_len (xs : List Int) : (thirds xs).length = xs.length := by simp [thirds]
theorem thirds_small (xs : List Int) : Small3 (thirds xs) := by
  intro k hk
  rw [getD_at _ _ hk]
  simp only [thirds, List.getElem_map]
  omega
theorem thirds_more (xs : List Int) (k : Nat) (hk : k < xs.length) {x : Int} (hx : xs.getD k 0 = x) : thirds (xs.take (k + 1)) = thirds (xs.take k) ++ [x % 3] := by
  rw [take_get xs k hk, hx]; simp [thirds]
def big63 : Int := 9223372036854775807
def resS (xs : List Int) : ByteArray := if allIn xs big63 then strOfNums (bytesBy (rsd (thirds xs)) ((xs.length + 3) / 4)) else ⟨#[]⟩
theorem allIn_no_len {xs : List Int} {m : Int} (h : ¬ xs.length ≤ 3000) : allIn xs m = false := by simp [allIn, h]
theorem allIn_no_neg {xs : List Int} {m : Int} {k : Nat} (hk : k < xs.length) {x : Int} (hx : xs.getD k 0 = x) (h : x < 0) : allIn xs m = false := by
  rw [Bool.eq_false_iff]
  intro h2
  have := ((allIn_at h2).2 k hk).1
  rw [hx] at this
  omega
theorem allIn_yes {xs : List Int} (hl : xs.length ≤ 3000) (hf : Fits xs) (h : ∀ k, k < xs.length → 0 ≤ xs.getD k 0) : allIn xs big63 = true := by
  simp only [allIn, Bool.and_eq_true, decide_eq_true_eq, List.all_eq_true]
  refine ⟨hl, fun x hx => inR_iff.2 ?_⟩
  obtain ⟨k, hk, rfl⟩ := List.mem_iff_getElem.1 hx
  have h1 := h k hk
  have h2 := hf.at_ k
  rw [getD_at _ _ hk] at h1 h2
  exact ⟨h1, h2.2⟩
def NonNegTo (xs : List Int) (k : Nat) : Prop := ∀ j, j < k → 0 ≤ xs.getD j 0
theorem NonNegTo.more {xs : List Int} {k : Nat} (h : NonNegTo xs k) {x : Int} (hx : xs.getD k 0 = x) (h0 : 0 ≤ x) : NonNegTo xs (k + 1) := by
  intro j hj
  rcases Nat.lt_or_ge j k with h1 | h1
  · exact h j h1
  · rw [show j = k from by omega, hx]; exact h0
end Go.Proofs.Ytdkoegccfpdldaa
