/- Packing of values of some bits, at the implementation. Conditions: as the contracts say. -/
import Derived.Test.YtfhdnanbhigpmaaRep
namespace Go.Proofs.Ytfhdnanbhigpmaa
open Go.RowKit

def nib (ws : List Int) (j : Nat) : Int := 16 * ws.getD (2 * j) 15 + ws.getD (2 * j + 1) 15
def rsd (ws : List Int) (j : Nat) : Int := 64 * ws.getD (4 * j) 3 + 16 * ws.getD (4 * j + 1) 3 + 4 * ws.getD (4 * j + 2) 3 + ws.getD (4 * j + 3) 3
def bytesBy (f : Nat → Int) (n : Nat) : List Int := (List.range n).map f
def cellsBy (f : Nat → Int) (n : Nat) : List Value := (bytesBy f n).map (Value.int .u8)
theorem cellsBy_len (f : Nat → Int) (n : Nat) : (cellsBy f n).length = n := by simp [cellsBy, bytesBy]
theorem cellsBy_get (f : Nat → Int) (n j : Nat) (h : j < n) : (cellsBy f n)[j]? = some (.int .u8 (f j)) := by simp [cellsBy, bytesBy, h]
theorem cellsBy_set (f f' : Nat → Int) (n j : Nat) (v : Int) (hv : f' j = v) (hne : ∀ i, i ≠ j → f' i = f i) : (cellsBy f n).set j (.int .u8 v) = cellsBy f' n := by
  refine List.ext_getElem? fun i => ?_
  rw [List.getElem?_set]
  by_cases h : j = i
  · subst h
    rw [if_pos rfl]
    by_cases hj : j < n
    · rw [if_pos (by rw [cellsBy_len]; exact hj), cellsBy_get _ _ _ hj, hv]
    · rw [if_neg (by rw [cellsBy_len]; exact hj), List.getElem?_eq_none (by rw [cellsBy_len]; omega)]
  · rw [if_neg h]
    by_cases hj : i < n
    · rw [cellsBy_get _ _ _ hj, cellsBy_get _ _ _ hj, hne i (fun e => h e.symm)]
    · rw [List.getElem?_eq_none (by rw [cellsBy_len]; omega), List.getElem?_eq_none (by rw [cellsBy_len]; omega)]
theorem repC_nib (n : Nat) : repC n n = cellsBy (nib []) n := by
  refine List.ext_getElem? fun i => ?_
  by_cases hj : i < n
  · rw [cellsBy_get _ _ _ hj]; simp [repC, nib, hj]
  · rw [List.getElem?_eq_none (by rw [repC_len _ _ (Nat.le_refl _)]; omega), List.getElem?_eq_none (by rw [cellsBy_len]; omega)]
theorem repC_rsd (n : Nat) : repC n n = cellsBy (rsd []) n := by
  refine List.ext_getElem? fun i => ?_
  by_cases hj : i < n
  · rw [cellsBy_get _ _ _ hj]; simp [repC, rsd, hj]
  · rw [List.getElem?_eq_none (by rw [repC_len _ _ (Nat.le_refl _)]; omega), List.getElem?_eq_none (by rw [cellsBy_len]; omega)]
theorem getD_take {xs : List Int} {k i : Nat} (d : Int) (h : i < k) : (xs.take k).getD i d = xs.getD i d := by
  simp [List.getD_eq_getElem?_getD, h]
theorem getD_over {xs : List Int} {k i : Nat} (d : Int) (h : k ≤ i) : (xs.take k).getD i d = d := by
  rw [List.getD_eq_getElem?_getD, List.getElem?_eq_none (by simp; omega)]; rfl
theorem getD_any {xs : List Int} {k : Nat} (d e : Int) (h : k < xs.length) : xs.getD k d = xs.getD k e := by
  simp [List.getD_eq_getElem?_getD, h]
theorem getD_lt {xs : List Int} {k i : Nat} (d : Int) (h : i < k) (hk : k ≤ xs.length) : (xs.take k).getD i d = xs.getD i 0 := by rw [getD_take d h]; exact getD_any d 0 (by omega)
theorem setn0_all : ∀ o : Fin 256, ∀ v : Fin 16, bits BinOp.or IntKind.u8 (bits BinOp.andNot IntKind.u8 (o.val : Int) 240) ((v.val : Int) * 16) = (o.val : Int) % 16 + 16 * (v.val : Int) := by decide +kernel
theorem setn0 {o v : Int} (o0 : 0 ≤ o) (o1 : o ≤ 255) (v0 : 0 ≤ v) (v1 : v ≤ 15) : bits BinOp.or IntKind.u8 (bits BinOp.andNot IntKind.u8 o 240) (v * 16) = o % 16 + 16 * v := by
  obtain ⟨a, rfl⟩ := Int.eq_ofNat_of_zero_le o0
  obtain ⟨b, rfl⟩ := Int.eq_ofNat_of_zero_le v0
  exact setn0_all ⟨a, by omega⟩ ⟨b, by omega⟩
theorem setn1_all : ∀ o : Fin 256, ∀ v : Fin 16, bits BinOp.or IntKind.u8 (bits BinOp.andNot IntKind.u8 (o.val : Int) 15) ((v.val : Int)) = (o.val : Int) / 16 * 16 + (v.val : Int) := by decide +kernel
theorem setn1 {o v : Int} (o0 : 0 ≤ o) (o1 : o ≤ 255) (v0 : 0 ≤ v) (v1 : v ≤ 15) : bits BinOp.or IntKind.u8 (bits BinOp.andNot IntKind.u8 o 15) (v) = o / 16 * 16 + v := by
  obtain ⟨a, rfl⟩ := Int.eq_ofNat_of_zero_le o0
  obtain ⟨b, rfl⟩ := Int.eq_ofNat_of_zero_le v0
  exact setn1_all ⟨a, by omega⟩ ⟨b, by omega⟩
theorem setr0_all : ∀ o : Fin 256, ∀ v : Fin 4, bits BinOp.or IntKind.u8 (bits BinOp.andNot IntKind.u8 (o.val : Int) 192) ((v.val : Int) * 64) = (o.val : Int) % 64 + 64 * (v.val : Int) := by decide +kernel
theorem setr0 {o v : Int} (o0 : 0 ≤ o) (o1 : o ≤ 255) (v0 : 0 ≤ v) (v1 : v ≤ 3) : bits BinOp.or IntKind.u8 (bits BinOp.andNot IntKind.u8 o 192) (v * 64) = o % 64 + 64 * v := by
  obtain ⟨a, rfl⟩ := Int.eq_ofNat_of_zero_le o0
  obtain ⟨b, rfl⟩ := Int.eq_ofNat_of_zero_le v0
  exact setr0_all ⟨a, by omega⟩ ⟨b, by omega⟩
theorem setr1_all : ∀ o : Fin 256, ∀ v : Fin 4, bits BinOp.or IntKind.u8 (bits BinOp.andNot IntKind.u8 (o.val : Int) 48) ((v.val : Int) * 16) = (o.val : Int) / 64 * 64 + (o.val : Int) % 16 + 16 * (v.val : Int) := by decide +kernel
theorem setr1 {o v : Int} (o0 : 0 ≤ o) (o1 : o ≤ 255) (v0 : 0 ≤ v) (v1 : v ≤ 3) : bits BinOp.or IntKind.u8 (bits BinOp.andNot IntKind.u8 o 48) (v * 16) = o / 64 * 64 + o % 16 + 16 * v := by
  obtain ⟨a, rfl⟩ := Int.eq_ofNat_of_zero_le o0
  obtain ⟨b, rfl⟩ := Int.eq_ofNat_of_zero_le v0
  exact setr1_all ⟨a, by omega⟩ ⟨b, by omega⟩
theorem setr2_all : ∀ o : Fin 256, ∀ v : Fin 4, bits BinOp.or IntKind.u8 (bits BinOp.andNot IntKind.u8 (o.val : Int) 12) ((v.val : Int) * 4) = (o.val : Int) / 16 * 16 + (o.val : Int) % 4 + 4 * (v.val : Int) := by decide +kernel
theorem setr2 {o v : Int} (o0 : 0 ≤ o) (o1 : o ≤ 255) (v0 : 0 ≤ v) (v1 : v ≤ 3) : bits BinOp.or IntKind.u8 (bits BinOp.andNot IntKind.u8 o 12) (v * 4) = o / 16 * 16 + o % 4 + 4 * v := by
  obtain ⟨a, rfl⟩ := Int.eq_ofNat_of_zero_le o0
  obtain ⟨b, rfl⟩ := Int.eq_ofNat_of_zero_le v0
  exact setr2_all ⟨a, by omega⟩ ⟨b, by omega⟩
theorem setr3_all : ∀ o : Fin 256, ∀ v : Fin 4, bits BinOp.or IntKind.u8 (bits BinOp.andNot IntKind.u8 (o.val : Int) 3) ((v.val : Int)) = (o.val : Int) / 4 * 4 + (v.val : Int) := by decide +kernel
theorem setr3 {o v : Int} (o0 : 0 ≤ o) (o1 : o ≤ 255) (v0 : 0 ≤ v) (v1 : v ≤ 3) : bits BinOp.or IntKind.u8 (bits BinOp.andNot IntKind.u8 o 3) (v) = o / 4 * 4 + v := by
  obtain ⟨a, rfl⟩ := Int.eq_ofNat_of_zero_le o0
  obtain ⟨b, rfl⟩ := Int.eq_ofNat_of_zero_le v0
  exact setr3_all ⟨a, by omega⟩ ⟨b, by omega⟩
theorem nib_step0 (xs : List Int) (k : Nat) (he : k % 2 = 0) (hk : k < xs.length) (_hv : ∀ k, k < xs.length → 0 ≤ xs.getD k 0 ∧ xs.getD k 0 ≤ 15) {x : Int} (hx : xs.getD k 0 = x) :
    ∃ o, nib (xs.take k) (k / 2) = o ∧ 0 ≤ o ∧ o ≤ 255 ∧ nib (xs.take (k + 1)) (k / 2) = o % 16 + 16 * x ∧ ∀ i, i ≠ k / 2 → nib (xs.take (k + 1)) i = nib (xs.take k) i := by
  have a0 : (xs.take k).getD (2 * (k / 2)) 15 = 15 := getD_over 15 (by omega)
  have b0 : (xs.take (k + 1)).getD (2 * (k / 2)) 15 = x := by rw [getD_lt 15 (by omega) (by omega), show 2 * (k / 2) = k from by omega, hx]
  have a1 : (xs.take k).getD (2 * (k / 2) + 1) 15 = 15 := getD_over 15 (by omega)
  have b1 : (xs.take (k + 1)).getD (2 * (k / 2) + 1) 15 = 15 := getD_over 15 (by omega)
  refine ⟨_, rfl, ?_, ?_, ?_, fun i hi => ?_⟩
  · simp only [nib, a0, a1]; omega
  · simp only [nib, a0, a1]; omega
  · simp only [nib, a0, a1, b0, b1]; omega
  · unfold nib
    by_cases h : i < k / 2
    · rw [getD_take 15 (by omega), getD_take 15 (by omega), getD_take 15 (by omega), getD_take 15 (by omega)]
    · rw [getD_over 15 (by omega), getD_over 15 (by omega), getD_over 15 (by omega), getD_over 15 (by omega)]
theorem nib_step1 (xs : List Int) (k : Nat) (he : k % 2 = 1) (hk : k < xs.length) (hv : ∀ k, k < xs.length → 0 ≤ xs.getD k 0 ∧ xs.getD k 0 ≤ 15) {x : Int} (hx : xs.getD k 0 = x) :
    ∃ o, nib (xs.take k) (k / 2) = o ∧ 0 ≤ o ∧ o ≤ 255 ∧ nib (xs.take (k + 1)) (k / 2) = o / 16 * 16 + x ∧ ∀ i, i ≠ k / 2 → nib (xs.take (k + 1)) i = nib (xs.take k) i := by
  have a0 : (xs.take k).getD (2 * (k / 2)) 15 = xs.getD (2 * (k / 2)) 0 := getD_lt 15 (by omega) (by omega)
  have b0 : (xs.take (k + 1)).getD (2 * (k / 2)) 15 = xs.getD (2 * (k / 2)) 0 := getD_lt 15 (by omega) (by omega)
  have v0 := hv (2 * (k / 2)) (by omega)
  have a1 : (xs.take k).getD (2 * (k / 2) + 1) 15 = 15 := getD_over 15 (by omega)
  have b1 : (xs.take (k + 1)).getD (2 * (k / 2) + 1) 15 = x := by rw [getD_lt 15 (by omega) (by omega), show 2 * (k / 2) + 1 = k from by omega, hx]
  refine ⟨_, rfl, ?_, ?_, ?_, fun i hi => ?_⟩
  · simp only [nib, a0, a1]; omega
  · simp only [nib, a0, a1]; omega
  · simp only [nib, a0, a1, b0, b1]; omega
  · unfold nib
    by_cases h : i < k / 2
    · rw [getD_take 15 (by omega), getD_take 15 (by omega), getD_take 15 (by omega), getD_take 15 (by omega)]
    · rw [getD_over 15 (by omega), getD_over 15 (by omega), getD_over 15 (by omega), getD_over 15 (by omega)]
theorem rsd_step0 (xs : List Int) (k : Nat) (he : k % 4 = 0) (hk : k < xs.length) (_hv : ∀ k, k < xs.length → 0 ≤ xs.getD k 0 ∧ xs.getD k 0 ≤ 3) {x : Int} (hx : xs.getD k 0 = x) :
    ∃ o, rsd (xs.take k) (k / 4) = o ∧ 0 ≤ o ∧ o ≤ 255 ∧ rsd (xs.take (k + 1)) (k / 4) = o % 64 + 64 * x ∧ ∀ i, i ≠ k / 4 → rsd (xs.take (k + 1)) i = rsd (xs.take k) i := by
  have a0 : (xs.take k).getD (4 * (k / 4)) 3 = 3 := getD_over 3 (by omega)
  have b0 : (xs.take (k + 1)).getD (4 * (k / 4)) 3 = x := by rw [getD_lt 3 (by omega) (by omega), show 4 * (k / 4) = k from by omega, hx]
  have a1 : (xs.take k).getD (4 * (k / 4) + 1) 3 = 3 := getD_over 3 (by omega)
  have b1 : (xs.take (k + 1)).getD (4 * (k / 4) + 1) 3 = 3 := getD_over 3 (by omega)
  have a2 : (xs.take k).getD (4 * (k / 4) + 2) 3 = 3 := getD_over 3 (by omega)
  have b2 : (xs.take (k + 1)).getD (4 * (k / 4) + 2) 3 = 3 := getD_over 3 (by omega)
  have a3 : (xs.take k).getD (4 * (k / 4) + 3) 3 = 3 := getD_over 3 (by omega)
  have b3 : (xs.take (k + 1)).getD (4 * (k / 4) + 3) 3 = 3 := getD_over 3 (by omega)
  refine ⟨_, rfl, ?_, ?_, ?_, fun i hi => ?_⟩
  · simp only [rsd, a0, a1, a2, a3]; omega
  · simp only [rsd, a0, a1, a2, a3]; omega
  · simp only [rsd, a0, a1, a2, a3, b0, b1, b2, b3]; omega
  · unfold rsd
    by_cases h : i < k / 4
    · rw [getD_take 3 (by omega), getD_take 3 (by omega), getD_take 3 (by omega), getD_take 3 (by omega), getD_take 3 (by omega), getD_take 3 (by omega), getD_take 3 (by omega), getD_take 3 (by omega)]
    · rw [getD_over 3 (by omega), getD_over 3 (by omega), getD_over 3 (by omega), getD_over 3 (by omega), getD_over 3 (by omega), getD_over 3 (by omega), getD_over 3 (by omega), getD_over 3 (by omega)]
theorem rsd_step1 (xs : List Int) (k : Nat) (he : k % 4 = 1) (hk : k < xs.length) (hv : ∀ k, k < xs.length → 0 ≤ xs.getD k 0 ∧ xs.getD k 0 ≤ 3) {x : Int} (hx : xs.getD k 0 = x) :
    ∃ o, rsd (xs.take k) (k / 4) = o ∧ 0 ≤ o ∧ o ≤ 255 ∧ rsd (xs.take (k + 1)) (k / 4) = o / 64 * 64 + o % 16 + 16 * x ∧ ∀ i, i ≠ k / 4 → rsd (xs.take (k + 1)) i = rsd (xs.take k) i := by
  have a0 : (xs.take k).getD (4 * (k / 4)) 3 = xs.getD (4 * (k / 4)) 0 := getD_lt 3 (by omega) (by omega)
  have b0 : (xs.take (k + 1)).getD (4 * (k / 4)) 3 = xs.getD (4 * (k / 4)) 0 := getD_lt 3 (by omega) (by omega)
  have v0 := hv (4 * (k / 4)) (by omega)
  have a1 : (xs.take k).getD (4 * (k / 4) + 1) 3 = 3 := getD_over 3 (by omega)
  have b1 : (xs.take (k + 1)).getD (4 * (k / 4) + 1) 3 = x := by rw [getD_lt 3 (by omega) (by omega), show 4 * (k / 4) + 1 = k from by omega, hx]
  have a2 : (xs.take k).getD (4 * (k / 4) + 2) 3 = 3 := getD_over 3 (by omega)
  have b2 : (xs.take (k + 1)).getD (4 * (k / 4) + 2) 3 = 3 := getD_over 3 (by omega)
  have a3 : (xs.take k).getD (4 * (k / 4) + 3) 3 = 3 := getD_over 3 (by omega)
  have b3 : (xs.take (k + 1)).getD (4 * (k / 4) + 3) 3 = 3 := getD_over 3 (by omega)
  refine ⟨_, rfl, ?_, ?_, ?_, fun i hi => ?_⟩
  · simp only [rsd, a0, a1, a2, a3]; omega
  · simp only [rsd, a0, a1, a2, a3]; omega
  · simp only [rsd, a0, a1, a2, a3, b0, b1, b2, b3]; omega
  · unfold rsd
    by_cases h : i < k / 4
    · rw [getD_take 3 (by omega), getD_take 3 (by omega), getD_take 3 (by omega), getD_take 3 (by omega), getD_take 3 (by omega), getD_take 3 (by omega), getD_take 3 (by omega), getD_take 3 (by omega)]
    · rw [getD_over 3 (by omega), getD_over 3 (by omega), getD_over 3 (by omega), getD_over 3 (by omega), getD_over 3 (by omega), getD_over 3 (by omega), getD_over 3 (by omega), getD_over 3 (by omega)]
theorem rsd_step2 (xs : List Int) (k : Nat) (he : k % 4 = 2) (hk : k < xs.length) (hv : ∀ k, k < xs.length → 0 ≤ xs.getD k 0 ∧ xs.getD k 0 ≤ 3) {x : Int} (hx : xs.getD k 0 = x) :
    ∃ o, rsd (xs.take k) (k / 4) = o ∧ 0 ≤ o ∧ o ≤ 255 ∧ rsd (xs.take (k + 1)) (k / 4) = o / 16 * 16 + o % 4 + 4 * x ∧ ∀ i, i ≠ k / 4 → rsd (xs.take (k + 1)) i = rsd (xs.take k) i := by
  have a0 : (xs.take k).getD (4 * (k / 4)) 3 = xs.getD (4 * (k / 4)) 0 := getD_lt 3 (by omega) (by omega)
  have b0 : (xs.take (k + 1)).getD (4 * (k / 4)) 3 = xs.getD (4 * (k / 4)) 0 := getD_lt 3 (by omega) (by omega)
  have v0 := hv (4 * (k / 4)) (by omega)
  have a1 : (xs.take k).getD (4 * (k / 4) + 1) 3 = xs.getD (4 * (k / 4) + 1) 0 := getD_lt 3 (by omega) (by omega)
  have b1 : (xs.take (k + 1)).getD (4 * (k / 4) + 1) 3 = xs.getD (4 * (k / 4) + 1) 0 := getD_lt 3 (by omega) (by omega)
  have v1 := hv (4 * (k / 4) + 1) (by omega)
  have a2 : (xs.take k).getD (4 * (k / 4) + 2) 3 = 3 := getD_over 3 (by omega)
  have b2 : (xs.take (k + 1)).getD (4 * (k / 4) + 2) 3 = x := by rw [getD_lt 3 (by omega) (by omega), show 4 * (k / 4) + 2 = k from by omega, hx]
  have a3 : (xs.take k).getD (4 * (k / 4) + 3) 3 = 3 := getD_over 3 (by omega)
  have b3 : (xs.take (k + 1)).getD (4 * (k / 4) + 3) 3 = 3 := getD_over 3 (by omega)
  refine ⟨_, rfl, ?_, ?_, ?_, fun i hi => ?_⟩
  · simp only [rsd, a0, a1, a2, a3]; omega
  · simp only [rsd, a0, a1, a2, a3]; omega
  · simp only [rsd, a0, a1, a2, a3, b0, b1, b2, b3]; omega
  · unfold rsd
    by_cases h : i < k / 4
    · rw [getD_take 3 (by omega), getD_take 3 (by omega), getD_take 3 (by omega), getD_take 3 (by omega), getD_take 3 (by omega), getD_take 3 (by omega), getD_take 3 (by omega), getD_take 3 (by omega)]
    · rw [getD_over 3 (by omega), getD_over 3 (by omega), getD_over 3 (by omega), getD_over 3 (by omega), getD_over 3 (by omega), getD_over 3 (by omega), getD_over 3 (by omega), getD_over 3 (by omega)]
theorem rsd_step3 (xs : List Int) (k : Nat) (he : k % 4 = 3) (hk : k < xs.length) (hv : ∀ k, k < xs.length → 0 ≤ xs.getD k 0 ∧ xs.getD k 0 ≤ 3) {x : Int} (hx : xs.getD k 0 = x) :
    ∃ o, rsd (xs.take k) (k / 4) = o ∧ 0 ≤ o ∧ o ≤ 255 ∧ rsd (xs.take (k + 1)) (k / 4) = o / 4 * 4 + x ∧ ∀ i, i ≠ k / 4 → rsd (xs.take (k + 1)) i = rsd (xs.take k) i := by
  have a0 : (xs.take k).getD (4 * (k / 4)) 3 = xs.getD (4 * (k / 4)) 0 := getD_lt 3 (by omega) (by omega)
  have b0 : (xs.take (k + 1)).getD (4 * (k / 4)) 3 = xs.getD (4 * (k / 4)) 0 := getD_lt 3 (by omega) (by omega)
  have v0 := hv (4 * (k / 4)) (by omega)
  have a1 : (xs.take k).getD (4 * (k / 4) + 1) 3 = xs.getD (4 * (k / 4) + 1) 0 := getD_lt 3 (by omega) (by omega)
  have b1 : (xs.take (k + 1)).getD (4 * (k / 4) + 1) 3 = xs.getD (4 * (k / 4) + 1) 0 := getD_lt 3 (by omega) (by omega)
  have v1 := hv (4 * (k / 4) + 1) (by omega)
  have a2 : (xs.take k).getD (4 * (k / 4) + 2) 3 = xs.getD (4 * (k / 4) + 2) 0 := getD_lt 3 (by omega) (by omega)
  have b2 : (xs.take (k + 1)).getD (4 * (k / 4) + 2) 3 = xs.getD (4 * (k / 4) + 2) 0 := getD_lt 3 (by omega) (by omega)
  have v2 := hv (4 * (k / 4) + 2) (by omega)
  have a3 : (xs.take k).getD (4 * (k / 4) + 3) 3 = 3 := getD_over 3 (by omega)
  have b3 : (xs.take (k + 1)).getD (4 * (k / 4) + 3) 3 = x := by rw [getD_lt 3 (by omega) (by omega), show 4 * (k / 4) + 3 = k from by omega, hx]
  refine ⟨_, rfl, ?_, ?_, ?_, fun i hi => ?_⟩
  · simp only [rsd, a0, a1, a2, a3]; omega
  · simp only [rsd, a0, a1, a2, a3]; omega
  · simp only [rsd, a0, a1, a2, a3, b0, b1, b2, b3]; omega
  · unfold rsd
    by_cases h : i < k / 4
    · rw [getD_take 3 (by omega), getD_take 3 (by omega), getD_take 3 (by omega), getD_take 3 (by omega), getD_take 3 (by omega), getD_take 3 (by omega), getD_take 3 (by omega), getD_take 3 (by omega)]
    · rw [getD_over 3 (by omega), getD_over 3 (by omega), getD_over 3 (by omega), getD_over 3 (by omega), getD_over 3 (by omega), getD_over 3 (by omega), getD_over 3 (by omega), getD_over 3 (by omega)]
theorem toArray_set (l : List Value) (j : Nat) (v : Value) : l.toArray.setIfInBounds j v = (l.set j v).toArray := by simp
set_option maxRecDepth 100000 in
set_option maxHeartbeats 4000000 in
theorem packed4 (A : Option Addr) (c : Nat) (xs : List Int) (w : World) (hx : IntsAt w A xs) (hl : xs.length ≤ 3000) (hv : ∀ k, k < xs.length → 0 ≤ xs.getD k 0 ∧ xs.getD k 0 ≤ 15) :
    Calls Try.prog 49 #[.slice A xs.length c, .int .i64 4] w fun e w' => e = .returned (.string (strOfNums (bytesBy (nib xs) ((xs.length + 1) / 2)))) ∧ Below w.heap.size w w' := by
  obtain ⟨n, hn⟩ : ∃ n, (xs.length + 1) / 2 = n := ⟨_, rfl⟩
  rw [hn]
  have HN := Lib.hid hn
  have hq : ((xs.length : Int) + 2 - 1) / 2 = (n : Int) := by omega
  clear hn
  have HV := Lib.hid hv
  clear hv
  go_enter Try.func49, Try.ntmps49
  go_wp2_with fail
  ((with_reducible refine (repeatAt w.heap.size n (w.heap.size + 1) _ (by have := HN.out; omega) (by simp) (by simp)).mono ?_); rintro e w1 ⟨rfl, hH1, hb1⟩)
  clear hq
  have hB1 : Below w.heap.size w w1 := ((Below.refl _ _).alloc (Nat.le_refl _) _).trans (hb1.mono (by omega))
  rw [repC_nib] at hH1
  clear hb1
  go_wp2_with fail
  go_loopw [27] (fun i wr => ∃ k : Nat, k ≤ xs.length ∧ i = .int .i64 k ∧ wr.heap[w.heap.size + 1]? = some (.cells (cellsBy (nib (xs.take k)) n).toArray 5 (0, 0)) ∧ Below w.heap.size w wr) (fun i _ => xs.length - (intOf i).toNat)
  case atStart => exact ⟨0, Nat.zero_le _, rfl, hH1, hB1⟩
  case round =>
    obtain ⟨k, hk, rfl, hH, hB⟩ := hrel
    clear hH1 hB1
    by_cases hlt : k < xs.length
    · obtain ⟨b, off, x, rfl, hb, hc, HX⟩ := (hx.below hB).at_ hlt
      have bx := HV.out k hlt
      rw [HX.out] at bx
      have x0 := bx.1
      have x1 := bx.2
      have p0 : (0 : Int) ≤ (k : Int) := by omega
      have p1 : (k : Int) < (xs.length : Int) := by omega
      obtain ⟨j, hj⟩ : ∃ j, k / 2 = j := ⟨_, rfl⟩
      have hjn : j < n := by have := HN.out; omega
      have q0 : (0 : Int) ≤ (j : Int) := by omega
      have q1 : (j : Int) < (n : Int) := by omega
      have hfr : wr.frozen? ⟨w.heap.size + 1, j, none⟩ = false := by simp [World.frozen?, hH]
      have hcell : wr.cell? ⟨w.heap.size + 1, j, none⟩ = some (.int .u8 (nib (xs.take k) j)) := by
        rw [cell_of_row wr _ j _ _ (0, 0) hH, List.getElem?_toArray, cellsBy_get _ _ _ hjn]
      have hd : (k : Int) / 2 = (j : Int) := by omega
      have HH := Lib.hid hH
      clear hH
      by_cases he : k % 2 = 0
      · obtain ⟨o, n1, o0, o1, n2, n3⟩ := nib_step0 xs k he hlt HV.out HX.out
        rw [hj] at n1 n2 n3
        rw [n1] at hcell
        have hr : (k : Int) % 2 = 0 := by omega
        have hs := setn0 o0 o1 x0 (show x ≤ 15 from by omega)
        obtain ⟨z, hz⟩ : ∃ z, o % 16 + 16 * x = z := ⟨_, rfl⟩
        rw [hz] at hs n2
        have hw1 : IntKind.u8.wrap x = x := IntWalk.u8_in _ (by omega)
        have hw2 : IntKind.u8.wrap (x * 16) = x * 16 := IntWalk.u8_in _ (by omega)
        have hw4 : IntKind.u8.wrap 240 = 240 := by decide
        have N2 := Lib.hid n2
        have N3 := Lib.hid n3
        clear hj he n1 n2 n3 bx hz
        go_wp2_with fail
        have hw3 : IntKind.i64.wrap (j : Int) = (j : Int) := IntWalk.i64_in _ (by omega)
        go_still_tail 20, (by kernel_rfl)
        change wpList _ _ _ _ _ wr.drew
        have hcell2 : wr.drew.cell? ⟨w.heap.size + 1, j, none⟩ = some (.int .u8 o) := hcell
        have hfr2 : wr.drew.frozen? ⟨w.heap.size + 1, j, none⟩ = false := hfr
        have HH2 : Hid (wr.drew.heap[w.heap.size + 1]? = some (.cells (cellsBy (nib (xs.take k)) n).toArray 5 (0, 0))) := HH.out
        have hB2 := hB.drew
        clear hcell hfr HH hB hc hs hw1 hw2 hw3 hw4 hr
        generalize wr.drew = w2 at *
        go_wp2_with fail
        go_roundw
        case rel =>
          have h3 := heap_setCell_same w2 (w.heap.size + 1) j _ _ (.int .u8 z) HH2.out
          rw [toArray_set, cellsBy_set _ _ n j z N2.out N3.out] at h3
          exact ⟨k + 1, by omega, by go_num, h3, hB2.setCell (by simp) _⟩
        case measure => simp [intOf]; omega
      have he : k % 2 = 1 := by omega
      obtain ⟨o, n1, o0, o1, n2, n3⟩ := nib_step1 xs k he hlt HV.out HX.out
      rw [hj] at n1 n2 n3
      rw [n1] at hcell
      have hr : (k : Int) % 2 = 1 := by omega
      have hs := setn1 o0 o1 x0 (show x ≤ 15 from by omega)
      obtain ⟨z, hz⟩ : ∃ z, o / 16 * 16 + x = z := ⟨_, rfl⟩
      rw [hz] at hs n2
      have hw1 : IntKind.u8.wrap x = x := IntWalk.u8_in _ (by omega)
      have hw4 : IntKind.u8.wrap 15 = 15 := by decide
      have N2 := Lib.hid n2
      have N3 := Lib.hid n3
      clear hj he n1 n2 n3 bx hz
      go_wp2_with fail
      have hw3 : IntKind.i64.wrap (j : Int) = (j : Int) := IntWalk.i64_in _ (by omega)
      go_still_tail 20, (by kernel_rfl)
      change wpList _ _ _ _ _ wr.drew
      have hcell2 : wr.drew.cell? ⟨w.heap.size + 1, j, none⟩ = some (.int .u8 o) := hcell
      have hfr2 : wr.drew.frozen? ⟨w.heap.size + 1, j, none⟩ = false := hfr
      have HH2 : Hid (wr.drew.heap[w.heap.size + 1]? = some (.cells (cellsBy (nib (xs.take k)) n).toArray 5 (0, 0))) := HH.out
      have hB2 := hB.drew
      clear hcell hfr HH hB hc hs hw1 hw3 hw4 hr
      generalize wr.drew = w2 at *
      go_wp2_with fail
      go_roundw
      case rel =>
        have h3 := heap_setCell_same w2 (w.heap.size + 1) j _ _ (.int .u8 z) HH2.out
        rw [toArray_set, cellsBy_set _ _ n j z N2.out N3.out] at h3
        exact ⟨k + 1, by omega, by go_num, h3, hB2.setCell (by simp) _⟩
      case measure => simp [intOf]; omega
    · have hke : k = xs.length := by omega
      have hcv : (convert 22 9 (.slice (some ⟨w.heap.size + 1, 0, none⟩) n n)).run Try.prog wr = .ok (.string (strOfNums (bytesBy (nib xs) n))) wr := by
        rw [hke, List.take_of_length_le (Nat.le_refl _)] at hH
        have h3 : BFresh w.heap.size wr (.slice (some ⟨w.heap.size + 1, 0, none⟩) n n) (bytesBy (nib xs) n) := by
          have := made_of_whole (B := w.heap.size) (by omega) (by have := HN.out; unfold maxLen; omega) hH (cellsBy_len _ _)
          unfold BFresh
          rw [show (bytesBy (nib xs) n).length = n from by simp [bytesBy]]
          exact this
        exact h3.str
      have HK := Lib.hid hke
      clear hke
      go_wp2_with fail
      go_ret
      exact ⟨rfl, hB⟩
end Go.Proofs.Ytfhdnanbhigpmaa
