/- The display form of a time, and its value: plain facts. -/
import Derived.Test.YtggchbohmjfneaaDoorM
import Derived.Lib.ItoaNum
namespace Go.Proofs.YtggchbohmjfneaaDoor
open Go.RowKit

def dg (n : Nat) : UInt8 := UInt8.ofNat (48 + n)
theorem dg_val {n : Nat} (h : n < 10) : (dg n).toNat = 48 + n := by
  unfold dg
  rw [UInt8.toNat_ofNat_of_lt' (by show 48 + n < 256; omega)]
theorem dg_ne {n : Nat} (h : n < 10) {c : UInt8} (hc : c.toNat = 58 ∨ c.toNat < 48) : dg n ≠ c := by
  intro e
  have := dg_val h
  rw [e] at this
  omega
def dec2 (n : Nat) : List UInt8 := if n < 10 then [dg n] else [dg (n / 10), dg (n % 10)]
theorem dec2_is {n : Nat} (h : n < 100) : Lib.decDigits n = dec2 n := by
  unfold dec2
  rw [Lib.decDigits]
  by_cases h1 : n < 10
  · rw [dif_pos h1, if_pos h1]
    rfl
  · rw [dif_neg h1, if_neg h1, Lib.decDigits, dif_pos (by omega)]
    rfl
theorem dec2_len {n : Nat} : 1 ≤ (dec2 n).length ∧ (dec2 n).length ≤ 2 := by
  unfold dec2
  split <;> simp
def two (n : Nat) : List UInt8 := [dg (n / 10), dg (n % 10)]
def fmtL (n : Int) : List UInt8 :=
  if n = -1 then [68, 78, 70] else if inR n 0 360000 = false then [] else if n < 6000 then dec2 (n.toNat / 100) ++ [46] ++ two (n.toNat % 100)
  else dec2 (n.toNat / 6000) ++ [58] ++ two (n.toNat % 6000 / 100) ++ [46] ++ two (n.toNat % 100)
def fmtS (n : Int) : ByteArray := ⟨(fmtL n).toArray⟩
theorem fmtS_list (n : Int) : (fmtS n).data.toList = fmtL n := rfl
theorem fmtL_low (m : Nat) (h : m < 6000) : fmtL (m : Int) = dec2 (m / 100) ++ [46] ++ two (m % 100) := by
  unfold fmtL
  rw [if_neg (by omega), if_neg (by rw [inR_iff.2 ⟨by omega, by omega⟩]; decide), if_pos (by omega)]
  rfl
theorem fmtL_high (m : Nat) (h : 6000 ≤ m) (h2 : m ≤ 360000) : fmtL (m : Int) = dec2 (m / 6000) ++ [58] ++ two (m % 6000 / 100) ++ [46] ++ two (m % 100) := by
  unfold fmtL
  rw [if_neg (by omega), if_neg (by rw [inR_iff.2 ⟨by omega, by omega⟩]; decide), if_neg (by omega)]
  rfl
/-- The value by the reference. -/
def vStep (p : Int × Int) (c : UInt8) : Int × Int := if c = 58 then (0, p.1) else if 48 ≤ c.toNat ∧ c.toNat ≤ 57 then (p.1 * 10 + ((c.toNat : Int) - 48), p.2) else p
def vOf (l : List UInt8) : Int × Int := l.foldl vStep (0, 0)
def valL (l : List UInt8) : Int := (vOf (l.take 12)).2 * 6000 + (vOf (l.take 12)).1
theorem vStep_dg (p : Int × Int) {n : Nat} (h : n < 10) : vStep p (dg n) = (p.1 * 10 + n, p.2) := by
  unfold vStep
  rw [if_neg (dg_ne h (.inl rfl)), if_pos (by rw [dg_val h]; omega), dg_val h]
  congr 2
  omega
theorem vStep_dot (p : Int × Int) : vStep p 46 = p := by
  unfold vStep
  rw [if_neg (by decide), if_neg (by decide)]
theorem vStep_colon (p : Int × Int) : vStep p 58 = (0, p.1) := by
  unfold vStep
  rw [if_pos rfl]
theorem valL_fmt (m : Nat) (h : m ≤ 360000) : valL (fmtL (m : Int)) = m := by
  by_cases h6 : m < 6000
  · rw [fmtL_low m h6]
    unfold dec2 two valL vOf
    split
    · simp only [List.cons_append, List.nil_append, List.take_succ_cons, List.take_nil, List.foldl_cons, List.foldl_nil]
      rw [vStep_dg _ (by omega), vStep_dot, vStep_dg _ (by omega), vStep_dg _ (by omega)]
      dsimp only
      omega
    · simp only [List.cons_append, List.nil_append, List.take_succ_cons, List.take_nil, List.foldl_cons, List.foldl_nil]
      rw [vStep_dg _ (by omega), vStep_dg _ (by omega), vStep_dot, vStep_dg _ (by omega), vStep_dg _ (by omega)]
      dsimp only
      omega
  · rw [fmtL_high m (by omega) h]
    unfold dec2 two valL vOf
    split
    · simp only [List.cons_append, List.nil_append, List.take_succ_cons, List.take_nil, List.foldl_cons, List.foldl_nil]
      rw [vStep_dg _ (by omega), vStep_colon, vStep_dg _ (by omega), vStep_dg _ (by omega), vStep_dot, vStep_dg _ (by omega), vStep_dg _ (by omega)]
      dsimp only
      omega
    · simp only [List.cons_append, List.nil_append, List.take_succ_cons, List.take_nil, List.foldl_cons, List.foldl_nil]
      rw [vStep_dg _ (by omega), vStep_dg _ (by omega), vStep_colon, vStep_dg _ (by omega), vStep_dg _ (by omega), vStep_dot, vStep_dg _ (by omega), vStep_dg _ (by omega)]
      dsimp only
      omega
theorem fmtL_len (m : Nat) (h : m ≤ 360000) : 4 ≤ (fmtL (m : Int)).length ∧ (fmtL (m : Int)).length ≤ 8 := by
  by_cases h6 : m < 6000
  · rw [fmtL_low m h6]
    have := dec2_len (n := m / 100)
    simp [two]
    omega
  · rw [fmtL_high m (by omega) h]
    have := dec2_len (n := m / 6000)
    simp [two]
    omega
/-- The digits of a form, and their value by the program. -/
def sepB (c : UInt8) : Bool := c == 58 || c == 46
def digB (c : UInt8) : Bool := decide (48 ≤ c.toNat) && decide (c.toNat ≤ 57)
def nStep (n : Int) (c : UInt8) : Int := 10 * n + ((c.toNat : Int) - 48)
def nOf (l : List UInt8) : Int := l.foldl nStep 0
def comb (n : Int) : Int := n / 10000 * 6000 + n % 10000
theorem nStep_dg (p : Int) {n : Nat} (h : n < 10) : nStep p (dg n) = 10 * p + n := by
  unfold nStep
  rw [dg_val h]
  omega
theorem sep_dg {n : Nat} (h : n < 10) : sepB (dg n) = false := by
  have h1 : (dg n == 58) = false := by simpa using dg_ne h (.inl rfl)
  have h2 : (dg n == 46) = false := by simpa using dg_ne h (.inr (by decide))
  unfold sepB
  rw [h1, h2]
  rfl
theorem dig_dg {n : Nat} (h : n < 10) : digB (dg n) = true := by
  unfold digB
  rw [dg_val h]
  simp
  omega
def digsOf (m : Nat) : List UInt8 := (fmtL (m : Int)).filter fun c => !sepB c
theorem digs_all (m : Nat) (h : m ≤ 360000) : (∀ c, c ∈ digsOf m → digB c = true) ∧ comb (nOf (digsOf m)) = m ∧ ∀ c, c ∈ fmtL (m : Int) → c.toNat < 128 := by
  have hd : ∀ {n : Nat}, n < 10 → (dg n).toNat < 128 := fun h => by rw [dg_val h]; omega
  by_cases h6 : m < 6000
  · unfold digsOf
    rw [fmtL_low m h6]
    unfold dec2 two
    split
    · have a1 := sep_dg (n := m / 100) (by omega)
      have a2 := sep_dg (n := m % 100 / 10) (by omega)
      have a3 := sep_dg (n := m % 100 % 10) (by omega)
      have e : ([dg (m / 100)] ++ [46] ++ [dg (m % 100 / 10), dg (m % 100 % 10)]).filter (fun c => !sepB c) = [dg (m / 100), dg (m % 100 / 10), dg (m % 100 % 10)] := by
        simp only [List.cons_append, List.nil_append, List.filter_cons, a1, a2, a3, List.filter_nil]
        rfl
      rw [e]
      refine ⟨?_, ?_, ?_⟩
      · intro c hc
        simp only [List.mem_cons, List.not_mem_nil, or_false] at hc
        rcases hc with rfl | rfl | rfl <;> exact dig_dg (by omega)
      · unfold nOf comb
        simp only [List.foldl_cons, List.foldl_nil]
        rw [nStep_dg _ (by omega), nStep_dg _ (by omega), nStep_dg _ (by omega)]
        omega
      · intro c hc
        simp only [List.cons_append, List.nil_append, List.mem_cons, List.not_mem_nil, or_false] at hc
        rcases hc with rfl | rfl | rfl | rfl
        · exact hd (by omega)
        · decide
        · exact hd (by omega)
        · exact hd (by omega)
    · have a0 := sep_dg (n := m / 100 / 10) (by omega)
      have a1 := sep_dg (n := m / 100 % 10) (by omega)
      have a2 := sep_dg (n := m % 100 / 10) (by omega)
      have a3 := sep_dg (n := m % 100 % 10) (by omega)
      have e : ([dg (m / 100 / 10), dg (m / 100 % 10)] ++ [46] ++ [dg (m % 100 / 10), dg (m % 100 % 10)]).filter (fun c => !sepB c) = [dg (m / 100 / 10), dg (m / 100 % 10), dg (m % 100 / 10), dg (m % 100 % 10)] := by
        simp only [List.cons_append, List.nil_append, List.filter_cons, a0, a1, a2, a3, List.filter_nil]
        rfl
      rw [e]
      refine ⟨?_, ?_, ?_⟩
      · intro c hc
        simp only [List.mem_cons, List.not_mem_nil, or_false] at hc
        rcases hc with rfl | rfl | rfl | rfl <;> exact dig_dg (by omega)
      · unfold nOf comb
        simp only [List.foldl_cons, List.foldl_nil]
        rw [nStep_dg _ (by omega), nStep_dg _ (by omega), nStep_dg _ (by omega), nStep_dg _ (by omega)]
        omega
      · intro c hc
        simp only [List.cons_append, List.nil_append, List.mem_cons, List.not_mem_nil, or_false] at hc
        rcases hc with rfl | rfl | rfl | rfl | rfl
        · exact hd (by omega)
        · exact hd (by omega)
        · decide
        · exact hd (by omega)
        · exact hd (by omega)
  · unfold digsOf
    rw [fmtL_high m (by omega) h]
    unfold dec2 two
    have b1 := sep_dg (n := m % 6000 / 100 / 10) (by omega)
    have b2 := sep_dg (n := m % 6000 / 100 % 10) (by omega)
    have a2 := sep_dg (n := m % 100 / 10) (by omega)
    have a3 := sep_dg (n := m % 100 % 10) (by omega)
    split
    · have a1 := sep_dg (n := m / 6000) (by omega)
      have e : ([dg (m / 6000)] ++ [58] ++ [dg (m % 6000 / 100 / 10), dg (m % 6000 / 100 % 10)] ++ [46] ++ [dg (m % 100 / 10), dg (m % 100 % 10)]).filter (fun c => !sepB c) = [dg (m / 6000), dg (m % 6000 / 100 / 10), dg (m % 6000 / 100 % 10), dg (m % 100 / 10), dg (m % 100 % 10)] := by
        simp only [List.cons_append, List.nil_append, List.filter_cons, a1, b1, b2, a2, a3, List.filter_nil]
        rfl
      rw [e]
      refine ⟨?_, ?_, ?_⟩
      · intro c hc
        simp only [List.mem_cons, List.not_mem_nil, or_false] at hc
        rcases hc with rfl | rfl | rfl | rfl | rfl <;> exact dig_dg (by omega)
      · unfold nOf comb
        simp only [List.foldl_cons, List.foldl_nil]
        rw [nStep_dg _ (by omega), nStep_dg _ (by omega), nStep_dg _ (by omega), nStep_dg _ (by omega), nStep_dg _ (by omega)]
        omega
      · intro c hc
        simp only [List.cons_append, List.nil_append, List.mem_cons, List.not_mem_nil, or_false] at hc
        rcases hc with rfl | rfl | rfl | rfl | rfl | rfl | rfl
        · exact hd (by omega)
        · decide
        · exact hd (by omega)
        · exact hd (by omega)
        · decide
        · exact hd (by omega)
        · exact hd (by omega)
    · have a0 := sep_dg (n := m / 6000 / 10) (by omega)
      have a1 := sep_dg (n := m / 6000 % 10) (by omega)
      have e : ([dg (m / 6000 / 10), dg (m / 6000 % 10)] ++ [58] ++ [dg (m % 6000 / 100 / 10), dg (m % 6000 / 100 % 10)] ++ [46] ++ [dg (m % 100 / 10), dg (m % 100 % 10)]).filter (fun c => !sepB c) = [dg (m / 6000 / 10), dg (m / 6000 % 10), dg (m % 6000 / 100 / 10), dg (m % 6000 / 100 % 10), dg (m % 100 / 10), dg (m % 100 % 10)] := by
        simp only [List.cons_append, List.nil_append, List.filter_cons, a0, a1, b1, b2, a2, a3, List.filter_nil]
        rfl
      rw [e]
      refine ⟨?_, ?_, ?_⟩
      · intro c hc
        simp only [List.mem_cons, List.not_mem_nil, or_false] at hc
        rcases hc with rfl | rfl | rfl | rfl | rfl | rfl <;> exact dig_dg (by omega)
      · unfold nOf comb
        simp only [List.foldl_cons, List.foldl_nil]
        rw [nStep_dg _ (by omega), nStep_dg _ (by omega), nStep_dg _ (by omega), nStep_dg _ (by omega), nStep_dg _ (by omega), nStep_dg _ (by omega)]
        omega
      · intro c hc
        simp only [List.cons_append, List.nil_append, List.mem_cons, List.not_mem_nil, or_false] at hc
        rcases hc with rfl | rfl | rfl | rfl | rfl | rfl | rfl | rfl
        · exact hd (by omega)
        · exact hd (by omega)
        · decide
        · exact hd (by omega)
        · exact hd (by omega)
        · decide
        · exact hd (by omega)
        · exact hd (by omega)
end Go.Proofs.YtggchbohmjfneaaDoor
