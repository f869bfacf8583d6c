/- The display form of a time, at both packages. Conditions: as each contract says. -/
import Derived.Test.YtggchbohmjfneaaDoorPb
import Derived.Test.YtggchbohmjfneaaDoorShelf
import Derived.Laws.BytesArg
namespace Go.Proofs.YtggchbohmjfneaaDoor
open Go.RowKit

def strL (l : List UInt8) : ByteArray := ⟨l.toArray⟩
theorem strL_size (l : List UInt8) : (strL l).size = l.length := by simp [strL, ByteArray.size]
theorem strL_add (a b : List UInt8) : strL a ++ strL b = strL (a ++ b) := by
  apply ByteArray.ext
  simp [strL]
theorem str_eqT (a b : ByteArray) : (a.toList == b.toList) = decide (a = b) := by
  rw [Bool.eq_iff_iff]
  simp only [beq_iff_eq, decide_eq_true_eq]
  constructor
  · intro h
    rw [ByteArray.toList_eq, ByteArray.toList_eq] at h
    exact ByteArray.ext (Array.toList_inj.1 h)
  · intro h; rw [h]
def Str (s : ByteArray) (w : World) (e : Ending) (w' : World) : Prop := e = .returned (.string s) ∧ Below w.heap.size w w'
theorem ret_str {a b : ByteArray} (h : a = b) : Ending.returned (.string a) = .returned (.string b) := by rw [h]
theorem implDec (n : Nat) (h : n < 100) (w : World) : Calls Tryd.prog 18 #[.int .i64 n] w (Str (strL (dec2 n)) w) := by
  have hd := dec2_is h
  have HD : Hid ((⟨(Lib.decDigits n).toArray⟩ : ByteArray) = strL (dec2 n)) := by unfold Hid strL; rw [hd]
  clear hd
  go_enter Tryd.func18, Tryd.ntmps18
  go_wp2_with (first | (go_at_call 27; refine (Tryd.strconv_FormatInt_10_small n h _).mono ?_; rintro e w' ⟨rfl, rfl⟩))
  go_ret
  exact ⟨ret_str HD.out, Below.refl _ _⟩
theorem oneStr (w : World) (a : Int) : (convert 25 9 (.slice (some ⟨w.heap.size, 0, none⟩) 1 1)).run Tryd.prog (w.alloc (.cells #[.int .u8 a] 5)) = .ok (.string (strOfNums [a])) (w.alloc (.cells #[.int .u8 a] 5)) := by
  refine run_convert_bytes_arg (P := Tryd.prog) _ 25 5 Tryd.underlying25 Tryd.underlying5 w.heap.size 0 1 1 [a] rfl (fun i hi => ?_) 9 Tryd.underlying9
  have : i = 0 := by simp at hi; omega
  subst this
  simp
theorem oneStr_dg (k : Nat) : strOfNums [48 + (k : Int)] = strL [dg k] := by
  have h : ((48 : Int) + (k : Int)).toNat = 48 + k := by omega
  unfold strOfNums strL dg
  simp only [List.map_cons, List.map_nil, h]
theorem nonempty {s : ByteArray} (h : 0 < s.size) : (s.toList == []) = false ∧ s.toList.isEmpty = false := by
  have h2 : s.toList ≠ [] := by
    intro e
    have h3 : s = ⟨#[]⟩ := by
      have := str_eqT s ⟨#[]⟩
      have e2 : (⟨#[]⟩ : ByteArray).toList = [] := by decide +kernel
      rw [e, e2] at this
      simpa using this.symm
    rw [h3] at h
    exact absurd h (by decide)
  refine ⟨by simpa using h2, by cases h4 : s.toList with | nil => exact absurd h4 h2 | cons a l => rfl⟩
set_option maxHeartbeats 1000000 in
theorem specDec (n : Nat) (h : n < 100) (w : World) : Calls Tryd.prog 25 #[.int .i64 n] w (Str (strL (dec2 n)) w) := by
  have hB0 : Below w.heap.size w w := Below.refl _ _
  have n0 : ¬ (n : Int) < 0 := by omega
  go_enter Tryd.func25, Tryd.ntmps25
  go_wp2_with fail
  go_loopw [0, 3] (fun a s wr => ∃ (k j : Nat) (L : List UInt8), a = .int .i64 k ∧ s = .string (strL L) ∧ Hid ((j = 0 ∧ k = n ∧ L = []) ∨ (j = 1 ∧ k = n / 10 ∧ L = [dg (n % 10)]) ∨ (j = 2 ∧ k = 0 ∧ 10 ≤ n ∧ L = [dg (n / 10), dg (n % 10)])) ∧ Below w.heap.size w wr) (fun a s _ => 2 * (intOf a).toNat + (match s with | .string b => if b.size = 0 then 1 else 0 | _ => 0))
  case atStart => exact ⟨n, 0, [], rfl, rfl, .inl ⟨rfl, rfl, rfl⟩, hB0⟩
  case round =>
    obtain ⟨k, j, L, rfl, rfl, HJ, hB⟩ := hrel
    have run1 : ∀ (d : Nat) (wx : World), (convert 25 9 (.slice (some ⟨wx.heap.size, 0, none⟩) 1 1)).run Tryd.prog (wx.alloc (.cells #[.int .u8 (48 + (d : Int))] 5)) = .ok (.string (strL [dg d])) (wx.alloc (.cells #[.int .u8 (48 + (d : Int))] 5)) := fun d wx => by
      rw [← oneStr_dg]
      exact oneStr wx _
    rcases HJ.out with ⟨rfl, rfl, rfl⟩ | ⟨rfl, rfl, rfl⟩ | ⟨rfl, rfl, h10, rfl⟩
    · obtain ⟨d, hd⟩ : ∃ d, k % 10 = d := ⟨_, rfl⟩
      obtain ⟨q, hq⟩ : ∃ q, k / 10 = q := ⟨_, rfl⟩
      have hc := run1 d wr
      have hdI : (k : Int) % 10 = (d : Int) := by omega
      have hqI : (k : Int) / 10 = (q : Int) := by omega
      have d0 : ¬ (d : Int) < 0 := by omega
      have d1 : (d : Int) ≤ 9 := by omega
      have HM : Hid (2 * q + 0 < 2 * k + 1) := by unfold Hid; omega
      have HS : Hid (strL [dg d] ++ strL [] = strL [dg d]) := by unfold Hid; rw [strL_add]; rfl
      have e0 : strL [] = ⟨#[]⟩ := rfl
      have hz : ¬ 9223372036854775807 < (strL [dg d]).size + (⟨#[]⟩ : ByteArray).size := by have : (⟨#[]⟩ : ByteArray).size = 0 := rfl; rw [strL_size, this]; simp
      have HD := Lib.hid hd
      have HQ := Lib.hid hq
      rw [e0] at HS ⊢
      clear hd hq run1 HJ e0
      go_wp2_with fail
      refine ⟨⟨q, 1, [dg d], rfl, by rw [HS.out], .inr (.inl ⟨rfl, HQ.out.symm, by rw [HD.out]⟩), hB.alloc hB.size _⟩, ?_⟩
      rw [HS.out]
      have e1 : (strL [dg d]).size = 1 := strL_size _
      have e2 : (⟨#[]⟩ : ByteArray).size = 0 := rfl
      simp only [intOf, e1, e2, Int.toNat_natCast]
      exact HM.out
    · obtain ⟨S, hS⟩ : ∃ S, strL [dg (n % 10)] = S := ⟨_, rfl⟩
      have hSz : S.size = 1 := by rw [← hS]; exact strL_size _
      obtain ⟨hne1, hne2⟩ := nonempty (s := S) (by omega)
      have HSS := Lib.hid hS
      have HSZ := Lib.hid hSz
      rw [hS]
      clear hS
      by_cases h9 : n < 10
      · have hk0 : n / 10 = 0 := by omega
        have HF : Hid (S = strL (dec2 n)) := by unfold Hid; rw [← HSS.out, dec2, if_pos h9, Nat.mod_eq_of_lt h9]
        rw [hk0]
        clear hk0 HJ run1 hSz
        go_wp2_with fail
        go_ret
        exact ⟨ret_str HF.out, hB⟩
      · obtain ⟨q, hq⟩ : ∃ q, n / 10 = q := ⟨_, rfl⟩
        have hc := run1 q wr
        have hdI : (q : Int) % 10 = (q : Int) := by omega
        have hqI : (q : Int) / 10 = 0 := by omega
        have q0 : ¬ (q : Int) < 0 := by omega
        have q1 : (q : Int) ≤ 9 := by omega
        have hqn : ((q : Int) == 0) = false := by simp; omega
        have hqn2 : ¬ (q : Int) = 0 := by omega
        have HS : Hid (strL [dg q] ++ S = strL [dg q, dg (n % 10)]) := by unfold Hid; rw [← HSS.out, strL_add]; rfl
        have hz : ¬ 9223372036854775807 < (strL [dg q]).size + S.size := by rw [strL_size, hSz]; simp
        rw [hq]
        clear hq run1 HJ hSz
        go_wp2_with fail
        refine ⟨⟨0, 2, [dg q, dg (n % 10)], rfl, by rw [HS.out], .inr (.inr ⟨rfl, rfl, by omega, rfl⟩), hB.alloc hB.size _⟩, ?_⟩
        rw [HS.out]
        have e1 : (strL [dg q, dg (n % 10)]).size = 2 := strL_size _
        simp [intOf, e1]
        omega
    · obtain ⟨S, hS⟩ : ∃ S, strL [dg (n / 10), dg (n % 10)] = S := ⟨_, rfl⟩
      have hSz : S.size = 2 := by rw [← hS]; exact strL_size _
      obtain ⟨hne1, hne2⟩ := nonempty (s := S) (by omega)
      have HF : Hid (S = strL (dec2 n)) := by unfold Hid; rw [← hS, dec2, if_neg (by omega)]
      rw [hS]
      clear hS HJ run1 hSz
      go_wp2_with fail
      go_ret
      exact ⟨ret_str HF.out, hB⟩
end Go.Proofs.YtggchbohmjfneaaDoor
