/- Numbers as some bytes, at both packages. Conditions: as each contract says. -/
import Derived.Test.YtfhdnanbhigpmaaKy
namespace Go.Proofs.Ytfhdnanbhigpmaa
open Go.RowKit

def numAt (n : Int) (W k : Nat) : Int := n / 2 ^ (8 * (W - 1 - k)) % 256
set_option maxHeartbeats 1000000 in
theorem numberOf (n : Int) (W : Nat) (w : World) (hW : W ≤ 4) :
    Calls Try.prog 98 #[.int .i64 n, .int .i64 W] w fun e w' => e = .returned (.string (strOfNums (bytesBy (numAt n W) W))) ∧ Below w.heap.size w w' := by
  obtain ⟨i1, hi1, hy0, hy1, hy2⟩ := info_parts byteInfo
  go_enter Try.func98, Try.ntmps98
  go_wp2_with (first | (at_make; refine wpList_make_full _ rfl _ _ 22 rfl w.heap.size 5 i1 (.int .u8 0) 1 Try.underlying22 hi1 hy0 hy1 _ _ _ _ W rfl rfl rfl rfl ?_ ?_ ?_ ?_))
  · rw [hy2]; omega
  · unfold maxLen; omega
  · simp
  intro w1 hown hgrow
  rw [made_by (numAt n W)] at hown
  have hB1 : Below w.heap.size w w1 := (Below.refl _ _).grown hgrow (Nat.le_refl _) (by simp)
  have hr1 := made_whole hown
  clear hown hgrow
  go_wp2_with fail
  go_loopw [11] (fun i wr => ∃ k : Nat, k ≤ W ∧ i = .int .i64 k ∧ wr.heap[w.heap.size]? = some (.cells (cellsBy (upTo (numAt n W) k) W).toArray 5 (0, 0)) ∧ Below w.heap.size w wr) (fun i _ => W - (intOf i).toNat)
  case atStart => exact ⟨0, Nat.zero_le _, rfl, hr1, hB1⟩
  case round =>
    obtain ⟨k, hk, rfl, hr, hB⟩ := hrel
    clear hB1 hr1
    by_cases hlt : k < W
    · have p0 : (0 : Int) ≤ (k : Int) := by omega
      have p1 : (k : Int) < (W : Int) := by omega
      have c1 : wr.cell? ⟨w.heap.size, k, none⟩ = some (.int .u8 (upTo (numAt n W) k k)) := list_cell hr (cellsBy_get _ _ _ hlt)
      have f1 : wr.frozen? ⟨w.heap.size, k, none⟩ = false := row_free hr
      have HR := Lib.hid (list_store (p := k) (.int .u8 (numAt n W k)) hr)
      have HH := Lib.hid (cellsBy_set (upTo (numAt n W) k) (upTo (numAt n W) (k + 1)) W k _ (upTo_at _ _) (upTo_ne _ k))
      clear hr
      go_wp2_with fail
      exact ⟨⟨k + 1, by omega, by go_num, by rw [← HH.out]; exact HR.out, hB.setCell (by simp) _⟩, by simp [intOf]; omega⟩
    · obtain rfl : k = W := by omega
      have hcv := rowStr (B := 0) (Nat.zero_le _) (by omega) hr
      rw [upTo_all] at hcv
      go_wp2_with fail
      go_ret
      exact ⟨rfl, hB⟩
theorem num4 (n : Int) : bytesBy (numAt n 4) 4 = [n / 16777216 % 256, n / 65536 % 256, n / 256 % 256, n % 256] := by
  simp [bytesBy, numAt, List.range_succ]
theorem num2 (n : Int) : bytesBy (numAt n 2) 2 = [n / 256 % 256, n % 256] := by simp [bytesBy, numAt, List.range_succ]
theorem num1 (n : Int) : bytesBy (numAt n 1) 1 = [n % 256] := by simp [bytesBy, numAt, List.range_succ]
theorem fourStr (w : World) (a b c d : Int) :
    (convert 22 9 (.slice (some ⟨w.heap.size, 0, none⟩) 4 4)).run Try.prog (w.alloc (.cells #[.int .u8 a, .int .u8 b, .int .u8 c, .int .u8 d] 5)) = .ok (.string (strOfNums [a, b, c, d])) (w.alloc (.cells #[.int .u8 a, .int .u8 b, .int .u8 c, .int .u8 d] 5)) := by
  have h : (w.alloc (.cells #[.int .u8 a, .int .u8 b, .int .u8 c, .int .u8 d] 5)).heap[w.heap.size]? = some (.cells (cellsBy (fun j => [a, b, c, d].getD j 0) 4).toArray 5 (0, 0)) := by
    rw [heap_alloc_new]
    rfl
  have := rowStr (B := 0) (Nat.zero_le _) (by omega) h
  rwa [show bytesBy (fun j => [a, b, c, d].getD j 0) 4 = [a, b, c, d] from rfl] at this
theorem and255 (y : Int) (h0 : 0 ≤ y) (h1 : y ≤ 9223372036854775807) : bits BinOp.and IntKind.i64 y 255 = y % 256 := by
  obtain ⟨n, rfl⟩ := Int.eq_ofNat_of_zero_le h0
  have e : bits BinOp.and IntKind.i64 (n : Int) 255 = IntKind.i64.wrap (((BitVec.ofInt 64 (n : Int)).toNat &&& 255 : Nat) : Int) := by
    rfl
  have e2 : (BitVec.ofInt 64 (n : Int)).toNat = n := by
    simp; omega
  rw [e, e2, show (255 : Nat) = 2 ^ 8 - 1 from rfl, Nat.and_two_pow_sub_one_eq_mod, IntWalk.i64_in _ (by omega)]
  omega
set_option maxHeartbeats 1000000 in
theorem number4 (n : Int) (w : World) (h0 : 0 ≤ n) (h1 : n ≤ 9223372036854775807) :
    Calls Try.prog 105 #[.int .i64 n] w fun e w' => e = .returned (.string (strOfNums (bytesBy (numAt n 4) 4))) ∧ Below w.heap.size w w' := by
  rw [num4 n]
  go_enter Try.func105, Try.ntmps105
  have a1 := and255 (n / 16777216) (by omega) (by omega)
  have a2 := and255 (n / 65536) (by omega) (by omega)
  have a3 := and255 (n / 256) (by omega) (by omega)
  have a4 := and255 n h0 h1
  have hc := fourStr w (n / 16777216 % 256) (n / 65536 % 256) (n / 256 % 256) (n % 256)
  go_wp2_with fail
  go_ret
  exact ⟨rfl, (by repeat (first | exact Below.refl _ _ | assumption | refine Below.setCell ?_ (by first | omega | (simp <;> omega)) _ | refine Below.alloc ?_ (by first | omega | (simp <;> omega)) _ | refine Below.drew ?_))⟩
end Go.Proofs.Ytfhdnanbhigpmaa
