/- slices.Repeat of the one byte 255. Conditions: as the contract says. -/
import Derived.Test.YtfhdnanbhigpmaaHex
import Derived.Test.YtfhdnanbhigpmaaShelf
import Derived.Laws.CopyOwn
namespace Go.Proofs.Ytfhdnanbhigpmaa
open Go.RowKit

theorem mulOne (n : Nat) (w : World) (hn : n ≤ 4194304) : Calls Try.prog 116 #[.int .u64 1, .int .u64 (n : Int)] w fun e w' => e = .returned (.tuple #[.int .u64 0, .int .u64 (n : Int)]) ∧ w = w' :=
  (Try.bits_Mul 1 n (by omega) (by omega) w).mono fun e w' ⟨he, hw⟩ => ⟨by
    rw [he, show 1 * n / 18446744073709551616 = 0 from by omega, show 1 * n % 18446744073709551616 = n from by omega]
    rfl, hw.symm⟩
def repC (k n : Nat) : List Value := List.replicate k (.int .u8 255) ++ List.replicate (n - k) (.int .u8 0)
theorem repC_len (k n : Nat) (h : k ≤ n) : (repC k n).length = n := by simp [repC]; omega
theorem repC_splice (k m n : Nat) (h : k + m ≤ n) : splice (repC k n) k (List.replicate m (.int .u8 255)) = repC (k + m) n := by
  unfold splice repC
  rw [List.length_replicate, List.take_left' (by simp), List.drop_append, List.drop_eq_nil_of_le (by simp), List.nil_append, List.drop_replicate, List.length_replicate, ← List.append_assoc, List.replicate_append_replicate]
  congr 2
  omega
theorem repC_zero (n : Nat) : repC 0 n = List.replicate n (.int .u8 0) := by simp [repC]
theorem byteSize : (Try.prog.info? 5).map (·.size) = some 1 := by kernel_rfl
theorem cell_of_rep {w : World} {g k n : Nat} {e : TypeId} (h : w.heap[g]? = some (.cells (repC k n).toArray e (0, 0))) (j : Nat) (hj : j < k) : w.cell? ⟨g, j, none⟩ = some (.int .u8 255) := by
  rw [cell_of_row w g j _ _ (0, 0) h]
  unfold repC
  rw [List.getElem?_toArray, List.getElem?_append_left (by simpa using hj), List.getElem?_replicate, if_pos hj]
theorem whole_of_made {w : World} {B g n : Nat} {xs : List Value} (h : w.ownsRow B 5 1 (.slice (some ⟨g, 0, none⟩) n n) n xs) : w.heap[g]? = some (.cells xs.toArray 5 (0, 0)) := by
  rcases h.2 with ⟨he, _⟩ | ⟨g', cap, cur, he, _, hg, _, _, hcs, htake⟩
  · simp at he
  · simp only [Value.slice.injEq, Option.some.injEq, Addr.mk.injEq] at he
    obtain ⟨⟨rfl, _⟩, _, rfl⟩ := he
    have e : cur.toList = xs := by
      rw [← htake, List.take_of_length_le]
      simp [hcs]
    rw [hg, ← e]
theorem made_of_whole {w : World} {B g n : Nat} {xs : List Value} (hB : B ≤ g) (hm : n ≤ maxLen) (hg : w.heap[g]? = some (.cells xs.toArray 5 (0, 0))) (hl : xs.length = n) : w.ownsRow B 5 1 (.slice (some ⟨g, 0, none⟩) n n) n xs :=
  ⟨by simp [hl], .inr ⟨g, n, xs.toArray, rfl, hB, hg, Nat.le_refl _, hm, by simp [hl], by rw [← hl]; simp⟩⟩
theorem news255 {w : World} {g : Nat} (h : w.cell? ⟨g, 0, none⟩ = some (.int .u8 255)) : ∀ (j : Nat) (v : Value), (List.replicate 1 (Value.int .u8 255))[j]? = some v → w.cell? ((⟨g, 0, none⟩ : Addr).add j) = some v := by
  intro j v hv
  have hj : j < 1 := by simpa using (List.getElem?_eq_some_iff.1 hv).1
  obtain rfl : j = 0 := by omega
  rw [Addr.add_lit, h]
  simpa using hv
theorem all255 (m : Nat) : ∀ v ∈ List.replicate m (Value.int .u8 255), v.oneCell' = true := by
  intro v hv
  rw [(List.mem_replicate.1 hv).2]
  rfl
theorem one255 : ∀ v ∈ List.replicate 1 (Value.int .u8 255), v.oneCell' = true := all255 1
theorem news255s {w : World} {g k n m : Nat} {e : TypeId} (h : w.heap[g]? = some (.cells (repC k n).toArray e (0, 0))) (hm : m ≤ k) : ∀ (j : Nat) (v : Value), (List.replicate m (Value.int .u8 255))[j]? = some v → w.cell? ((⟨g, 0, none⟩ : Addr).add j) = some v := by
  intro j v hv
  have hj : j < m := by simpa using (List.getElem?_eq_some_iff.1 hv).1
  rw [Addr.add_lit, Nat.zero_add, cell_of_rep h j (by omega)]
  rw [List.getElem?_replicate, if_pos hj] at hv
  exact hv
def RepPost (n : Nat) (w : World) (e : Ending) (w' : World) : Prop := e = .returned (.slice (some ⟨w.heap.size, 0, none⟩) n n) ∧ w'.heap[w.heap.size]? = some (.cells (repC n n).toArray 5 (0, 0)) ∧ Below w.heap.size w w'
set_option maxRecDepth 100000 in
set_option maxHeartbeats 2000000 in
theorem repeat255 (g0 : Nat) (n : Nat) (w : World) (hn : n ≤ 4194304) (hc : w.cell? ⟨g0, 0, none⟩ = some (.int .u8 255)) :
    Calls Try.prog 83 #[.slice (some ⟨g0, 0, none⟩) 1 1, .int .i64 (n : Int)] w (RepPost n w) := by
  obtain ⟨i0, hi, hz0, hz1, hz2⟩ := info_parts byteInfo
  have p0 : (0 : Int) ≤ (n : Int) := by omega
  have p1 : (n : Int) ≤ 9223372036854775807 := by omega
  have d1 : decide ((n : Int) < 0) = false := by simp
  have hg0 := World.block_lt_of_cell? w _ hc
  go_enter Try.func83, Try.ntmps83
  go_wp2_with fail
  have hw1 : IntKind.u64.wrap (n : Int) = (n : Int) := IntWalk.u64_in _ (by omega)
  refine (mulOne n _ hn).mono ?_
  rintro e w' ⟨rfl, rfl⟩
  clear hw1
  go_wp2_with (first | (at_make; refine wpList_make_full _ rfl _ _ 22 rfl w.heap.size 5 i0 (.int .u8 0) 1 Try.underlying22 hi hz0 hz1 _ _ _ _ n rfl rfl rfl rfl ?_ ?_ ?_ ?_))
  · rw [hz2]; omega
  · unfold maxLen; omega
  · simp
  intro w1 hown hgrow
  rw [toList_madeCells_one, ← repC_zero] at hown
  have hB1 : Below w.heap.size w w1 := (Below.refl _ _).grown hgrow (Nat.le_refl _) (by simp)
  have hH1 := whole_of_made hown
  have hc1 : w1.cell? ⟨g0, 0, none⟩ = some (.int .u8 255) := (hB1.cell (p := ⟨g0, 0, none⟩) hg0).trans hc
  have hgs : w.heap.size < w1.heap.size := (Array.getElem?_eq_some_iff.1 hH1).1
  clear hown hgrow
  by_cases hz : n = 0
  · subst hz
    go_wp2_with (first | (with_reducible refine wpList_copy_nothing rfl (.tmp 31) (.tmp 32) _ _ rfl 5 Try.underlying22 byteSize _ _ _ _ _ _ rfl rfl rfl ?_))
    refine wp_loop_rounds 1 ?_
    rw [rounds_succ]
    go_wp2_with fail
    go_ret
    exact ⟨rfl, hH1, hB1⟩
  have hpos : 1 ≤ n := by omega
  have hmin : Nat.min 1 n = 1 := Nat.min_eq_left hpos
  go_wp2_with (first | (with_reducible refine wpList_copy_splice rfl (.tmp 31) (.tmp 32) _ _ rfl 5 Try.underlying22 byteSize _ _ _ _ _ _ rfl rfl w.heap.size 0 (repC 0 n) _ hH1 (List.replicate 1 (.int .u8 255)) (by simpa using hmin.symm) (fun _ => ⟨rfl, _, rfl, news255 hc1⟩) (by rw [repC_len _ _ (Nat.zero_le _)]; simpa using hpos) one255 w.heap.size w hB1 (Nat.le_refl _) ?_; intro w2 HH2 hB2))
  have hH2 : w2.heap[w.heap.size]? = some (.cells (repC 1 n).toArray 5 (0, 0)) := by
    have := HH2.out
    rw [repC_splice 0 1 n (by omega)] at this
    rwa [Nat.zero_add] at this
  clear HH2 hH1 hB1 hc1 hmin
  go_loopw [8] (fun i wr => ∃ k : Nat, 1 ≤ k ∧ k ≤ n ∧ i = .int .i64 k ∧ wr.heap[w.heap.size]? = some (.cells (repC k n).toArray 5 (0, 0)) ∧ Below w.heap.size w wr) (fun i _ => n - (intOf i).toNat)
  case atStart => exact ⟨1, Nat.le_refl _, hpos, rfl, hH2, hB2⟩
  case round =>
    obtain ⟨k, hk1, hk2, rfl, hH, hB⟩ := hrel
    clear hH2 hB2
    by_cases hlt : k < n
    · have q0 : (0 : Int) ≤ (k : Int) := by omega
      have q1 : (k : Int) ≤ (n : Int) := by omega
      have q2 : (k : Int) < (n : Int) := by omega
      obtain ⟨m, hm⟩ : ∃ m, Nat.min k (n - k) = m := ⟨_, rfl⟩
      have hm1 : 1 ≤ m := by rw [← hm]; exact Nat.le_min.2 ⟨hk1, by omega⟩
      have hm2 : k + m ≤ n := by have : m ≤ n - k := by rw [← hm]; exact Nat.min_le_right _ _
                                 omega
      have hm3 : m ≤ k := by rw [← hm]; exact Nat.min_le_left _ _
      have HM := Lib.hid hm
      clear hm
      have hHd : wr.drew.heap[w.heap.size]? = some (.cells (repC k n).toArray 5 (0, 0)) := hH
      have hBd := hB.drew
      have hw : IntKind.i64.wrap ((k : Int) + (m : Int)) = (k : Int) + (m : Int) := IntWalk.i64_in _ (by omega)
      go_wp2_with fail
      go_region_held3 (fun w' => True) (trivial) ((refine step_copy_splice (by rfl) (.tmp 41) (.tmp 44) _ _ (by rfl) 5 Try.underlying22 byteSize (if n = k then some ⟨w.heap.size, 0, none⟩ else some ⟨w.heap.size, k, none⟩) (some ⟨w.heap.size, 0, none⟩) (n - k) (n - k) k n (by rfl) (by rfl) w.heap.size k (repC k n) 5 hHd (List.replicate m (.int .u8 255)) (by simpa using HM.out.symm) (fun _ => ⟨if_neg (by omega), _, rfl, news255s hHd hm3⟩) (by rw [repC_len _ _ hk2]; simpa using hm2) (all255 m) w.heap.size w hBd (Nat.le_refl _) ?_; intro w3 HH3 hB3))
      clear hw
      have hH3 : w3.heap[w.heap.size]? = some (.cells (repC (k + m) n).toArray 5 (0, 0)) := by
        have := HH3.out
        rwa [repC_splice k m n hm2] at this
      clear HH3
      go_wp2_with fail
      go_roundw
      case rel => exact ⟨k + m, by omega, hm2, by go_num, hH3, hB3⟩
      case measure => simp [intOf]; omega
    · have hke : k = n := by omega
      subst hke
      go_wp2_with fail
      go_ret
      exact ⟨rfl, hH, hB⟩
theorem repeatAt (g0 n H : Nat) (w : World) (hn : n ≤ 4194304) (hc : w.cell? ⟨g0, 0, none⟩ = some (.int .u8 255)) (hH : w.heap.size = H) :
    Calls Try.prog 83 #[.slice (some ⟨g0, 0, none⟩) 1 1, .int .i64 (n : Int)] w fun e w' => e = .returned (.slice (some ⟨H, 0, none⟩) n n) ∧ w'.heap[H]? = some (.cells (repC n n).toArray 5 (0, 0)) ∧ Below H w w' := by
  subst hH
  exact (repeat255 g0 n w hn hc).mono fun e w' h => h
end Go.Proofs.Ytfhdnanbhigpmaa
