/- Packing of residues, at the implementation. Conditions: as the contracts say. -/
import Derived.Test.YtfhdnanbhigpmaaPk
namespace Go.Proofs.Ytfhdnanbhigpmaa
open Go.RowKit
set_option maxRecDepth 100000 in
set_option maxHeartbeats 4000000 in
theorem packed2 (A : Option Addr) (c : Nat) (xs : List Int) (w : World) (hx : IntsAt w A xs) (hl : xs.length ≤ 3000) (hv : ∀ k, k < xs.length → 0 ≤ xs.getD k 0 ∧ xs.getD k 0 ≤ 3) :
    Calls Try.prog 49 #[.slice A xs.length c, .int .i64 2] w fun e w' => e = .returned (.string (strOfNums (bytesBy (rsd xs) ((xs.length + 3) / 4)))) ∧ Below w.heap.size w w' := by
  obtain ⟨n, hn⟩ : ∃ n, (xs.length + 3) / 4 = n := ⟨_, rfl⟩
  rw [hn]
  have HN := Lib.hid hn
  have hq : ((xs.length : Int) + 4 - 1) / 4 = (n : Int) := by omega
  clear hn
  have HV := Lib.hid hv
  clear hv
  go_enter Try.func49, Try.ntmps49
  go_wp2_with fail
  ((with_reducible refine (repeatAt w.heap.size n (w.heap.size + 1) _ (by have := HN.out; omega) (by simp) (by simp)).mono ?_); rintro e w1 ⟨rfl, hH1, hb1⟩)
  clear hq
  have hB1 : Below w.heap.size w w1 := ((Below.refl _ _).alloc (Nat.le_refl _) _).trans (hb1.mono (by omega))
  rw [repC_rsd] at hH1
  clear hb1
  go_wp2_with fail
  go_loopw [27] (fun i wr => ∃ k : Nat, k ≤ xs.length ∧ i = .int .i64 k ∧ wr.heap[w.heap.size + 1]? = some (.cells (cellsBy (rsd (xs.take k)) n).toArray 5 (0, 0)) ∧ Below w.heap.size w wr) (fun i _ => xs.length - (intOf i).toNat)
  case atStart => exact ⟨0, Nat.zero_le _, rfl, hH1, hB1⟩
  case round =>
    obtain ⟨k, hk, rfl, hH, hB⟩ := hrel
    clear hH1 hB1
    by_cases hlt : k < xs.length
    · obtain ⟨b, off, x, rfl, hb, hc, HX⟩ := (hx.below hB).at_ hlt
      have bx := HV.out k hlt
      rw [HX.out] at bx
      have x0 := bx.1
      have x1 := bx.2
      have p0 : (0 : Int) ≤ (k : Int) := by omega
      have p1 : (k : Int) < (xs.length : Int) := by omega
      obtain ⟨j, hj⟩ : ∃ j, k / 4 = j := ⟨_, rfl⟩
      have hjn : j < n := by have := HN.out; omega
      have q0 : (0 : Int) ≤ (j : Int) := by omega
      have q1 : (j : Int) < (n : Int) := by omega
      have hfr : wr.frozen? ⟨w.heap.size + 1, j, none⟩ = false := by simp [World.frozen?, hH]
      have hcell : wr.cell? ⟨w.heap.size + 1, j, none⟩ = some (.int .u8 (rsd (xs.take k) j)) := by
        rw [cell_of_row wr _ j _ _ (0, 0) hH, List.getElem?_toArray, cellsBy_get _ _ _ hjn]
      have hd : (k : Int) / 4 = (j : Int) := by omega
      have HH := Lib.hid hH
      clear hH
      by_cases he : k % 4 = 0
      · obtain ⟨o, n1, o0, o1, n2, n3⟩ := rsd_step0 xs k he hlt HV.out HX.out
        rw [hj] at n1 n2 n3
        rw [n1] at hcell
        have hr : (k : Int) % 4 = 0 := by omega
        have hs := setr0 o0 o1 x0 (show x ≤ 3 from by omega)
        obtain ⟨z, hz⟩ : ∃ z, o % 64 + 64 * x = z := ⟨_, rfl⟩
        rw [hz] at hs n2
        have hw1 : IntKind.u8.wrap x = x := IntWalk.u8_in _ (by omega)
        have hw2 : IntKind.u8.wrap (x * 64) = x * 64 := IntWalk.u8_in _ (by omega)
        have hw4 : IntKind.u8.wrap 192 = 192 := by decide
        have N2 := Lib.hid n2
        have N3 := Lib.hid n3
        clear hj he n1 n2 n3 bx hz
        go_wp2_with fail
        have hw3 : IntKind.i64.wrap (j : Int) = (j : Int) := IntWalk.i64_in _ (by omega)
        go_still_tail 20, (by kernel_rfl)
        change wpList _ _ _ _ _ wr.drew
        have hcell2 : wr.drew.cell? ⟨w.heap.size + 1, j, none⟩ = some (.int .u8 o) := hcell
        have hfr2 : wr.drew.frozen? ⟨w.heap.size + 1, j, none⟩ = false := hfr
        have HH2 : Hid (wr.drew.heap[w.heap.size + 1]? = some (.cells (cellsBy (rsd (xs.take k)) n).toArray 5 (0, 0))) := HH.out
        have hB2 := hB.drew
        clear hcell hfr HH hB hc hs hw1 hw2 hw3 hw4 hr
        generalize wr.drew = w2 at *
        go_wp2_with fail
        go_roundw
        case rel =>
          have h3 := heap_setCell_same w2 (w.heap.size + 1) j _ _ (.int .u8 z) HH2.out
          rw [toArray_set, cellsBy_set _ _ n j z N2.out N3.out] at h3
          exact ⟨k + 1, by omega, by go_num, h3, hB2.setCell (by simp) _⟩
        case measure => simp [intOf]; omega
      by_cases he : k % 4 = 1
      · obtain ⟨o, n1, o0, o1, n2, n3⟩ := rsd_step1 xs k he hlt HV.out HX.out
        rw [hj] at n1 n2 n3
        rw [n1] at hcell
        have hr : (k : Int) % 4 = 1 := by omega
        have hs := setr1 o0 o1 x0 (show x ≤ 3 from by omega)
        obtain ⟨z, hz⟩ : ∃ z, o / 64 * 64 + o % 16 + 16 * x = z := ⟨_, rfl⟩
        rw [hz] at hs n2
        have hw1 : IntKind.u8.wrap x = x := IntWalk.u8_in _ (by omega)
        have hw2 : IntKind.u8.wrap (x * 16) = x * 16 := IntWalk.u8_in _ (by omega)
        have hw4 : IntKind.u8.wrap 48 = 48 := by decide
        have N2 := Lib.hid n2
        have N3 := Lib.hid n3
        clear hj he n1 n2 n3 bx hz
        go_wp2_with fail
        have hw3 : IntKind.i64.wrap (j : Int) = (j : Int) := IntWalk.i64_in _ (by omega)
        go_still_tail 20, (by kernel_rfl)
        change wpList _ _ _ _ _ wr.drew
        have hcell2 : wr.drew.cell? ⟨w.heap.size + 1, j, none⟩ = some (.int .u8 o) := hcell
        have hfr2 : wr.drew.frozen? ⟨w.heap.size + 1, j, none⟩ = false := hfr
        have HH2 : Hid (wr.drew.heap[w.heap.size + 1]? = some (.cells (cellsBy (rsd (xs.take k)) n).toArray 5 (0, 0))) := HH.out
        have hB2 := hB.drew
        clear hcell hfr HH hB hc hs hw1 hw2 hw3 hw4 hr
        generalize wr.drew = w2 at *
        go_wp2_with fail
        go_roundw
        case rel =>
          have h3 := heap_setCell_same w2 (w.heap.size + 1) j _ _ (.int .u8 z) HH2.out
          rw [toArray_set, cellsBy_set _ _ n j z N2.out N3.out] at h3
          exact ⟨k + 1, by omega, by go_num, h3, hB2.setCell (by simp) _⟩
        case measure => simp [intOf]; omega
      by_cases he : k % 4 = 2
      · obtain ⟨o, n1, o0, o1, n2, n3⟩ := rsd_step2 xs k he hlt HV.out HX.out
        rw [hj] at n1 n2 n3
        rw [n1] at hcell
        have hr : (k : Int) % 4 = 2 := by omega
        have hs := setr2 o0 o1 x0 (show x ≤ 3 from by omega)
        obtain ⟨z, hz⟩ : ∃ z, o / 16 * 16 + o % 4 + 4 * x = z := ⟨_, rfl⟩
        rw [hz] at hs n2
        have hw1 : IntKind.u8.wrap x = x := IntWalk.u8_in _ (by omega)
        have hw2 : IntKind.u8.wrap (x * 4) = x * 4 := IntWalk.u8_in _ (by omega)
        have hw4 : IntKind.u8.wrap 12 = 12 := by decide
        have N2 := Lib.hid n2
        have N3 := Lib.hid n3
        clear hj he n1 n2 n3 bx hz
        go_wp2_with fail
        have hw3 : IntKind.i64.wrap (j : Int) = (j : Int) := IntWalk.i64_in _ (by omega)
        go_still_tail 20, (by kernel_rfl)
        change wpList _ _ _ _ _ wr.drew
        have hcell2 : wr.drew.cell? ⟨w.heap.size + 1, j, none⟩ = some (.int .u8 o) := hcell
        have hfr2 : wr.drew.frozen? ⟨w.heap.size + 1, j, none⟩ = false := hfr
        have HH2 : Hid (wr.drew.heap[w.heap.size + 1]? = some (.cells (cellsBy (rsd (xs.take k)) n).toArray 5 (0, 0))) := HH.out
        have hB2 := hB.drew
        clear hcell hfr HH hB hc hs hw1 hw2 hw3 hw4 hr
        generalize wr.drew = w2 at *
        go_wp2_with fail
        go_roundw
        case rel =>
          have h3 := heap_setCell_same w2 (w.heap.size + 1) j _ _ (.int .u8 z) HH2.out
          rw [toArray_set, cellsBy_set _ _ n j z N2.out N3.out] at h3
          exact ⟨k + 1, by omega, by go_num, h3, hB2.setCell (by simp) _⟩
        case measure => simp [intOf]; omega
      have he : k % 4 = 3 := by omega
      obtain ⟨o, n1, o0, o1, n2, n3⟩ := rsd_step3 xs k he hlt HV.out HX.out
      rw [hj] at n1 n2 n3
      rw [n1] at hcell
      have hr : (k : Int) % 4 = 3 := by omega
      have hs := setr3 o0 o1 x0 (show x ≤ 3 from by omega)
      obtain ⟨z, hz⟩ : ∃ z, o / 4 * 4 + x = z := ⟨_, rfl⟩
      rw [hz] at hs n2
      have hw1 : IntKind.u8.wrap x = x := IntWalk.u8_in _ (by omega)
      have hw4 : IntKind.u8.wrap 3 = 3 := by decide
      have N2 := Lib.hid n2
      have N3 := Lib.hid n3
      clear hj he n1 n2 n3 bx hz
      go_wp2_with fail
      have hw3 : IntKind.i64.wrap (j : Int) = (j : Int) := IntWalk.i64_in _ (by omega)
      go_still_tail 20, (by kernel_rfl)
      change wpList _ _ _ _ _ wr.drew
      have hcell2 : wr.drew.cell? ⟨w.heap.size + 1, j, none⟩ = some (.int .u8 o) := hcell
      have hfr2 : wr.drew.frozen? ⟨w.heap.size + 1, j, none⟩ = false := hfr
      have HH2 : Hid (wr.drew.heap[w.heap.size + 1]? = some (.cells (cellsBy (rsd (xs.take k)) n).toArray 5 (0, 0))) := HH.out
      have hB2 := hB.drew
      clear hcell hfr HH hB hc hs hw1 hw3 hw4 hr
      generalize wr.drew = w2 at *
      go_wp2_with fail
      go_roundw
      case rel =>
        have h3 := heap_setCell_same w2 (w.heap.size + 1) j _ _ (.int .u8 z) HH2.out
        rw [toArray_set, cellsBy_set _ _ n j z N2.out N3.out] at h3
        exact ⟨k + 1, by omega, by go_num, h3, hB2.setCell (by simp) _⟩
      case measure => simp [intOf]; omega
    · have hke : k = xs.length := by omega
      have hcv : (convert 22 9 (.slice (some ⟨w.heap.size + 1, 0, none⟩) n n)).run Try.prog wr = .ok (.string (strOfNums (bytesBy (rsd xs) n))) wr := by
        rw [hke, List.take_of_length_le (Nat.le_refl _)] at hH
        have h3 : BFresh w.heap.size wr (.slice (some ⟨w.heap.size + 1, 0, none⟩) n n) (bytesBy (rsd xs) n) := by
          have := made_of_whole (B := w.heap.size) (by omega) (by have := HN.out; unfold maxLen; omega) hH (cellsBy_len _ _)
          unfold BFresh
          rw [show (bytesBy (rsd xs) n).length = n from by simp [bytesBy]]
          exact this
        exact h3.str
      have HK := Lib.hid hke
      clear hke
      go_wp2_with fail
      go_ret
      exact ⟨rfl, hB⟩
end Go.Proofs.Ytfhdnanbhigpmaa
