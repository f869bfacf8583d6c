/- The letters of a puzzle, spec; one list before another. Conditions: as each contract says. -/
import Derived.Test.YtfhdnanbhigpmaaSf
namespace Go.Proofs.Ytfhdnanbhigpmaa
open Go.RowKit Grp

set_option maxRecDepth 100000 in
set_option maxHeartbeats 1000000 in
theorem specLetters (A : Option Addr) (c : Nat) (p : Pz) (w : World) (hm : p.moves.length ≤ 100000) :
    Calls Try.prog 112 #[.agg #[.int .i64 p.pts, .string p.names, .slice A p.moves.length c]] w fun e w' => ∃ v, e = .returned v ∧ Fresh w.heap.size w' v (letsOf p.moves.length) ∧ Below w.heap.size w w' := by
  obtain ⟨m, hmm⟩ : ∃ m, p.moves.length = m := ⟨_, rfl⟩
  rw [hmm] at hm ⊢
  clear hmm
  obtain ⟨w0, hw0⟩ : ∃ w0, (w.alloc (.cells #[.int .i64 p.pts, .string p.names, .slice A m c] 29)).alloc (.cells #[] 2) = w0 := ⟨_, rfl⟩
  have hb0 : Below w.heap.size w w0 := by rw [← hw0]; exact (by repeat (first | exact Below.refl _ _ | assumption | refine Below.setCell ?_ (by first | omega | (simp <;> omega)) _ | refine Below.alloc ?_ (by first | omega | (simp <;> omega)) _ | refine Below.drew ?_))
  have hz0 : w0.heap.size = w.heap.size + 2 := by rw [← hw0]; simp
  have r0 : w0.heap[w.heap.size]? = some (.cells #[.int .i64 p.pts, .string p.names, .slice A m c] 29 (0, 0)) := by rw [← hw0]; exact alloc2_0 _ _ _
  have hE : Fresh (w.heap.size + 1) w0 (.slice (some ⟨w.heap.size + 1, 0, none⟩) 0 0) [] := by
    have := Fresh.empty (B := w.heap.size + 1) (w := w.alloc (.cells #[.int .i64 p.pts, .string p.names, .slice A m c] 29)) (by simp)
    rw [← hw0]; simpa using this
  go_enter Try.func112, Try.ntmps112
  go_wp2_with fail
  clear hw0
  go_loopw [3, 4] (fun v i wr => ∃ j : Nat, 1 ≤ j ∧ j ≤ m + 1 ∧ i = .int .i64 j ∧ Fresh (w.heap.size + 1) wr v (letsOf (j - 1)) ∧ Below (w.heap.size + 1) w0 wr) (fun _ i _ => m + 1 - (intOf i).toNat)
  case atStart => exact ⟨1, Nat.le_refl _, by omega, rfl, hE, Below.refl _ _⟩
  case round =>
    obtain ⟨j, hj1, hj, rfl, hF, hB⟩ := hrel
    clear hE
    have c2 := cell_of_row wr w.heap.size 2 _ _ (0, 0) ((hB.block w.heap.size (by omega)).trans r0)
    by_cases hlt : j ≤ m
    · have p1 : (j : Int) ≤ (m : Int) := by omega
      have hw1 : IntKind.i64.wrap ((j : Int) + 1) = (j : Int) + 1 := IntWalk.i64_in _ (by omega)
      have hw2 : IntKind.i64.wrap (-(j : Int)) = -(j : Int) := IntWalk.i64_in _ (by omega)
      obtain ⟨xs, hxs⟩ : ∃ xs, letsOf (j - 1) = xs := ⟨_, rfl⟩
      have hll := letsOf_len (j - 1)
      rw [hxs] at hF hll
      have hl2 : xs.length ≤ 1048576 := by omega
      have hBz := hB.size
      have HX : Hid (letsOf (j + 1 - 1) = xs ++ [(j : Int), -(j : Int)]) := by
        unfold Hid
        obtain ⟨i, rfl⟩ : ∃ i, j = i + 1 := ⟨j - 1, by omega⟩
        rw [show i + 1 + 1 - 1 = i + 1 from by omega]
        unfold letsOf
        rw [← hxs]
        rfl
      clear hxs hll
      go_wp2_with (first | (at_builtin; refine append_two rfl (.tmp 13) (.tmp 17) rfl (w.heap.size + 1) _ xs (j : Int) (-(j : Int)) rfl (hF.below (by repeat (first | exact Below.refl _ _ | assumption | refine Below.setCell ?_ (by first | omega | (simp <;> omega)) _ | refine Below.alloc ?_ (by first | omega | (simp <;> omega)) _ | refine Below.drew ?_))) wr.heap.size rfl (by simp) (by simp) hl2 (by simp; omega) ?_; intro v3 w3 hF3 hg3 hb3))
      have hB3 : Below (w.heap.size + 1) w0 w3 := hB.trans (((Below.refl _ _).alloc (by omega) _).trans hb3)
      go_roundw
      case rel => exact ⟨j + 1, by omega, by omega, by go_num, by rw [HX.out]; exact hF3, hB3⟩
      case measure => simp [intOf]; omega
    · obtain rfl : j = m + 1 := by omega
      have p1 : ¬ ((m + 1 : Nat) : Int) ≤ (m : Int) := by omega
      have hw3 : Hid (letsOf (m + 1 - 1) = letsOf m) := rfl
      rw [hw3.out] at hF
      go_wp2_with fail
      go_ret
      exact ⟨_, rfl, hF.mono (by omega), hb0.trans (hB.mono (by omega))⟩
end Go.Proofs.Ytfhdnanbhigpmaa
