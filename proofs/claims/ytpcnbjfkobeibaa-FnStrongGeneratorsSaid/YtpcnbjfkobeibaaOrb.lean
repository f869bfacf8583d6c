/- The points of a row of a chain, at the program. Conditions: as the contract says. -/
import Derived.Test.YtpcnbjfkobeibaaHas
namespace Go.Proofs.Ytpcnbjfkobeibaa
open Go.RowKit Grp

def orbTo (T : Tab) (i k : Nat) : List Nat := (List.range k).filter fun y => (T i y).isSome
theorem orbTo_no {T : Tab} {i k : Nat} (h : T i k = none) : orbTo T i (k + 1) = orbTo T i k := by rw [orbTo, List.range_succ, List.filter_append]; simp [orbTo, h]
theorem orbTo_yes {T : Tab} {i k : Nat} {t : List Nat} (h : T i k = some t) : orbTo T i (k + 1) = orbTo T i k ++ [k] := by rw [orbTo, List.range_succ, List.filter_append]; simp [orbTo, h]
theorem orbTo_len (T : Tab) (i k : Nat) : (orbTo T i k).length ≤ k := by
  have := List.length_filter_le (fun y => (T i y).isSome) (List.range k)
  rw [List.length_range] at this
  exact this
set_option maxRecDepth 100000 in
set_option maxHeartbeats 1000000 in
theorem implOrbit {ok : Nat → Prop} (B n i : Nat) (s : Sh) (T : Tab) (Gs : Nat → List (List Nat)) (w : World) (hb : Body ok B n w s T Gs) (hi : i < n) (hnl : n ≤ 20) :
    Calls Try.prog 91 #[.slice (some ⟨s.R i, 0, none⟩) n n] w (CompPost (orb n T i) w) := by
  have HBD := Lib.hid hb
  have hneq := fun (wx : World) (a : Option Addr) (l c : Nat) => run_neq_slice_nil (P := Try.prog) wx 23 2 a l c Try.underlying23
  have hF0 := Fresh.nil w.heap.size w
  clear hb
  go_enter Try.func91, Try.ntmps91
  go_wp2_with fail
  go_loopw [3, 8] (fun v j wr => ∃ k : Nat, k ≤ n ∧ j = .int .i64 k ∧ Fresh w.heap.size wr v (natI (orbTo T i k)) ∧ Below w.heap.size w wr) (fun _ j _ => n - (intOf j).toNat)
  case atStart => exact ⟨0, Nat.zero_le _, rfl, hF0, Below.refl _ _⟩
  case round =>
    obtain ⟨k, hk, rfl, hF, hB⟩ := hrel
    clear hF0
    by_cases hlt : k < n
    · have HBR := Lib.hid (HBD.out.below hB)
      obtain ⟨u, hu, hrep, -⟩ := HBR.out.readRow hi hlt
      have p0 : (0 : Int) ≤ (k : Int) := by omega
      have p1 : (k : Int) < (n : Int) := by omega
      cases hTk : T i k with
      | none =>
        rw [hTk] at hrep
        obtain rfl : u = .slice none 0 0 := hrep
        have HN := Lib.hid (orbTo_no hTk)
        clear hTk
        go_wp2_with fail
        go_roundw
        case rel => exact ⟨k + 1, by omega, by go_num, by rw [HN.out]; exact hF, hB⟩
        case measure => simp [intOf]; omega
      | some t =>
        rw [hTk] at hrep
        have hrep : PermV ok wr u n t := hrep
        obtain ⟨gt, ct, rfl, -, -⟩ := hrep.ints
        have HN := Lib.hid (orbTo_yes hTk)
        have hl2 : (natI (orbTo T i k)).length ≤ 1048576 := by rw [natI_len]; have := orbTo_len T i k; omega
        have hBz := hB.size
        clear hTk hrep
        go_wp2_with (first | (at_builtin; refine append_one rfl (.tmp 15) (.tmp 17) rfl w.heap.size _ _ (k : Int) rfl (hF.below (by repeat (first | exact Below.refl _ _ | assumption | refine Below.setCell ?_ (by first | omega | (simp <;> omega)) _ | refine Below.alloc ?_ (by first | omega | (simp <;> omega)) _ | refine Below.drew ?_))) wr.heap.size rfl (by simp) hl2 (by simp; omega) ?_; intro v3 w3 hF3 hg3 hb3))
        have hB3 : Below w.heap.size w w3 := hB.trans (((Below.refl _ _).alloc hBz _).trans hb3)
        have hF4 : Fresh w.heap.size w3 v3 (natI (orbTo T i (k + 1))) := by rw [HN.out]; simpa [natI] using hF3
        go_roundw
        case rel => exact ⟨k + 1, by omega, by go_num, hF4, hB3⟩
        case measure => simp [intOf]; omega
    · obtain rfl : k = n := by omega
      go_wp2_with fail
      go_ret
      exact ⟨_, rfl, hF, hB⟩
end Go.Proofs.Ytpcnbjfkobeibaa
