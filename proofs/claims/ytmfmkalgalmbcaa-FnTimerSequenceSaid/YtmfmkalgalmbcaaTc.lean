/- What an event does to a valid timer, at the reference. Conditions: as each contract says. -/
import Derived.Test.YtmfmkalgalmbcaaTa
import Derived.Deep.RegionWith
import Derived.Deep.CutRange
namespace Go.Proofs.Ytmfmkalgalmbcaa
open Go.RowKit

set_option maxRecDepth 100000 in
set_option maxHeartbeats 8000000 in
theorem specT0a (la at_ : Int) (w : World)  : Calls Try.prog 29 #[.agg #[.int .i64 0, .int .i64 la, .int .i64 0, .int .i64 0, .int .i64 0, .int .i64 0, .int .i64 0, .bool false], .agg #[.int .i64 1, .int .i64 at_]] w (TpPost ⟨1, at_, at_, 0, 0, 0, 0, false⟩ true w) := by
  go_enter Try.func29, Try.ntmps29
  go_wp2_with fail
  all_goals
    exact bodyPost_ret (v := .tuple #[.agg #[.int .i64 1, .int .i64 at_, .int .i64 at_, .int .i64 0, .int .i64 0, .int .i64 0, .int .i64 0, .bool false], .bool true]) (by simp [results, Try.results29, go_sem]) rfl ⟨rfl, (by repeat (first | exact Below.refl _ _ | assumption | refine Below.setCell ?_ (by first | omega | (simp <;> omega)) _ | refine Below.alloc ?_ (by first | omega | (simp <;> omega)) _ | refine Below.drew ?_))⟩
set_option maxRecDepth 100000 in
set_option maxHeartbeats 8000000 in
theorem specT1a (la ins at_ : Int) (w : World)  : Calls Try.prog 29 #[.agg #[.int .i64 1, .int .i64 la, .int .i64 ins, .int .i64 0, .int .i64 0, .int .i64 0, .int .i64 0, .bool false], .agg #[.int .i64 2, .int .i64 at_]] w (TpPost ⟨2, at_, ins, at_, 0, 0, 0, false⟩ true w) := by
  go_enter Try.func29, Try.ntmps29
  go_wp2_with fail
  all_goals
    exact bodyPost_ret (v := .tuple #[.agg #[.int .i64 2, .int .i64 at_, .int .i64 ins, .int .i64 at_, .int .i64 0, .int .i64 0, .int .i64 0, .bool false], .bool true]) (by simp [results, Try.results29, go_sem]) rfl ⟨rfl, (by repeat (first | exact Below.refl _ _ | assumption | refine Below.setCell ?_ (by first | omega | (simp <;> omega)) _ | refine Below.alloc ?_ (by first | omega | (simp <;> omega)) _ | refine Below.drew ?_))⟩
set_option maxRecDepth 100000 in
set_option maxHeartbeats 8000000 in
theorem specT1b (la ins at_ : Int) (w : World)  : Calls Try.prog 29 #[.agg #[.int .i64 1, .int .i64 la, .int .i64 ins, .int .i64 0, .int .i64 0, .int .i64 0, .int .i64 0, .bool false], .agg #[.int .i64 6, .int .i64 at_]] w (TpPost ⟨4, at_, ins, 0, 0, 0, 0, true⟩ true w) := by
  go_enter Try.func29, Try.ntmps29
  go_wp2_with fail
  all_goals
    exact bodyPost_ret (v := .tuple #[.agg #[.int .i64 4, .int .i64 at_, .int .i64 ins, .int .i64 0, .int .i64 0, .int .i64 0, .int .i64 0, .bool true], .bool true]) (by simp [results, Try.results29, go_sem]) rfl ⟨rfl, (by repeat (first | exact Below.refl _ _ | assumption | refine Below.setCell ?_ (by first | omega | (simp <;> omega)) _ | refine Below.alloc ?_ (by first | omega | (simp <;> omega)) _ | refine Below.drew ?_))⟩
set_option maxRecDepth 100000 in
set_option maxHeartbeats 8000000 in
theorem specT2b (la ins at_ : Int) (w : World)  : Calls Try.prog 29 #[.agg #[.int .i64 2, .int .i64 la, .int .i64 ins, .int .i64 la, .int .i64 0, .int .i64 0, .int .i64 0, .bool false], .agg #[.int .i64 6, .int .i64 at_]] w (TpPost ⟨4, at_, ins, 0, 0, 0, 0, true⟩ true w) := by
  go_enter Try.func29, Try.ntmps29
  go_wp2_with fail
  all_goals
    exact bodyPost_ret (v := .tuple #[.agg #[.int .i64 4, .int .i64 at_, .int .i64 ins, .int .i64 0, .int .i64 0, .int .i64 0, .int .i64 0, .bool true], .bool true]) (by simp [results, Try.results29, go_sem]) rfl ⟨rfl, (by repeat (first | exact Below.refl _ _ | assumption | refine Below.setCell ?_ (by first | omega | (simp <;> omega)) _ | refine Below.alloc ?_ (by first | omega | (simp <;> omega)) _ | refine Below.drew ?_))⟩
set_option maxRecDepth 100000 in
set_option maxHeartbeats 8000000 in
theorem specT3b (la ins p at_ : Int) (f : Bool) (w : World)  : Calls Try.prog 29 #[.agg #[.int .i64 3, .int .i64 la, .int .i64 ins, .int .i64 0, .int .i64 la, .int .i64 0, .int .i64 p, .bool f], .agg #[.int .i64 6, .int .i64 at_]] w (TpPost ⟨4, at_, ins, 0, la, at_, 0, true⟩ true w) := by
  go_enter Try.func29, Try.ntmps29
  go_wp2_with fail
  all_goals
    exact bodyPost_ret (v := .tuple #[.agg #[.int .i64 4, .int .i64 at_, .int .i64 ins, .int .i64 0, .int .i64 la, .int .i64 at_, .int .i64 0, .bool true], .bool true]) (by simp [results, Try.results29, go_sem]) rfl ⟨rfl, (by repeat (first | exact Below.refl _ _ | assumption | refine Below.setCell ?_ (by first | omega | (simp <;> omega)) _ | refine Below.alloc ?_ (by first | omega | (simp <;> omega)) _ | refine Below.drew ?_))⟩
set_option maxRecDepth 100000 in
set_option maxHeartbeats 8000000 in
theorem specT2a (la ins at_ : Int) (w : World) (_h1 : la ≤ at_) (h3 : at_ - la < 55) : Calls Try.prog 29 #[.agg #[.int .i64 2, .int .i64 la, .int .i64 ins, .int .i64 la, .int .i64 0, .int .i64 0, .int .i64 0, .bool false], .agg #[.int .i64 3, .int .i64 at_]] w (TpPost ⟨1, at_, ins, 0, 0, 0, 0, false⟩ true w) := by
  have h3a : decide (at_ - la < 55) = true := decide_eq_true h3
  go_enter Try.func29, Try.ntmps29
  go_wp2_with fail
  all_goals
    exact bodyPost_ret (v := .tuple #[.agg #[.int .i64 1, .int .i64 at_, .int .i64 ins, .int .i64 0, .int .i64 0, .int .i64 0, .int .i64 0, .bool false], .bool true]) (by simp [results, Try.results29, go_sem]) rfl ⟨rfl, (by repeat (first | exact Below.refl _ _ | assumption | refine Below.setCell ?_ (by first | omega | (simp <;> omega)) _ | refine Below.alloc ?_ (by first | omega | (simp <;> omega)) _ | refine Below.drew ?_))⟩
set_option maxRecDepth 100000 in
set_option maxHeartbeats 8000000 in
theorem specT2c (la ins p at_ : Int) (f : Bool) (w : World) (hs : startedT at_ ins = ⟨3, at_, ins, 0, at_, 0, p, f⟩) (h00 : 0 ≤ ins) (h01 : ins ≤ la) (_h1 : la ≤ at_) (h2 : at_ ≤ 360000) (h3 : ¬ at_ - la < 55) : Calls Try.prog 29 #[.agg #[.int .i64 2, .int .i64 la, .int .i64 ins, .int .i64 la, .int .i64 0, .int .i64 0, .int .i64 0, .bool false], .agg #[.int .i64 3, .int .i64 at_]] w (TpPost ⟨3, at_, ins, 0, at_, 0, p, f⟩ true w) := by
  have h3a : decide (at_ - la < 55) = false := decide_eq_false h3
  have hc := fun w => specStarted at_ ins w h00 (by omega) h2
  rw [hs] at hc
  have HC := Lib.hid hc
  clear hc hs
  go_enter Try.func29, Try.ntmps29
  go_wp2_with (first | (go_at_call 27; refine (HC.out _).mono ?_; rintro e w1 ⟨rfl, hb1⟩; have hB1 : Below w.heap.size w w1 := belowStep hb1 (by exact (by repeat (first | exact Below.refl _ _ | assumption | refine Below.setCell ?_ (by first | omega | (simp <;> omega)) _ | refine Below.alloc ?_ (by first | omega | (simp <;> omega)) _ | refine Below.drew ?_))); have rH := rowB hb1 (by exact alloc4_2 w _ _ _ _); have rT := rowB hb1 (by exact alloc4_3 w _ _ _ _); clear hb1; obtain ⟨⟨j0, j1, j2, j3, j4, j5, j6, j7⟩, f0, f1, f2, f3, f4, f5, f6, f7⟩ := zcells rH; have HR := Lib.hid (set8_row rH ⟨3, at_, ins, 0, at_, 0, p, f⟩); have HB := Lib.hid (set8_below hB1 (H := w.heap.size + 1 + 1) (by omega) ⟨3, at_, ins, 0, at_, 0, p, f⟩); unfold Set8 at HR HB; clear rH rT hB1))
  all_goals
    (obtain ⟨⟨k0, k1, k2, k3, k4, k5, k6, k7⟩, -⟩ := zcells HR.out; exact bodyPost_ret (v := .tuple #[.agg #[.int .i64 3, .int .i64 at_, .int .i64 ins, .int .i64 0, .int .i64 at_, .int .i64 0, .int .i64 p, .bool f], .bool true]) (by simp only [results, Try.results29]; simp [go_sem, k0, k1, k2, k3, k4, k5, k6, k7]) rfl ⟨rfl, HB.out⟩)
set_option maxRecDepth 100000 in
set_option maxHeartbeats 8000000 in
theorem specT3a (la ins p at_ : Int) (f : Bool) (w : World)  : Calls Try.prog 29 #[.agg #[.int .i64 3, .int .i64 la, .int .i64 ins, .int .i64 0, .int .i64 la, .int .i64 0, .int .i64 p, .bool f], .agg #[.int .i64 4, .int .i64 at_]] w (TpPost ⟨4, at_, ins, 0, la, at_, p, f⟩ true w) := by
  go_enter Try.func29, Try.ntmps29
  go_wp2_with fail
  all_goals
    exact bodyPost_ret (v := .tuple #[.agg #[.int .i64 4, .int .i64 at_, .int .i64 ins, .int .i64 0, .int .i64 la, .int .i64 at_, .int .i64 p, .bool f], .bool true]) (by simp [results, Try.results29, go_sem]) rfl ⟨rfl, (by repeat (first | exact Below.refl _ _ | assumption | refine Below.setCell ?_ (by first | omega | (simp <;> omega)) _ | refine Below.alloc ?_ (by first | omega | (simp <;> omega)) _ | refine Below.drew ?_))⟩
set_option maxRecDepth 100000 in
set_option maxHeartbeats 8000000 in
theorem specT4a (la ins st sp pe at_ : Int) (w : World) (h0 : 0 ≤ pe) (h1 : pe < 2000) : Calls Try.prog 29 #[.agg #[.int .i64 4, .int .i64 la, .int .i64 ins, .int .i64 0, .int .i64 st, .int .i64 sp, .int .i64 pe, .bool false], .agg #[.int .i64 5, .int .i64 at_]] w (TpPost ⟨4, at_, ins, 0, st, sp, pe + 200, false⟩ true w) := by
  have h1a : decide (pe < 2000) = true := decide_eq_true h1
  go_enter Try.func29, Try.ntmps29
  go_wp2_with fail
  all_goals
    exact bodyPost_ret (v := .tuple #[.agg #[.int .i64 4, .int .i64 at_, .int .i64 ins, .int .i64 0, .int .i64 st, .int .i64 sp, .int .i64 (pe + 200), .bool false], .bool true]) (by simp [results, Try.results29, go_sem]) rfl ⟨rfl, (by repeat (first | exact Below.refl _ _ | assumption | refine Below.setCell ?_ (by first | omega | (simp <;> omega)) _ | refine Below.alloc ?_ (by first | omega | (simp <;> omega)) _ | refine Below.drew ?_))⟩
set_option maxRecDepth 100000 in
set_option maxHeartbeats 8000000 in
theorem specT4b (la ins st sp pe at_ : Int) (fl : Bool) (w : World)  : Calls Try.prog 29 #[.agg #[.int .i64 4, .int .i64 la, .int .i64 ins, .int .i64 0, .int .i64 st, .int .i64 sp, .int .i64 pe, .bool fl], .agg #[.int .i64 7, .int .i64 at_]] w (TpPost ⟨0, at_, 0, 0, 0, 0, 0, false⟩ true w) := by
  go_enter Try.func29, Try.ntmps29
  go_wp2_with fail
  all_goals
    exact bodyPost_ret (v := .tuple #[.agg #[.int .i64 0, .int .i64 at_, .int .i64 0, .int .i64 0, .int .i64 0, .int .i64 0, .int .i64 0, .bool false], .bool true]) (by simp [results, Try.results29, go_sem]) rfl ⟨rfl, (by repeat (first | exact Below.refl _ _ | assumption | refine Below.setCell ?_ (by first | omega | (simp <;> omega)) _ | refine Below.alloc ?_ (by first | omega | (simp <;> omega)) _ | refine Below.drew ?_))⟩
set_option maxRecDepth 100000 in
set_option maxHeartbeats 8000000 in
theorem specT4d (la ins st sp pe at_ : Int) (w : World) (h0 : pe < 2000)  : Calls Try.prog 29 #[.agg #[.int .i64 4, .int .i64 la, .int .i64 ins, .int .i64 0, .int .i64 st, .int .i64 sp, .int .i64 pe, .bool true], .agg #[.int .i64 5, .int .i64 at_]] w (TpPost ⟨4, la, ins, 0, st, sp, pe, true⟩ false w) := by
  have h1a : decide (pe < 2000) = true := decide_eq_true h0
  go_enter Try.func29, Try.ntmps29
  go_wp2_with fail
  all_goals
    exact bodyPost_ret (v := .tuple #[.agg #[.int .i64 4, .int .i64 la, .int .i64 ins, .int .i64 0, .int .i64 st, .int .i64 sp, .int .i64 pe, .bool true], .bool false]) (by simp [results, Try.results29, go_sem]) rfl ⟨rfl, (by repeat (first | exact Below.refl _ _ | assumption | refine Below.setCell ?_ (by first | omega | (simp <;> omega)) _ | refine Below.alloc ?_ (by first | omega | (simp <;> omega)) _ | refine Below.drew ?_))⟩
set_option maxRecDepth 100000 in
set_option maxHeartbeats 8000000 in
theorem specT4e (la ins st sp pe at_ : Int) (fl : Bool) (w : World) (h0 : ¬ pe < 2000) : Calls Try.prog 29 #[.agg #[.int .i64 4, .int .i64 la, .int .i64 ins, .int .i64 0, .int .i64 st, .int .i64 sp, .int .i64 pe, .bool fl], .agg #[.int .i64 5, .int .i64 at_]] w (TpPost ⟨4, la, ins, 0, st, sp, pe, fl⟩ false w) := by
  have h1a : decide (pe < 2000) = false := decide_eq_false h0
  cases fl
  all_goals
    go_enter Try.func29, Try.ntmps29
    go_wp2_with fail
    all_goals
      exact bodyPost_ret (v := .tuple #[.agg #[.int .i64 4, .int .i64 la, .int .i64 ins, .int .i64 0, .int .i64 st, .int .i64 sp, .int .i64 pe, .bool _], .bool false]) (by simp [results, Try.results29, go_sem]) rfl ⟨rfl, (by repeat (first | exact Below.refl _ _ | assumption | refine Below.setCell ?_ (by first | omega | (simp <;> omega)) _ | refine Below.alloc ?_ (by first | omega | (simp <;> omega)) _ | refine Below.drew ?_))⟩
set_option maxRecDepth 100000 in
set_option maxHeartbeats 8000000 in
theorem specT0n (la at_ k : Int) (w : World) (q1 : (k == 1) = false) : Calls Try.prog 29 #[.agg #[.int .i64 0, .int .i64 la, .int .i64 0, .int .i64 0, .int .i64 0, .int .i64 0, .int .i64 0, .bool false], .agg #[.int .i64 k, .int .i64 at_]] w (TpPost ⟨0, la, 0, 0, 0, 0, 0, false⟩ false w) := by
  go_enter Try.func29, Try.ntmps29
  go_wp2_with fail
  all_goals
    exact bodyPost_ret (v := .tuple #[.agg #[.int .i64 0, .int .i64 la, .int .i64 0, .int .i64 0, .int .i64 0, .int .i64 0, .int .i64 0, .bool false], .bool false]) (by simp [results, Try.results29, go_sem]) rfl ⟨rfl, (by repeat (first | exact Below.refl _ _ | assumption | refine Below.setCell ?_ (by first | omega | (simp <;> omega)) _ | refine Below.alloc ?_ (by first | omega | (simp <;> omega)) _ | refine Below.drew ?_))⟩
set_option maxRecDepth 100000 in
set_option maxHeartbeats 8000000 in
theorem specT1n (la ins at_ k : Int) (w : World) (q2 : (k == 2) = false) (q6 : (k == 6) = false) : Calls Try.prog 29 #[.agg #[.int .i64 1, .int .i64 la, .int .i64 ins, .int .i64 0, .int .i64 0, .int .i64 0, .int .i64 0, .bool false], .agg #[.int .i64 k, .int .i64 at_]] w (TpPost ⟨1, la, ins, 0, 0, 0, 0, false⟩ false w) := by
  go_enter Try.func29, Try.ntmps29
  go_wp2_with fail
  all_goals
    exact bodyPost_ret (v := .tuple #[.agg #[.int .i64 1, .int .i64 la, .int .i64 ins, .int .i64 0, .int .i64 0, .int .i64 0, .int .i64 0, .bool false], .bool false]) (by simp [results, Try.results29, go_sem]) rfl ⟨rfl, (by repeat (first | exact Below.refl _ _ | assumption | refine Below.setCell ?_ (by first | omega | (simp <;> omega)) _ | refine Below.alloc ?_ (by first | omega | (simp <;> omega)) _ | refine Below.drew ?_))⟩
set_option maxRecDepth 100000 in
set_option maxHeartbeats 8000000 in
theorem specT2n (la ins at_ k : Int) (w : World) (q3 : (k == 3) = false) (q6 : (k == 6) = false) : Calls Try.prog 29 #[.agg #[.int .i64 2, .int .i64 la, .int .i64 ins, .int .i64 la, .int .i64 0, .int .i64 0, .int .i64 0, .bool false], .agg #[.int .i64 k, .int .i64 at_]] w (TpPost ⟨2, la, ins, la, 0, 0, 0, false⟩ false w) := by
  go_enter Try.func29, Try.ntmps29
  go_wp2_with fail
  all_goals
    exact bodyPost_ret (v := .tuple #[.agg #[.int .i64 2, .int .i64 la, .int .i64 ins, .int .i64 la, .int .i64 0, .int .i64 0, .int .i64 0, .bool false], .bool false]) (by simp [results, Try.results29, go_sem]) rfl ⟨rfl, (by repeat (first | exact Below.refl _ _ | assumption | refine Below.setCell ?_ (by first | omega | (simp <;> omega)) _ | refine Below.alloc ?_ (by first | omega | (simp <;> omega)) _ | refine Below.drew ?_))⟩
set_option maxRecDepth 100000 in
set_option maxHeartbeats 8000000 in
theorem specT3n (la ins p at_ k : Int) (f : Bool) (w : World) (q4 : (k == 4) = false) (q6 : (k == 6) = false) : Calls Try.prog 29 #[.agg #[.int .i64 3, .int .i64 la, .int .i64 ins, .int .i64 0, .int .i64 la, .int .i64 0, .int .i64 p, .bool f], .agg #[.int .i64 k, .int .i64 at_]] w (TpPost ⟨3, la, ins, 0, la, 0, p, f⟩ false w) := by
  go_enter Try.func29, Try.ntmps29
  go_wp2_with fail
  all_goals
    exact bodyPost_ret (v := .tuple #[.agg #[.int .i64 3, .int .i64 la, .int .i64 ins, .int .i64 0, .int .i64 la, .int .i64 0, .int .i64 p, .bool f], .bool false]) (by simp [results, Try.results29, go_sem]) rfl ⟨rfl, (by repeat (first | exact Below.refl _ _ | assumption | refine Below.setCell ?_ (by first | omega | (simp <;> omega)) _ | refine Below.alloc ?_ (by first | omega | (simp <;> omega)) _ | refine Below.drew ?_))⟩
set_option maxRecDepth 100000 in
set_option maxHeartbeats 8000000 in
theorem specT4n (la ins st sp pe at_ k : Int) (fl : Bool) (w : World) (q5 : (k == 5) = false) (q7 : (k == 7) = false) : Calls Try.prog 29 #[.agg #[.int .i64 4, .int .i64 la, .int .i64 ins, .int .i64 0, .int .i64 st, .int .i64 sp, .int .i64 pe, .bool fl], .agg #[.int .i64 k, .int .i64 at_]] w (TpPost ⟨4, la, ins, 0, st, sp, pe, fl⟩ false w) := by
  go_enter Try.func29, Try.ntmps29
  go_wp2_with fail
  all_goals
    exact bodyPost_ret (v := .tuple #[.agg #[.int .i64 4, .int .i64 la, .int .i64 ins, .int .i64 0, .int .i64 st, .int .i64 sp, .int .i64 pe, .bool fl], .bool false]) (by simp [results, Try.results29, go_sem]) rfl ⟨rfl, (by repeat (first | exact Below.refl _ _ | assumption | refine Below.setCell ?_ (by first | omega | (simp <;> omega)) _ | refine Below.alloc ?_ (by first | omega | (simp <;> omega)) _ | refine Below.drew ?_))⟩
end Go.Proofs.Ytmfmkalgalmbcaa
