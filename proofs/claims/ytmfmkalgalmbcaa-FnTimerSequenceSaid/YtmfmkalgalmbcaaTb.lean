/- What an event does to a valid timer, at both packages. Conditions: as each contract says. -/
import Derived.Test.YtmfmkalgalmbcaaTa
import Derived.Deep.RegionWith
import Derived.Deep.CutRange
namespace Go.Proofs.Ytmfmkalgalmbcaa
open Go.RowKit

set_option maxRecDepth 100000 in
set_option maxHeartbeats 8000000 in
theorem implT0a (la at_ : Int) (w : World)  : Calls Try.prog 34 #[.agg #[.int .i64 0, .int .i64 la, .int .i64 0, .int .i64 0, .int .i64 0, .int .i64 0, .int .i64 0, .bool false], .agg #[.int .i64 1, .int .i64 at_]] w (TpPost ⟨1, at_, at_, 0, 0, 0, 0, false⟩ true w) := by
  go_enter Try.func34, Try.ntmps34
  go_wp2_with fail
  go_region_with (fail)
  all_goals go_wp2_with fail
  all_goals
    exact bodyPost_ret (v := .tuple #[.agg #[.int .i64 1, .int .i64 at_, .int .i64 at_, .int .i64 0, .int .i64 0, .int .i64 0, .int .i64 0, .bool false], .bool true]) (by simp [results, Try.results34, go_sem]) rfl ⟨rfl, (by repeat (first | exact Below.refl _ _ | assumption | refine Below.setCell ?_ (by first | omega | (simp <;> omega)) _ | refine Below.alloc ?_ (by first | omega | (simp <;> omega)) _ | refine Below.drew ?_))⟩
set_option maxRecDepth 100000 in
set_option maxHeartbeats 8000000 in
theorem implT1a (la ins at_ : Int) (w : World)  : Calls Try.prog 34 #[.agg #[.int .i64 1, .int .i64 la, .int .i64 ins, .int .i64 0, .int .i64 0, .int .i64 0, .int .i64 0, .bool false], .agg #[.int .i64 2, .int .i64 at_]] w (TpPost ⟨2, at_, ins, at_, 0, 0, 0, false⟩ true w) := by
  go_enter Try.func34, Try.ntmps34
  go_wp2_with fail
  go_region_with (fail)
  all_goals go_wp2_with fail
  all_goals
    exact bodyPost_ret (v := .tuple #[.agg #[.int .i64 2, .int .i64 at_, .int .i64 ins, .int .i64 at_, .int .i64 0, .int .i64 0, .int .i64 0, .bool false], .bool true]) (by simp [results, Try.results34, go_sem]) rfl ⟨rfl, (by repeat (first | exact Below.refl _ _ | assumption | refine Below.setCell ?_ (by first | omega | (simp <;> omega)) _ | refine Below.alloc ?_ (by first | omega | (simp <;> omega)) _ | refine Below.drew ?_))⟩
set_option maxRecDepth 100000 in
set_option maxHeartbeats 8000000 in
theorem implT1b (la ins at_ : Int) (w : World)  : Calls Try.prog 34 #[.agg #[.int .i64 1, .int .i64 la, .int .i64 ins, .int .i64 0, .int .i64 0, .int .i64 0, .int .i64 0, .bool false], .agg #[.int .i64 6, .int .i64 at_]] w (TpPost ⟨4, at_, ins, 0, 0, 0, 0, true⟩ true w) := by
  go_enter Try.func34, Try.ntmps34
  go_wp2_with (first | (go_at_call 43; refine (implAb1 la ins at_ _).mono ?_; rintro e w1 ⟨rfl, hb1⟩; have hB1 : Below w.heap.size w w1 := belowStep hb1 (by exact (by repeat (first | exact Below.refl _ _ | assumption | refine Below.setCell ?_ (by first | omega | (simp <;> omega)) _ | refine Below.alloc ?_ (by first | omega | (simp <;> omega)) _ | refine Below.drew ?_))); have rH := rowB hb1 (by exact alloc4_2 w _ _ _ _); have rT := rowB hb1 (by exact alloc4_3 w _ _ _ _); clear hb1; obtain ⟨⟨j0, j1, j2, j3, j4, j5, j6, j7⟩, f0, f1, f2, f3, f4, f5, f6, f7⟩ := zcells rH; have HR := Lib.hid (set8_row rH ⟨4, at_, ins, 0, 0, 0, 0, true⟩); have HB := Lib.hid (set8_below hB1 (H := w.heap.size + 1 + 1) (by omega) ⟨4, at_, ins, 0, 0, 0, 0, true⟩); unfold Set8 at HR HB; clear rH rT hB1))
  all_goals
    (obtain ⟨⟨k0, k1, k2, k3, k4, k5, k6, k7⟩, -⟩ := zcells HR.out; exact bodyPost_ret (v := .tuple #[.agg #[.int .i64 4, .int .i64 at_, .int .i64 ins, .int .i64 0, .int .i64 0, .int .i64 0, .int .i64 0, .bool true], .bool true]) (by simp only [results, Try.results34]; simp [go_sem, k0, k1, k2, k3, k4, k5, k6, k7]) rfl ⟨rfl, HB.out⟩)
set_option maxRecDepth 100000 in
set_option maxHeartbeats 8000000 in
theorem implT2b (la ins at_ : Int) (w : World)  : Calls Try.prog 34 #[.agg #[.int .i64 2, .int .i64 la, .int .i64 ins, .int .i64 la, .int .i64 0, .int .i64 0, .int .i64 0, .bool false], .agg #[.int .i64 6, .int .i64 at_]] w (TpPost ⟨4, at_, ins, 0, 0, 0, 0, true⟩ true w) := by
  go_enter Try.func34, Try.ntmps34
  go_wp2_with (first | (go_at_call 43; refine (implAb2 la ins at_ _).mono ?_; rintro e w1 ⟨rfl, hb1⟩; have hB1 : Below w.heap.size w w1 := belowStep hb1 (by exact (by repeat (first | exact Below.refl _ _ | assumption | refine Below.setCell ?_ (by first | omega | (simp <;> omega)) _ | refine Below.alloc ?_ (by first | omega | (simp <;> omega)) _ | refine Below.drew ?_))); have rH := rowB hb1 (by exact alloc4_2 w _ _ _ _); have rT := rowB hb1 (by exact alloc4_3 w _ _ _ _); clear hb1; obtain ⟨⟨j0, j1, j2, j3, j4, j5, j6, j7⟩, f0, f1, f2, f3, f4, f5, f6, f7⟩ := zcells rH; have HR := Lib.hid (set8_row rH ⟨4, at_, ins, 0, 0, 0, 0, true⟩); have HB := Lib.hid (set8_below hB1 (H := w.heap.size + 1 + 1) (by omega) ⟨4, at_, ins, 0, 0, 0, 0, true⟩); unfold Set8 at HR HB; clear rH rT hB1))
  all_goals
    (obtain ⟨⟨k0, k1, k2, k3, k4, k5, k6, k7⟩, -⟩ := zcells HR.out; exact bodyPost_ret (v := .tuple #[.agg #[.int .i64 4, .int .i64 at_, .int .i64 ins, .int .i64 0, .int .i64 0, .int .i64 0, .int .i64 0, .bool true], .bool true]) (by simp only [results, Try.results34]; simp [go_sem, k0, k1, k2, k3, k4, k5, k6, k7]) rfl ⟨rfl, HB.out⟩)
set_option maxRecDepth 100000 in
set_option maxHeartbeats 8000000 in
theorem implT3b (la ins p at_ : Int) (f : Bool) (w : World)  : Calls Try.prog 34 #[.agg #[.int .i64 3, .int .i64 la, .int .i64 ins, .int .i64 0, .int .i64 la, .int .i64 0, .int .i64 p, .bool f], .agg #[.int .i64 6, .int .i64 at_]] w (TpPost ⟨4, at_, ins, 0, la, at_, 0, true⟩ true w) := by
  go_enter Try.func34, Try.ntmps34
  go_wp2_with (first | (go_at_call 43; refine (implAb3 la ins p at_ f _).mono ?_; rintro e w1 ⟨rfl, hb1⟩; have hB1 : Below w.heap.size w w1 := belowStep hb1 (by exact (by repeat (first | exact Below.refl _ _ | assumption | refine Below.setCell ?_ (by first | omega | (simp <;> omega)) _ | refine Below.alloc ?_ (by first | omega | (simp <;> omega)) _ | refine Below.drew ?_))); have rH := rowB hb1 (by exact alloc4_2 w _ _ _ _); have rT := rowB hb1 (by exact alloc4_3 w _ _ _ _); clear hb1; obtain ⟨⟨j0, j1, j2, j3, j4, j5, j6, j7⟩, f0, f1, f2, f3, f4, f5, f6, f7⟩ := zcells rH; have HR := Lib.hid (set8_row rH ⟨4, at_, ins, 0, la, at_, 0, true⟩); have HB := Lib.hid (set8_below hB1 (H := w.heap.size + 1 + 1) (by omega) ⟨4, at_, ins, 0, la, at_, 0, true⟩); unfold Set8 at HR HB; clear rH rT hB1))
  all_goals
    (obtain ⟨⟨k0, k1, k2, k3, k4, k5, k6, k7⟩, -⟩ := zcells HR.out; exact bodyPost_ret (v := .tuple #[.agg #[.int .i64 4, .int .i64 at_, .int .i64 ins, .int .i64 0, .int .i64 la, .int .i64 at_, .int .i64 0, .bool true], .bool true]) (by simp only [results, Try.results34]; simp [go_sem, k0, k1, k2, k3, k4, k5, k6, k7]) rfl ⟨rfl, HB.out⟩)
set_option maxRecDepth 100000 in
set_option maxHeartbeats 8000000 in
theorem implT2a (la ins at_ : Int) (w : World) (_h1 : la ≤ at_) (h3 : at_ - la < 55) : Calls Try.prog 34 #[.agg #[.int .i64 2, .int .i64 la, .int .i64 ins, .int .i64 la, .int .i64 0, .int .i64 0, .int .i64 0, .bool false], .agg #[.int .i64 3, .int .i64 at_]] w (TpPost ⟨1, at_, ins, 0, 0, 0, 0, false⟩ true w) := by
  have h3a : decide (at_ - la < 55) = true := decide_eq_true h3
  have hc := fun w => implUp1 la ins at_ w _h1 h3
  have HC := Lib.hid hc
  clear hc
  go_enter Try.func34, Try.ntmps34
  go_upto_region 18 with (first | (go_at_call 42; refine (HC.out _).mono ?_; rintro e w1 ⟨rfl, hb1⟩; have hB1 : Below w.heap.size w w1 := belowStep hb1 (by exact (by repeat (first | exact Below.refl _ _ | assumption | refine Below.setCell ?_ (by first | omega | (simp <;> omega)) _ | refine Below.alloc ?_ (by first | omega | (simp <;> omega)) _ | refine Below.drew ?_))); have rH := rowB hb1 (by exact alloc4_2 w _ _ _ _); have rT := rowB hb1 (by exact alloc4_3 w _ _ _ _); clear hb1; obtain ⟨⟨j0, j1, j2, j3, j4, j5, j6, j7⟩, f0, f1, f2, f3, f4, f5, f6, f7⟩ := zcells rT; have HR := Lib.hid (set8_row rT ⟨1, at_, ins, 0, 0, 0, 0, false⟩); have HH := Lib.hid (set8_other rH (show w.heap.size + 1 + 1 ≠ w.heap.size + 1 + 1 + 1 by omega) ⟨1, at_, ins, 0, 0, 0, 0, false⟩); have HB := Lib.hid (set8_below hB1 (H := w.heap.size + 1 + 1 + 1) (by omega) ⟨1, at_, ins, 0, 0, 0, 0, false⟩); unfold Set8 at HR HH HB; clear rH rT hB1))
  obtain ⟨W, hW⟩ : ∃ W, Set8 w1 (w.heap.size + 1 + 1 + 1) ⟨1, at_, ins, 0, 0, 0, 0, false⟩ = W := ⟨_, rfl⟩
  unfold Set8 at hW
  rw [hW] at HR HH HB ⊢
  clear hW j0 j1 j2 j3 j4 j5 j6 j7 f0 f1 f2 f3 f4 f5 f6 f7
  obtain ⟨⟨i0, i1, i2, i3, i4, i5, i6, i7⟩, -⟩ := zcells HR.out
  obtain ⟨⟨j0, j1, j2, j3, j4, j5, j6, j7⟩, f0, f1, f2, f3, f4, f5, f6, f7⟩ := zcells HH.out
  have HR2 := Lib.hid (set8_row HH.out ⟨1, at_, ins, 0, 0, 0, 0, false⟩)
  have HB2 := Lib.hid (set8_below HB.out (H := w.heap.size + 1 + 1) (by omega) ⟨1, at_, ins, 0, 0, 0, 0, false⟩)
  unfold Set8 at HR2 HB2
  clear HR HH HB
  go_wp2_with fail
  obtain ⟨⟨k0, k1, k2, k3, k4, k5, k6, k7⟩, -⟩ := zcells HR2.out
  all_goals
    exact bodyPost_ret (v := .tuple #[.agg #[.int .i64 1, .int .i64 at_, .int .i64 ins, .int .i64 0, .int .i64 0, .int .i64 0, .int .i64 0, .bool false], .bool true]) (by simp only [results, Try.results34]; simp [go_sem, k0, k1, k2, k3, k4, k5, k6, k7]) rfl ⟨rfl, HB2.out⟩
set_option maxRecDepth 100000 in
set_option maxHeartbeats 8000000 in
theorem implT2c (la ins p at_ : Int) (f : Bool) (w : World) (hs : startedT at_ ins = ⟨3, at_, ins, 0, at_, 0, p, f⟩) (h00 : 0 ≤ ins) (h01 : ins ≤ la) (_h1 : la ≤ at_) (h2 : at_ ≤ 360000) (h3 : ¬ at_ - la < 55) : Calls Try.prog 34 #[.agg #[.int .i64 2, .int .i64 la, .int .i64 ins, .int .i64 la, .int .i64 0, .int .i64 0, .int .i64 0, .bool false], .agg #[.int .i64 3, .int .i64 at_]] w (TpPost ⟨3, at_, ins, 0, at_, 0, p, f⟩ true w) := by
  have h3a : decide (at_ - la < 55) = false := decide_eq_false h3
  have hc := fun w => implUp2 la ins at_ p f w hs h00 h01 _h1 h2 h3
  have HC := Lib.hid hc
  clear hc hs
  go_enter Try.func34, Try.ntmps34
  go_upto_region 18 with (first | (go_at_call 42; refine (HC.out _).mono ?_; rintro e w1 ⟨rfl, hb1⟩; have hB1 : Below w.heap.size w w1 := belowStep hb1 (by exact (by repeat (first | exact Below.refl _ _ | assumption | refine Below.setCell ?_ (by first | omega | (simp <;> omega)) _ | refine Below.alloc ?_ (by first | omega | (simp <;> omega)) _ | refine Below.drew ?_))); have rH := rowB hb1 (by exact alloc4_2 w _ _ _ _); have rT := rowB hb1 (by exact alloc4_3 w _ _ _ _); clear hb1; obtain ⟨⟨j0, j1, j2, j3, j4, j5, j6, j7⟩, f0, f1, f2, f3, f4, f5, f6, f7⟩ := zcells rT; have HR := Lib.hid (set8_row rT ⟨3, at_, ins, 0, at_, 0, p, f⟩); have HH := Lib.hid (set8_other rH (show w.heap.size + 1 + 1 ≠ w.heap.size + 1 + 1 + 1 by omega) ⟨3, at_, ins, 0, at_, 0, p, f⟩); have HB := Lib.hid (set8_below hB1 (H := w.heap.size + 1 + 1 + 1) (by omega) ⟨3, at_, ins, 0, at_, 0, p, f⟩); unfold Set8 at HR HH HB; clear rH rT hB1))
  obtain ⟨W, hW⟩ : ∃ W, Set8 w1 (w.heap.size + 1 + 1 + 1) ⟨3, at_, ins, 0, at_, 0, p, f⟩ = W := ⟨_, rfl⟩
  unfold Set8 at hW
  rw [hW] at HR HH HB ⊢
  clear hW j0 j1 j2 j3 j4 j5 j6 j7 f0 f1 f2 f3 f4 f5 f6 f7
  obtain ⟨⟨i0, i1, i2, i3, i4, i5, i6, i7⟩, -⟩ := zcells HR.out
  obtain ⟨⟨j0, j1, j2, j3, j4, j5, j6, j7⟩, f0, f1, f2, f3, f4, f5, f6, f7⟩ := zcells HH.out
  have HR2 := Lib.hid (set8_row HH.out ⟨3, at_, ins, 0, at_, 0, p, f⟩)
  have HB2 := Lib.hid (set8_below HB.out (H := w.heap.size + 1 + 1) (by omega) ⟨3, at_, ins, 0, at_, 0, p, f⟩)
  unfold Set8 at HR2 HB2
  clear HR HH HB
  go_wp2_with fail
  obtain ⟨⟨k0, k1, k2, k3, k4, k5, k6, k7⟩, -⟩ := zcells HR2.out
  all_goals
    exact bodyPost_ret (v := .tuple #[.agg #[.int .i64 3, .int .i64 at_, .int .i64 ins, .int .i64 0, .int .i64 at_, .int .i64 0, .int .i64 p, .bool f], .bool true]) (by simp only [results, Try.results34]; simp [go_sem, k0, k1, k2, k3, k4, k5, k6, k7]) rfl ⟨rfl, HB2.out⟩
set_option maxRecDepth 100000 in
set_option maxHeartbeats 8000000 in
theorem implT3a (la ins p at_ : Int) (f : Bool) (w : World)  : Calls Try.prog 34 #[.agg #[.int .i64 3, .int .i64 la, .int .i64 ins, .int .i64 0, .int .i64 la, .int .i64 0, .int .i64 p, .bool f], .agg #[.int .i64 4, .int .i64 at_]] w (TpPost ⟨4, at_, ins, 0, la, at_, p, f⟩ true w) := by
  go_enter Try.func34, Try.ntmps34
  go_wp2_with fail
  go_region_with (fail)
  all_goals go_wp2_with fail
  all_goals
    exact bodyPost_ret (v := .tuple #[.agg #[.int .i64 4, .int .i64 at_, .int .i64 ins, .int .i64 0, .int .i64 la, .int .i64 at_, .int .i64 p, .bool f], .bool true]) (by simp [results, Try.results34, go_sem]) rfl ⟨rfl, (by repeat (first | exact Below.refl _ _ | assumption | refine Below.setCell ?_ (by first | omega | (simp <;> omega)) _ | refine Below.alloc ?_ (by first | omega | (simp <;> omega)) _ | refine Below.drew ?_))⟩
set_option maxRecDepth 100000 in
set_option maxHeartbeats 8000000 in
theorem implT4a (la ins st sp pe at_ : Int) (w : World) (h0 : 0 ≤ pe) (h1 : pe < 2000) : Calls Try.prog 34 #[.agg #[.int .i64 4, .int .i64 la, .int .i64 ins, .int .i64 0, .int .i64 st, .int .i64 sp, .int .i64 pe, .bool false], .agg #[.int .i64 5, .int .i64 at_]] w (TpPost ⟨4, at_, ins, 0, st, sp, pe + 200, false⟩ true w) := by
  have h1a : decide (pe < 2000) = true := decide_eq_true h1
  go_enter Try.func34, Try.ntmps34
  go_wp2_with fail
  all_goals
    exact bodyPost_ret (v := .tuple #[.agg #[.int .i64 4, .int .i64 at_, .int .i64 ins, .int .i64 0, .int .i64 st, .int .i64 sp, .int .i64 (pe + 200), .bool false], .bool true]) (by simp [results, Try.results34, go_sem]) rfl ⟨rfl, (by repeat (first | exact Below.refl _ _ | assumption | refine Below.setCell ?_ (by first | omega | (simp <;> omega)) _ | refine Below.alloc ?_ (by first | omega | (simp <;> omega)) _ | refine Below.drew ?_))⟩
set_option maxRecDepth 100000 in
set_option maxHeartbeats 8000000 in
theorem implT4b (la ins st sp pe at_ : Int) (fl : Bool) (w : World)  : Calls Try.prog 34 #[.agg #[.int .i64 4, .int .i64 la, .int .i64 ins, .int .i64 0, .int .i64 st, .int .i64 sp, .int .i64 pe, .bool fl], .agg #[.int .i64 7, .int .i64 at_]] w (TpPost ⟨0, at_, 0, 0, 0, 0, 0, false⟩ true w) := by
  go_enter Try.func34, Try.ntmps34
  go_wp2_with fail
  all_goals
    exact bodyPost_ret (v := .tuple #[.agg #[.int .i64 0, .int .i64 at_, .int .i64 0, .int .i64 0, .int .i64 0, .int .i64 0, .int .i64 0, .bool false], .bool true]) (by simp [results, Try.results34, go_sem]) rfl ⟨rfl, (by repeat (first | exact Below.refl _ _ | assumption | refine Below.setCell ?_ (by first | omega | (simp <;> omega)) _ | refine Below.alloc ?_ (by first | omega | (simp <;> omega)) _ | refine Below.drew ?_))⟩
set_option maxRecDepth 100000 in
set_option maxHeartbeats 8000000 in
theorem implT4d (la ins st sp pe at_ : Int) (w : World) (h0 : pe < 2000)  : Calls Try.prog 34 #[.agg #[.int .i64 4, .int .i64 la, .int .i64 ins, .int .i64 0, .int .i64 st, .int .i64 sp, .int .i64 pe, .bool true], .agg #[.int .i64 5, .int .i64 at_]] w (TpPost ⟨4, la, ins, 0, st, sp, pe, true⟩ false w) := by
  have h1a : decide (pe < 2000) = true := decide_eq_true h0
  go_enter Try.func34, Try.ntmps34
  go_wp2_with fail
  all_goals
    exact bodyPost_ret (v := .tuple #[.agg #[.int .i64 4, .int .i64 la, .int .i64 ins, .int .i64 0, .int .i64 st, .int .i64 sp, .int .i64 pe, .bool true], .bool false]) (by simp [results, Try.results34, go_sem]) rfl ⟨rfl, (by repeat (first | exact Below.refl _ _ | assumption | refine Below.setCell ?_ (by first | omega | (simp <;> omega)) _ | refine Below.alloc ?_ (by first | omega | (simp <;> omega)) _ | refine Below.drew ?_))⟩
set_option maxRecDepth 100000 in
set_option maxHeartbeats 8000000 in
theorem implT4e (la ins st sp pe at_ : Int) (fl : Bool) (w : World) (h0 : ¬ pe < 2000) : Calls Try.prog 34 #[.agg #[.int .i64 4, .int .i64 la, .int .i64 ins, .int .i64 0, .int .i64 st, .int .i64 sp, .int .i64 pe, .bool fl], .agg #[.int .i64 5, .int .i64 at_]] w (TpPost ⟨4, la, ins, 0, st, sp, pe, fl⟩ false w) := by
  have h1a : decide (pe < 2000) = false := decide_eq_false h0
  cases fl
  all_goals
    go_enter Try.func34, Try.ntmps34
    go_wp2_with fail
    all_goals
      exact bodyPost_ret (v := .tuple #[.agg #[.int .i64 4, .int .i64 la, .int .i64 ins, .int .i64 0, .int .i64 st, .int .i64 sp, .int .i64 pe, .bool _], .bool false]) (by simp [results, Try.results34, go_sem]) rfl ⟨rfl, (by repeat (first | exact Below.refl _ _ | assumption | refine Below.setCell ?_ (by first | omega | (simp <;> omega)) _ | refine Below.alloc ?_ (by first | omega | (simp <;> omega)) _ | refine Below.drew ?_))⟩
set_option maxRecDepth 100000 in
set_option maxHeartbeats 8000000 in
theorem implT0n (la at_ k : Int) (w : World) (q1 : (k == 1) = false) : Calls Try.prog 34 #[.agg #[.int .i64 0, .int .i64 la, .int .i64 0, .int .i64 0, .int .i64 0, .int .i64 0, .int .i64 0, .bool false], .agg #[.int .i64 k, .int .i64 at_]] w (TpPost ⟨0, la, 0, 0, 0, 0, 0, false⟩ false w) := by
  go_enter Try.func34, Try.ntmps34
  go_wp2_with (first | (go_at_call 43; refine (implAb0 la at_ _).mono ?_; rintro e w1 ⟨rfl, hb1⟩; have hB1 : Below w.heap.size w w1 := belowStep hb1 (by exact (by repeat (first | exact Below.refl _ _ | assumption | refine Below.setCell ?_ (by first | omega | (simp <;> omega)) _ | refine Below.alloc ?_ (by first | omega | (simp <;> omega)) _ | refine Below.drew ?_))); have rH := rowB hb1 (by exact alloc4_2 w _ _ _ _); have rT := rowB hb1 (by exact alloc4_3 w _ _ _ _); clear hb1; obtain ⟨⟨j0, j1, j2, j3, j4, j5, j6, j7⟩, f0, f1, f2, f3, f4, f5, f6, f7⟩ := zcells rH; have HR := Lib.hid (set8_row rH ⟨0, la, 0, 0, 0, 0, 0, false⟩); have HB := Lib.hid (set8_below hB1 (H := w.heap.size + 1 + 1) (by omega) ⟨0, la, 0, 0, 0, 0, 0, false⟩); unfold Set8 at HR HB; clear rH rT hB1))
  all_goals
    first | (obtain ⟨⟨k0, k1, k2, k3, k4, k5, k6, k7⟩, -⟩ := zcells HR.out; exact bodyPost_ret (v := .tuple #[.agg #[.int .i64 0, .int .i64 la, .int .i64 0, .int .i64 0, .int .i64 0, .int .i64 0, .int .i64 0, .bool false], .bool false]) (by simp only [results, Try.results34]; simp [go_sem, k0, k1, k2, k3, k4, k5, k6, k7]) rfl ⟨rfl, HB.out⟩) | exact bodyPost_ret (v := .tuple #[.agg #[.int .i64 0, .int .i64 la, .int .i64 0, .int .i64 0, .int .i64 0, .int .i64 0, .int .i64 0, .bool false], .bool false]) (by simp [results, Try.results34, go_sem]) rfl ⟨rfl, (by repeat (first | exact Below.refl _ _ | assumption | refine Below.setCell ?_ (by first | omega | (simp <;> omega)) _ | refine Below.alloc ?_ (by first | omega | (simp <;> omega)) _ | refine Below.drew ?_))⟩
set_option maxRecDepth 100000 in
set_option maxHeartbeats 8000000 in
theorem implT1n (la ins at_ k : Int) (w : World) (q2 : (k == 2) = false) (q6 : (k == 6) = false) : Calls Try.prog 34 #[.agg #[.int .i64 1, .int .i64 la, .int .i64 ins, .int .i64 0, .int .i64 0, .int .i64 0, .int .i64 0, .bool false], .agg #[.int .i64 k, .int .i64 at_]] w (TpPost ⟨1, la, ins, 0, 0, 0, 0, false⟩ false w) := by
  go_enter Try.func34, Try.ntmps34
  go_wp2_with (first | (go_at_call 43; refine (implAb1 la ins at_ _).mono ?_; rintro e w1 ⟨rfl, hb1⟩; have hB1 : Below w.heap.size w w1 := belowStep hb1 (by exact (by repeat (first | exact Below.refl _ _ | assumption | refine Below.setCell ?_ (by first | omega | (simp <;> omega)) _ | refine Below.alloc ?_ (by first | omega | (simp <;> omega)) _ | refine Below.drew ?_))); have rH := rowB hb1 (by exact alloc4_2 w _ _ _ _); have rT := rowB hb1 (by exact alloc4_3 w _ _ _ _); clear hb1; obtain ⟨⟨j0, j1, j2, j3, j4, j5, j6, j7⟩, f0, f1, f2, f3, f4, f5, f6, f7⟩ := zcells rH; have HR := Lib.hid (set8_row rH ⟨1, la, ins, 0, 0, 0, 0, false⟩); have HB := Lib.hid (set8_below hB1 (H := w.heap.size + 1 + 1) (by omega) ⟨1, la, ins, 0, 0, 0, 0, false⟩); unfold Set8 at HR HB; clear rH rT hB1))
  all_goals
    first | (obtain ⟨⟨k0, k1, k2, k3, k4, k5, k6, k7⟩, -⟩ := zcells HR.out; exact bodyPost_ret (v := .tuple #[.agg #[.int .i64 1, .int .i64 la, .int .i64 ins, .int .i64 0, .int .i64 0, .int .i64 0, .int .i64 0, .bool false], .bool false]) (by simp only [results, Try.results34]; simp [go_sem, k0, k1, k2, k3, k4, k5, k6, k7]) rfl ⟨rfl, HB.out⟩) | exact bodyPost_ret (v := .tuple #[.agg #[.int .i64 1, .int .i64 la, .int .i64 ins, .int .i64 0, .int .i64 0, .int .i64 0, .int .i64 0, .bool false], .bool false]) (by simp [results, Try.results34, go_sem]) rfl ⟨rfl, (by repeat (first | exact Below.refl _ _ | assumption | refine Below.setCell ?_ (by first | omega | (simp <;> omega)) _ | refine Below.alloc ?_ (by first | omega | (simp <;> omega)) _ | refine Below.drew ?_))⟩
set_option maxRecDepth 100000 in
set_option maxHeartbeats 8000000 in
theorem implT2n (la ins at_ k : Int) (w : World) (q3 : (k == 3) = false) (q6 : (k == 6) = false) : Calls Try.prog 34 #[.agg #[.int .i64 2, .int .i64 la, .int .i64 ins, .int .i64 la, .int .i64 0, .int .i64 0, .int .i64 0, .bool false], .agg #[.int .i64 k, .int .i64 at_]] w (TpPost ⟨2, la, ins, la, 0, 0, 0, false⟩ false w) := by
  go_enter Try.func34, Try.ntmps34
  go_wp2_with (first | (go_at_call 43; refine (implAb2 la ins at_ _).mono ?_; rintro e w1 ⟨rfl, hb1⟩; have hB1 : Below w.heap.size w w1 := belowStep hb1 (by exact (by repeat (first | exact Below.refl _ _ | assumption | refine Below.setCell ?_ (by first | omega | (simp <;> omega)) _ | refine Below.alloc ?_ (by first | omega | (simp <;> omega)) _ | refine Below.drew ?_))); have rH := rowB hb1 (by exact alloc4_2 w _ _ _ _); have rT := rowB hb1 (by exact alloc4_3 w _ _ _ _); clear hb1; obtain ⟨⟨j0, j1, j2, j3, j4, j5, j6, j7⟩, f0, f1, f2, f3, f4, f5, f6, f7⟩ := zcells rH; have HR := Lib.hid (set8_row rH ⟨2, la, ins, la, 0, 0, 0, false⟩); have HB := Lib.hid (set8_below hB1 (H := w.heap.size + 1 + 1) (by omega) ⟨2, la, ins, la, 0, 0, 0, false⟩); unfold Set8 at HR HB; clear rH rT hB1))
  all_goals
    first | (obtain ⟨⟨k0, k1, k2, k3, k4, k5, k6, k7⟩, -⟩ := zcells HR.out; exact bodyPost_ret (v := .tuple #[.agg #[.int .i64 2, .int .i64 la, .int .i64 ins, .int .i64 la, .int .i64 0, .int .i64 0, .int .i64 0, .bool false], .bool false]) (by simp only [results, Try.results34]; simp [go_sem, k0, k1, k2, k3, k4, k5, k6, k7]) rfl ⟨rfl, HB.out⟩) | exact bodyPost_ret (v := .tuple #[.agg #[.int .i64 2, .int .i64 la, .int .i64 ins, .int .i64 la, .int .i64 0, .int .i64 0, .int .i64 0, .bool false], .bool false]) (by simp [results, Try.results34, go_sem]) rfl ⟨rfl, (by repeat (first | exact Below.refl _ _ | assumption | refine Below.setCell ?_ (by first | omega | (simp <;> omega)) _ | refine Below.alloc ?_ (by first | omega | (simp <;> omega)) _ | refine Below.drew ?_))⟩
set_option maxRecDepth 100000 in
set_option maxHeartbeats 8000000 in
theorem implT3n (la ins p at_ k : Int) (f : Bool) (w : World) (q4 : (k == 4) = false) (q6 : (k == 6) = false) : Calls Try.prog 34 #[.agg #[.int .i64 3, .int .i64 la, .int .i64 ins, .int .i64 0, .int .i64 la, .int .i64 0, .int .i64 p, .bool f], .agg #[.int .i64 k, .int .i64 at_]] w (TpPost ⟨3, la, ins, 0, la, 0, p, f⟩ false w) := by
  go_enter Try.func34, Try.ntmps34
  go_wp2_with (first | (go_at_call 43; refine (implAb3 la ins p at_ f _).mono ?_; rintro e w1 ⟨rfl, hb1⟩; have hB1 : Below w.heap.size w w1 := belowStep hb1 (by exact (by repeat (first | exact Below.refl _ _ | assumption | refine Below.setCell ?_ (by first | omega | (simp <;> omega)) _ | refine Below.alloc ?_ (by first | omega | (simp <;> omega)) _ | refine Below.drew ?_))); have rH := rowB hb1 (by exact alloc4_2 w _ _ _ _); have rT := rowB hb1 (by exact alloc4_3 w _ _ _ _); clear hb1; obtain ⟨⟨j0, j1, j2, j3, j4, j5, j6, j7⟩, f0, f1, f2, f3, f4, f5, f6, f7⟩ := zcells rH; have HR := Lib.hid (set8_row rH ⟨3, la, ins, 0, la, 0, p, f⟩); have HB := Lib.hid (set8_below hB1 (H := w.heap.size + 1 + 1) (by omega) ⟨3, la, ins, 0, la, 0, p, f⟩); unfold Set8 at HR HB; clear rH rT hB1))
  all_goals
    first | (obtain ⟨⟨k0, k1, k2, k3, k4, k5, k6, k7⟩, -⟩ := zcells HR.out; exact bodyPost_ret (v := .tuple #[.agg #[.int .i64 3, .int .i64 la, .int .i64 ins, .int .i64 0, .int .i64 la, .int .i64 0, .int .i64 p, .bool f], .bool false]) (by simp only [results, Try.results34]; simp [go_sem, k0, k1, k2, k3, k4, k5, k6, k7]) rfl ⟨rfl, HB.out⟩) | exact bodyPost_ret (v := .tuple #[.agg #[.int .i64 3, .int .i64 la, .int .i64 ins, .int .i64 0, .int .i64 la, .int .i64 0, .int .i64 p, .bool f], .bool false]) (by simp [results, Try.results34, go_sem]) rfl ⟨rfl, (by repeat (first | exact Below.refl _ _ | assumption | refine Below.setCell ?_ (by first | omega | (simp <;> omega)) _ | refine Below.alloc ?_ (by first | omega | (simp <;> omega)) _ | refine Below.drew ?_))⟩
set_option maxRecDepth 100000 in
set_option maxHeartbeats 8000000 in
theorem implT4n (la ins st sp pe at_ k : Int) (fl : Bool) (w : World) (q5 : (k == 5) = false) (q7 : (k == 7) = false) : Calls Try.prog 34 #[.agg #[.int .i64 4, .int .i64 la, .int .i64 ins, .int .i64 0, .int .i64 st, .int .i64 sp, .int .i64 pe, .bool fl], .agg #[.int .i64 k, .int .i64 at_]] w (TpPost ⟨4, la, ins, 0, st, sp, pe, fl⟩ false w) := by
  go_enter Try.func34, Try.ntmps34
  go_wp2_with (first | (go_at_call 43; refine (implAb4 la ins st sp pe at_ fl _).mono ?_; rintro e w1 ⟨rfl, hb1⟩; have hB1 : Below w.heap.size w w1 := belowStep hb1 (by exact (by repeat (first | exact Below.refl _ _ | assumption | refine Below.setCell ?_ (by first | omega | (simp <;> omega)) _ | refine Below.alloc ?_ (by first | omega | (simp <;> omega)) _ | refine Below.drew ?_))); have rH := rowB hb1 (by exact alloc4_2 w _ _ _ _); have rT := rowB hb1 (by exact alloc4_3 w _ _ _ _); clear hb1; obtain ⟨⟨j0, j1, j2, j3, j4, j5, j6, j7⟩, f0, f1, f2, f3, f4, f5, f6, f7⟩ := zcells rH; have HR := Lib.hid (set8_row rH ⟨4, la, ins, 0, st, sp, pe, fl⟩); have HB := Lib.hid (set8_below hB1 (H := w.heap.size + 1 + 1) (by omega) ⟨4, la, ins, 0, st, sp, pe, fl⟩); unfold Set8 at HR HB; clear rH rT hB1))
  all_goals
    first | (obtain ⟨⟨k0, k1, k2, k3, k4, k5, k6, k7⟩, -⟩ := zcells HR.out; exact bodyPost_ret (v := .tuple #[.agg #[.int .i64 4, .int .i64 la, .int .i64 ins, .int .i64 0, .int .i64 st, .int .i64 sp, .int .i64 pe, .bool fl], .bool false]) (by simp only [results, Try.results34]; simp [go_sem, k0, k1, k2, k3, k4, k5, k6, k7]) rfl ⟨rfl, HB.out⟩) | exact bodyPost_ret (v := .tuple #[.agg #[.int .i64 4, .int .i64 la, .int .i64 ins, .int .i64 0, .int .i64 st, .int .i64 sp, .int .i64 pe, .bool fl], .bool false]) (by simp [results, Try.results34, go_sem]) rfl ⟨rfl, (by repeat (first | exact Below.refl _ _ | assumption | refine Below.setCell ?_ (by first | omega | (simp <;> omega)) _ | refine Below.alloc ?_ (by first | omega | (simp <;> omega)) _ | refine Below.drew ?_))⟩
end Go.Proofs.Ytmfmkalgalmbcaa
