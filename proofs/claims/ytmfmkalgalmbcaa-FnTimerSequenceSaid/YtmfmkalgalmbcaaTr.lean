/- Events in order, at both packages. Conditions: as each contract says. -/
import Derived.Test.YtmfmkalgalmbcaaTs
import Derived.Test.YtmfmkalgalmbcaaTe
import Derived.Deep.RegionHeld3
import Derived.Deep.CutRange
namespace Go.Proofs.Ytmfmkalgalmbcaa
open Go.RowKit

def RunPost (t : Tm) (n : Int) (w : World) (e : Ending) (w' : World) : Prop := e = .returned (.tuple #[.agg #[.int .i64 t.ph, .int .i64 t.la, .int .i64 t.ins, .int .i64 t.dn, .int .i64 t.st, .int .i64 t.sp, .int .i64 t.pe, .bool t.fl], .int .i64 n]) ∧ Below w.heap.size w w'
def TRow (w : World) (H : Nat) (t : Tm) : Prop := w.heap[H]? = some (.cells #[.int .i64 t.ph, .int .i64 t.la, .int .i64 t.ins, .int .i64 t.dn, .int .i64 t.st, .int .i64 t.sp, .int .i64 t.pe, .bool t.fl] 26)
theorem TRow.below {w w' : World} {H : Nat} {t : Tm} (h : TRow w H t) (hb : Below w.heap.size w w') : TRow w' H t := rowB hb h
theorem tm_parts (t : Tm) : ∃ ph la ins dn st sp pe fl, t = ⟨ph, la, ins, dn, st, sp, pe, fl⟩ := ⟨_, _, _, _, _, _, _, _, rfl⟩
theorem run_no {t : Tm} {es : List Ev} (h : (validT t && decide (es.length ≤ 60)) = false) : runRes t es = (.zero, -1) := by rw [runRes, h]; rfl
theorem run_yes {t : Tm} {es : List Ev} (h1 : validT t = true) (h2 : es.length ≤ 60) : runRes t es = runTo t es := by rw [runRes, h1, decide_eq_true h2]; rfl
theorem run_end (t : Tm) (es : List Ev) : runTo t (es.take es.length) = runTo t es := by rw [List.take_of_length_le (Nat.le_refl _)]
set_option maxHeartbeats 8000000 in
theorem implRunNo (t : Tm) (A : Option Addr) (c : Nat) (es : List Ev) (w : World) (hl : es.length ≤ 1048576) (hn : (validT t && decide (es.length ≤ 60)) = false) : Calls Try.prog 9 #[.agg #[.int .i64 t.ph, .int .i64 t.la, .int .i64 t.ins, .int .i64 t.dn, .int .i64 t.st, .int .i64 t.sp, .int .i64 t.pe, .bool t.fl], .slice A es.length c] w (RunPost (runRes t es).1 (runRes t es).2 w) := by
  rw [run_no hn]
  have hval := implValid t
  cases hv : validT t
  · rw [hv] at hval
    have HV := Lib.hid hval
    obtain ⟨ph, la, ins, dn, st, sp, pe, fl⟩ := t
    dsimp only at *
    clear hval hv hn
    go_enter Try.func9, Try.ntmps9
    go_wp2_with fail
    refine (HV.out _).mono ?_
    rintro e w1 ⟨rfl, hb1⟩
    have hB1 : Below w.heap.size w w1 := belowStep hb1 (by exact (by repeat (first | exact Below.refl _ _ | assumption | refine Below.setCell ?_ (by first | omega | (simp <;> omega)) _ | refine Below.alloc ?_ (by first | omega | (simp <;> omega)) _ | refine Below.drew ?_)))
    obtain ⟨z0, z1, z2, z3, z4, z5, z6, z7, rH⟩ : ∃ z0 z1 z2 z3 z4 z5 z6 z7, w1.heap[w.heap.size + 1]? = some (.cells #[z0, z1, z2, z3, z4, z5, z6, z7] 26 (0, 0)) := ⟨_, _, _, _, _, _, _, _, rowB hb1 (by exact alloc2_1 w _ _)⟩
    obtain ⟨⟨j0, j1, j2, j3, j4, j5, j6, j7⟩, f0, f1, f2, f3, f4, f5, f6, f7⟩ := zcells rH
    have HR := Lib.hid (set8_row rH ⟨0, 0, 0, 0, 0, 0, 0, false⟩)
    have HB := Lib.hid (set8_below hB1 (H := w.heap.size + 1) (by omega) ⟨0, 0, 0, 0, 0, 0, 0, false⟩)
    unfold Set8 at HR HB
    clear hb1 rH hB1
    go_upto_region 2 with fail
    clear HV hl
    go_wp2_with fail
    obtain ⟨⟨k0, k1, k2, k3, k4, k5, k6, k7⟩, -⟩ := zcells HR.out
    exact bodyPost_ret (v := .tuple #[.agg #[.int .i64 0, .int .i64 0, .int .i64 0, .int .i64 0, .int .i64 0, .int .i64 0, .int .i64 0, .bool false], .int .i64 (-1)]) (by simp only [results, Try.results9]; simp [go_sem, k0, k1, k2, k3, k4, k5, k6, k7]) rfl ⟨rfl, HB.out⟩
  · have h60 : 60 < es.length := by
      rw [hv, Bool.true_and, decide_eq_false_iff_not] at hn
      omega
    have p60 : (60 : Int) < (es.length : Int) := by omega
    clear h60
    rw [hv] at hval
    have HV := Lib.hid hval
    obtain ⟨ph, la, ins, dn, st, sp, pe, fl⟩ := t
    dsimp only at *
    clear hval hv hn
    go_enter Try.func9, Try.ntmps9
    go_wp2_with fail
    refine (HV.out _).mono ?_
    rintro e w1 ⟨rfl, hb1⟩
    have hB1 : Below w.heap.size w w1 := belowStep hb1 (by exact (by repeat (first | exact Below.refl _ _ | assumption | refine Below.setCell ?_ (by first | omega | (simp <;> omega)) _ | refine Below.alloc ?_ (by first | omega | (simp <;> omega)) _ | refine Below.drew ?_)))
    obtain ⟨z0, z1, z2, z3, z4, z5, z6, z7, rH⟩ : ∃ z0 z1 z2 z3 z4 z5 z6 z7, w1.heap[w.heap.size + 1]? = some (.cells #[z0, z1, z2, z3, z4, z5, z6, z7] 26 (0, 0)) := ⟨_, _, _, _, _, _, _, _, rowB hb1 (by exact alloc2_1 w _ _)⟩
    obtain ⟨⟨j0, j1, j2, j3, j4, j5, j6, j7⟩, f0, f1, f2, f3, f4, f5, f6, f7⟩ := zcells rH
    have HR := Lib.hid (set8_row rH ⟨0, 0, 0, 0, 0, 0, 0, false⟩)
    have HB := Lib.hid (set8_below hB1 (H := w.heap.size + 1) (by omega) ⟨0, 0, 0, 0, 0, 0, 0, false⟩)
    unfold Set8 at HR HB
    clear hb1 rH hB1
    go_upto_region 2 with fail
    clear HV hl
    go_wp2_with fail
    obtain ⟨⟨k0, k1, k2, k3, k4, k5, k6, k7⟩, -⟩ := zcells HR.out
    exact bodyPost_ret (v := .tuple #[.agg #[.int .i64 0, .int .i64 0, .int .i64 0, .int .i64 0, .int .i64 0, .int .i64 0, .int .i64 0, .bool false], .int .i64 (-1)]) (by simp only [results, Try.results9]; simp [go_sem, k0, k1, k2, k3, k4, k5, k6, k7]) rfl ⟨rfl, HB.out⟩

set_option maxHeartbeats 8000000 in
theorem specRunNo (t : Tm) (A : Option Addr) (c : Nat) (es : List Ev) (w : World) (hl : es.length ≤ 1048576) (hn : (validT t && decide (es.length ≤ 60)) = false) : Calls Try.prog 6 #[.agg #[.int .i64 t.ph, .int .i64 t.la, .int .i64 t.ins, .int .i64 t.dn, .int .i64 t.st, .int .i64 t.sp, .int .i64 t.pe, .bool t.fl], .slice A es.length c] w (RunPost (runRes t es).1 (runRes t es).2 w) := by
  rw [run_no hn]
  have hval := specValid t
  cases hv : validT t
  · rw [hv] at hval
    have HV := Lib.hid hval
    obtain ⟨ph, la, ins, dn, st, sp, pe, fl⟩ := t
    dsimp only at *
    clear hval hv hn
    go_enter Try.func6, Try.ntmps6
    go_wp2_with fail
    refine (HV.out _).mono ?_
    rintro e w1 ⟨rfl, hb1⟩
    have hB1 : Below w.heap.size w w1 := belowStep hb1 (by exact (by repeat (first | exact Below.refl _ _ | assumption | refine Below.setCell ?_ (by first | omega | (simp <;> omega)) _ | refine Below.alloc ?_ (by first | omega | (simp <;> omega)) _ | refine Below.drew ?_)))
    obtain ⟨z0, z1, z2, z3, z4, z5, z6, z7, rH⟩ : ∃ z0 z1 z2 z3 z4 z5 z6 z7, w1.heap[w.heap.size + 1]? = some (.cells #[z0, z1, z2, z3, z4, z5, z6, z7] 26 (0, 0)) := ⟨_, _, _, _, _, _, _, _, rowB hb1 (by exact alloc2_1 w _ _)⟩
    obtain ⟨⟨j0, j1, j2, j3, j4, j5, j6, j7⟩, f0, f1, f2, f3, f4, f5, f6, f7⟩ := zcells rH
    have HR := Lib.hid (set8_row rH ⟨0, 0, 0, 0, 0, 0, 0, false⟩)
    have HB := Lib.hid (set8_below hB1 (H := w.heap.size + 1) (by omega) ⟨0, 0, 0, 0, 0, 0, 0, false⟩)
    unfold Set8 at HR HB
    clear hb1 rH hB1
    go_upto_region 2 with fail
    clear HV hl
    go_wp2_with fail
    obtain ⟨⟨k0, k1, k2, k3, k4, k5, k6, k7⟩, -⟩ := zcells HR.out
    exact bodyPost_ret (v := .tuple #[.agg #[.int .i64 0, .int .i64 0, .int .i64 0, .int .i64 0, .int .i64 0, .int .i64 0, .int .i64 0, .bool false], .int .i64 (-1)]) (by simp only [results, Try.results6]; simp [go_sem, k0, k1, k2, k3, k4, k5, k6, k7]) rfl ⟨rfl, HB.out⟩
  · have h60 : 60 < es.length := by
      rw [hv, Bool.true_and, decide_eq_false_iff_not] at hn
      omega
    have p60 : (60 : Int) < (es.length : Int) := by omega
    clear h60
    rw [hv] at hval
    have HV := Lib.hid hval
    obtain ⟨ph, la, ins, dn, st, sp, pe, fl⟩ := t
    dsimp only at *
    clear hval hv hn
    go_enter Try.func6, Try.ntmps6
    go_wp2_with fail
    refine (HV.out _).mono ?_
    rintro e w1 ⟨rfl, hb1⟩
    have hB1 : Below w.heap.size w w1 := belowStep hb1 (by exact (by repeat (first | exact Below.refl _ _ | assumption | refine Below.setCell ?_ (by first | omega | (simp <;> omega)) _ | refine Below.alloc ?_ (by first | omega | (simp <;> omega)) _ | refine Below.drew ?_)))
    obtain ⟨z0, z1, z2, z3, z4, z5, z6, z7, rH⟩ : ∃ z0 z1 z2 z3 z4 z5 z6 z7, w1.heap[w.heap.size + 1]? = some (.cells #[z0, z1, z2, z3, z4, z5, z6, z7] 26 (0, 0)) := ⟨_, _, _, _, _, _, _, _, rowB hb1 (by exact alloc2_1 w _ _)⟩
    obtain ⟨⟨j0, j1, j2, j3, j4, j5, j6, j7⟩, f0, f1, f2, f3, f4, f5, f6, f7⟩ := zcells rH
    have HR := Lib.hid (set8_row rH ⟨0, 0, 0, 0, 0, 0, 0, false⟩)
    have HB := Lib.hid (set8_below hB1 (H := w.heap.size + 1) (by omega) ⟨0, 0, 0, 0, 0, 0, 0, false⟩)
    unfold Set8 at HR HB
    clear hb1 rH hB1
    go_upto_region 2 with fail
    clear HV hl
    go_wp2_with fail
    obtain ⟨⟨k0, k1, k2, k3, k4, k5, k6, k7⟩, -⟩ := zcells HR.out
    exact bodyPost_ret (v := .tuple #[.agg #[.int .i64 0, .int .i64 0, .int .i64 0, .int .i64 0, .int .i64 0, .int .i64 0, .int .i64 0, .bool false], .int .i64 (-1)]) (by simp only [results, Try.results6]; simp [go_sem, k0, k1, k2, k3, k4, k5, k6, k7]) rfl ⟨rfl, HB.out⟩

set_option maxRecDepth 100000 in
set_option maxHeartbeats 16000000 in
theorem implRun (t : Tm) (A : Option Addr) (c : Nat) (es : List Ev) (w : World) (hx : EvsAt w A es) (hl : es.length ≤ 1048576) : Calls Try.prog 9 #[.agg #[.int .i64 t.ph, .int .i64 t.la, .int .i64 t.ins, .int .i64 t.dn, .int .i64 t.st, .int .i64 t.sp, .int .i64 t.pe, .bool t.fl], .slice A es.length c] w (RunPost (runRes t es).1 (runRes t es).2 w) := by
  cases hn : validT t && decide (es.length ≤ 60)
  · exact implRunNo t A c es w hl hn
  rw [Bool.and_eq_true, decide_eq_true_eq] at hn
  obtain ⟨hv, h60⟩ := hn
  rw [run_yes hv h60]
  have hval := implValid t
  rw [hv] at hval
  have HV := Lib.hid hval
  have HVT := Lib.hid hv
  have HT0 : Hid (runTo t (es.take 0) = (t, 0)) := rfl
  have p60 : decide (60 < es.length) = false := decide_eq_false (by omega)
  have HRT : Hid (TRow ((w.alloc (.cells #[.int .i64 t.ph, .int .i64 t.la, .int .i64 t.ins, .int .i64 t.dn, .int .i64 t.st, .int .i64 t.sp, .int .i64 t.pe, .bool t.fl] 26)).alloc (.cells #[.int .i64 0, .int .i64 0, .int .i64 0, .int .i64 0, .int .i64 0, .int .i64 0, .int .i64 0, .bool false] 26)) w.heap.size t) := alloc2_0 w _ _
  have HRH : Hid (TRow ((w.alloc (.cells #[.int .i64 t.ph, .int .i64 t.la, .int .i64 t.ins, .int .i64 t.dn, .int .i64 t.st, .int .i64 t.sp, .int .i64 t.pe, .bool t.fl] 26)).alloc (.cells #[.int .i64 0, .int .i64 0, .int .i64 0, .int .i64 0, .int .i64 0, .int .i64 0, .int .i64 0, .bool false] 26)) (w.heap.size + 1) .zero) := alloc2_1 w _ _
  clear hval hv
  go_enter Try.func9, Try.ntmps9
  go_wp2_with fail
  refine (HV.out _).mono ?_
  rintro e w1 ⟨rfl, hb1⟩
  have hB1 : Below w.heap.size w w1 := belowStep hb1 (by exact (by repeat (first | exact Below.refl _ _ | assumption | refine Below.setCell ?_ (by first | omega | (simp <;> omega)) _ | refine Below.alloc ?_ (by first | omega | (simp <;> omega)) _ | refine Below.drew ?_)))
  have hRT1 := HRT.out.below hb1
  have hRH1 := HRH.out.below hb1
  clear hb1 HRT HRH HV
  go_wp2_with fail
  go_loopw [6, 22] (fun q j wr => ∃ (i : Nat) (s : Tm) (n : Int), i ≤ es.length ∧ j = .int .i64 i ∧ q = .int .i64 n ∧ 0 ≤ n ∧ n ≤ (i : Int) ∧ Hid (runTo t (es.take i) = (s, n)) ∧ TRow wr w.heap.size s ∧ TRow wr (w.heap.size + 1) .zero ∧ Below w.heap.size w wr) (fun _ j _ => es.length - (intOf j).toNat)
  case atStart => exact ⟨0, t, 0, Nat.zero_le _, rfl, rfl, by omega, by omega, rfl, hRT1, hRH1, hB1⟩
  case round =>
    obtain ⟨i, s, n, hi, rfl, rfl, n0, n1, HS, hRT, hRH, hB⟩ := hrel
    clear hRT1 hRH1 hB1
    by_cases hlt : i < es.length
    · obtain ⟨b, off, k, a, rfl, hb, hc0, hc1, HX⟩ := (hx.below hB).at_ hlt
      have q0 : (0 : Int) ≤ (i : Int) := by omega
      have q1 : (i : Int) < (es.length : Int) := by omega
      have HN := Lib.hid (runTo_more t es i hlt HX.out)
      have hap := fun w => implApply s k a w
      obtain ⟨p, hp⟩ : ∃ p, applyT s k a = p := ⟨_, rfl⟩
      obtain ⟨s2, ok⟩ := p
      rw [hp] at hap
      have HAP := Lib.hid hap
      have HP := Lib.hid hp
      obtain ⟨we, hwe⟩ : ∃ we, wr.alloc (.cells #[.int .i64 k, .int .i64 a] 47) = we := ⟨_, rfl⟩
      have hbe : Below wr.heap.size wr we := by rw [← hwe]; exact (by repeat (first | exact Below.refl _ _ | assumption | refine Below.setCell ?_ (by first | omega | (simp <;> omega)) _ | refine Below.alloc ?_ (by first | omega | (simp <;> omega)) _ | refine Below.drew ?_))
      have hRTe := hRT.below hbe
      have hRHe := hRH.below hbe
      have hBe := belowStep hbe hB
      obtain ⟨⟨i0, i1, i2, i3, i4, i5, i6, i7⟩, -⟩ := zcells hRTe
      have re : we.heap[wr.heap.size]? = some (.cells #[.int .i64 k, .int .i64 a] 47 (0, 0)) := by rw [← hwe]; exact heap_alloc_new wr _
      have e0 := cell_of_row _ _ 0 _ _ (0, 0) re
      have e1 := cell_of_row _ _ 1 _ _ (0, 0) re
      have RT := Lib.hid hRTe
      have RH := Lib.hid hRHe
      clear hap hp hbe hRT hRH hRTe hRHe re hB
      go_wp2_with fail
      refine (HAP.out _).mono ?_
      rintro e w3 ⟨rfl, hb3⟩
      obtain ⟨w4, hw4⟩ : ∃ w4, w3.alloc (.cells #[.int .i64 s2.ph, .int .i64 s2.la, .int .i64 s2.ins, .int .i64 s2.dn, .int .i64 s2.st, .int .i64 s2.sp, .int .i64 s2.pe, .bool s2.fl] 26) = w4 := ⟨_, rfl⟩
      have hb4 : Below w3.heap.size w3 w4 := by rw [← hw4]; exact (by repeat (first | exact Below.refl _ _ | assumption | refine Below.setCell ?_ (by first | omega | (simp <;> omega)) _ | refine Below.alloc ?_ (by first | omega | (simp <;> omega)) _ | refine Below.drew ?_))
      have hRT4 := (RT.out.below hb3).below hb4
      have hRH4 := (RH.out.below hb3).below hb4
      have hB4 := belowStep hb4 (belowStep hb3 hBe)
      have hR9 : TRow w4 w3.heap.size s2 := by rw [← hw4]; exact heap_alloc_new w3 _
      obtain ⟨⟨j0, j1, j2, j3, j4, j5, j6, j7⟩, -⟩ := zcells hR9
      obtain ⟨⟨m0, m1, m2, m3, m4, m5, m6, m7⟩, f0, f1, f2, f3, f4, f5, f6, f7⟩ := zcells hRT4
      have HR := Lib.hid (set8_row hRT4 s2)
      have HH := Lib.hid (set8_other hRH4 (show w.heap.size + 1 ≠ w.heap.size by omega) s2)
      have HB := Lib.hid (set8_below hB4 (H := w.heap.size) (Nat.le_refl _) s2)
      unfold Set8 at HR HH HB
      clear hb3 hb4 hRT4 hRH4 hB4 hR9 RT RH hBe i0 i1 i2 i3 i4 i5 i6 i7 e0 e1 hwe HAP
      cases ok
      · have HSN : Hid (runTo t (es.take (i + 1)) = (s2, n)) := by unfold Hid; rw [HN.out, HS.out, runS, HP.out]; rfl
        go_wp2_with fail
        go_roundw
        case rel => exact ⟨i + 1, s2, n, by omega, by go_num, rfl, n0, by omega, HSN, HR.out, HH.out, HB.out⟩
        case measure => simp [intOf]; omega
      · have HSN : Hid (runTo t (es.take (i + 1)) = (s2, n + 1)) := by unfold Hid; rw [HN.out, HS.out, runS, HP.out]; rfl
        go_wp2_with fail
        go_roundw
        case rel => exact ⟨i + 1, s2, n + 1, by omega, by go_num, rfl, by omega, by omega, HSN, HR.out, HH.out, HB.out⟩
        case measure => simp [intOf]; omega
    · obtain rfl : i = es.length := by omega
      have hend := HS.out
      rw [run_end] at hend
      have HE := Lib.hid hend
      obtain ⟨⟨i0, i1, i2, i3, i4, i5, i6, i7⟩, -⟩ := zcells hRT
      obtain ⟨⟨j0, j1, j2, j3, j4, j5, j6, j7⟩, f0, f1, f2, f3, f4, f5, f6, f7⟩ := zcells hRH
      have HR := Lib.hid (set8_row hRH s)
      have HB := Lib.hid (set8_below hB (H := w.heap.size + 1) (by omega) s)
      unfold Set8 at HR HB
      clear hend hRT hRH hB
      go_wp2_with fail
      obtain ⟨⟨k0, k1, k2, k3, k4, k5, k6, k7⟩, -⟩ := zcells HR.out
      exact bodyPost_ret (v := .tuple #[.agg #[.int .i64 s.ph, .int .i64 s.la, .int .i64 s.ins, .int .i64 s.dn, .int .i64 s.st, .int .i64 s.sp, .int .i64 s.pe, .bool s.fl], .int .i64 n]) (by simp only [results, Try.results9]; simp [go_sem, k0, k1, k2, k3, k4, k5, k6, k7]) rfl ⟨by rw [HE.out], HB.out⟩
theorem kept10 {B H b o : Nat} {t : Tm} {x y : Value} {w w' : World} (hb : Below B w w') (hH : H < B) (h : TRow w H t) (hbB : b < B) (h0 : w.cell? ⟨b, o, none⟩ = some x) (h1 : w.cell? ⟨b, o + 1, none⟩ = some y) :
    w'.cell? ⟨H, 0, none⟩ = some (.int .i64 t.ph) ∧ w'.cell? ⟨H, 1, none⟩ = some (.int .i64 t.la) ∧ w'.cell? ⟨H, 2, none⟩ = some (.int .i64 t.ins) ∧ w'.cell? ⟨H, 3, none⟩ = some (.int .i64 t.dn) ∧ w'.cell? ⟨H, 4, none⟩ = some (.int .i64 t.st) ∧ w'.cell? ⟨H, 5, none⟩ = some (.int .i64 t.sp) ∧ w'.cell? ⟨H, 6, none⟩ = some (.int .i64 t.pe) ∧ w'.cell? ⟨H, 7, none⟩ = some (.bool t.fl) ∧ w'.cell? ⟨b, o, none⟩ = some x ∧ w'.cell? ⟨b, o + 1, none⟩ = some y := by
  obtain ⟨a0, a1, a2, a3, a4, a5, a6, a7⟩ := kept8 hb hH h
  exact ⟨a0, a1, a2, a3, a4, a5, a6, a7, (hb.cell (p := ⟨b, o, none⟩) hbB).trans h0, (hb.cell (p := ⟨b, o + 1, none⟩) hbB).trans h1⟩
end Go.Proofs.Ytmfmkalgalmbcaa
