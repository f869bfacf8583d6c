/- Events in order, at the reference. Conditions: as each contract says. -/
import Derived.Test.YtmfmkalgalmbcaaTr
import Derived.Deep.RegionWith
namespace Go.Proofs.Ytmfmkalgalmbcaa
open Go.RowKit

theorem applied_eq {s s2 : Tm} {k a : Int} {ok : Bool} (hv : validT s = true) (h : applyT s k a = (s2, ok)) : ok = false → s2 = s := by
  intro ho
  have := (valid_apply hv k a).2.2.2
  rw [h] at this
  exact this ho
set_option maxRecDepth 100000 in
set_option maxHeartbeats 16000000 in
theorem specRun (t : Tm) (A : Option Addr) (c : Nat) (es : List Ev) (w : World) (hx : EvsAt w A es) (hl : es.length ≤ 1048576) : Calls Try.prog 6 #[.agg #[.int .i64 t.ph, .int .i64 t.la, .int .i64 t.ins, .int .i64 t.dn, .int .i64 t.st, .int .i64 t.sp, .int .i64 t.pe, .bool t.fl], .slice A es.length c] w (RunPost (runRes t es).1 (runRes t es).2 w) := by
  cases hn : validT t && decide (es.length ≤ 60)
  · exact specRunNo t A c es w hl hn
  rw [Bool.and_eq_true, decide_eq_true_eq] at hn
  obtain ⟨hv, h60⟩ := hn
  rw [run_yes hv h60]
  have hval := specValid t
  rw [hv] at hval
  have HV := Lib.hid hval
  have HVT := Lib.hid hv
  have HT0 : Hid (runTo t (es.take 0) = (t, 0)) := rfl
  have p60 : decide (60 < es.length) = false := decide_eq_false (by omega)
  have HRT : Hid (TRow ((w.alloc (.cells #[.int .i64 t.ph, .int .i64 t.la, .int .i64 t.ins, .int .i64 t.dn, .int .i64 t.st, .int .i64 t.sp, .int .i64 t.pe, .bool t.fl] 26)).alloc (.cells #[.int .i64 0, .int .i64 0, .int .i64 0, .int .i64 0, .int .i64 0, .int .i64 0, .int .i64 0, .bool false] 26)) w.heap.size t) := alloc2_0 w _ _
  have HRH : Hid (TRow ((w.alloc (.cells #[.int .i64 t.ph, .int .i64 t.la, .int .i64 t.ins, .int .i64 t.dn, .int .i64 t.st, .int .i64 t.sp, .int .i64 t.pe, .bool t.fl] 26)).alloc (.cells #[.int .i64 0, .int .i64 0, .int .i64 0, .int .i64 0, .int .i64 0, .int .i64 0, .int .i64 0, .bool false] 26)) (w.heap.size + 1) .zero) := alloc2_1 w _ _
  clear hval hv
  go_enter Try.func6, Try.ntmps6
  go_wp2_with fail
  refine (HV.out _).mono ?_
  rintro e w1 ⟨rfl, hb1⟩
  have hB1 : Below w.heap.size w w1 := belowStep hb1 (by exact (by repeat (first | exact Below.refl _ _ | assumption | refine Below.setCell ?_ (by first | omega | (simp <;> omega)) _ | refine Below.alloc ?_ (by first | omega | (simp <;> omega)) _ | refine Below.drew ?_)))
  have hRT1 := HRT.out.below hb1
  have hRH1 := HRH.out.below hb1
  clear hb1 HRT HRH HV
  go_wp2_with fail
  go_loopw [6, 7] (fun q j wr => ∃ (i : Nat) (s : Tm) (n : Int), i ≤ es.length ∧ j = .int .i64 i ∧ q = .int .i64 n ∧ 0 ≤ n ∧ n ≤ (i : Int) ∧ Hid (runTo t (es.take i) = (s, n)) ∧ TRow wr w.heap.size s ∧ TRow wr (w.heap.size + 1) .zero ∧ Below w.heap.size w wr) (fun _ j _ => es.length - (intOf j).toNat)
  case atStart => exact ⟨0, t, 0, Nat.zero_le _, rfl, rfl, by omega, by omega, rfl, hRT1, hRH1, hB1⟩
  case round =>
    obtain ⟨i, s, n, hi, rfl, rfl, n0, n1, HS, hRT, hRH, hB⟩ := hrel
    clear hRT1 hRH1 hB1
    by_cases hlt : i < es.length
    · obtain ⟨b, off, k, a, rfl, hb, hc0, hc1, HX⟩ := (hx.below hB).at_ hlt
      have q0 : (0 : Int) ≤ (i : Int) := by omega
      have q1 : (i : Int) < (es.length : Int) := by omega
      have HN := Lib.hid (runTo_more t es i hlt HX.out)
      have hap := fun w => specApply s k a w
      obtain ⟨p, hp⟩ : ∃ p, applyT s k a = p := ⟨_, rfl⟩
      obtain ⟨s2, ok⟩ := p
      rw [hp] at hap
      have HAP := Lib.hid hap
      have HP := Lib.hid hp
      have hp2 := Lib.hid (show validT s = true by have := (runTo_bd HVT.out (es.take i)).1; rw [HS.out] at this; exact this)
      have hRTe := hRT
      obtain ⟨⟨i0, i1, i2, i3, i4, i5, i6, i7⟩, -⟩ := zcells hRTe
      have RT := Lib.hid hRT
      have RH := Lib.hid hRH
      have hgw : w.heap.size < wr.heap.size := (Array.getElem?_eq_some_iff.1 hRT).1
      have hz1w : w.heap.size + 1 < wr.heap.size := (Array.getElem?_eq_some_iff.1 hRH).1
      obtain ⟨wo, rfl⟩ : ∃ wo : World, wo = wr := ⟨_, rfl⟩
      clear hap hp hRT hRH hRTe
      go_upto_region 7 with fail
      go_cut [8, 9] from 19 to 37 (fun p b wx => ∃ g : Nat, p = .pointer (some ⟨g, 0, none⟩) ∧ b = .bool ok ∧ TRow wx g s2 ∧ wo.heap.size ≤ g ∧ Below wo.heap.size wo wx)
      case first =>
        have hne1 : wo.heap.size ≠ w.heap.size := by omega
        have hne2 : wo.heap.size ≠ b := by omega
        go_region_with
          (first | (go_at_call 17; refine (HAP.out _).mono ?_; rintro e w3 ⟨rfl, hb3⟩; have hq3 : Below wo.heap.size wo w3 := (by first | exact ((Below.refl _ _).drew).trans hb3 | exact (((Below.refl _ _).drew).alloc (Nat.le_refl _) _).trans (hb3.mono (by simp))); (try (have rg : w3.heap[wo.heap.size]? = some (.cells #[.int .i64 0, .int .i64 0, .int .i64 0, .int .i64 0, .int .i64 0, .int .i64 0, .int .i64 0, .bool false] 26 (0, 0)) := rowB hb3 (by exact heap_alloc_new wo _); obtain ⟨⟨g0, g1, g2, g3, g4, g5, g6, g7⟩, l0, l1, l2, l3, l4, l5, l6, l7⟩ := zcells rg; have Rg := Lib.hid rg; clear rg))))
        all_goals (try clear g0 g1 g2 g3 g4 g5 g6 g7 l0 l1 l2 l3 l4 l5 l6 l7)
        all_goals clear i0 i1 i2 i3 i4 i5 i6 i7 hc0 hc1 hne1 hne2
        all_goals (clear HAP HN HS HP hp2 RT RH)
        all_goals go_wp2_with fail
        all_goals go_meet
        all_goals first
          | (have HRg := set8_row Rg.out s2; have HBg := set8_below hq3 (H := wo.heap.size) (Nat.le_refl _) s2; unfold Set8 at HRg HBg; exact ⟨wo.heap.size, rfl, rfl, HRg, Nat.le_refl _, HBg⟩)
          | exact ⟨w3.heap.size, rfl, rfl, heap_alloc_new w3 _, hq3.size, hq3.alloc hq3.size _⟩
      case rest =>
        obtain ⟨g, rfl, rfl, hR9, hgwo, hbc⟩ := hcut
        have hRT4 := RT.out.below hbc
        have hRH4 := RH.out.below hbc
        have hB4 := belowStep hbc hB
        have hgH : w.heap.size + 1 < g := by omega
        obtain ⟨⟨j0, j1, j2, j3, j4, j5, j6, j7⟩, -⟩ := zcells hR9
        obtain ⟨⟨m0, m1, m2, m3, m4, m5, m6, m7⟩, f0, f1, f2, f3, f4, f5, f6, f7⟩ := zcells hRT4
        have HR := Lib.hid (set8_row hRT4 s2)
        have HH := Lib.hid (set8_other hRH4 (show w.heap.size + 1 ≠ w.heap.size by omega) s2)
        have HB := Lib.hid (set8_below hB4 (H := w.heap.size) (Nat.le_refl _) s2)
        unfold Set8 at HR HH HB
        have RT4 := Lib.hid hRT4
        have RH4 := Lib.hid hRH4
        have HB4 := Lib.hid hB4
        have hval2 := applied_eq hp2.out HP.out
        clear hbc hRT4 hRH4 hB4 hR9 RT RH hB i0 i1 i2 i3 i4 i5 i6 i7 HAP hc0 hc1 hb
        cases ok
        · have HSN : Hid (runTo t (es.take (i + 1)) = (s, n)) := by unfold Hid; rw [HN.out, HS.out, runS, HP.out, ← hval2 rfl]; rfl
          clear HR HH HB
          go_wp2_with fail
          go_roundw
          case rel => exact ⟨i + 1, s, n, by omega, by go_num, rfl, n0, by omega, HSN, RT4.out, RH4.out, HB4.out⟩
          case measure => simp [intOf]; omega
        · have HSN : Hid (runTo t (es.take (i + 1)) = (s2, n + 1)) := by unfold Hid; rw [HN.out, HS.out, runS, HP.out]; rfl
          clear RT4 RH4 HB4 hval2
          go_wp2_with fail
          go_roundw
          case rel => exact ⟨i + 1, s2, n + 1, by omega, by go_num, rfl, by omega, by omega, HSN, HR.out, HH.out, HB.out⟩
          case measure => simp [intOf]; omega
    · obtain rfl : i = es.length := by omega
      have hend := HS.out
      rw [run_end] at hend
      have HE := Lib.hid hend
      obtain ⟨⟨i0, i1, i2, i3, i4, i5, i6, i7⟩, -⟩ := zcells hRT
      obtain ⟨⟨j0, j1, j2, j3, j4, j5, j6, j7⟩, f0, f1, f2, f3, f4, f5, f6, f7⟩ := zcells hRH
      have HR := Lib.hid (set8_row hRH s)
      have HB := Lib.hid (set8_below hB (H := w.heap.size + 1) (by omega) s)
      unfold Set8 at HR HB
      clear hend hRT hRH hB
      go_wp2_with fail
      obtain ⟨⟨k0, k1, k2, k3, k4, k5, k6, k7⟩, -⟩ := zcells HR.out
      exact bodyPost_ret (v := .tuple #[.agg #[.int .i64 s.ph, .int .i64 s.la, .int .i64 s.ins, .int .i64 s.dn, .int .i64 s.st, .int .i64 s.sp, .int .i64 s.pe, .bool s.fl], .int .i64 n]) (by simp only [results, Try.results6]; simp [go_sem, k0, k1, k2, k3, k4, k5, k6, k7]) rfl ⟨by rw [HE.out], HB.out⟩
end Go.Proofs.Ytmfmkalgalmbcaa
