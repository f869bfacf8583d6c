/- An entry normalized, at the implementation. Conditions: as the contract says. -/
import Derived.Test.YtejacbgogcjbnaaNo
import Derived.Deep.RegionLaw
import Derived.Deep.RegionHeld3
namespace Go.Proofs.Ytejacbgogcjbnaa
open Go.RowKit

theorem kept6 {B H : Nat} {A1 : Value} {w w' : World} {r : RR} (hb : Below B w w') (hH : H + 1 < B) (h0 : w.cell? ⟨H, 0, none⟩ = some (.int .i64 r.att)) (h1 : w.cell? ⟨H, 1, none⟩ = some (.int .i64 r.lim)) (h2 : w.cell? ⟨H, 2, none⟩ = some (.int .i64 r.catt)) (h3 : w.cell? ⟨H, 3, none⟩ = some (.int .i64 r.cut)) (h4 : w.cell? ⟨H, 4, none⟩ = some (.int .i64 r.adv)) (h5 : w.cell? ⟨H + 1, 1, none⟩ = some A1) :
    w'.cell? ⟨H, 0, none⟩ = some (.int .i64 r.att) ∧ w'.cell? ⟨H, 1, none⟩ = some (.int .i64 r.lim) ∧ w'.cell? ⟨H, 2, none⟩ = some (.int .i64 r.catt) ∧ w'.cell? ⟨H, 3, none⟩ = some (.int .i64 r.cut) ∧ w'.cell? ⟨H, 4, none⟩ = some (.int .i64 r.adv) ∧ w'.cell? ⟨H + 1, 1, none⟩ = some A1 :=
  ⟨(hb.cell (p := ⟨H, 0, none⟩) (show H < B by omega)).trans h0, (hb.cell (p := ⟨H, 1, none⟩) (show H < B by omega)).trans h1, (hb.cell (p := ⟨H, 2, none⟩) (show H < B by omega)).trans h2, (hb.cell (p := ⟨H, 3, none⟩) (show H < B by omega)).trans h3, (hb.cell (p := ⟨H, 4, none⟩) (show H < B by omega)).trans h4, (hb.cell (p := ⟨H + 1, 1, none⟩) hH).trans h5⟩
set_option maxRecDepth 100000 in
set_option maxHeartbeats 4000000 in
theorem implNorm (r : RR) (k1 : Int) (A1 : Option Addr) (c1 : Nat) (xs1 : List Int) (w : World) (hx : IntsAt w A1 xs1) (h5 : xs1.length ≤ 5) (hlc : xs1.length ≤ c1) (hr : r.ok = true) :
    Calls Try.prog 37 #[.agg #[.int .i64 r.att, .int .i64 r.lim, .int .i64 r.catt, .int .i64 r.cut, .int .i64 r.adv], .agg #[.int .i64 k1, .slice A1 xs1.length c1]] w (EntPost k1 (normL r xs1) w) := by
  have HR := Lib.hid hr
  have ha := allowed_pos hr xs1
  obtain ⟨al, hal⟩ : ∃ al : Nat, r.allowed xs1 = (al : Int) := ⟨(r.allowed xs1).toNat, by omega⟩
  rw [hal] at ha
  have HAL := Lib.hid hal
  clear hr hal
  have h4 := four w r k1 (.slice A1 xs1.length c1)
  obtain ⟨hB4, hz4, hrow4, hq4, hent4, hbx4⟩ := h4
  have hx4 := hx.below hB4
  have he4 := cell_of_row _ _ 1 _ _ (0, 0) hent4
  have HROW4 := Lib.hid hrow4
  have HQ4 := Lib.hid hq4
  have HBX4 := Lib.hid hbx4
  have HE4 := Lib.hid he4
  have HZ4 := Lib.hid hz4
  clear hrow4 hq4 hbx4 he4 hz4 hent4
  go_enter Try.func37, Try.ntmps37
  go_wp2_with fail
  obtain ⟨b0, b1, b2, b3, b4⟩ := HBX4.out
  have hz4 := HZ4.out
  have he4 := HE4.out
  generalize ((((w.alloc (.cells #[.int .i64 r.att, .int .i64 r.lim, .int .i64 r.catt, .int .i64 r.cut, .int .i64 r.adv] 25)).alloc (.cells #[.int .i64 k1, .slice A1 xs1.length c1] 32)).alloc (.cells #[.int .i64 0, .slice none 0 0] 32)).alloc (.cells #[.int .i64 k1, .slice none 0 0] 32)) = w4 at *
  have hzE4 : w.heap.size + 1 < w4.heap.size := by omega
  have m0 : (0 : Int) ≤ (al : Int) := by omega
  by_cases hml : (al : Int) ≤ (xs1.length : Int)
  · have m1 : (al : Int) ≤ (c1 : Int) := by omega
    have m2 : al ≤ xs1.length := by omega
    have m3 : al ≤ c1 := by omega
    have m4 : ¬ xs1.length < al := by omega
    go_region_held3 (fun w' => w'.cell? ⟨w.heap.size, 0, none⟩ = some (.int .i64 r.att) ∧ w'.cell? ⟨w.heap.size, 1, none⟩ = some (.int .i64 r.lim) ∧ w'.cell? ⟨w.heap.size, 2, none⟩ = some (.int .i64 r.catt) ∧ w'.cell? ⟨w.heap.size, 3, none⟩ = some (.int .i64 r.cut) ∧ w'.cell? ⟨w.heap.size, 4, none⟩ = some (.int .i64 r.adv) ∧ w'.cell? ⟨w.heap.size + 1, 1, none⟩ = some (.slice A1 xs1.length c1)) (first | go_keep | exact kept6 hb1 hzE4 b0 b1 b2 b3 b4 he4) (first | (go_at_call 39; refine (implAllowed r _ _ xs1 _ (by exact hx4) (by omega) hlc (RR.ok_bd HR.out).2.2.2.2.1).mono ?_; rintro e w1 ⟨rfl, hb1⟩; rw [HAL.out]) | (go_at_call 66; refine (lengthInts _ _ _ _).mono ?_; rintro e w' ⟨rfl, rfl⟩))
    all_goals
      have hbd : Below w4.heap.size w4 w1 := ((Below.refl _ _).drew).trans hb1
      have hrow1 := (hbd.block (w.heap.size + 1 + 1 + 1) (by omega)).trans HROW4.out
      have hq1 := (hbd.block (w.heap.size + 1 + 1) (by omega)).trans HQ4.out
      have hbx1 := HBX4.out.below hbd
      have hB1 := belowStep hbd hB4
      have hz1 : w.heap.size + 1 + 1 + 1 < w1.heap.size := Nat.lt_of_lt_of_le (show w.heap.size + 1 + 1 + 1 < w4.heap.size by omega) hb1.size
      have hx1 := hx.below hB1
      have hF1 : Fresh (w.heap.size + 1 + 1 + 1 + 1) w1 (.slice none 0 0) [] := Fresh.nil _ _
      clear b0 b1 b2 b3 b4 hx4 hb1 hB4 hz4 he4 hzE4 HROW4 HQ4 HBX4 HE4 HZ4
      go_wp2_with fail
      go_loopw [23] (fun j wr => ∃ (i : Nat) (v : Value), i ≤ al ∧ j = .int .i64 i ∧ wr.heap[w.heap.size + 1 + 1 + 1]? = some (.cells #[.int .i64 k1, v] 32 (0, 0)) ∧ Fresh (w.heap.size + 1 + 1 + 1 + 1) wr v (normTo r xs1 i) ∧ Below (w.heap.size + 1 + 1 + 1) w1 wr) (fun j _ => al - (intOf j).toNat)
      case atStart => exact ⟨0, _, Nat.zero_le _, rfl, hrow1, by simpa [normTo] using hF1, Below.refl _ _⟩
      case round =>
        obtain ⟨i, v, hi, rfl, hrow, hF, hbw⟩ := hrel
        clear hrow1 hF1
        have hBw : Below w.heap.size w wr := hB1.trans (hbw.mono (by omega))
        have hbx : BoxRR wr w.heap.size r := by
          obtain ⟨g0, g1, g2, g3, g4⟩ := hbx1
          exact ⟨(hbw.cell (p := ⟨w.heap.size, 0, none⟩) (by simp; omega)).trans g0, (hbw.cell (p := ⟨w.heap.size, 1, none⟩) (by simp; omega)).trans g1, (hbw.cell (p := ⟨w.heap.size, 2, none⟩) (by simp; omega)).trans g2, (hbw.cell (p := ⟨w.heap.size, 3, none⟩) (by simp; omega)).trans g3, (hbw.cell (p := ⟨w.heap.size, 4, none⟩) (by simp; omega)).trans g4⟩
        have hxr := hx.below hBw
        have hzr : w.heap.size + 1 + 1 + 1 < wr.heap.size := Nat.lt_of_lt_of_le hz1 hbw.size
        have hv1 : wr.cell? ⟨w.heap.size + 1 + 1 + 1, 1, none⟩ = some v := cell_of_row wr _ 1 _ _ (0, 0) hrow
        have hk0 : wr.cell? ⟨w.heap.size + 1 + 1 + 1, 0, none⟩ = some (.int .i64 k1) := cell_of_row wr _ 0 _ _ (0, 0) hrow
        have hfr : wr.frozen? ⟨w.heap.size + 1 + 1 + 1, 1, none⟩ = false := row_free hrow
        have HROW := Lib.hid hrow
        obtain ⟨b0, b1, b2, b3, b4⟩ := hbx
        clear hrow
        by_cases hlt : i < al
        · obtain ⟨b, off, x, rfl, hb, hc, HX⟩ := hxr.at_ (show i < xs1.length by omega)
          have p0 : (0 : Int) ≤ (i : Int) := by omega
          have p1 : (i : Int) < (al : Int) := by omega
          have hll : (normTo r xs1 i).length ≤ 1048576 := by have := normTo_len r xs1 i; omega
          obtain ⟨l, hl⟩ : ∃ l, normTo r xs1 i = l := ⟨_, rfl⟩
          rw [hl] at hF hll
          have HL : Hid (normTo r xs1 (i + 1) = l ++ [r.limited x]) := by unfold Hid; rw [normTo_more r xs1 i (by omega) HX.out, hl]
          have hHz : w.heap.size + 1 + 1 + 1 + 1 ≤ wr.heap.size := hzr
          have hzK : w.heap.size + 1 + 1 + 1 < w.heap.size + 1 + 1 + 1 + 1 := by omega
          clear hl
          go_wp2_with fail
          go_region_law (first | (refine step_append_one (by rfl) _ _ (by rfl) (w.heap.size + 1 + 1 + 1 + 1) _ l (r.limited x) (by rfl) (hF2.al _) w2.heap.size (by rfl) (by simp) hll (by simp; omega) ?_; intro v3 w3 hF3 hg3 hb3; obtain ⟨A3, c3, he3, -, -⟩ := hF3.ints; obtain ⟨n3, hn3⟩ : ∃ n3, (l ++ [r.limited x]).length = n3 := ⟨_, rfl⟩; rw [hn3] at he3; subst he3; clear hn3; have hbC3 : Below (w.heap.size + 1 + 1 + 1 + 1) wr w3 := (hbC2.alloc hz2 _).trans hb3; have hv3 := (hbC3.cell (p := ⟨w.heap.size + 1 + 1 + 1, 1, none⟩) hzK).trans hv1; have hfr3 := (hbC3.frozen (p := ⟨w.heap.size + 1 + 1 + 1, 1, none⟩) hzK).trans hfr) | (go_simp; go_at_call 67; refine (implLimited r x _).mono ?_; rintro e w2 ⟨rfl, hb2⟩; have hbC2 : Below (w.heap.size + 1 + 1 + 1 + 1) wr w2 := ((Below.refl _ _).drew).trans (hb2.mono hHz); have hv2 := (hbC2.cell (p := ⟨w.heap.size + 1 + 1 + 1, 1, none⟩) hzK).trans hv1; have hF2 := hF.dr.below hb2; have hz2 : w.heap.size + 1 + 1 + 1 < w2.heap.size := Nat.lt_of_lt_of_le hzr hb2.size))
          all_goals
            have hrow3 := row_set (V := .slice A3 n3 c3) ((hbC3.block (w.heap.size + 1 + 1 + 1) hzK).trans HROW.out)
            have hF4 := hF3.setCell (a := ⟨w.heap.size + 1 + 1 + 1, 1, none⟩) hzK (.slice A3 n3 c3)
            have hbw4 : Below (w.heap.size + 1 + 1 + 1) w1 (w3.setCell ⟨w.heap.size + 1 + 1 + 1, 1, none⟩ (.slice A3 n3 c3)) := (hbw.trans (hbC3.mono (Nat.le_succ _))).setCell (Nat.le_refl _) _
            clear hF3 hg3 hb3 hv3 hfr3 hbC3 hF2 hz2 hv2 hbC2
            go_wp2_with fail
            go_roundw
            case rel => exact ⟨i + 1, _, by omega, by go_num, hrow3, by rw [HL.out]; exact hF4, hbw4⟩
            case measure => simp [intOf]; omega
        · have hend : Hid (normTo r xs1 i = normL r xs1) := normTo_end r xs1 i (.inl (by rw [HAL.out]; omega))
          obtain ⟨Av, cv, rfl, -, -⟩ := hF.ints
          have hqr := (hbw.block (w.heap.size + 1 + 1) (by omega)).trans hq1
          obtain ⟨n, hn⟩ : ∃ n, (normTo r xs1 i).length = n := ⟨_, rfl⟩
          rw [hn] at hF hv1
          have c0 : wr.cell? ⟨w.heap.size + 1 + 1, 0, none⟩ = some (.int .i64 0) := cell_of_row wr _ 0 _ _ (0, 0) hqr
          have c1' : wr.cell? ⟨w.heap.size + 1 + 1, 1, none⟩ = some (.slice none 0 0) := cell_of_row wr _ 1 _ _ (0, 0) hqr
          have f0 : wr.frozen? ⟨w.heap.size + 1 + 1, 0, none⟩ = false := row_free hqr
          have f1 : wr.frozen? ⟨w.heap.size + 1 + 1, 1, none⟩ = false := row_free hqr
          have p1 : ¬ (i : Int) < (al : Int) := by omega
          clear hn HROW hqr
          go_wp2_with fail
          have hF5 : Fresh w.heap.size ((wr.setCell ⟨w.heap.size + 1 + 1, 0, none⟩ (.int .i64 k1)).setCell ⟨w.heap.size + 1 + 1, 1, none⟩ (.slice Av n cv)) (.slice Av n cv) (normL r xs1) := by
            rw [← hend.out]
            exact ((hF.setCell (a := ⟨w.heap.size + 1 + 1, 0, none⟩) (show w.heap.size + 1 + 1 < _ by omega) _).setCell (a := ⟨w.heap.size + 1 + 1, 1, none⟩) (show w.heap.size + 1 + 1 < _ by omega) _).mono (by omega)
          have hB5 : Below w.heap.size w ((wr.setCell ⟨w.heap.size + 1 + 1, 0, none⟩ (.int .i64 k1)).setCell ⟨w.heap.size + 1 + 1, 1, none⟩ (.slice Av n cv)) := (hBw.setCell (p := ⟨w.heap.size + 1 + 1, 0, none⟩) (show w.heap.size ≤ w.heap.size + 1 + 1 by omega) _).setCell (p := ⟨w.heap.size + 1 + 1, 1, none⟩) (show w.heap.size ≤ w.heap.size + 1 + 1 by omega) _
          exact bodyPost_ret (v := .agg #[.int .i64 k1, .slice Av n cv]) (by simp [results, Try.results37, go_sem, c0, c1']) rfl ⟨_, rfl, hF5, hB5⟩
  · have m1 : (xs1.length : Int) ≤ (c1 : Int) := by omega
    have m2 : (xs1.length : Int) < (al : Int) := by omega
    go_region_held3 (fun w' => w'.cell? ⟨w.heap.size, 0, none⟩ = some (.int .i64 r.att) ∧ w'.cell? ⟨w.heap.size, 1, none⟩ = some (.int .i64 r.lim) ∧ w'.cell? ⟨w.heap.size, 2, none⟩ = some (.int .i64 r.catt) ∧ w'.cell? ⟨w.heap.size, 3, none⟩ = some (.int .i64 r.cut) ∧ w'.cell? ⟨w.heap.size, 4, none⟩ = some (.int .i64 r.adv) ∧ w'.cell? ⟨w.heap.size + 1, 1, none⟩ = some (.slice A1 xs1.length c1)) (first | go_keep | exact kept6 hb1 hzE4 b0 b1 b2 b3 b4 he4) (first | (go_at_call 39; refine (implAllowed r _ _ xs1 _ (by exact hx4) (by omega) hlc (RR.ok_bd HR.out).2.2.2.2.1).mono ?_; rintro e w1 ⟨rfl, hb1⟩; rw [HAL.out]) | (go_at_call 66; refine (lengthInts _ _ _ _).mono ?_; rintro e w' ⟨rfl, rfl⟩))
    all_goals
      have hbd : Below w4.heap.size w4 w1 := ((Below.refl _ _).drew).trans hb1
      have hrow1 := (hbd.block (w.heap.size + 1 + 1 + 1) (by omega)).trans HROW4.out
      have hq1 := (hbd.block (w.heap.size + 1 + 1) (by omega)).trans HQ4.out
      have hbx1 := HBX4.out.below hbd
      have hB1 := belowStep hbd hB4
      have hz1 : w.heap.size + 1 + 1 + 1 < w1.heap.size := Nat.lt_of_lt_of_le (show w.heap.size + 1 + 1 + 1 < w4.heap.size by omega) hb1.size
      have hx1 := hx.below hB1
      have hF1 : Fresh (w.heap.size + 1 + 1 + 1 + 1) w1 (.slice none 0 0) [] := Fresh.nil _ _
      clear b0 b1 b2 b3 b4 hx4 hb1 hB4 hz4 he4 hzE4 HROW4 HQ4 HBX4 HE4 HZ4
      go_wp2_with fail
      go_loopw [23] (fun j wr => ∃ (i : Nat) (v : Value), i ≤ xs1.length ∧ j = .int .i64 i ∧ wr.heap[w.heap.size + 1 + 1 + 1]? = some (.cells #[.int .i64 k1, v] 32 (0, 0)) ∧ Fresh (w.heap.size + 1 + 1 + 1 + 1) wr v (normTo r xs1 i) ∧ Below (w.heap.size + 1 + 1 + 1) w1 wr) (fun j _ => xs1.length - (intOf j).toNat)
      case atStart => exact ⟨0, _, Nat.zero_le _, rfl, hrow1, by simpa [normTo] using hF1, Below.refl _ _⟩
      case round =>
        obtain ⟨i, v, hi, rfl, hrow, hF, hbw⟩ := hrel
        clear hrow1 hF1
        have hBw : Below w.heap.size w wr := hB1.trans (hbw.mono (by omega))
        have hbx : BoxRR wr w.heap.size r := by
          obtain ⟨g0, g1, g2, g3, g4⟩ := hbx1
          exact ⟨(hbw.cell (p := ⟨w.heap.size, 0, none⟩) (by simp; omega)).trans g0, (hbw.cell (p := ⟨w.heap.size, 1, none⟩) (by simp; omega)).trans g1, (hbw.cell (p := ⟨w.heap.size, 2, none⟩) (by simp; omega)).trans g2, (hbw.cell (p := ⟨w.heap.size, 3, none⟩) (by simp; omega)).trans g3, (hbw.cell (p := ⟨w.heap.size, 4, none⟩) (by simp; omega)).trans g4⟩
        have hxr := hx.below hBw
        have hzr : w.heap.size + 1 + 1 + 1 < wr.heap.size := Nat.lt_of_lt_of_le hz1 hbw.size
        have hv1 : wr.cell? ⟨w.heap.size + 1 + 1 + 1, 1, none⟩ = some v := cell_of_row wr _ 1 _ _ (0, 0) hrow
        have hk0 : wr.cell? ⟨w.heap.size + 1 + 1 + 1, 0, none⟩ = some (.int .i64 k1) := cell_of_row wr _ 0 _ _ (0, 0) hrow
        have hfr : wr.frozen? ⟨w.heap.size + 1 + 1 + 1, 1, none⟩ = false := row_free hrow
        have HROW := Lib.hid hrow
        obtain ⟨b0, b1, b2, b3, b4⟩ := hbx
        clear hrow
        by_cases hlt : i < xs1.length
        · obtain ⟨b, off, x, rfl, hb, hc, HX⟩ := hxr.at_ (show i < xs1.length by omega)
          have p0 : (0 : Int) ≤ (i : Int) := by omega
          have p1 : (i : Int) < (xs1.length : Int) := by omega
          have hll : (normTo r xs1 i).length ≤ 1048576 := by have := normTo_len r xs1 i; omega
          obtain ⟨l, hl⟩ : ∃ l, normTo r xs1 i = l := ⟨_, rfl⟩
          rw [hl] at hF hll
          have HL : Hid (normTo r xs1 (i + 1) = l ++ [r.limited x]) := by unfold Hid; rw [normTo_more r xs1 i (by omega) HX.out, hl]
          have hHz : w.heap.size + 1 + 1 + 1 + 1 ≤ wr.heap.size := hzr
          have hzK : w.heap.size + 1 + 1 + 1 < w.heap.size + 1 + 1 + 1 + 1 := by omega
          clear hl
          go_wp2_with fail
          go_region_law (first | (refine step_append_one (by rfl) _ _ (by rfl) (w.heap.size + 1 + 1 + 1 + 1) _ l (r.limited x) (by rfl) (hF2.al _) w2.heap.size (by rfl) (by simp) hll (by simp; omega) ?_; intro v3 w3 hF3 hg3 hb3; obtain ⟨A3, c3, he3, -, -⟩ := hF3.ints; obtain ⟨n3, hn3⟩ : ∃ n3, (l ++ [r.limited x]).length = n3 := ⟨_, rfl⟩; rw [hn3] at he3; subst he3; clear hn3; have hbC3 : Below (w.heap.size + 1 + 1 + 1 + 1) wr w3 := (hbC2.alloc hz2 _).trans hb3; have hv3 := (hbC3.cell (p := ⟨w.heap.size + 1 + 1 + 1, 1, none⟩) hzK).trans hv1; have hfr3 := (hbC3.frozen (p := ⟨w.heap.size + 1 + 1 + 1, 1, none⟩) hzK).trans hfr) | (go_simp; go_at_call 67; refine (implLimited r x _).mono ?_; rintro e w2 ⟨rfl, hb2⟩; have hbC2 : Below (w.heap.size + 1 + 1 + 1 + 1) wr w2 := ((Below.refl _ _).drew).trans (hb2.mono hHz); have hv2 := (hbC2.cell (p := ⟨w.heap.size + 1 + 1 + 1, 1, none⟩) hzK).trans hv1; have hF2 := hF.dr.below hb2; have hz2 : w.heap.size + 1 + 1 + 1 < w2.heap.size := Nat.lt_of_lt_of_le hzr hb2.size))
          all_goals
            have hrow3 := row_set (V := .slice A3 n3 c3) ((hbC3.block (w.heap.size + 1 + 1 + 1) hzK).trans HROW.out)
            have hF4 := hF3.setCell (a := ⟨w.heap.size + 1 + 1 + 1, 1, none⟩) hzK (.slice A3 n3 c3)
            have hbw4 : Below (w.heap.size + 1 + 1 + 1) w1 (w3.setCell ⟨w.heap.size + 1 + 1 + 1, 1, none⟩ (.slice A3 n3 c3)) := (hbw.trans (hbC3.mono (Nat.le_succ _))).setCell (Nat.le_refl _) _
            clear hF3 hg3 hb3 hv3 hfr3 hbC3 hF2 hz2 hv2 hbC2
            go_wp2_with fail
            go_roundw
            case rel => exact ⟨i + 1, _, by omega, by go_num, hrow3, by rw [HL.out]; exact hF4, hbw4⟩
            case measure => simp [intOf]; omega
        · have hend : Hid (normTo r xs1 i = normL r xs1) := normTo_end r xs1 i (.inr ⟨by omega, by rw [HAL.out]; omega⟩)
          obtain ⟨Av, cv, rfl, -, -⟩ := hF.ints
          have hqr := (hbw.block (w.heap.size + 1 + 1) (by omega)).trans hq1
          obtain ⟨n, hn⟩ : ∃ n, (normTo r xs1 i).length = n := ⟨_, rfl⟩
          rw [hn] at hF hv1
          have c0 : wr.cell? ⟨w.heap.size + 1 + 1, 0, none⟩ = some (.int .i64 0) := cell_of_row wr _ 0 _ _ (0, 0) hqr
          have c1' : wr.cell? ⟨w.heap.size + 1 + 1, 1, none⟩ = some (.slice none 0 0) := cell_of_row wr _ 1 _ _ (0, 0) hqr
          have f0 : wr.frozen? ⟨w.heap.size + 1 + 1, 0, none⟩ = false := row_free hqr
          have f1 : wr.frozen? ⟨w.heap.size + 1 + 1, 1, none⟩ = false := row_free hqr
          have p1 : ¬ (i : Int) < (xs1.length : Int) := by omega
          clear hn HROW hqr
          go_wp2_with fail
          have hF5 : Fresh w.heap.size ((wr.setCell ⟨w.heap.size + 1 + 1, 0, none⟩ (.int .i64 k1)).setCell ⟨w.heap.size + 1 + 1, 1, none⟩ (.slice Av n cv)) (.slice Av n cv) (normL r xs1) := by
            rw [← hend.out]
            exact ((hF.setCell (a := ⟨w.heap.size + 1 + 1, 0, none⟩) (show w.heap.size + 1 + 1 < _ by omega) _).setCell (a := ⟨w.heap.size + 1 + 1, 1, none⟩) (show w.heap.size + 1 + 1 < _ by omega) _).mono (by omega)
          have hB5 : Below w.heap.size w ((wr.setCell ⟨w.heap.size + 1 + 1, 0, none⟩ (.int .i64 k1)).setCell ⟨w.heap.size + 1 + 1, 1, none⟩ (.slice Av n cv)) := (hBw.setCell (p := ⟨w.heap.size + 1 + 1, 0, none⟩) (show w.heap.size ≤ w.heap.size + 1 + 1 by omega) _).setCell (p := ⟨w.heap.size + 1 + 1, 1, none⟩) (show w.heap.size ≤ w.heap.size + 1 + 1 by omega) _
          exact bodyPost_ret (v := .agg #[.int .i64 k1, .slice Av n cv]) (by simp [results, Try.results37, go_sem, c0, c1']) rfl ⟨_, rfl, hF5, hB5⟩
end Go.Proofs.Ytejacbgogcjbnaa
