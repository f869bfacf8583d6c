/- One event applied to a timer, at both packages. No conditions. -/
import Derived.Test.YtmfmkalgalmbcaaTb
import Derived.Test.YtmfmkalgalmbcaaTc
import Derived.Test.YtmfmkalgalmbcaaTp
namespace Go.Proofs.Ytmfmkalgalmbcaa
open Go.RowKit

theorem implTimed (t : Tm) (k at_ : Int) (w : World) (hv : validT t = true) (h1 : t.la ≤ at_) (h2 : at_ ≤ 360000) : Calls Try.prog 34 #[.agg #[.int .i64 t.ph, .int .i64 t.la, .int .i64 t.ins, .int .i64 t.dn, .int .i64 t.st, .int .i64 t.sp, .int .i64 t.pe, .bool t.fl], .agg #[.int .i64 k, .int .i64 at_]] w (TpPost (stepT t k at_).1 (stepT t k at_).2 w) := by
  obtain ⟨f0, f1, f2, f⟩ := valid_form hv
  obtain ⟨la, hla⟩ : ∃ la, t.la = la := ⟨_, rfl⟩
  obtain ⟨ins, hins⟩ : ∃ ins, t.ins = ins := ⟨_, rfl⟩
  rw [hla] at f1 f2 f h1
  rw [hins] at f0 f1 f
  have beqf : ∀ {a b : Int}, a ≠ b → (a == b) = false := fun h => beq_eq_false_iff_ne.2 h
  rcases f with f | f | f | f | ⟨f, fs⟩
  · subst f
    dsimp only
    by_cases hk : k = 1
    · subst hk
      have e : stepT ⟨0, la, 0, 0, 0, 0, 0, false⟩ 1 at_ = (⟨1, at_, at_, 0, 0, 0, 0, false⟩, true) := by simp [stepT]
      rw [e]
      apply implT0a
    · have e : stepT ⟨0, la, 0, 0, 0, 0, 0, false⟩ k at_ = (⟨0, la, 0, 0, 0, 0, 0, false⟩, false) := by simp [stepT, hk]
      rw [e]
      apply implT0n (q1 := beqf hk)
  · subst f
    dsimp only
    by_cases hk : k = 2
    · subst hk
      have e : stepT ⟨1, la, ins, 0, 0, 0, 0, false⟩ 2 at_ = (⟨2, at_, ins, at_, 0, 0, 0, false⟩, true) := by simp [stepT]
      rw [e]
      apply implT1a
    · by_cases hk2 : k = 6
      · subst hk2
        have e : stepT ⟨1, la, ins, 0, 0, 0, 0, false⟩ 6 at_ = (⟨4, at_, ins, 0, 0, 0, 0, true⟩, true) := by simp [stepT]
        rw [e]
        apply implT1b
      · have e : stepT ⟨1, la, ins, 0, 0, 0, 0, false⟩ k at_ = (⟨1, la, ins, 0, 0, 0, 0, false⟩, false) := by simp [stepT, hk, hk2]
        rw [e]
        apply implT1n (q2 := beqf hk) (q6 := beqf hk2)
  · subst f
    dsimp only
    by_cases hk : k = 3
    · subst hk
      by_cases hd : at_ - la < 55
      · have e : stepT ⟨2, la, ins, la, 0, 0, 0, false⟩ 3 at_ = (⟨1, at_, ins, 0, 0, 0, 0, false⟩, true) := by simp [stepT, hd]
        rw [e]
        apply implT2a (_h1 := h1) (h3 := hd)
      · have e : stepT ⟨2, la, ins, la, 0, 0, 0, false⟩ 3 at_ = (startedT at_ ins, true) := by
          unfold stepT
          dsimp only
          rw [if_neg (by decide), if_neg (by decide), if_pos rfl, if_pos rfl, if_neg hd]
        obtain ⟨p, fl, hsf⟩ := startedForm at_ ins
        rw [e, hsf]
        apply implT2c (hs := hsf) (h00 := f0) (h01 := f1) (_h1 := h1) (h2 := h2) (h3 := hd)
    · by_cases hk2 : k = 6
      · subst hk2
        have e : stepT ⟨2, la, ins, la, 0, 0, 0, false⟩ 6 at_ = (⟨4, at_, ins, 0, 0, 0, 0, true⟩, true) := by simp [stepT]
        rw [e]
        apply implT2b
      · have e : stepT ⟨2, la, ins, la, 0, 0, 0, false⟩ k at_ = (⟨2, la, ins, la, 0, 0, 0, false⟩, false) := by simp [stepT, hk, hk2]
        rw [e]
        apply implT2n (q3 := beqf hk) (q6 := beqf hk2)
  · obtain ⟨p, fl, hsf⟩ := startedForm la ins
    rw [hsf] at f
    subst f
    dsimp only
    by_cases hk : k = 4
    · subst hk
      have e : stepT ⟨3, la, ins, 0, la, 0, p, fl⟩ 4 at_ = (⟨4, at_, ins, 0, la, at_, p, fl⟩, true) := by simp [stepT]
      rw [e]
      apply implT3a
    · by_cases hk2 : k = 6
      · subst hk2
        have e : stepT ⟨3, la, ins, 0, la, 0, p, fl⟩ 6 at_ = (⟨4, at_, ins, 0, la, at_, 0, true⟩, true) := by simp [stepT]
        rw [e]
        apply implT3b
      · have e : stepT ⟨3, la, ins, 0, la, 0, p, fl⟩ k at_ = (⟨3, la, ins, 0, la, 0, p, fl⟩, false) := by simp [stepT, hk, hk2]
        rw [e]
        apply implT3n (q4 := beqf hk) (q6 := beqf hk2)
  · obtain ⟨ph, la', ins', dn, st, sp, pe, fl⟩ := t
    dsimp only at f hla hins ⊢
    subst f hla hins
    rw [stoppedB, decide_eq_true_eq] at fs
    obtain ⟨s1, ⟨s2, s3⟩, -⟩ := fs
    dsimp only at s1 s2 s3
    subst s1
    by_cases hk : k = 5
    · subst hk
      by_cases hp : pe < 2000
      · cases fl
        · have e : stepT ⟨4, la', ins', 0, st, sp, pe, false⟩ 5 at_ = (⟨4, at_, ins', 0, st, sp, pe + 200, false⟩, true) := by simp [stepT, hp]
          rw [e]
          apply implT4a (h0 := s2) (h1 := hp)
        · have e : stepT ⟨4, la', ins', 0, st, sp, pe, true⟩ 5 at_ = (⟨4, la', ins', 0, st, sp, pe, true⟩, false) := by simp [stepT, hp]
          rw [e]
          apply implT4d (h0 := hp)
      · have e : stepT ⟨4, la', ins', 0, st, sp, pe, fl⟩ 5 at_ = (⟨4, la', ins', 0, st, sp, pe, fl⟩, false) := by simp [stepT, hp]
        rw [e]
        apply implT4e (h0 := hp)
    · by_cases hk2 : k = 7
      · subst hk2
        have e : stepT ⟨4, la', ins', 0, st, sp, pe, fl⟩ 7 at_ = (⟨0, at_, 0, 0, 0, 0, 0, false⟩, true) := by simp [stepT]
        rw [e]
        apply implT4b
      · have e : stepT ⟨4, la', ins', 0, st, sp, pe, fl⟩ k at_ = (⟨4, la', ins', 0, st, sp, pe, fl⟩, false) := by simp [stepT, hk, hk2]
        rw [e]
        apply implT4n (q5 := beqf hk) (q7 := beqf hk2)

theorem specTimed (t : Tm) (k at_ : Int) (w : World) (hv : validT t = true) (h1 : t.la ≤ at_) (h2 : at_ ≤ 360000) : Calls Try.prog 29 #[.agg #[.int .i64 t.ph, .int .i64 t.la, .int .i64 t.ins, .int .i64 t.dn, .int .i64 t.st, .int .i64 t.sp, .int .i64 t.pe, .bool t.fl], .agg #[.int .i64 k, .int .i64 at_]] w (TpPost (stepT t k at_).1 (stepT t k at_).2 w) := by
  obtain ⟨f0, f1, f2, f⟩ := valid_form hv
  obtain ⟨la, hla⟩ : ∃ la, t.la = la := ⟨_, rfl⟩
  obtain ⟨ins, hins⟩ : ∃ ins, t.ins = ins := ⟨_, rfl⟩
  rw [hla] at f1 f2 f h1
  rw [hins] at f0 f1 f
  have beqf : ∀ {a b : Int}, a ≠ b → (a == b) = false := fun h => beq_eq_false_iff_ne.2 h
  rcases f with f | f | f | f | ⟨f, fs⟩
  · subst f
    dsimp only
    by_cases hk : k = 1
    · subst hk
      have e : stepT ⟨0, la, 0, 0, 0, 0, 0, false⟩ 1 at_ = (⟨1, at_, at_, 0, 0, 0, 0, false⟩, true) := by simp [stepT]
      rw [e]
      apply specT0a
    · have e : stepT ⟨0, la, 0, 0, 0, 0, 0, false⟩ k at_ = (⟨0, la, 0, 0, 0, 0, 0, false⟩, false) := by simp [stepT, hk]
      rw [e]
      apply specT0n (q1 := beqf hk)
  · subst f
    dsimp only
    by_cases hk : k = 2
    · subst hk
      have e : stepT ⟨1, la, ins, 0, 0, 0, 0, false⟩ 2 at_ = (⟨2, at_, ins, at_, 0, 0, 0, false⟩, true) := by simp [stepT]
      rw [e]
      apply specT1a
    · by_cases hk2 : k = 6
      · subst hk2
        have e : stepT ⟨1, la, ins, 0, 0, 0, 0, false⟩ 6 at_ = (⟨4, at_, ins, 0, 0, 0, 0, true⟩, true) := by simp [stepT]
        rw [e]
        apply specT1b
      · have e : stepT ⟨1, la, ins, 0, 0, 0, 0, false⟩ k at_ = (⟨1, la, ins, 0, 0, 0, 0, false⟩, false) := by simp [stepT, hk, hk2]
        rw [e]
        apply specT1n (q2 := beqf hk) (q6 := beqf hk2)
  · subst f
    dsimp only
    by_cases hk : k = 3
    · subst hk
      by_cases hd : at_ - la < 55
      · have e : stepT ⟨2, la, ins, la, 0, 0, 0, false⟩ 3 at_ = (⟨1, at_, ins, 0, 0, 0, 0, false⟩, true) := by simp [stepT, hd]
        rw [e]
        apply specT2a (_h1 := h1) (h3 := hd)
      · have e : stepT ⟨2, la, ins, la, 0, 0, 0, false⟩ 3 at_ = (startedT at_ ins, true) := by
          unfold stepT
          dsimp only
          rw [if_neg (by decide), if_neg (by decide), if_pos rfl, if_pos rfl, if_neg hd]
        obtain ⟨p, fl, hsf⟩ := startedForm at_ ins
        rw [e, hsf]
        apply specT2c (hs := hsf) (h00 := f0) (h01 := f1) (_h1 := h1) (h2 := h2) (h3 := hd)
    · by_cases hk2 : k = 6
      · subst hk2
        have e : stepT ⟨2, la, ins, la, 0, 0, 0, false⟩ 6 at_ = (⟨4, at_, ins, 0, 0, 0, 0, true⟩, true) := by simp [stepT]
        rw [e]
        apply specT2b
      · have e : stepT ⟨2, la, ins, la, 0, 0, 0, false⟩ k at_ = (⟨2, la, ins, la, 0, 0, 0, false⟩, false) := by simp [stepT, hk, hk2]
        rw [e]
        apply specT2n (q3 := beqf hk) (q6 := beqf hk2)
  · obtain ⟨p, fl, hsf⟩ := startedForm la ins
    rw [hsf] at f
    subst f
    dsimp only
    by_cases hk : k = 4
    · subst hk
      have e : stepT ⟨3, la, ins, 0, la, 0, p, fl⟩ 4 at_ = (⟨4, at_, ins, 0, la, at_, p, fl⟩, true) := by simp [stepT]
      rw [e]
      apply specT3a
    · by_cases hk2 : k = 6
      · subst hk2
        have e : stepT ⟨3, la, ins, 0, la, 0, p, fl⟩ 6 at_ = (⟨4, at_, ins, 0, la, at_, 0, true⟩, true) := by simp [stepT]
        rw [e]
        apply specT3b
      · have e : stepT ⟨3, la, ins, 0, la, 0, p, fl⟩ k at_ = (⟨3, la, ins, 0, la, 0, p, fl⟩, false) := by simp [stepT, hk, hk2]
        rw [e]
        apply specT3n (q4 := beqf hk) (q6 := beqf hk2)
  · obtain ⟨ph, la', ins', dn, st, sp, pe, fl⟩ := t
    dsimp only at f hla hins ⊢
    subst f hla hins
    rw [stoppedB, decide_eq_true_eq] at fs
    obtain ⟨s1, ⟨s2, s3⟩, -⟩ := fs
    dsimp only at s1 s2 s3
    subst s1
    by_cases hk : k = 5
    · subst hk
      by_cases hp : pe < 2000
      · cases fl
        · have e : stepT ⟨4, la', ins', 0, st, sp, pe, false⟩ 5 at_ = (⟨4, at_, ins', 0, st, sp, pe + 200, false⟩, true) := by simp [stepT, hp]
          rw [e]
          apply specT4a (h0 := s2) (h1 := hp)
        · have e : stepT ⟨4, la', ins', 0, st, sp, pe, true⟩ 5 at_ = (⟨4, la', ins', 0, st, sp, pe, true⟩, false) := by simp [stepT, hp]
          rw [e]
          apply specT4d (h0 := hp)
      · have e : stepT ⟨4, la', ins', 0, st, sp, pe, fl⟩ 5 at_ = (⟨4, la', ins', 0, st, sp, pe, fl⟩, false) := by simp [stepT, hp]
        rw [e]
        apply specT4e (h0 := hp)
    · by_cases hk2 : k = 7
      · subst hk2
        have e : stepT ⟨4, la', ins', 0, st, sp, pe, fl⟩ 7 at_ = (⟨0, at_, 0, 0, 0, 0, 0, false⟩, true) := by simp [stepT]
        rw [e]
        apply specT4b
      · have e : stepT ⟨4, la', ins', 0, st, sp, pe, fl⟩ k at_ = (⟨4, la', ins', 0, st, sp, pe, fl⟩, false) := by simp [stepT, hk, hk2]
        rw [e]
        apply specT4n (q5 := beqf hk) (q7 := beqf hk2)

theorem specIn {a la ins : Int} (_h0 : 0 ≤ ins) (_h1 : ins ≤ la) (h : inR a la 360000 = false) : inR a 0 360000 = false ∨ (inR a 0 360000 = true ∧ a < la) := by
  rw [inR_no] at h
  by_cases h2 : 0 ≤ a ∧ a ≤ 360000
  · exact .inr ⟨inR_iff.2 h2, by omega⟩
  · exact .inl (inR_no.2 h2)
theorem specIn2 {a la ins : Int} (h0 : 0 ≤ ins) (h1 : ins ≤ la) (h : inR a la 360000 = true) : inR a 0 360000 = true ∧ ¬ a < la := by
  rw [inR_iff] at h
  exact ⟨inR_iff.2 ⟨by omega, h.2⟩, by omega⟩
theorem alloc3_0 (w : World) (a b c : Obj) : (((w.alloc a).alloc b).alloc c).heap[w.heap.size]? = some a := rowB (by exact (Below.refl _ _).alloc (Nat.le_refl _) _) (alloc2_0 w a b)
theorem alloc3_1 (w : World) (a b c : Obj) : (((w.alloc a).alloc b).alloc c).heap[w.heap.size + 1]? = some b := rowB (by exact (Below.refl _ _).alloc (Nat.le_refl _) _) (alloc2_1 w a b)
set_option maxHeartbeats 8000000 in
theorem implApply (t : Tm) (k at_ : Int) (w : World) : Calls Try.prog 20 #[.agg #[.int .i64 t.ph, .int .i64 t.la, .int .i64 t.ins, .int .i64 t.dn, .int .i64 t.st, .int .i64 t.sp, .int .i64 t.pe, .bool t.fl], .agg #[.int .i64 k, .int .i64 at_]] w (TpPost (applyT t k at_).1 (applyT t k at_).2 w) := by
  cases hv : validT t
  · have e : applyT t k at_ = (.zero, false) := by rw [applyT, hv]; rfl
    rw [e]
    have hval := implValid t
    rw [hv] at hval
    have HV := Lib.hid hval
    obtain ⟨ph, la, ins, dn, st, sp, pe, fl⟩ := t
    dsimp only at *
    clear hval hv e
    go_enter Try.func20, Try.ntmps20
    go_wp2_with fail
    refine (HV.out _).mono ?_
    rintro e w1 ⟨rfl, hb1⟩
    have hB1 : Below w.heap.size w w1 := belowStep hb1 (by exact (by repeat (first | exact Below.refl _ _ | assumption | refine Below.setCell ?_ (by first | omega | (simp <;> omega)) _ | refine Below.alloc ?_ (by first | omega | (simp <;> omega)) _ | refine Below.drew ?_)))
    have rH := rowB hb1 (by exact alloc3_2 w _ _ _)
    obtain ⟨⟨j0, j1, j2, j3, j4, j5, j6, j7⟩, f0, f1, f2, f3, f4, f5, f6, f7⟩ := zcells rH
    have HR := Lib.hid (set8_row rH .zero)
    have HB := Lib.hid (set8_below hB1 (H := w.heap.size + 1 + 1) (by omega) .zero)
    unfold Set8 at HR HB
    clear hb1 rH hB1
    go_wp2_with fail
    obtain ⟨⟨k0, k1, k2, k3, k4, k5, k6, k7⟩, -⟩ := zcells HR.out
    exact bodyPost_ret (v := .tuple #[.agg #[.int .i64 0, .int .i64 0, .int .i64 0, .int .i64 0, .int .i64 0, .int .i64 0, .int .i64 0, .bool false], .bool false]) (by simp only [results, Try.results20]; simp [go_sem, j0, j1, j2, j3, j4, j5, j6, j7]) rfl ⟨rfl, HB.out⟩
  · have hval := implValid t
    rw [hv] at hval
    have HV := Lib.hid hval
    cases hr : inR at_ t.la 360000
    · have e : applyT t k at_ = (t, false) := by rw [applyT, hv, hr]; rfl
      rw [e]
      obtain ⟨ph, la, ins, dn, st, sp, pe, fl⟩ := t
      dsimp only at *
      have HVF := Lib.hid (valid_form hv)
      have HRR := Lib.hid hr
      clear hval hv e hr
      go_enter Try.func20, Try.ntmps20
      go_wp2_with fail
      refine (HV.out _).mono ?_
      rintro e w1 ⟨rfl, hb1⟩
      have hB1 : Below w.heap.size w w1 := belowStep hb1 (by exact (by repeat (first | exact Below.refl _ _ | assumption | refine Below.setCell ?_ (by first | omega | (simp <;> omega)) _ | refine Below.alloc ?_ (by first | omega | (simp <;> omega)) _ | refine Below.drew ?_)))
      have rT := rowB hb1 (by exact alloc3_0 w _ _ _)
      have rE := rowB hb1 (by exact alloc3_1 w _ _ _)
      have rH := rowB hb1 (by exact alloc3_2 w _ _ _)
      obtain ⟨⟨i0, i1, i2, i3, i4, i5, i6, i7⟩, -⟩ := zcells rT
      have e0 := cell_of_row _ _ 0 _ _ (0, 0) rE
      have e1 := cell_of_row _ _ 1 _ _ (0, 0) rE
      obtain ⟨⟨j0, j1, j2, j3, j4, j5, j6, j7⟩, f0, f1, f2, f3, f4, f5, f6, f7⟩ := zcells rH
      have HR := Lib.hid (set8_row rH ⟨ph, la, ins, dn, st, sp, pe, fl⟩)
      have HB := Lib.hid (set8_below hB1 (H := w.heap.size + 1 + 1) (by omega) ⟨ph, la, ins, dn, st, sp, pe, fl⟩)
      unfold Set8 at HR HB
      clear hb1 rH rT rE hB1
      (have hin := HRR.out; go_wp2_with (go_at_call 31; refine (within_any _ _ _ _).mono ?_; rintro e w' ⟨rfl, rfl⟩))
      all_goals
        obtain ⟨⟨k0, k1, k2, k3, k4, k5, k6, k7⟩, -⟩ := zcells HR.out
        exact bodyPost_ret (v := .tuple #[.agg #[.int .i64 ph, .int .i64 la, .int .i64 ins, .int .i64 dn, .int .i64 st, .int .i64 sp, .int .i64 pe, .bool fl], .bool false]) (by simp only [results, Try.results20]; simp [go_sem, k0, k1, k2, k3, k4, k5, k6, k7]) rfl ⟨rfl, HB.out⟩
    · have e : applyT t k at_ = stepT t k at_ := by rw [applyT, hv, hr]; rfl
      rw [e]
      have hrb := inR_iff.1 hr
      have HT := Lib.hid (fun w => implTimed t k at_ w hv hrb.1 hrb.2)
      obtain ⟨t2, ht2⟩ : ∃ t2, stepT t k at_ = t2 := ⟨_, rfl⟩
      rw [ht2] at HT ⊢
      obtain ⟨⟨ph2, la2, ins2, dn2, st2, sp2, pe2, fl2⟩, ok⟩ := t2
      obtain ⟨ph, la, ins, dn, st, sp, pe, fl⟩ := t
      dsimp only at *
      have HVF := Lib.hid (valid_form hv)
      have HRR := Lib.hid hr
      clear hval hv e hr ht2 hrb
      go_enter Try.func20, Try.ntmps20
      go_wp2_with fail
      refine (HV.out _).mono ?_
      rintro e w1 ⟨rfl, hb1⟩
      have hB1 : Below w.heap.size w w1 := belowStep hb1 (by exact (by repeat (first | exact Below.refl _ _ | assumption | refine Below.setCell ?_ (by first | omega | (simp <;> omega)) _ | refine Below.alloc ?_ (by first | omega | (simp <;> omega)) _ | refine Below.drew ?_)))
      have rT := rowB hb1 (by exact alloc3_0 w _ _ _)
      have rE := rowB hb1 (by exact alloc3_1 w _ _ _)
      have RH := Lib.hid (rowB hb1 (by exact alloc3_2 w _ _ _))
      obtain ⟨⟨i0, i1, i2, i3, i4, i5, i6, i7⟩, -⟩ := zcells rT
      have e0 := cell_of_row _ _ 0 _ _ (0, 0) rE
      have e1 := cell_of_row _ _ 1 _ _ (0, 0) rE
      clear hb1 rT rE
      (have hin := HRR.out; go_wp2_with (go_at_call 31; refine (within_any _ _ _ _).mono ?_; rintro e w' ⟨rfl, rfl⟩); clear hin)
      refine (HT.out _).mono ?_
      rintro e w2 ⟨rfl, hb2⟩
      have hB2 : Below w.heap.size w w2 := belowStep hb2 hB1
      have rH := rowB hb2 RH.out
      obtain ⟨⟨j0, j1, j2, j3, j4, j5, j6, j7⟩, f0, f1, f2, f3, f4, f5, f6, f7⟩ := zcells rH
      have HR := Lib.hid (set8_row rH ⟨ph2, la2, ins2, dn2, st2, sp2, pe2, fl2⟩)
      have HB := Lib.hid (set8_below hB2 (H := w.heap.size + 1 + 1) (by omega) ⟨ph2, la2, ins2, dn2, st2, sp2, pe2, fl2⟩)
      unfold Set8 at HR HB
      clear hb2 rH hB2 hB1 i0 i1 i2 i3 i4 i5 i6 i7 e0 e1
      go_wp2_with fail
      obtain ⟨⟨k0, k1, k2, k3, k4, k5, k6, k7⟩, -⟩ := zcells HR.out
      exact bodyPost_ret (v := .tuple #[.agg #[.int .i64 ph2, .int .i64 la2, .int .i64 ins2, .int .i64 dn2, .int .i64 st2, .int .i64 sp2, .int .i64 pe2, .bool fl2], .bool ok]) (by simp only [results, Try.results20]; simp [go_sem, k0, k1, k2, k3, k4, k5, k6, k7]) rfl ⟨rfl, HB.out⟩

set_option maxHeartbeats 8000000 in
theorem specApply (t : Tm) (k at_ : Int) (w : World) : Calls Try.prog 17 #[.agg #[.int .i64 t.ph, .int .i64 t.la, .int .i64 t.ins, .int .i64 t.dn, .int .i64 t.st, .int .i64 t.sp, .int .i64 t.pe, .bool t.fl], .agg #[.int .i64 k, .int .i64 at_]] w (TpPost (applyT t k at_).1 (applyT t k at_).2 w) := by
  cases hv : validT t
  · have e : applyT t k at_ = (.zero, false) := by rw [applyT, hv]; rfl
    rw [e]
    have hval := specValid t
    rw [hv] at hval
    have HV := Lib.hid hval
    obtain ⟨ph, la, ins, dn, st, sp, pe, fl⟩ := t
    dsimp only at *
    clear hval hv e
    go_enter Try.func17, Try.ntmps17
    go_wp2_with fail
    refine (HV.out _).mono ?_
    rintro e w1 ⟨rfl, hb1⟩
    have hB1 : Below w.heap.size w w1 := belowStep hb1 (by exact (by repeat (first | exact Below.refl _ _ | assumption | refine Below.setCell ?_ (by first | omega | (simp <;> omega)) _ | refine Below.alloc ?_ (by first | omega | (simp <;> omega)) _ | refine Below.drew ?_)))
    have rH := rowB hb1 (by exact alloc3_2 w _ _ _)
    obtain ⟨⟨j0, j1, j2, j3, j4, j5, j6, j7⟩, f0, f1, f2, f3, f4, f5, f6, f7⟩ := zcells rH
    have HR := Lib.hid (set8_row rH .zero)
    have HB := Lib.hid (set8_below hB1 (H := w.heap.size + 1 + 1) (by omega) .zero)
    unfold Set8 at HR HB
    clear hb1 rH hB1
    go_wp2_with fail
    obtain ⟨⟨k0, k1, k2, k3, k4, k5, k6, k7⟩, -⟩ := zcells HR.out
    exact bodyPost_ret (v := .tuple #[.agg #[.int .i64 0, .int .i64 0, .int .i64 0, .int .i64 0, .int .i64 0, .int .i64 0, .int .i64 0, .bool false], .bool false]) (by simp only [results, Try.results17]; simp [go_sem, j0, j1, j2, j3, j4, j5, j6, j7]) rfl ⟨rfl, HB.out⟩
  · have hval := specValid t
    rw [hv] at hval
    have HV := Lib.hid hval
    cases hr : inR at_ t.la 360000
    · have e : applyT t k at_ = (t, false) := by rw [applyT, hv, hr]; rfl
      rw [e]
      obtain ⟨ph, la, ins, dn, st, sp, pe, fl⟩ := t
      dsimp only at *
      have HVF := Lib.hid (valid_form hv)
      have HRR := Lib.hid hr
      clear hval hv e hr
      go_enter Try.func17, Try.ntmps17
      go_wp2_with fail
      refine (HV.out _).mono ?_
      rintro e w1 ⟨rfl, hb1⟩
      have hB1 : Below w.heap.size w w1 := belowStep hb1 (by exact (by repeat (first | exact Below.refl _ _ | assumption | refine Below.setCell ?_ (by first | omega | (simp <;> omega)) _ | refine Below.alloc ?_ (by first | omega | (simp <;> omega)) _ | refine Below.drew ?_)))
      have rT := rowB hb1 (by exact alloc3_0 w _ _ _)
      have rE := rowB hb1 (by exact alloc3_1 w _ _ _)
      have rH := rowB hb1 (by exact alloc3_2 w _ _ _)
      obtain ⟨⟨i0, i1, i2, i3, i4, i5, i6, i7⟩, -⟩ := zcells rT
      have e0 := cell_of_row _ _ 0 _ _ (0, 0) rE
      have e1 := cell_of_row _ _ 1 _ _ (0, 0) rE
      obtain ⟨⟨j0, j1, j2, j3, j4, j5, j6, j7⟩, f0, f1, f2, f3, f4, f5, f6, f7⟩ := zcells rH
      have HR := Lib.hid (set8_row rH ⟨ph, la, ins, dn, st, sp, pe, fl⟩)
      have HB := Lib.hid (set8_below hB1 (H := w.heap.size + 1 + 1) (by omega) ⟨ph, la, ins, dn, st, sp, pe, fl⟩)
      unfold Set8 at HR HB
      clear hb1 rH rT rE hB1
      (rcases specIn HVF.out.1 HVF.out.2.1 HRR.out with hin | ⟨hin, hlt⟩ <;> ( go_wp2_with (go_at_call 25; refine (specTime _ _).mono ?_; rintro e w' ⟨rfl, rfl⟩)))
      all_goals
        obtain ⟨⟨k0, k1, k2, k3, k4, k5, k6, k7⟩, -⟩ := zcells HR.out
        exact bodyPost_ret (v := .tuple #[.agg #[.int .i64 ph, .int .i64 la, .int .i64 ins, .int .i64 dn, .int .i64 st, .int .i64 sp, .int .i64 pe, .bool fl], .bool false]) (by simp only [results, Try.results17]; simp [go_sem, k0, k1, k2, k3, k4, k5, k6, k7]) rfl ⟨rfl, HB.out⟩
    · have e : applyT t k at_ = stepT t k at_ := by rw [applyT, hv, hr]; rfl
      rw [e]
      have hrb := inR_iff.1 hr
      have HT := Lib.hid (fun w => specTimed t k at_ w hv hrb.1 hrb.2)
      obtain ⟨t2, ht2⟩ : ∃ t2, stepT t k at_ = t2 := ⟨_, rfl⟩
      rw [ht2] at HT ⊢
      obtain ⟨⟨ph2, la2, ins2, dn2, st2, sp2, pe2, fl2⟩, ok⟩ := t2
      obtain ⟨ph, la, ins, dn, st, sp, pe, fl⟩ := t
      dsimp only at *
      have HVF := Lib.hid (valid_form hv)
      have HRR := Lib.hid hr
      clear hval hv e hr ht2 hrb
      go_enter Try.func17, Try.ntmps17
      go_wp2_with fail
      refine (HV.out _).mono ?_
      rintro e w1 ⟨rfl, hb1⟩
      have hB1 : Below w.heap.size w w1 := belowStep hb1 (by exact (by repeat (first | exact Below.refl _ _ | assumption | refine Below.setCell ?_ (by first | omega | (simp <;> omega)) _ | refine Below.alloc ?_ (by first | omega | (simp <;> omega)) _ | refine Below.drew ?_)))
      have rT := rowB hb1 (by exact alloc3_0 w _ _ _)
      have rE := rowB hb1 (by exact alloc3_1 w _ _ _)
      have RH := Lib.hid (rowB hb1 (by exact alloc3_2 w _ _ _))
      obtain ⟨⟨i0, i1, i2, i3, i4, i5, i6, i7⟩, -⟩ := zcells rT
      have e0 := cell_of_row _ _ 0 _ _ (0, 0) rE
      have e1 := cell_of_row _ _ 1 _ _ (0, 0) rE
      clear hb1 rT rE
      (obtain ⟨hin, hlt⟩ := specIn2 HVF.out.1 HVF.out.2.1 HRR.out; go_wp2_with (go_at_call 25; refine (specTime _ _).mono ?_; rintro e w' ⟨rfl, rfl⟩); clear hin hlt)
      refine (HT.out _).mono ?_
      rintro e w2 ⟨rfl, hb2⟩
      have hB2 : Below w.heap.size w w2 := belowStep hb2 hB1
      have rH := rowB hb2 RH.out
      obtain ⟨⟨j0, j1, j2, j3, j4, j5, j6, j7⟩, f0, f1, f2, f3, f4, f5, f6, f7⟩ := zcells rH
      have HR := Lib.hid (set8_row rH ⟨ph2, la2, ins2, dn2, st2, sp2, pe2, fl2⟩)
      have HB := Lib.hid (set8_below hB2 (H := w.heap.size + 1 + 1) (by omega) ⟨ph2, la2, ins2, dn2, st2, sp2, pe2, fl2⟩)
      unfold Set8 at HR HB
      clear hb2 rH hB2 hB1 i0 i1 i2 i3 i4 i5 i6 i7 e0 e1
      go_wp2_with fail
      obtain ⟨⟨k0, k1, k2, k3, k4, k5, k6, k7⟩, -⟩ := zcells HR.out
      exact bodyPost_ret (v := .tuple #[.agg #[.int .i64 ph2, .int .i64 la2, .int .i64 ins2, .int .i64 dn2, .int .i64 st2, .int .i64 sp2, .int .i64 pe2, .bool fl2], .bool ok]) (by simp only [results, Try.results17]; simp [go_sem, k0, k1, k2, k3, k4, k5, k6, k7]) rfl ⟨rfl, HB.out⟩

end Go.Proofs.Ytmfmkalgalmbcaa
