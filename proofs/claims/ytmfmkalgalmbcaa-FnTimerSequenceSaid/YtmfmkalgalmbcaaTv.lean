/- A timer's validity, at both packages. No conditions. -/
import Derived.Test.YtmfmkalgalmbcaaTm
import Derived.BigQuiet
import Derived.Deep.QuietTactic
namespace Go.Proofs.Ytmfmkalgalmbcaa
open Go.RowKit

set_option maxHeartbeats 4000000 in
theorem specStopped (t : Tm) (w : World) : Calls Try.prog 28 #[.agg #[.int .i64 t.ph, .int .i64 t.la, .int .i64 t.ins, .int .i64 t.dn, .int .i64 t.st, .int .i64 t.sp, .int .i64 t.pe, .bool t.fl]] w (ReadsBool (inR t.ins 0 t.la && stoppedB t) w) := by
  obtain ⟨ph, la, ins, dn, st, sp, pe, fl⟩ := t
  dsimp only
  by_cases h1 : dn = 0
  · subst h1
    by_cases h0 : 0 ≤ ins ∧ ins ≤ la
    · have hr0 := inR_iff.2 h0
      obtain ⟨h0a, h0b⟩ := h0
      by_cases h2 : 0 ≤ pe ∧ pe ≤ 2000
      · have hr := inR_iff.2 h2
        obtain ⟨h2a, h2b⟩ := h2
        by_cases h3 : pe % 200 = 0
        · have h3a : (pe % 200 != 0) = false := by simpa using h3
          have H3 := Lib.hid h3
          clear h3
          by_cases h4 : ins ≤ st ∧ st ≤ la
          · have hr4 := inR_iff.2 h4
            obtain ⟨h4a, h4b⟩ := h4
            by_cases h5 : st ≤ sp ∧ sp ≤ la
            · have hr5 := inR_iff.2 h5
              obtain ⟨h5a, h5b⟩ := h5
              cases fl
              all_goals
                go_enter Try.func28, Try.ntmps28
                go_wp2_with (go_at_call 26; refine (inRange_any _ _ _ _).mono ?_; rintro e w' ⟨rfl, rfl⟩)
                all_goals
                  go_ret
                  exact ⟨ret_bool (by have := H3.out; rw [Bool.eq_iff_iff]; simp [stoppedB, inR] at * <;> omega), (by repeat (first | exact Below.refl _ _ | assumption | refine Below.setCell ?_ (by first | omega | (simp <;> omega)) _ | refine Below.alloc ?_ (by first | omega | (simp <;> omega)) _ | refine Below.drew ?_))⟩
            · have hr5 := inR_no.2 h5
              cases fl
              all_goals
                go_enter Try.func28, Try.ntmps28
                go_wp2_with (go_at_call 26; refine (inRange_any _ _ _ _).mono ?_; rintro e w' ⟨rfl, rfl⟩)
                all_goals
                  go_ret
                  exact ⟨ret_bool (by have := H3.out; rw [Bool.eq_iff_iff]; simp [stoppedB, inR] at * <;> omega), (by repeat (first | exact Below.refl _ _ | assumption | refine Below.setCell ?_ (by first | omega | (simp <;> omega)) _ | refine Below.alloc ?_ (by first | omega | (simp <;> omega)) _ | refine Below.drew ?_))⟩
          · have hr4 := inR_no.2 h4
            cases fl
            all_goals
              go_enter Try.func28, Try.ntmps28
              go_wp2_with (go_at_call 26; refine (inRange_any _ _ _ _).mono ?_; rintro e w' ⟨rfl, rfl⟩)
              all_goals
                go_ret
                exact ⟨ret_bool (by have := H3.out; rw [Bool.eq_iff_iff]; simp [stoppedB, inR] at * <;> omega), (by repeat (first | exact Below.refl _ _ | assumption | refine Below.setCell ?_ (by first | omega | (simp <;> omega)) _ | refine Below.alloc ?_ (by first | omega | (simp <;> omega)) _ | refine Below.drew ?_))⟩
        · have h3a : (pe % 200 != 0) = true := by simpa using h3
          have H3 := Lib.hid h3
          clear h3
          go_enter Try.func28, Try.ntmps28
          go_wp2_with (go_at_call 26; refine (inRange_any _ _ _ _).mono ?_; rintro e w' ⟨rfl, rfl⟩)
          go_ret
          exact ⟨ret_bool (by have := H3.out; rw [Bool.eq_iff_iff]; simp [stoppedB, inR] at * <;> omega), (by repeat (first | exact Below.refl _ _ | assumption | refine Below.setCell ?_ (by first | omega | (simp <;> omega)) _ | refine Below.alloc ?_ (by first | omega | (simp <;> omega)) _ | refine Below.drew ?_))⟩
      · have hr := inR_no.2 h2
        go_enter Try.func28, Try.ntmps28
        go_wp2_with (go_at_call 26; refine (inRange_any _ _ _ _).mono ?_; rintro e w' ⟨rfl, rfl⟩)
        go_ret
        exact ⟨ret_bool (by simp [stoppedB] <;> omega), (by repeat (first | exact Below.refl _ _ | assumption | refine Below.setCell ?_ (by first | omega | (simp <;> omega)) _ | refine Below.alloc ?_ (by first | omega | (simp <;> omega)) _ | refine Below.drew ?_))⟩
    · have hr0 := inR_no.2 h0
      go_enter Try.func28, Try.ntmps28
      go_wp2_with (go_at_call 26; refine (inRange_any _ _ _ _).mono ?_; rintro e w' ⟨rfl, rfl⟩)
      go_ret
      exact ⟨ret_bool (by simp [hr0]), (by repeat (first | exact Below.refl _ _ | assumption | refine Below.setCell ?_ (by first | omega | (simp <;> omega)) _ | refine Below.alloc ?_ (by first | omega | (simp <;> omega)) _ | refine Below.drew ?_))⟩
  · have h1a : (dn != 0) = true := by simpa using h1
    go_enter Try.func28, Try.ntmps28
    go_wp2_with fail
    go_ret
    exact ⟨ret_bool (by simp [stoppedB, h1]), (by repeat (first | exact Below.refl _ _ | assumption | refine Below.setCell ?_ (by first | omega | (simp <;> omega)) _ | refine Below.alloc ?_ (by first | omega | (simp <;> omega)) _ | refine Below.drew ?_))⟩
def validT (t : Tm) : Bool := inR t.la 0 360000 && (inR t.ins 0 t.la && (if t.ph = 0 then tmEq t ⟨0, t.la, 0, 0, 0, 0, 0, false⟩ else if t.ph = 1 then tmEq t ⟨1, t.la, t.ins, 0, 0, 0, 0, false⟩ else if t.ph = 2 then tmEq t ⟨2, t.la, t.ins, t.la, 0, 0, 0, false⟩ else if t.ph = 3 then tmEq t (startedT t.la t.ins) else if t.ph = 4 then stoppedB t else false))
theorem isTime_any (x : Int) (w : World) : Calls Try.prog 30 #[.int .i64 x] w fun e w' => e = .returned (.bool (inR x 0 360000)) ∧ w = w' := by
  go_enter Try.func30, Try.ntmps30
  go_wp2_with (go_at_call 31; refine (within_any _ _ _ _).mono ?_; rintro e w' ⟨rfl, rfl⟩)
  go_ret
  exact ⟨rfl, rfl⟩
theorem specTime (x : Int) (w : World) : Calls Try.prog 25 #[.int .i64 x] w fun e w' => e = .returned (.bool (inR x 0 360000)) ∧ w = w' := by
  go_enter Try.func25, Try.ntmps25
  go_wp2_with (go_at_call 26; refine (inRange_any _ _ _ _).mono ?_; rintro e w' ⟨rfl, rfl⟩)
  go_ret
  exact ⟨rfl, rfl⟩
theorem startedForm (la ins : Int) : ∃ p f, startedT la ins = ⟨3, la, ins, 0, la, 0, p, f⟩ := by
  unfold startedT
  split
  · exact ⟨_, _, rfl⟩
  · exact ⟨_, _, rfl⟩
theorem kept8 {B H : Nat} {a0 a1 a2 a3 a4 a5 a6 a7 : Value} {w w' : World} (hb : Below B w w') (hH : H < B) (h : w.heap[H]? = some (.cells #[a0, a1, a2, a3, a4, a5, a6, a7] 26 (0, 0))) :
    w'.cell? ⟨H, 0, none⟩ = some a0 ∧ w'.cell? ⟨H, 1, none⟩ = some a1 ∧ w'.cell? ⟨H, 2, none⟩ = some a2 ∧ w'.cell? ⟨H, 3, none⟩ = some a3 ∧ w'.cell? ⟨H, 4, none⟩ = some a4 ∧ w'.cell? ⟨H, 5, none⟩ = some a5 ∧ w'.cell? ⟨H, 6, none⟩ = some a6 ∧ w'.cell? ⟨H, 7, none⟩ = some a7 := by
  have h2 := (hb.block H hH).trans h
  exact ⟨cell_of_row _ _ 0 _ _ (0, 0) h2, cell_of_row _ _ 1 _ _ (0, 0) h2, cell_of_row _ _ 2 _ _ (0, 0) h2, cell_of_row _ _ 3 _ _ (0, 0) h2, cell_of_row _ _ 4 _ _ (0, 0) h2, cell_of_row _ _ 5 _ _ (0, 0) h2, cell_of_row _ _ 6 _ _ (0, 0) h2, cell_of_row _ _ 7 _ _ (0, 0) h2⟩
set_option maxHeartbeats 2000000 in
theorem implValidNo (t : Tm) (w : World) (h1 : 0 ≤ t.la ∧ t.la ≤ 360000) (h2 : ¬ (0 ≤ t.ins ∧ t.ins ≤ t.la)) : Calls Try.prog 19 #[.agg #[.int .i64 t.ph, .int .i64 t.la, .int .i64 t.ins, .int .i64 t.dn, .int .i64 t.st, .int .i64 t.sp, .int .i64 t.pe, .bool t.fl]] w (ReadsBool (validT t) w) := by
  obtain ⟨ph, la, ins, dn, st, sp, pe, fl⟩ := t
  dsimp only at *
  have hr1 := inR_iff.2 h1
  have hr2 := inR_no.2 h2
  go_enter Try.func19, Try.ntmps19
  go_wp2_with (first | (go_at_call 30; refine (isTime_any _ _).mono ?_; rintro e w' ⟨rfl, rfl⟩) | (go_at_call 31; refine (within_any _ _ _ _).mono ?_; rintro e w' ⟨rfl, rfl⟩))
  go_ret
  exact ⟨ret_bool (by simp [validT, hr1, hr2]), (by repeat (first | exact Below.refl _ _ | assumption | refine Below.setCell ?_ (by first | omega | (simp <;> omega)) _ | refine Below.alloc ?_ (by first | omega | (simp <;> omega)) _ | refine Below.drew ?_))⟩
set_option maxHeartbeats 4000000 in
theorem specValidNo (t : Tm) (w : World) (h1 : 0 ≤ t.la ∧ t.la ≤ 360000) (h2 : ¬ (0 ≤ t.ins ∧ t.ins ≤ t.la)) : Calls Try.prog 14 #[.agg #[.int .i64 t.ph, .int .i64 t.la, .int .i64 t.ins, .int .i64 t.dn, .int .i64 t.st, .int .i64 t.sp, .int .i64 t.pe, .bool t.fl]] w (ReadsBool (validT t) w) := by
  obtain ⟨ph, la, ins, dn, st, sp, pe, fl⟩ := t
  dsimp only at *
  have heq := eqTm
  have hr1 := inR_iff.2 h1
  have hr2 := inR_no.2 h2
  have HI : Hid (ins ≠ 0) := by unfold Hid; omega
  have hv : Hid (validT ⟨ph, la, ins, dn, st, sp, pe, fl⟩ = false) := by unfold Hid; simp [validT, hr2]
  rw [hv.out]
  clear hv h1 h2
  by_cases p0 : ph = 0
  · subst p0
    go_enter Try.func14, Try.ntmps14
    go_wp2_with (first | (go_at_call 25; refine (specTime _ _).mono ?_; rintro e w' ⟨rfl, rfl⟩) | (go_at_call 26; refine (inRange_any _ _ _ _).mono ?_; rintro e w' ⟨rfl, rfl⟩))
    all_goals
      go_ret
      exact ⟨ret_bool (by simp [tmEq, HI.out]), (by repeat (first | exact Below.refl _ _ | assumption | refine Below.setCell ?_ (by first | omega | (simp <;> omega)) _ | refine Below.alloc ?_ (by first | omega | (simp <;> omega)) _ | refine Below.drew ?_))⟩
  by_cases p1 : ph = 1
  · subst p1
    go_enter Try.func14, Try.ntmps14
    go_wp2_with (first | (go_at_call 25; refine (specTime _ _).mono ?_; rintro e w' ⟨rfl, rfl⟩) | (go_at_call 26; refine (inRange_any _ _ _ _).mono ?_; rintro e w' ⟨rfl, rfl⟩))
    all_goals
      go_ret
      exact ⟨ret_bool (by simp_all), (by repeat (first | exact Below.refl _ _ | assumption | refine Below.setCell ?_ (by first | omega | (simp <;> omega)) _ | refine Below.alloc ?_ (by first | omega | (simp <;> omega)) _ | refine Below.drew ?_))⟩
  by_cases p2 : ph = 2
  · subst p2
    go_enter Try.func14, Try.ntmps14
    go_wp2_with (first | (go_at_call 25; refine (specTime _ _).mono ?_; rintro e w' ⟨rfl, rfl⟩) | (go_at_call 26; refine (inRange_any _ _ _ _).mono ?_; rintro e w' ⟨rfl, rfl⟩))
    all_goals
      go_ret
      exact ⟨ret_bool (by simp_all), (by repeat (first | exact Below.refl _ _ | assumption | refine Below.setCell ?_ (by first | omega | (simp <;> omega)) _ | refine Below.alloc ?_ (by first | omega | (simp <;> omega)) _ | refine Below.drew ?_))⟩
  by_cases p3 : ph = 3
  · subst p3
    clear p0 p1 p2
    go_enter Try.func14, Try.ntmps14
    go_wp2_with (first | (go_at_call 25; refine (specTime _ _).mono ?_; rintro e w' ⟨rfl, rfl⟩) | (go_at_call 26; refine (inRange_any _ _ _ _).mono ?_; rintro e w' ⟨rfl, rfl⟩))
    go_quiet ((go_at_call 26; exact quietLeft (inRange_any _ _ _ _)))
    go_wp2_with fail
    go_ret
    exact ⟨rfl, belowDrewN (by repeat (first | exact Below.refl _ _ | assumption | refine Below.setCell ?_ (by first | omega | (simp <;> omega)) _ | refine Below.alloc ?_ (by first | omega | (simp <;> omega)) _ | refine Below.drew ?_)) _⟩
  by_cases p4 : ph = 4
  · subst p4
    go_enter Try.func14, Try.ntmps14
    go_wp2_with (first | (go_at_call 25; refine (specTime _ _).mono ?_; rintro e w' ⟨rfl, rfl⟩) | (go_at_call 26; refine (inRange_any _ _ _ _).mono ?_; rintro e w' ⟨rfl, rfl⟩) | (go_at_call 28; refine (specStopped ⟨4, la, ins, dn, st, sp, pe, fl⟩ _).mono ?_; rintro e w1 ⟨rfl, hb1⟩))
    go_ret
    exact ⟨ret_bool (by simp), belowStep hb1 (by exact (by repeat (first | exact Below.refl _ _ | assumption | refine Below.setCell ?_ (by first | omega | (simp <;> omega)) _ | refine Below.alloc ?_ (by first | omega | (simp <;> omega)) _ | refine Below.drew ?_)))⟩
  · have q0 : (ph == 0) = false := beq_eq_false_iff_ne.2 p0
    have q1 : (ph == 1) = false := beq_eq_false_iff_ne.2 p1
    have q2 : (ph == 2) = false := beq_eq_false_iff_ne.2 p2
    have q3 : (ph == 3) = false := beq_eq_false_iff_ne.2 p3
    have q4 : (ph == 4) = false := beq_eq_false_iff_ne.2 p4
    go_enter Try.func14, Try.ntmps14
    go_wp2_with (first | (go_at_call 25; refine (specTime _ _).mono ?_; rintro e w' ⟨rfl, rfl⟩) | (go_at_call 26; refine (inRange_any _ _ _ _).mono ?_; rintro e w' ⟨rfl, rfl⟩))
    go_ret
    exact ⟨rfl, (by repeat (first | exact Below.refl _ _ | assumption | refine Below.setCell ?_ (by first | omega | (simp <;> omega)) _ | refine Below.alloc ?_ (by first | omega | (simp <;> omega)) _ | refine Below.drew ?_))⟩
set_option maxHeartbeats 8000000 in
theorem implValid (t : Tm) (w : World) : Calls Try.prog 19 #[.agg #[.int .i64 t.ph, .int .i64 t.la, .int .i64 t.ins, .int .i64 t.dn, .int .i64 t.st, .int .i64 t.sp, .int .i64 t.pe, .bool t.fl]] w (ReadsBool (validT t) w) := by
  obtain ⟨ph, la, ins, dn, st, sp, pe, fl⟩ := t
  dsimp only
  have heq := eqTm
  by_cases h1 : 0 ≤ la ∧ la ≤ 360000
  · have hr1 := inR_iff.2 h1
    by_cases h2 : 0 ≤ ins ∧ ins ≤ la
    · have hr2 := inR_iff.2 h2
      obtain ⟨h1a, h1b⟩ := h1
      obtain ⟨h2a, h2b⟩ := h2
      by_cases p0 : ph = 0
      · subst p0
        go_enter Try.func19, Try.ntmps19
        go_wp2_with (first | (go_at_call 30; refine (isTime_any _ _).mono ?_; rintro e w' ⟨rfl, rfl⟩) | (go_at_call 31; refine (within_any _ _ _ _).mono ?_; rintro e w' ⟨rfl, rfl⟩))
        all_goals
          go_ret
          exact ⟨ret_bool (by rw [validT, hr1, hr2]; simp_all), (by repeat (first | exact Below.refl _ _ | assumption | refine Below.setCell ?_ (by first | omega | (simp <;> omega)) _ | refine Below.alloc ?_ (by first | omega | (simp <;> omega)) _ | refine Below.drew ?_))⟩
      by_cases p1 : ph = 1
      · subst p1
        go_enter Try.func19, Try.ntmps19
        go_wp2_with (first | (go_at_call 30; refine (isTime_any _ _).mono ?_; rintro e w' ⟨rfl, rfl⟩) | (go_at_call 31; refine (within_any _ _ _ _).mono ?_; rintro e w' ⟨rfl, rfl⟩))
        all_goals
          go_ret
          exact ⟨ret_bool (by rw [validT, hr1, hr2]; simp_all), (by repeat (first | exact Below.refl _ _ | assumption | refine Below.setCell ?_ (by first | omega | (simp <;> omega)) _ | refine Below.alloc ?_ (by first | omega | (simp <;> omega)) _ | refine Below.drew ?_))⟩
      by_cases p2 : ph = 2
      · subst p2
        go_enter Try.func19, Try.ntmps19
        go_wp2_with (first | (go_at_call 30; refine (isTime_any _ _).mono ?_; rintro e w' ⟨rfl, rfl⟩) | (go_at_call 31; refine (within_any _ _ _ _).mono ?_; rintro e w' ⟨rfl, rfl⟩))
        all_goals
          go_ret
          exact ⟨ret_bool (by rw [validT, hr1, hr2]; simp_all), (by repeat (first | exact Below.refl _ _ | assumption | refine Below.setCell ?_ (by first | omega | (simp <;> omega)) _ | refine Below.alloc ?_ (by first | omega | (simp <;> omega)) _ | refine Below.drew ?_))⟩
      by_cases p3 : ph = 3
      · subst p3
        clear p0 p1 p2
        obtain ⟨p, f, hsf⟩ := startedForm la ins
        have hs := fun w => implStarted la ins w h2a h2b h1b
        rw [hsf] at hs
        have HS := Lib.hid hs
        have HF := Lib.hid hsf
        clear hs hsf
        go_enter Try.func19, Try.ntmps19
        go_wp2_with (first | (go_at_call 30; refine (isTime_any _ _).mono ?_; rintro e w' ⟨rfl, rfl⟩) | (go_at_call 31; refine (within_any _ _ _ _).mono ?_; rintro e w' ⟨rfl, rfl⟩))
        go_region_held3 (fun w' => w'.cell? ⟨w.heap.size, 0, none⟩ = some (.int .i64 3) ∧ w'.cell? ⟨w.heap.size, 1, none⟩ = some (.int .i64 la) ∧ w'.cell? ⟨w.heap.size, 2, none⟩ = some (.int .i64 ins) ∧ w'.cell? ⟨w.heap.size, 3, none⟩ = some (.int .i64 dn) ∧ w'.cell? ⟨w.heap.size, 4, none⟩ = some (.int .i64 st) ∧ w'.cell? ⟨w.heap.size, 5, none⟩ = some (.int .i64 sp) ∧ w'.cell? ⟨w.heap.size, 6, none⟩ = some (.int .i64 pe) ∧ w'.cell? ⟨w.heap.size, 7, none⟩ = some (.bool fl))
          (first | go_keep | exact kept8 hb1 (by simp) (by exact heap_alloc_new w _))
          (first | (go_at_call 32; refine (HS.out _).mono ?_; rintro e w1 ⟨rfl, hb1⟩) | (go_at_call 31; refine (within_any _ _ _ _).mono ?_; rintro e w' ⟨rfl, rfl⟩))
        go_wp2_with fail
        go_ret
        exact ⟨ret_bool (by rw [validT, hr1, hr2]; simp [HF.out]), belowStep hb1 (by exact (by repeat (first | exact Below.refl _ _ | assumption | refine Below.setCell ?_ (by first | omega | (simp <;> omega)) _ | refine Below.alloc ?_ (by first | omega | (simp <;> omega)) _ | refine Below.drew ?_)))⟩
      by_cases p4 : ph = 4
      · subst p4
        go_enter Try.func19, Try.ntmps19
        go_wp2_with (first | (go_at_call 30; refine (isTime_any _ _).mono ?_; rintro e w' ⟨rfl, rfl⟩) | (go_at_call 31; refine (within_any _ _ _ _).mono ?_; rintro e w' ⟨rfl, rfl⟩) | (go_at_call 33; refine (implStopped ⟨4, la, ins, dn, st, sp, pe, fl⟩ _).mono ?_; rintro e w1 ⟨rfl, hb1⟩))
        go_ret
        exact ⟨ret_bool (by rw [validT, hr1, hr2]; simp), belowStep hb1 (by exact (by repeat (first | exact Below.refl _ _ | assumption | refine Below.setCell ?_ (by first | omega | (simp <;> omega)) _ | refine Below.alloc ?_ (by first | omega | (simp <;> omega)) _ | refine Below.drew ?_)))⟩
      · have q0 : (ph == 0) = false := beq_eq_false_iff_ne.2 p0
        have q1 : (ph == 1) = false := beq_eq_false_iff_ne.2 p1
        have q2 : (ph == 2) = false := beq_eq_false_iff_ne.2 p2
        have q3 : (ph == 3) = false := beq_eq_false_iff_ne.2 p3
        have q4 : (ph == 4) = false := beq_eq_false_iff_ne.2 p4
        go_enter Try.func19, Try.ntmps19
        go_wp2_with (first | (go_at_call 30; refine (isTime_any _ _).mono ?_; rintro e w' ⟨rfl, rfl⟩) | (go_at_call 31; refine (within_any _ _ _ _).mono ?_; rintro e w' ⟨rfl, rfl⟩))
        go_ret
        exact ⟨ret_bool (by rw [validT]; simp [p0, p1, p2, p3, p4]), (by repeat (first | exact Below.refl _ _ | assumption | refine Below.setCell ?_ (by first | omega | (simp <;> omega)) _ | refine Below.alloc ?_ (by first | omega | (simp <;> omega)) _ | refine Below.drew ?_))⟩
    · exact implValidNo ⟨ph, la, ins, dn, st, sp, pe, fl⟩ w h1 h2
  · have hr1 := inR_no.2 h1
    go_enter Try.func19, Try.ntmps19
    go_wp2_with (first | (go_at_call 30; refine (isTime_any _ _).mono ?_; rintro e w' ⟨rfl, rfl⟩))
    go_ret
    exact ⟨ret_bool (by simp [validT, hr1]), (by repeat (first | exact Below.refl _ _ | assumption | refine Below.setCell ?_ (by first | omega | (simp <;> omega)) _ | refine Below.alloc ?_ (by first | omega | (simp <;> omega)) _ | refine Below.drew ?_))⟩

set_option maxHeartbeats 8000000 in
theorem specValid (t : Tm) (w : World) : Calls Try.prog 14 #[.agg #[.int .i64 t.ph, .int .i64 t.la, .int .i64 t.ins, .int .i64 t.dn, .int .i64 t.st, .int .i64 t.sp, .int .i64 t.pe, .bool t.fl]] w (ReadsBool (validT t) w) := by
  obtain ⟨ph, la, ins, dn, st, sp, pe, fl⟩ := t
  dsimp only
  have heq := eqTm
  by_cases h1 : 0 ≤ la ∧ la ≤ 360000
  · have hr1 := inR_iff.2 h1
    by_cases h2 : 0 ≤ ins ∧ ins ≤ la
    · have hr2 := inR_iff.2 h2
      obtain ⟨h1a, h1b⟩ := h1
      obtain ⟨h2a, h2b⟩ := h2
      by_cases p0 : ph = 0
      · subst p0
        go_enter Try.func14, Try.ntmps14
        go_wp2_with (first | (go_at_call 25; refine (specTime _ _).mono ?_; rintro e w' ⟨rfl, rfl⟩) | (go_at_call 26; refine (inRange_any _ _ _ _).mono ?_; rintro e w' ⟨rfl, rfl⟩))
        all_goals
          go_ret
          exact ⟨ret_bool (by rw [validT, hr1, hr2]; simp_all), (by repeat (first | exact Below.refl _ _ | assumption | refine Below.setCell ?_ (by first | omega | (simp <;> omega)) _ | refine Below.alloc ?_ (by first | omega | (simp <;> omega)) _ | refine Below.drew ?_))⟩
      by_cases p1 : ph = 1
      · subst p1
        go_enter Try.func14, Try.ntmps14
        go_wp2_with (first | (go_at_call 25; refine (specTime _ _).mono ?_; rintro e w' ⟨rfl, rfl⟩) | (go_at_call 26; refine (inRange_any _ _ _ _).mono ?_; rintro e w' ⟨rfl, rfl⟩))
        all_goals
          go_ret
          exact ⟨ret_bool (by rw [validT, hr1, hr2]; simp_all), (by repeat (first | exact Below.refl _ _ | assumption | refine Below.setCell ?_ (by first | omega | (simp <;> omega)) _ | refine Below.alloc ?_ (by first | omega | (simp <;> omega)) _ | refine Below.drew ?_))⟩
      by_cases p2 : ph = 2
      · subst p2
        go_enter Try.func14, Try.ntmps14
        go_wp2_with (first | (go_at_call 25; refine (specTime _ _).mono ?_; rintro e w' ⟨rfl, rfl⟩) | (go_at_call 26; refine (inRange_any _ _ _ _).mono ?_; rintro e w' ⟨rfl, rfl⟩))
        all_goals
          go_ret
          exact ⟨ret_bool (by rw [validT, hr1, hr2]; simp_all), (by repeat (first | exact Below.refl _ _ | assumption | refine Below.setCell ?_ (by first | omega | (simp <;> omega)) _ | refine Below.alloc ?_ (by first | omega | (simp <;> omega)) _ | refine Below.drew ?_))⟩
      by_cases p3 : ph = 3
      · subst p3
        clear p0 p1 p2
        obtain ⟨p, f, hsf⟩ := startedForm la ins
        have hs := fun w => specStarted la ins w h2a h2b h1b
        rw [hsf] at hs
        have HS := Lib.hid hs
        have HF := Lib.hid hsf
        clear hs hsf
        go_enter Try.func14, Try.ntmps14
        go_wp2_with (first | (go_at_call 25; refine (specTime _ _).mono ?_; rintro e w' ⟨rfl, rfl⟩) | (go_at_call 26; refine (inRange_any _ _ _ _).mono ?_; rintro e w' ⟨rfl, rfl⟩))
        go_region_held3 (fun w' => w'.cell? ⟨w.heap.size, 0, none⟩ = some (.int .i64 3) ∧ w'.cell? ⟨w.heap.size, 1, none⟩ = some (.int .i64 la) ∧ w'.cell? ⟨w.heap.size, 2, none⟩ = some (.int .i64 ins) ∧ w'.cell? ⟨w.heap.size, 3, none⟩ = some (.int .i64 dn) ∧ w'.cell? ⟨w.heap.size, 4, none⟩ = some (.int .i64 st) ∧ w'.cell? ⟨w.heap.size, 5, none⟩ = some (.int .i64 sp) ∧ w'.cell? ⟨w.heap.size, 6, none⟩ = some (.int .i64 pe) ∧ w'.cell? ⟨w.heap.size, 7, none⟩ = some (.bool fl))
          (first | go_keep | exact kept8 hb1 (by simp) (by exact heap_alloc_new w _))
          (first | (go_at_call 27; refine (HS.out _).mono ?_; rintro e w1 ⟨rfl, hb1⟩) | (go_at_call 26; refine (inRange_any _ _ _ _).mono ?_; rintro e w' ⟨rfl, rfl⟩))
        go_wp2_with fail
        go_ret
        exact ⟨ret_bool (by rw [validT, hr1, hr2]; simp [HF.out]), belowStep hb1 (by exact (by repeat (first | exact Below.refl _ _ | assumption | refine Below.setCell ?_ (by first | omega | (simp <;> omega)) _ | refine Below.alloc ?_ (by first | omega | (simp <;> omega)) _ | refine Below.drew ?_)))⟩
      by_cases p4 : ph = 4
      · subst p4
        go_enter Try.func14, Try.ntmps14
        go_wp2_with (first | (go_at_call 25; refine (specTime _ _).mono ?_; rintro e w' ⟨rfl, rfl⟩) | (go_at_call 26; refine (inRange_any _ _ _ _).mono ?_; rintro e w' ⟨rfl, rfl⟩) | (go_at_call 28; refine (specStopped ⟨4, la, ins, dn, st, sp, pe, fl⟩ _).mono ?_; rintro e w1 ⟨rfl, hb1⟩))
        go_ret
        exact ⟨ret_bool (by rw [validT, hr1, hr2]; simp), belowStep hb1 (by exact (by repeat (first | exact Below.refl _ _ | assumption | refine Below.setCell ?_ (by first | omega | (simp <;> omega)) _ | refine Below.alloc ?_ (by first | omega | (simp <;> omega)) _ | refine Below.drew ?_)))⟩
      · have q0 : (ph == 0) = false := beq_eq_false_iff_ne.2 p0
        have q1 : (ph == 1) = false := beq_eq_false_iff_ne.2 p1
        have q2 : (ph == 2) = false := beq_eq_false_iff_ne.2 p2
        have q3 : (ph == 3) = false := beq_eq_false_iff_ne.2 p3
        have q4 : (ph == 4) = false := beq_eq_false_iff_ne.2 p4
        go_enter Try.func14, Try.ntmps14
        go_wp2_with (first | (go_at_call 25; refine (specTime _ _).mono ?_; rintro e w' ⟨rfl, rfl⟩) | (go_at_call 26; refine (inRange_any _ _ _ _).mono ?_; rintro e w' ⟨rfl, rfl⟩))
        go_ret
        exact ⟨ret_bool (by rw [validT]; simp [p0, p1, p2, p3, p4]), (by repeat (first | exact Below.refl _ _ | assumption | refine Below.setCell ?_ (by first | omega | (simp <;> omega)) _ | refine Below.alloc ?_ (by first | omega | (simp <;> omega)) _ | refine Below.drew ?_))⟩
    · exact specValidNo ⟨ph, la, ins, dn, st, sp, pe, fl⟩ w h1 h2
  · have hr1 := inR_no.2 h1
    go_enter Try.func14, Try.ntmps14
    go_wp2_with (first | (go_at_call 25; refine (specTime _ _).mono ?_; rintro e w' ⟨rfl, rfl⟩))
    go_ret
    exact ⟨ret_bool (by simp [validT, hr1]), (by repeat (first | exact Below.refl _ _ | assumption | refine Below.setCell ?_ (by first | omega | (simp <;> omega)) _ | refine Below.alloc ?_ (by first | omega | (simp <;> omega)) _ | refine Below.drew ?_))⟩

end Go.Proofs.Ytmfmkalgalmbcaa
