/- The timer's states: penalties, started timers, validity, at both packages. Conditions: as each contract says. -/
import Derived.Test.YtmfmkalgalmbcaaM
import Derived.Laws.StructEq
import Derived.Deep.RegionHeld3
namespace Go.Proofs.Ytmfmkalgalmbcaa
open Go.RowKit

structure Tm where
  ph : Int
  la : Int
  ins : Int
  dn : Int
  st : Int
  sp : Int
  pe : Int
  fl : Bool
def tmEq (a b : Tm) : Bool := a.ph == b.ph && (a.la == b.la && (a.ins == b.ins && (a.dn == b.dn && (a.st == b.st && (a.sp == b.sp && (a.pe == b.pe && a.fl == b.fl))))))
theorem tmEq_iff (a b : Tm) : tmEq a b = true ↔ a = b := by
  obtain ⟨a1, a2, a3, a4, a5, a6, a7, a8⟩ := a
  obtain ⟨b1, b2, b3, b4, b5, b6, b7, b8⟩ := b
  simp [tmEq]
theorem ite_okB {c : Prop} [Decidable c] (x : Bool) (w : World) : (if c then Result.ok x w else Result.ok false w) = Result.ok (decide c && x) w := by by_cases h : c <;> simp [h]
theorem eqTm (a1 a2 a3 a4 a5 a6 a7 : Int) (a8 : Bool) (b1 b2 b3 b4 b5 b6 b7 : Int) (b8 : Bool) (w : World) : (Op.equalIn 10000 26 (.agg #[.int .i64 a1, .int .i64 a2, .int .i64 a3, .int .i64 a4, .int .i64 a5, .int .i64 a6, .int .i64 a7, .bool a8]) (.agg #[.int .i64 b1, .int .i64 b2, .int .i64 b3, .int .i64 b4, .int .i64 b5, .int .i64 b6, .int .i64 b7, .bool b8])).run Try.prog w = .ok (tmEq ⟨a1, a2, a3, a4, a5, a6, a7, a8⟩ ⟨b1, b2, b3, b4, b5, b6, b7, b8⟩) w := by
  have u3 := Try.underlying2
  have a3 := Try.isAgg2
  have z3 := Try.sizeOf2
  have u4 := Try.underlying4
  have a4 := Try.isAgg4
  have z4 := Try.sizeOf4
  have hS : Try.prog.underlying 26 = some (.struct (Try.prog.fieldsOf 26)) := by kernel_rfl
  rw [show (10000 : Nat) = 9999 + 1 from rfl, run_equalIn_agg w 9999 26 _ _ hS (by kernel_rfl)]
  simp only [Program.fieldsOf, Try.underlying26]
  go_simp
  simp only [ite_okB, tmEq]
  congr 1
  simp [Bool.beq_eq_decide_eq]
/-! Penalties. -/
def pen (e : Int) : Int := if e ≤ 1500 then 0 else if e ≤ 1700 then 200 else -1
theorem specPen (x : Int) (w : World) : Calls Try.prog 40 #[.int .i64 x] w fun e w' => e = .returned (.int .i64 (pen x)) ∧ w = w' := by
  by_cases h1 : x ≤ 1500
  · go_enter Try.func40, Try.ntmps40
    go_wp2
    go_ret
    exact ⟨ret_int (by rw [pen, if_pos h1]), rfl⟩
  · by_cases h2 : x ≤ 1700
    · go_enter Try.func40, Try.ntmps40
      go_wp2
      go_ret
      exact ⟨ret_int (by rw [pen, if_neg (by omega), if_pos h2]), rfl⟩
    · go_enter Try.func40, Try.ntmps40
      go_wp2
      go_ret
      exact ⟨ret_int (by rw [pen, if_neg (by omega), if_neg (by omega)]), rfl⟩

theorem implPen (x : Int) (w : World) : Calls Try.prog 41 #[.int .i64 x] w fun e w' => e = .returned (.int .i64 (pen x)) ∧ w = w' := by
  by_cases h1 : x ≤ 1500
  · go_enter Try.func41, Try.ntmps41
    go_wp2
    go_ret
    exact ⟨ret_int (by rw [pen, if_pos h1]), rfl⟩
  · by_cases h2 : x ≤ 1700
    · go_enter Try.func41, Try.ntmps41
      go_wp2
      go_ret
      exact ⟨ret_int (by rw [pen, if_neg (by omega), if_pos h2]), rfl⟩
    · go_enter Try.func41, Try.ntmps41
      go_wp2
      go_ret
      exact ⟨ret_int (by rw [pen, if_neg (by omega), if_neg (by omega)]), rfl⟩

/-! A timer that runs. -/
def startedT (la ins : Int) : Tm := if pen (la - ins) = -1 then ⟨3, la, ins, 0, la, 0, 0, true⟩ else ⟨3, la, ins, 0, la, 0, pen (la - ins), false⟩
def TmPost (t : Tm) (w : World) (e : Ending) (w' : World) : Prop := e = .returned (.agg #[.int .i64 t.ph, .int .i64 t.la, .int .i64 t.ins, .int .i64 t.dn, .int .i64 t.st, .int .i64 t.sp, .int .i64 t.pe, .bool t.fl]) ∧ Below w.heap.size w w'
set_option maxHeartbeats 1000000 in
theorem implStarted (la ins : Int) (w : World) (h0 : 0 ≤ ins) (h1 : ins ≤ la) (h2 : la ≤ 360000) : Calls Try.prog 32 #[.int .i64 la, .int .i64 ins] w (TmPost (startedT la ins) w) := by
  have hp := implPen (la - ins)
  by_cases h3 : pen (la - ins) = -1
  · have hs : startedT la ins = ⟨3, la, ins, 0, la, 0, 0, true⟩ := by rw [startedT, if_pos h3]
    rw [hs]
    rw [h3] at hp
    clear h3 hs
    go_enter Try.func32, Try.ntmps32
    go_wp2_with fail
    refine (hp _).mono ?_
    rintro e w1 ⟨rfl, rfl⟩
    go_wp2_with fail
    exact bodyPost_ret (v := .agg #[.int .i64 3, .int .i64 la, .int .i64 ins, .int .i64 0, .int .i64 la, .int .i64 0, .int .i64 0, .bool true]) (by simp [results, Try.results32, go_sem]) rfl ⟨rfl, (by repeat (first | exact Below.refl _ _ | assumption | refine Below.setCell ?_ (by first | omega | (simp <;> omega)) _ | refine Below.alloc ?_ (by first | omega | (simp <;> omega)) _ | refine Below.drew ?_))⟩
  · have hs : startedT la ins = ⟨3, la, ins, 0, la, 0, pen (la - ins), false⟩ := by rw [startedT, if_neg h3]
    rw [hs]
    have hne : (pen (la - ins) == -1) = false := beq_eq_false_iff_ne.2 h3
    obtain ⟨p, hpp⟩ : ∃ p, pen (la - ins) = p := ⟨_, rfl⟩
    rw [hpp] at hp hne ⊢
    clear h3 hs hpp
    go_enter Try.func32, Try.ntmps32
    go_wp2_with fail
    refine (hp _).mono ?_
    rintro e w1 ⟨rfl, rfl⟩
    clear hp
    go_wp2_with fail
    exact bodyPost_ret (v := .agg #[.int .i64 3, .int .i64 la, .int .i64 ins, .int .i64 0, .int .i64 la, .int .i64 0, .int .i64 p, .bool false]) (by simp [results, Try.results32, go_sem]) rfl ⟨rfl, (by repeat (first | exact Below.refl _ _ | assumption | refine Below.setCell ?_ (by first | omega | (simp <;> omega)) _ | refine Below.alloc ?_ (by first | omega | (simp <;> omega)) _ | refine Below.drew ?_))⟩

set_option maxHeartbeats 1000000 in
theorem specStarted (la ins : Int) (w : World) (h0 : 0 ≤ ins) (h1 : ins ≤ la) (h2 : la ≤ 360000) : Calls Try.prog 27 #[.int .i64 ins, .int .i64 la] w (TmPost (startedT la ins) w) := by
  have hp := specPen (la - ins)
  by_cases h3 : pen (la - ins) = -1
  · have hs : startedT la ins = ⟨3, la, ins, 0, la, 0, 0, true⟩ := by rw [startedT, if_pos h3]
    rw [hs]
    rw [h3] at hp
    clear h3 hs
    go_enter Try.func27, Try.ntmps27
    go_wp2_with fail
    refine (hp _).mono ?_
    rintro e w1 ⟨rfl, rfl⟩
    go_wp2_with fail
    exact bodyPost_ret (v := .agg #[.int .i64 3, .int .i64 la, .int .i64 ins, .int .i64 0, .int .i64 la, .int .i64 0, .int .i64 0, .bool true]) (by simp [results, Try.results27, go_sem]) rfl ⟨rfl, (by repeat (first | exact Below.refl _ _ | assumption | refine Below.setCell ?_ (by first | omega | (simp <;> omega)) _ | refine Below.alloc ?_ (by first | omega | (simp <;> omega)) _ | refine Below.drew ?_))⟩
  · have hs : startedT la ins = ⟨3, la, ins, 0, la, 0, pen (la - ins), false⟩ := by rw [startedT, if_neg h3]
    rw [hs]
    have hne : (pen (la - ins) == -1) = false := beq_eq_false_iff_ne.2 h3
    obtain ⟨p, hpp⟩ : ∃ p, pen (la - ins) = p := ⟨_, rfl⟩
    rw [hpp] at hp hne ⊢
    clear h3 hs hpp
    go_enter Try.func27, Try.ntmps27
    go_wp2_with fail
    refine (hp _).mono ?_
    rintro e w1 ⟨rfl, rfl⟩
    clear hp
    go_wp2_with fail
    exact bodyPost_ret (v := .agg #[.int .i64 3, .int .i64 la, .int .i64 ins, .int .i64 0, .int .i64 la, .int .i64 0, .int .i64 p, .bool false]) (by simp [results, Try.results27, go_sem]) rfl ⟨rfl, (by repeat (first | exact Below.refl _ _ | assumption | refine Below.setCell ?_ (by first | omega | (simp <;> omega)) _ | refine Below.alloc ?_ (by first | omega | (simp <;> omega)) _ | refine Below.drew ?_))⟩

/-! A timer that has stopped. -/
def stoppedB (t : Tm) : Bool := decide (t.dn = 0 ∧ (0 ≤ t.pe ∧ t.pe ≤ 2000) ∧ t.pe % 200 = 0 ∧ ((t.ins ≤ t.st ∧ t.st ≤ t.sp ∧ t.sp ≤ t.la) ∨ (t.st = 0 ∧ t.sp = 0 ∧ t.pe = 0 ∧ t.fl = true)))
set_option maxHeartbeats 4000000 in
theorem implStopped (t : Tm) (w : World) : Calls Try.prog 33 #[.agg #[.int .i64 t.ph, .int .i64 t.la, .int .i64 t.ins, .int .i64 t.dn, .int .i64 t.st, .int .i64 t.sp, .int .i64 t.pe, .bool t.fl]] w (ReadsBool (stoppedB t) w) := by
  obtain ⟨ph, la, ins, dn, st, sp, pe, fl⟩ := t
  dsimp only
  by_cases h1 : dn = 0
  · subst h1
    by_cases h2 : 0 ≤ pe ∧ pe ≤ 2000
    · have hr := inR_iff.2 h2
      obtain ⟨h2a, h2b⟩ := h2
      by_cases h3 : pe % 200 = 0
      · have h3a : (pe % 200 != 0) = false := by simpa using h3
        have H3 := Lib.hid h3
        clear h3
        cases fl
        all_goals
          go_enter Try.func33, Try.ntmps33
          go_wp2_with (go_at_call 31; refine (within_any _ _ _ _).mono ?_; rintro e w' ⟨rfl, rfl⟩)
          all_goals
            go_ret
            exact ⟨ret_bool (by have := H3.out; simp [stoppedB] <;> omega), (by repeat (first | exact Below.refl _ _ | assumption | refine Below.setCell ?_ (by first | omega | (simp <;> omega)) _ | refine Below.alloc ?_ (by first | omega | (simp <;> omega)) _ | refine Below.drew ?_))⟩
      · have h3a : (pe % 200 != 0) = true := by simpa using h3
        have H3 := Lib.hid h3
        clear h3
        go_enter Try.func33, Try.ntmps33
        go_wp2_with (go_at_call 31; refine (within_any _ _ _ _).mono ?_; rintro e w' ⟨rfl, rfl⟩)
        go_ret
        exact ⟨ret_bool (by have := H3.out; simp [stoppedB] <;> omega), (by repeat (first | exact Below.refl _ _ | assumption | refine Below.setCell ?_ (by first | omega | (simp <;> omega)) _ | refine Below.alloc ?_ (by first | omega | (simp <;> omega)) _ | refine Below.drew ?_))⟩
    · have hr := inR_no.2 h2
      go_enter Try.func33, Try.ntmps33
      go_wp2_with (go_at_call 31; refine (within_any _ _ _ _).mono ?_; rintro e w' ⟨rfl, rfl⟩)
      go_ret
      exact ⟨ret_bool (by simp [stoppedB] <;> omega), (by repeat (first | exact Below.refl _ _ | assumption | refine Below.setCell ?_ (by first | omega | (simp <;> omega)) _ | refine Below.alloc ?_ (by first | omega | (simp <;> omega)) _ | refine Below.drew ?_))⟩
  · have h1a : (dn != 0) = true := by simpa using h1
    go_enter Try.func33, Try.ntmps33
    go_wp2_with fail
    go_ret
    exact ⟨ret_bool (by simp [stoppedB, h1]), (by repeat (first | exact Below.refl _ _ | assumption | refine Below.setCell ?_ (by first | omega | (simp <;> omega)) _ | refine Below.alloc ?_ (by first | omega | (simp <;> omega)) _ | refine Below.drew ?_))⟩

end Go.Proofs.Ytmfmkalgalmbcaa
