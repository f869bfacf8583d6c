/- The validity of round rules, by contract, at both packages. Conditions: the fields are numbers of int64. -/
import Derived.Test.YtejacbgogcjbnaaB
namespace Go.Proofs.Ytejacbgogcjbnaa
open Go.RowKit

structure RR where
  att : Int
  lim : Int
  catt : Int
  cut : Int
  adv : Int
def RR.ok (r : RR) : Bool :=
  inR r.att 1 5 && inR r.lim 1 360000 && inR r.catt 0 (r.att - 1) && inR r.adv 0 12 && (if r.catt = 0 then r.cut == 0 else inR r.cut 1 r.lim)

set_option maxHeartbeats 1000000 in
theorem specIsValidRR (r : RR) (w : World) :
    Calls Try.prog 24 #[.agg #[.int .i64 r.att, .int .i64 r.lim, .int .i64 r.catt, .int .i64 r.cut, .int .i64 r.adv]] w (ReadsBool r.ok w) := by
  obtain ⟨att, lim, catt, cut, adv⟩ := r
  dsimp only
  cases h1 : inR att 1 5
  · go_enter Try.func24, Try.ntmps24
    go_wp2_with (first | (go_at_call 55; refine (inRange_any _ _ _ _).mono ?_; rintro e w' ⟨rfl, rfl⟩))
    go_ret
    exact ⟨ret_bool (by simp [RR.ok, *]), (by repeat (first | exact Below.refl _ _ | assumption | refine Below.setCell ?_ (by first | omega | (simp <;> omega)) _ | refine Below.alloc ?_ (by first | omega | (simp <;> omega)) _ | refine Below.drew ?_))⟩
  have b1 := inR_iff.1 h1
  have b1a := b1.1
  have b1b := b1.2
  clear b1
  cases h2 : inR lim 1 360000
  · go_enter Try.func24, Try.ntmps24
    go_wp2_with (first | (go_at_call 55; refine (inRange_any _ _ _ _).mono ?_; rintro e w' ⟨rfl, rfl⟩))
    go_ret
    exact ⟨ret_bool (by simp [RR.ok, *]), (by repeat (first | exact Below.refl _ _ | assumption | refine Below.setCell ?_ (by first | omega | (simp <;> omega)) _ | refine Below.alloc ?_ (by first | omega | (simp <;> omega)) _ | refine Below.drew ?_))⟩
  cases h3 : inR catt 0 (att - 1)
  · go_enter Try.func24, Try.ntmps24
    go_wp2_with (first | (go_at_call 55; refine (inRange_any _ _ _ _).mono ?_; rintro e w' ⟨rfl, rfl⟩))
    go_ret
    exact ⟨ret_bool (by simp [RR.ok, *]), (by repeat (first | exact Below.refl _ _ | assumption | refine Below.setCell ?_ (by first | omega | (simp <;> omega)) _ | refine Below.alloc ?_ (by first | omega | (simp <;> omega)) _ | refine Below.drew ?_))⟩
  cases h4 : inR adv 0 12
  · go_enter Try.func24, Try.ntmps24
    go_wp2_with (first | (go_at_call 55; refine (inRange_any _ _ _ _).mono ?_; rintro e w' ⟨rfl, rfl⟩))
    go_ret
    exact ⟨ret_bool (by simp [RR.ok, *]), (by repeat (first | exact Below.refl _ _ | assumption | refine Below.setCell ?_ (by first | omega | (simp <;> omega)) _ | refine Below.alloc ?_ (by first | omega | (simp <;> omega)) _ | refine Below.drew ?_))⟩
  by_cases h5 : catt = 0
  · subst h5
    go_enter Try.func24, Try.ntmps24
    go_wp2_with (first | (go_at_call 55; refine (inRange_any _ _ _ _).mono ?_; rintro e w' ⟨rfl, rfl⟩))
    go_ret
    exact ⟨ret_bool (by simp [RR.ok, *]), (by repeat (first | exact Below.refl _ _ | assumption | refine Below.setCell ?_ (by first | omega | (simp <;> omega)) _ | refine Below.alloc ?_ (by first | omega | (simp <;> omega)) _ | refine Below.drew ?_))⟩
  · have h6 : (catt == 0) = false := by simpa using h5
    go_enter Try.func24, Try.ntmps24
    go_wp2_with (first | (go_at_call 55; refine (inRange_any _ _ _ _).mono ?_; rintro e w' ⟨rfl, rfl⟩))
    go_ret
    exact ⟨ret_bool (by simp [RR.ok, *]), (by repeat (first | exact Below.refl _ _ | assumption | refine Below.setCell ?_ (by first | omega | (simp <;> omega)) _ | refine Below.alloc ?_ (by first | omega | (simp <;> omega)) _ | refine Below.drew ?_))⟩

set_option maxHeartbeats 1000000 in
theorem implIsValidRR (r : RR) (w : World) :
    Calls Try.prog 35 #[.agg #[.int .i64 r.att, .int .i64 r.lim, .int .i64 r.catt, .int .i64 r.cut, .int .i64 r.adv]] w (ReadsBool r.ok w) := by
  obtain ⟨att, lim, catt, cut, adv⟩ := r
  dsimp only
  cases h1 : inR att 1 5
  · go_enter Try.func35, Try.ntmps35
    go_wp2_with (first | (go_at_call 65; refine (within_any _ _ _ _).mono ?_; rintro e w' ⟨rfl, rfl⟩))
    go_ret
    exact ⟨ret_bool (by simp [RR.ok, *]), (by repeat (first | exact Below.refl _ _ | assumption | refine Below.setCell ?_ (by first | omega | (simp <;> omega)) _ | refine Below.alloc ?_ (by first | omega | (simp <;> omega)) _ | refine Below.drew ?_))⟩
  have b1 := inR_iff.1 h1
  have b1a := b1.1
  have b1b := b1.2
  clear b1
  cases h2 : inR lim 1 360000
  · go_enter Try.func35, Try.ntmps35
    go_wp2_with (first | (go_at_call 65; refine (within_any _ _ _ _).mono ?_; rintro e w' ⟨rfl, rfl⟩))
    go_ret
    exact ⟨ret_bool (by simp [RR.ok, *]), (by repeat (first | exact Below.refl _ _ | assumption | refine Below.setCell ?_ (by first | omega | (simp <;> omega)) _ | refine Below.alloc ?_ (by first | omega | (simp <;> omega)) _ | refine Below.drew ?_))⟩
  cases h3 : inR catt 0 (att - 1)
  · go_enter Try.func35, Try.ntmps35
    go_wp2_with (first | (go_at_call 65; refine (within_any _ _ _ _).mono ?_; rintro e w' ⟨rfl, rfl⟩))
    go_ret
    exact ⟨ret_bool (by simp [RR.ok, *]), (by repeat (first | exact Below.refl _ _ | assumption | refine Below.setCell ?_ (by first | omega | (simp <;> omega)) _ | refine Below.alloc ?_ (by first | omega | (simp <;> omega)) _ | refine Below.drew ?_))⟩
  cases h4 : inR adv 0 12
  · go_enter Try.func35, Try.ntmps35
    go_wp2_with (first | (go_at_call 65; refine (within_any _ _ _ _).mono ?_; rintro e w' ⟨rfl, rfl⟩))
    go_ret
    exact ⟨ret_bool (by simp [RR.ok, *]), (by repeat (first | exact Below.refl _ _ | assumption | refine Below.setCell ?_ (by first | omega | (simp <;> omega)) _ | refine Below.alloc ?_ (by first | omega | (simp <;> omega)) _ | refine Below.drew ?_))⟩
  by_cases h5 : catt = 0
  · subst h5
    go_enter Try.func35, Try.ntmps35
    go_wp2_with (first | (go_at_call 65; refine (within_any _ _ _ _).mono ?_; rintro e w' ⟨rfl, rfl⟩))
    go_ret
    exact ⟨ret_bool (by simp [RR.ok, *]), (by repeat (first | exact Below.refl _ _ | assumption | refine Below.setCell ?_ (by first | omega | (simp <;> omega)) _ | refine Below.alloc ?_ (by first | omega | (simp <;> omega)) _ | refine Below.drew ?_))⟩
  · have h6 : (catt == 0) = false := by simpa using h5
    go_enter Try.func35, Try.ntmps35
    go_wp2_with (first | (go_at_call 65; refine (within_any _ _ _ _).mono ?_; rintro e w' ⟨rfl, rfl⟩))
    go_ret
    exact ⟨ret_bool (by simp [RR.ok, *]), (by repeat (first | exact Below.refl _ _ | assumption | refine Below.setCell ?_ (by first | omega | (simp <;> omega)) _ | refine Below.alloc ?_ (by first | omega | (simp <;> omega)) _ | refine Below.drew ?_))⟩


end Go.Proofs.Ytejacbgogcjbnaa
