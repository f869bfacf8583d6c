/- Results of attempts: their validity at both packages; ContainsFunc over a list of results. -/
import Derived.Test.YtejacbgogcjbnaaM
namespace Go.Proofs.Ytejacbgogcjbnaa
open Go.RowKit

def isRes (x : Int) : Bool := decide (x = -1) || inR x 0 360000
def okTimes (xs : List Int) : Bool := decide (xs.length ≤ 5) && xs.all isRes

set_option maxHeartbeats 1000000 in
theorem l25In_any (x : Int) (w : World) : Calls Try.prog 80 #[.int .i64 x] w fun e w' => e = .returned (.bool (inR x 0 360000)) ∧ w = w' := by
  go_enter Try.func80, Try.ntmps80
  go_wp2_with (first | (go_at_call 55; refine (inRange_any _ _ _ _).mono ?_; rintro e w' ⟨rfl, rfl⟩))
  go_ret
  exact ⟨rfl, rfl⟩

set_option maxHeartbeats 1000000 in
theorem isTime_any (x : Int) (w : World) : Calls Try.prog 83 #[.int .i64 x] w fun e w' => e = .returned (.bool (inR x 0 360000)) ∧ w = w' := by
  go_enter Try.func83, Try.ntmps83
  go_wp2_with (first | (go_at_call 65; refine (within_any _ _ _ _).mono ?_; rintro e w' ⟨rfl, rfl⟩))
  go_ret
  exact ⟨rfl, rfl⟩

set_option maxHeartbeats 1000000 in
theorem specIsRes (x : Int) (w : World) : Calls Try.prog 59 #[.int .i64 x] w fun e w' => e = .returned (.bool (isRes x)) ∧ w = w' := by
  by_cases h : x = -1
  · subst h
    go_enter Try.func59, Try.ntmps59
    go_wp2_with (first | (go_at_call 80; refine (l25In_any _ _).mono ?_; rintro e w' ⟨rfl, rfl⟩))
    go_ret
    exact ⟨ret_bool (by simp [isRes]), rfl⟩
  · have h1 : (x == -1) = false := by simpa using h
    go_enter Try.func59, Try.ntmps59
    go_wp2_with (first | (go_at_call 80; refine (l25In_any _ _).mono ?_; rintro e w' ⟨rfl, rfl⟩))
    go_ret
    exact ⟨ret_bool (by simp [isRes, h]), rfl⟩

set_option maxHeartbeats 1000000 in
theorem implIsRes (x : Int) (w : World) : Calls Try.prog 70 #[.int .i64 x] w fun e w' => e = .returned (.bool (isRes x)) ∧ w = w' := by
  by_cases h : x = -1
  · subst h
    go_enter Try.func70, Try.ntmps70
    go_wp2_with (first | (go_at_call 83; refine (isTime_any _ _).mono ?_; rintro e w' ⟨rfl, rfl⟩))
    go_ret
    exact ⟨ret_bool (by simp [isRes]), rfl⟩
  · have h1 : (x == -1) = false := by simpa using h
    go_enter Try.func70, Try.ntmps70
    go_wp2_with (first | (go_at_call 83; refine (isTime_any _ _).mono ?_; rintro e w' ⟨rfl, rfl⟩))
    go_ret
    exact ⟨ret_bool (by simp [isRes, h]), rfl⟩

set_option maxHeartbeats 1000000 in
theorem notRes1 (x : Int) (w : World) : Calls Try.prog 69 #[.int .i64 x] w fun e w' => e = .returned (.bool (!isRes x)) ∧ w = w' := by
  go_enter Try.func69, Try.ntmps69
  go_wp2_with (first | (go_at_call 70; refine (implIsRes _ _).mono ?_; rintro e w' ⟨rfl, rfl⟩))
  go_ret
  exact ⟨rfl, rfl⟩

def NoneBefore (p : Int → Bool) (xs : List Int) (k : Nat) : Prop := (xs.take k).any p = false
theorem NoneBefore.zero (p : Int → Bool) (xs : List Int) : NoneBefore p xs 0 := by simp [NoneBefore]
theorem NoneBefore.more {p : Int → Bool} {xs : List Int} {k : Nat} (h : NoneBefore p xs k) (hk : k < xs.length) {x : Int} (hx : xs.getD k 0 = x) (hp : p x = false) : NoneBefore p xs (k + 1) := by
  unfold NoneBefore at *
  rw [take_get xs k hk, List.any_append, h, hx]
  simp [hp]
theorem NoneBefore.end_ {p : Int → Bool} {xs : List Int} {k : Nat} (h : NoneBefore p xs k) (hk : xs.length ≤ k) : xs.any p = false := by
  unfold NoneBefore at h
  rwa [List.take_of_length_le hk] at h
theorem any_at {p : Int → Bool} {xs : List Int} {k : Nat} (hk : k < xs.length) {x : Int} (hx : xs.getD k 0 = x) (hp : p x = true) : xs.any p = true := by
  rw [List.any_eq_true]
  exact ⟨x, by rw [← hx, getD_at _ _ hk]; exact List.getElem_mem hk, hp⟩
def IdxOf (p : Int → Bool) (xs : List Int) (w : World) (e : Ending) (w' : World) : Prop := ∃ i : Int, e = .returned (.int .i64 i) ∧ decide (0 ≤ i) = xs.any p ∧ w = w'

set_option maxHeartbeats 1000000 in
theorem indexRes1 (A : Option Addr) (c : Nat) (xs : List Int) (w : World) (hx : IntsAt w A xs) (hl : xs.length ≤ 1048576) :
    Calls Try.prog 82 #[.slice A xs.length c, .func (.func 69) #[] #[]] w (IdxOf (fun x => !isRes x) xs w) := by
  go_enter Try.func82, Try.ntmps82
  go_wp2_with fail
  go_loop [5, 8] (fun i j => ∃ k : Nat, k ≤ xs.length ∧ j = .int .i64 k ∧ NoneBefore (fun x => !isRes x) xs k) (fun _ j => xs.length - (intOf j).toNat)
  case atStart => exact ⟨0, Nat.zero_le _, rfl, NoneBefore.zero _ _⟩
  case round =>
    obtain ⟨k, hk, rfl, hno⟩ := hrel
    by_cases hlt : k < xs.length
    · obtain ⟨b, off, x, rfl, hb, hc, HX⟩ := hx.at_ hlt
      cases hp : isRes x
      · have HP := Lib.hid hp
        have hp2 : (!isRes x) = true := by rw [hp]; rfl
        clear hp
        go_wp2_with (first | (go_at_call 69; refine (notRes1 _ _).mono ?_; rintro e w' ⟨rfl, rfl⟩))
        go_ret
        exact ⟨k, rfl, by rw [any_at hlt HX.out hp2]; simp, rfl⟩
      · have HP := Lib.hid hp
        have hp2 : (!isRes x) = false := by rw [hp]; rfl
        clear hp
        go_wp2_with (first | (go_at_call 69; refine (notRes1 _ _).mono ?_; rintro e w' ⟨rfl, rfl⟩))
        go_round
        case rel => exact ⟨k + 1, by omega, by go_num, hno.more hlt HX.out hp2⟩
        case measure => simp [intOf]; omega
    · go_wp2
      go_ret
      exact ⟨-1, rfl, by rw [hno.end_ (by omega)]; rfl, rfl⟩
set_option maxHeartbeats 1000000 in
theorem containsRes1 (A : Option Addr) (c : Nat) (xs : List Int) (w : World) (hx : IntsAt w A xs) (hl : xs.length ≤ 1048576) :
    Calls Try.prog 68 #[.slice A xs.length c, .func (.func 69) #[] #[]] w fun e w' => e = .returned (.bool (xs.any (fun x => !isRes x))) ∧ w = w' := by
  go_enter Try.func68, Try.ntmps68
  go_wp2_with (first | (go_at_call 82; refine (indexRes1 A c xs _ hx hl).mono ?_; rintro e w' ⟨i, rfl, hi, rfl⟩; have HI := Lib.hid hi; clear hi))
  go_ret
  exact ⟨ret_bool (by rw [← HI.out]), rfl⟩

theorem all_not_any (xs : List Int) : (!xs.any (fun x => !isRes x)) = xs.all isRes := by rw [List.all_eq_not_any_not]

set_option maxHeartbeats 1000000 in
theorem implValidTimes (A : Option Addr) (c : Nat) (xs : List Int) (w : World) (hx : IntsAt w A xs) (hl : xs.length ≤ 1048576) :
    Calls Try.prog 38 #[.slice A xs.length c] w fun e w' => e = .returned (.bool (okTimes xs)) ∧ w = w' := by
  by_cases h5 : xs.length ≤ 5
  · have hp : (xs.length : Int) ≤ 5 := by omega
    go_enter Try.func38, Try.ntmps38
    go_wp2_with (first | (go_at_call 68; refine (containsRes1 A c xs _ hx hl).mono ?_; rintro e w' ⟨rfl, rfl⟩))
    go_ret
    exact ⟨ret_bool (by rw [okTimes, ← all_not_any]; simp [h5]), rfl⟩
  · have hp : ¬ (xs.length : Int) ≤ 5 := by omega
    have hd : decide ((xs.length : Int) ≤ 5) = false := by simpa using hp
    go_enter Try.func38, Try.ntmps38
    go_wp2_with fail
    go_ret
    exact ⟨ret_bool (by simp [okTimes, h5]), rfl⟩

set_option maxHeartbeats 1000000 in
theorem specValidTimes (A : Option Addr) (c : Nat) (xs : List Int) (w : World) (hx : IntsAt w A xs) (hl : xs.length ≤ 1048576) :
    Calls Try.prog 29 #[.slice A xs.length c] w fun e w' => e = .returned (.bool (okTimes xs)) ∧ w = w' := by
  by_cases h5 : xs.length ≤ 5
  · have hp : ¬ (5 : Int) < (xs.length : Int) := by omega
    go_enter Try.func29, Try.ntmps29
    go_wp2_with fail
    go_loop [3] (fun j => ∃ k : Nat, k ≤ xs.length ∧ j = .int .i64 k ∧ NoneBefore (fun x => !isRes x) xs k) (fun j => xs.length - (intOf j).toNat)
    case atStart => exact ⟨0, Nat.zero_le _, rfl, NoneBefore.zero _ _⟩
    case round =>
      obtain ⟨k, hk, rfl, hno⟩ := hrel
      by_cases hlt : k < xs.length
      · obtain ⟨b, off, x, rfl, hb, hc, HX⟩ := hx.at_ hlt
        cases hp : isRes x
        · have hp2 : (!isRes x) = true := by rw [hp]; rfl
          go_wp2_with (first | (go_at_call 59; refine (specIsRes _ _).mono ?_; rintro e w' ⟨rfl, rfl⟩))
          go_ret
          exact ⟨ret_bool (by rw [okTimes, ← all_not_any, any_at hlt HX.out hp2]; simp), rfl⟩
        · have hp2 : (!isRes x) = false := by rw [hp]; rfl
          go_wp2_with (first | (go_at_call 59; refine (specIsRes _ _).mono ?_; rintro e w' ⟨rfl, rfl⟩))
          go_round
          case rel => exact ⟨k + 1, by omega, by go_num, hno.more hlt HX.out hp2⟩
          case measure => simp [intOf]; omega
      · go_wp2
        go_ret
        exact ⟨ret_bool (by rw [okTimes, ← all_not_any, hno.end_ (by omega)]; simp [h5]), rfl⟩
  · have hp : (5 : Int) < (xs.length : Int) := by omega
    go_enter Try.func29, Try.ntmps29
    go_wp2_with fail
    go_ret
    exact ⟨ret_bool (by simp [okTimes, h5]), rfl⟩
end Go.Proofs.Ytejacbgogcjbnaa
