/- Are all values of a list in a range, at both packages; packing of nibbles and residues, at both packages. Conditions: as each contract says. -/
import Derived.Test.YtfhdnanbhigpmaaPk2
namespace Go.Proofs.Ytfhdnanbhigpmaa
open Go.RowKit

def allIn (xs : List Int) (m : Int) : Bool := decide (xs.length ≤ 3000) && xs.all (fun x => inR x 0 m)
theorem allIn_at {xs : List Int} {m : Int} (h : allIn xs m = true) : xs.length ≤ 3000 ∧ ∀ k, k < xs.length → 0 ≤ xs.getD k 0 ∧ xs.getD k 0 ≤ m := by
  simp only [allIn, Bool.and_eq_true, decide_eq_true_eq, List.all_eq_true] at h
  refine ⟨h.1, fun k hk => ?_⟩
  have := h.2 (xs.getD k 0) (by rw [getD_at _ _ hk]; exact List.getElem_mem hk)
  exact inR_iff.1 this
def NoneBefore (p : Int → Bool) (xs : List Int) (k : Nat) : Prop := (xs.take k).any p = false
theorem NoneBefore.zero (p : Int → Bool) (xs : List Int) : NoneBefore p xs 0 := by simp [NoneBefore]
theorem NoneBefore.more {p : Int → Bool} {xs : List Int} {k : Nat} (h : NoneBefore p xs k) (hk : k < xs.length) {x : Int} (hx : xs.getD k 0 = x) (hp : p x = false) : NoneBefore p xs (k + 1) := by
  unfold NoneBefore at *
  rw [take_get xs k hk, List.any_append, h, hx]
  simp [hp]
theorem NoneBefore.end_ {p : Int → Bool} {xs : List Int} {k : Nat} (h : NoneBefore p xs k) (hk : xs.length ≤ k) : xs.any p = false := by
  unfold NoneBefore at h
  rwa [List.take_of_length_le hk] at h
theorem any_at {p : Int → Bool} {xs : List Int} {k : Nat} (hk : k < xs.length) {x : Int} (hx : xs.getD k 0 = x) (hp : p x = true) : xs.any p = true := by
  rw [List.any_eq_true]
  exact ⟨x, by rw [← hx, getD_at _ _ hk]; exact List.getElem_mem hk, hp⟩
def IdxOf (p : Int → Bool) (xs : List Int) (w : World) (e : Ending) (w' : World) : Prop := ∃ i : Int, e = .returned (.int .i64 i) ∧ decide (0 ≤ i) = xs.any p ∧ w = w'


theorem all_not_any (p : Int → Bool) (xs : List Int) : (!xs.any (fun x => !p x)) = xs.all p := by rw [List.all_eq_not_any_not]

set_option maxHeartbeats 1000000 in
theorem notIn (x m : Int) (b : Nat) (w : World) (hc : w.cell? ⟨b, 0, none⟩ = some (.int .i64 m)) :
    Calls Try.prog 82 #[.int .i64 x, .pointer (some ⟨b, 0, none⟩)] w fun e w' => e = .returned (.bool (!inR x 0 m)) ∧ w = w' := by
  go_enter Try.func82, Try.ntmps82
  go_wp2_with (first | (go_at_call 66; refine (within_any _ _ _ _).mono ?_; rintro e w' ⟨rfl, rfl⟩))
  go_ret
  exact ⟨rfl, rfl⟩
set_option maxHeartbeats 1000000 in
theorem indexNot (A : Option Addr) (c : Nat) (xs : List Int) (m : Int) (b : Nat) (w : World) (hx : IntsAt w A xs) (hl : xs.length ≤ 1048576) (hcm : w.cell? ⟨b, 0, none⟩ = some (.int .i64 m)) :
    Calls Try.prog 115 #[.slice A xs.length c, .func (.func 82) #[] #[.pointer (some ⟨b, 0, none⟩)]] w (IdxOf (fun x => !inR x 0 m) xs w) := by
  go_enter Try.func115, Try.ntmps115
  go_wp2_with fail
  go_loop [5, 8] (fun i j => ∃ k : Nat, k ≤ xs.length ∧ j = .int .i64 k ∧ NoneBefore (fun x => !inR x 0 m) xs k) (fun _ j => xs.length - (intOf j).toNat)
  case atStart => exact ⟨0, Nat.zero_le _, rfl, NoneBefore.zero _ _⟩
  case round =>
    obtain ⟨k, hk, rfl, hno⟩ := hrel
    by_cases hlt : k < xs.length
    · obtain ⟨b2, off, x, rfl, hb, hc, HX⟩ := hx.at_ hlt
      cases hp : inR x 0 m
      · have HP := Lib.hid hp
        have hp2 : (!inR x 0 m) = true := by rw [hp]; rfl
        clear hp
        go_wp2_with (first | (go_at_call 82; refine (notIn _ m _ _ hcm).mono ?_; rintro e w' ⟨rfl, rfl⟩))
        go_ret
        exact ⟨k, rfl, by rw [any_at hlt HX.out hp2]; simp, rfl⟩
      · have HP := Lib.hid hp
        have hp2 : (!inR x 0 m) = false := by rw [hp]; rfl
        clear hp
        go_wp2_with (first | (go_at_call 82; refine (notIn _ m _ _ hcm).mono ?_; rintro e w' ⟨rfl, rfl⟩))
        go_round
        case rel => exact ⟨k + 1, by omega, by go_num, hno.more hlt HX.out hp2⟩
        case measure => simp [intOf]; omega
    · go_wp2
      go_ret
      exact ⟨-1, rfl, by rw [hno.end_ (by omega)]; rfl, rfl⟩
set_option maxHeartbeats 1000000 in
theorem containsNot (A : Option Addr) (c : Nat) (xs : List Int) (m : Int) (b : Nat) (w : World) (hx : IntsAt w A xs) (hl : xs.length ≤ 1048576) (hcm : w.cell? ⟨b, 0, none⟩ = some (.int .i64 m)) :
    Calls Try.prog 81 #[.slice A xs.length c, .func (.func 82) #[] #[.pointer (some ⟨b, 0, none⟩)]] w fun e w' => e = .returned (.bool (xs.any (fun x => !inR x 0 m))) ∧ w = w' := by
  go_enter Try.func81, Try.ntmps81
  go_wp2_with (first | (go_at_call 115; refine (indexNot A c xs m b _ hx hl hcm).mono ?_; rintro e w' ⟨i, rfl, hi, rfl⟩; have HI := Lib.hid hi; clear hi))
  go_ret
  exact ⟨ret_bool (by rw [← HI.out]), rfl⟩
set_option maxHeartbeats 1000000 in
theorem implAllIn (A : Option Addr) (c : Nat) (xs : List Int) (m : Int) (w : World) (hx : IntsAt w A xs) (hl : xs.length ≤ 1048576) :
    Calls Try.prog 48 #[.slice A xs.length c, .int .i64 m] w fun e w' => e = .returned (.bool (allIn xs m)) ∧ Below w.heap.size w w' := by
  have hB : Below w.heap.size w (w.alloc (.cells #[.int .i64 m] 2)) := (by repeat (first | exact Below.refl _ _ | assumption | refine Below.setCell ?_ (by first | omega | (simp <;> omega)) _ | refine Below.alloc ?_ (by first | omega | (simp <;> omega)) _ | refine Below.drew ?_))
  have hx2 := hx.below hB
  by_cases h5 : xs.length ≤ 3000
  · have hp : (xs.length : Int) ≤ 3000 := by omega
    go_enter Try.func48, Try.ntmps48
    go_wp2_with (first | (go_at_call 81; refine (containsNot A c xs m _ _ hx2 hl (by simp)).mono ?_; rintro e w' ⟨rfl, rfl⟩))
    go_ret
    exact ⟨ret_bool (by rw [allIn, ← all_not_any]; simp [h5]), hB⟩
  · have hp : ¬ (xs.length : Int) ≤ 3000 := by omega
    have hd : decide ((xs.length : Int) ≤ 3000) = false := by simpa using hp
    go_enter Try.func48, Try.ntmps48
    go_wp2_with fail
    go_ret
    exact ⟨ret_bool (by simp [allIn, h5]), hB⟩
end Go.Proofs.Ytfhdnanbhigpmaa
