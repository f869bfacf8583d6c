/- The mean of results, at both packages. Conditions: as each contract says. -/
import Derived.Test.YtejacbgogcjbnaaBest
namespace Go.Proofs.Ytejacbgogcjbnaa
open Go.RowKit

def isDnf (x : Int) : Bool := x == -1
def meanOf (xs : List Int) : Int := if xs.any isDnf then -1 else (2 * xs.sum + xs.length) / (2 * xs.length)
def meanRes (xs : List Int) : Int := if okTimes xs && !xs.isEmpty then meanOf xs else -2
theorem sum_more (xs : List Int) (k : Nat) (hk : k < xs.length) {x : Int} (hx : xs.getD k 0 = x) : (xs.take (k + 1)).sum = (xs.take k).sum + x := by
  rw [take_get xs k hk, List.sum_append, hx]; simp
theorem isRes_bd {x : Int} (h : isRes x = true) (hd : isDnf x = false) : 0 ≤ x ∧ x ≤ 360000 := by
  simp [isRes, isDnf, inR] at h hd; omega
theorem mean_step {s x : Int} {k n : Nat} (h : 0 ≤ s ∧ s ≤ k * 360000) (hx : 0 ≤ x ∧ x ≤ 360000) (_ : k < n) : 0 ≤ s + x ∧ s + x ≤ ((k + 1 : Nat) : Int) * 360000 := by omega
theorem meanOf_dnf {xs : List Int} (h : xs.any isDnf = true) : meanOf xs = -1 := by rw [meanOf, if_pos h]
theorem meanOf_fin {xs : List Int} (h : xs.any isDnf = false) : meanOf xs = (2 * xs.sum + xs.length) / (2 * xs.length) := by rw [meanOf, if_neg (by simp [h])]

set_option maxHeartbeats 1000000 in
theorem specL26Mean (A : Option Addr) (c : Nat) (xs : List Int) (w : World) (hx : IntsAt w A xs) (h5 : xs.length ≤ 5) (h0 : 0 < xs.length) (hv : xs.all isRes = true) :
    Calls Try.prog 89 #[.slice A xs.length c] w fun e w' => e = .returned (.int .i64 (meanOf xs)) ∧ w = w' := by
  have HV := Lib.hid hv
  clear hv
  go_enter Try.func89, Try.ntmps89
  go_wp2_with fail
  go_loop [3, 4] (fun b j => ∃ (k : Nat) (s : Int), k ≤ xs.length ∧ j = .int .i64 k ∧ b = .int .i64 s ∧ Hid ((xs.take k).sum = s) ∧ 0 ≤ s ∧ s ≤ k * 360000 ∧ NoneBefore isDnf xs k) (fun _ j => xs.length - (intOf j).toNat)
  case atStart => exact ⟨0, 0, Nat.zero_le _, rfl, rfl, by simp [Hid], by omega, by omega, NoneBefore.zero _ _⟩
  case round =>
    obtain ⟨k, s, hk, rfl, rfl, HS, hs0, hs1, hno⟩ := hrel
    by_cases hlt : k < xs.length
    · obtain ⟨b, off, x, rfl, hb, hc, HX⟩ := hx.at_ hlt
      have hvx := all_at HV.out hlt HX.out
      cases hd : isDnf x
      · have hbd := isRes_bd hvx hd
        have hb1 := hbd.1
        have hb2 := hbd.2
        have e1 : (x == -1) = false := hd
        have HD := Lib.hid hd
        clear hbd hvx hd
        have hms := Lib.hid (sum_more xs k hlt HX.out)
        go_wp2_with fail
        go_round
        case rel => exact ⟨k + 1, s + x, by omega, by go_num, rfl, by rw [Hid, hms.out, HS.out], by omega, by omega, hno.more hlt HX.out HD.out⟩
        case measure => simp [intOf]; omega
      · have e1 : (x == -1) = true := hd
        have HD := Lib.hid hd
        clear hvx hd
        go_wp2_with fail
        go_ret
        exact ⟨ret_int (by rw [meanOf_dnf (any_at hlt HX.out HD.out)]), rfl⟩
    · have hend := Lib.hid (hno.end_ (by omega))
      have hsum : Hid (xs.sum = s) := by
        have := HS.out
        rwa [List.take_of_length_le (by omega)] at this
      clear hno
      go_wp2
      go_ret
      exact ⟨ret_int (by rw [meanOf_fin hend.out, hsum.out]), rfl⟩

set_option maxHeartbeats 1000000 in
theorem lengthInts (A : Option Addr) (c n : Nat) (w : World) : Calls Try.prog 66 #[.slice A n c] w fun e w' => e = .returned (.int .i64 n) ∧ w = w' := by
  go_enter Try.func66, Try.ntmps66
  go_wp2
  go_ret
  exact ⟨rfl, rfl⟩

set_option maxHeartbeats 1000000 in
theorem implMean (A : Option Addr) (c : Nat) (xs : List Int) (w : World) (hx : IntsAt w A xs) (hl : xs.length ≤ 1048576) :
    Calls Try.prog 78 #[.slice A xs.length c] w fun e w' => e = .returned (.int .i64 (meanRes xs)) ∧ w = w' := by
  cases h : okTimes xs
  · go_enter Try.func78, Try.ntmps78
    go_wp2_with (first | (go_at_call 38; refine (implValidTimes _ _ xs _ hx hl).mono ?_; rintro e w' ⟨rfl, rfl⟩))
    go_ret
    exact ⟨ret_int (by simp [meanRes, h]), rfl⟩
  · by_cases h0 : xs.length = 0
    · obtain rfl := List.eq_nil_of_length_eq_zero h0
      go_enter Try.func78, Try.ntmps78
      go_wp2_with (first | (go_at_call 38; refine (implValidTimes _ _ [] _ hx hl).mono ?_; rintro e w' ⟨rfl, rfl⟩))
      go_ret
      exact ⟨ret_int (by simp [meanRes]), rfl⟩
    · have e0 : ((xs.length : Int) == 0) = false := beq_eq_false_iff_ne.2 (by omega)
      have hne : xs.isEmpty = false := by cases xs <;> simp_all
      have HN := Lib.hid hne
      have hp0 : 0 < xs.length := by omega
      have h5 := okTimes_len h
      have HV := Lib.hid (okTimes_all h)
      clear hne h0
      go_enter Try.func78, Try.ntmps78
      go_wp2_with (first | (go_at_call 38; refine (implValidTimes _ _ xs _ hx hl).mono ?_; rintro e w' ⟨rfl, rfl⟩))
      go_loop [3, 5, 16] (fun b _ j => ∃ (k : Nat) (s : Int), k ≤ xs.length ∧ j = .int .i64 k ∧ b = .int .i64 s ∧ Hid ((xs.take k).sum = s) ∧ 0 ≤ s ∧ s ≤ k * 360000 ∧ NoneBefore isDnf xs k) (fun _ _ j => xs.length - (intOf j).toNat)
      case atStart => exact ⟨0, 0, Nat.zero_le _, rfl, rfl, by simp [Hid], by omega, by omega, NoneBefore.zero _ _⟩
      case round =>
        obtain ⟨k, s, hk, rfl, rfl, HS, hs0, hs1, hno⟩ := hrel
        by_cases hlt : k < xs.length
        · obtain ⟨b, off, x, rfl, hb, hc, HX⟩ := hx.at_ hlt
          have hvx := all_at HV.out hlt HX.out
          cases hd : isDnf x
          · have hbd := isRes_bd hvx hd
            have hb1 := hbd.1
            have hb2 := hbd.2
            have e1 : (x == -1) = false := hd
            have HD := Lib.hid hd
            clear hbd hvx hd
            have hms := Lib.hid (sum_more xs k hlt HX.out)
            go_wp2_with fail
            go_round
            case rel => exact ⟨k + 1, s + x, by omega, by go_num, rfl, by rw [Hid, hms.out, HS.out], by omega, by omega, hno.more hlt HX.out HD.out⟩
            case measure => simp [intOf]; omega
          · have e1 : (x == -1) = true := hd
            have HD := Lib.hid hd
            clear hvx hd
            go_wp2_with fail
            go_ret
            exact ⟨ret_int (by rw [meanRes, h, HN.out, meanOf_dnf (any_at hlt HX.out HD.out)]; rfl), rfl⟩
        · have hend := Lib.hid (hno.end_ (by omega))
          have hsum : Hid (xs.sum = s) := by
            have := HS.out
            rwa [List.take_of_length_le (by omega)] at this
          clear hno
          go_wp2_with (first | (go_at_call 66; refine (lengthInts _ _ _ _).mono ?_; rintro e w' ⟨rfl, rfl⟩))
          go_ret
          exact ⟨ret_int (by rw [meanRes, h, HN.out, Bool.not_false, Bool.and_self, if_pos rfl, meanOf_fin hend.out, hsum.out]), rfl⟩
end Go.Proofs.Ytejacbgogcjbnaa
