/- One list before another, spec. Conditions: the lists are of one length. -/
import Derived.Test.YtfhdnanbhigpmaaSe
namespace Go.Proofs.Ytfhdnanbhigpmaa
open Go.RowKit

/-- Before, from place k on (m places are left). -/
def precAt (a b : List Int) : Nat → Nat → Bool
  | _, 0 => false
  | k, m + 1 => if a.getD k 0 = b.getD k 0 then precAt a b (k + 1) m else decide (a.getD k 0 < b.getD k 0)
def precL (a b : List Int) : Bool := precAt a b 0 a.length
theorem prec_same {a b : List Int} {k m : Nat} (h : a.getD k 0 = b.getD k 0) : precAt a b k (m + 1) = precAt a b (k + 1) m := by
  show (if a.getD k 0 = b.getD k 0 then precAt a b (k + 1) m else _) = _
  exact if_pos h
theorem prec_diff {a b : List Int} {k m : Nat} (h : ¬ a.getD k 0 = b.getD k 0) : precAt a b k (m + 1) = decide (a.getD k 0 < b.getD k 0) := by
  show (if a.getD k 0 = b.getD k 0 then precAt a b (k + 1) m else _) = _
  exact if_neg h
set_option maxRecDepth 100000 in
set_option maxHeartbeats 1000000 in
theorem specPrec (A A' : Option Addr) (c c' : Nat) (xs ys : List Int) (n : Nat) (w : World) (hx : IntsAt w A xs) (hy : IntsAt w A' ys) (hxl : xs.length = n) (hyl : ys.length = n) (hn : n ≤ 1048576) :
    Calls Try.prog 141 #[.slice A n c, .slice A' n c'] w (Quiet (.bool (precL xs ys)) w) := by
  obtain ⟨b0, hb0⟩ : ∃ b0, precL xs ys = b0 := ⟨_, rfl⟩
  rw [hb0]
  have HB0 : Hid (precAt xs ys 0 n = b0) := by unfold Hid; rw [← hb0, precL, hxl]
  have HXL := Lib.hid hxl
  have HYL := Lib.hid hyl
  clear hb0 hxl hyl
  go_enter Try.func141, Try.ntmps141
  go_wp2_with fail
  go_loopw [5] (fun i wr => ∃ (k nq : Nat), k ≤ n ∧ i = .int .i64 k ∧ Hid (precAt xs ys k (n - k) = b0) ∧ wr = w.drewN nq) (fun i _ => n - (intOf i).toNat)
  case atStart => exact ⟨0, 0, Nat.zero_le _, rfl, HB0, rfl⟩
  case round =>
    obtain ⟨k, nd, hk, rfl, HO, hw2⟩ := hrel
    have hxr : IntsAt wr A xs := by rw [hw2]; exact hx.drewN nd
    have hyr : IntsAt wr A' ys := by rw [hw2]; exact hy.drewN nd
    have HW2 : Hid (∀ m, ∃ j, wr.drewN m = w.drewN j) := fun m => ⟨nd + m, by rw [hw2, World.drewN_drewN]⟩
    clear hw2
    by_cases hlt : k < n
    · obtain ⟨b, off, x, rfl, hb, hc0, HX⟩ := hxr.at_ (k := k) (by rw [HXL.out]; exact hlt)
      obtain ⟨b', off', y, rfl, hb', hc1, HY⟩ := hyr.at_ (k := k) (by rw [HYL.out]; exact hlt)
      have p0 : (0 : Int) ≤ (k : Int) := by omega
      have p1 : (k : Int) < (n : Int) := by omega
      have hnk : n - k = (n - (k + 1)) + 1 := by omega
      have HO2 := HO.out
      rw [hnk] at HO2
      by_cases hxy : x = y
      · subst hxy
        have HN : Hid (precAt xs ys (k + 1) (n - (k + 1)) = b0) := by unfold Hid; rw [← HO2, prec_same (by rw [HX.out, HY.out])]
        clear HO2 hnk
        go_wp2_with fail
        go_quiet (fail)
        go_wp2_with fail
        go_roundw
        case rel =>
          obtain ⟨j, hj⟩ := HW2.out nq
          exact ⟨k + 1, j, by omega, by go_num, HN, hj⟩
        case measure => simp [intOf]; omega
      · have HN : Hid (decide (x < y) = b0) := by unfold Hid; rw [← HO2, prec_diff (by rw [HX.out, HY.out]; exact hxy), HX.out, HY.out]
        clear HO2 hnk
        go_wp2_with fail
        go_quiet (fail)
        go_wp2_with fail
        go_quiet (fail)
        go_wp2_with fail
        go_ret
        first
          | exact ⟨ret_bool HN.out, HW2.out _⟩
          | exact ⟨ret_bool HN.out, by rw [World.drewN_drewN]; exact HW2.out _⟩
    · obtain rfl : k = n := by omega
      have HE : Hid (false = b0) := by unfold Hid; rw [← HO.out, Nat.sub_self]; rfl
      go_wp2_with fail
      go_ret
      exact ⟨ret_bool HE.out, HW2.out 0⟩
end Go.Proofs.Ytfhdnanbhigpmaa
