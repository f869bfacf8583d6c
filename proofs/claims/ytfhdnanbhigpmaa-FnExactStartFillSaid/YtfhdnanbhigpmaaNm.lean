/- The names of moves, at both packages. Conditions: the string is no longer than the law allows. -/
import Derived.Test.YtfhdnanbhigpmaaGi
import Derived.Deep.QuietTactic
import Derived.BigQuiet
namespace Go.Proofs.Ytfhdnanbhigpmaa
open Go.RowKit

def bt (s : ByteArray) (i : Nat) : Nat := (s.data.toList.getD i 0).toNat
theorem bt_is (s : ByteArray) (i : Nat) (h : i < s.size) : s[i].toNat = bt s i := by
  unfold bt
  rw [List.getD_eq_getElem?_getD, List.getElem?_eq_getElem (by simpa using h)]
  rfl
theorem bt_lt (s : ByteArray) (i : Nat) : bt s i ≤ 255 := by
  unfold bt
  have := (s.data.toList.getD i 0).toNat_lt
  omega
def NmAt (s : ByteArray) (i : Nat) : Prop := 65 ≤ bt s i ∧ bt s i ≤ 90 ∧ ∀ j, j < i → bt s j ≠ bt s i
def NmTo (s : ByteArray) (k : Nat) : Prop := ∀ i, i < k → NmAt s i
open Classical in
noncomputable def nmAt (s : ByteArray) (i : Nat) : Bool := decide (NmAt s i)
open Classical in
noncomputable def nmTo (s : ByteArray) (k : Nat) : Bool := decide (NmTo s k)
open Classical in
theorem nmAt_yes {s : ByteArray} {i : Nat} (h : NmAt s i) : nmAt s i = true := by unfold nmAt; exact decide_eq_true h
open Classical in
theorem nmAt_no {s : ByteArray} {i : Nat} (h : ¬ NmAt s i) : nmAt s i = false := by unfold nmAt; exact decide_eq_false h
open Classical in
theorem nmAt_iff {s : ByteArray} {i : Nat} : nmAt s i = true ↔ NmAt s i := by unfold nmAt; exact decide_eq_true_iff
open Classical in
theorem nmTo_yes {s : ByteArray} {k : Nat} (h : NmTo s k) : nmTo s k = true := by unfold nmTo; exact decide_eq_true h
open Classical in
theorem nmTo_no {s : ByteArray} {k : Nat} (h : ¬ NmTo s k) : nmTo s k = false := by unfold nmTo; exact decide_eq_false h
theorem NmTo.more {s : ByteArray} {k : Nat} (h : NmTo s k) (h2 : NmAt s k) : NmTo s (k + 1) := fun i hi => by
  rcases Nat.lt_or_ge i k with h3 | h3
  · exact h i h3
  · rw [show i = k from by omega]; exact h2
theorem NmTo.not {s : ByteArray} {k n : Nat} (hk : k < n) (h : ¬ NmAt s k) : ¬ NmTo s n := fun h2 => h (h2 k hk)
set_option maxRecDepth 100000 in
set_option maxHeartbeats 1000000 in
theorem specMove (s : ByteArray) (i : Nat) (w : World) (hs : s.size ≤ 1048576) (hi : i < s.size) : Calls Try.prog 129 #[.string s, .int .i64 i] w (Quiet (.bool (nmAt s i)) w) := by
  obtain ⟨x, hx⟩ : ∃ x, bt s i = x := ⟨_, rfl⟩
  have gx : s[i].toNat = x := by rw [← hx]; exact bt_is s i hi
  have x0 : (0 : Int) ≤ (x : Int) := by omega
  have x1 : (x : Int) ≤ 255 := by have := bt_lt s i; omega
  have i0 : (0 : Int) ≤ (i : Int) := by omega
  have i1 : (i : Int) < (s.size : Int) := by omega
  by_cases h1 : x < 65
  · have f1 : (x : Int) < 65 := by omega
    have HF : Hid (nmAt s i = false) := nmAt_no (fun h => by have := h.1; omega)
    clear hx h1
    go_enter Try.func129, Try.ntmps129
    go_wp2_with fail
    go_ret
    exact ⟨ret_bool HF.out.symm, 0, rfl⟩
  have f1 : ¬ (x : Int) < 65 := by omega
  by_cases h2 : 90 < x
  · have f2 : (90 : Int) < (x : Int) := by omega
    have HF : Hid (nmAt s i = false) := nmAt_no (fun h => by have := h.2.1; omega)
    clear hx h1 h2
    go_enter Try.func129, Try.ntmps129
    go_wp2_with fail
    go_ret
    exact ⟨ret_bool HF.out.symm, 0, rfl⟩
  have f2 : ¬ (90 : Int) < (x : Int) := by omega
  have HX := Lib.hid hx
  have HB : Hid (65 ≤ x ∧ x ≤ 90) := by unfold Hid; omega
  clear hx h1 h2
  go_enter Try.func129, Try.ntmps129
  go_wp2_with fail
  go_loopw [5] (fun a wr => ∃ (k q : Nat), k ≤ i ∧ a = .int .i64 k ∧ wr = w.drewN q ∧ Hid (∀ j, j < k → bt s j ≠ x)) (fun a _ => i - (intOf a).toNat)
  case atStart => exact ⟨0, 0, Nat.zero_le _, rfl, rfl, fun j hj => by omega⟩
  case round =>
    obtain ⟨k, q, hk, rfl, rfl, HN⟩ := hrel
    by_cases hlt : k < i
    · obtain ⟨y, hy⟩ : ∃ y, bt s k = y := ⟨_, rfl⟩
      have hks : k < s.size := by omega
      have gy : s[k].toNat = y := by rw [← hy]; exact bt_is s k hks
      have y0 : (0 : Int) ≤ (y : Int) := by omega
      have y1 : (y : Int) ≤ 255 := by have := bt_lt s k; omega
      have k0 : (0 : Int) ≤ (k : Int) := by omega
      have k1 : (k : Int) < (s.size : Int) := by omega
      have k2 : (k : Int) < (i : Int) := by omega
      by_cases e : y = x
      · have HF : Hid (nmAt s i = false) := nmAt_no (fun h => by have := h.2.2 k hlt; rw [HX.out, hy] at this; exact this e)
        have fe : ((y : Int) == (x : Int)) = true := by rw [e]; simp
        clear hy e
        go_wp2_with fail
        go_quiet (fail)
        go_wp2_with fail
        go_ret
        exact ⟨ret_bool HF.out.symm, _, by rw [World.drewN_drewN]⟩
      · have HN2 : Hid (∀ j, j < k + 1 → bt s j ≠ x) := fun j hj => by
          rcases Nat.lt_or_ge j k with h | h
          · exact HN.out j h
          · rw [show j = k from by omega, hy]; exact e
        have fe : ((y : Int) == (x : Int)) = false := by simp; omega
        clear hy e
        go_wp2_with fail
        go_quiet (fail)
        go_wp2_with fail
        go_roundw
        case rel => exact ⟨k + 1, _, by omega, by go_num, rfl, HN2⟩
        case measure => simp [intOf]; omega
    · obtain rfl : k = i := by omega
      have HF : Hid (nmAt s k = true) := nmAt_yes ⟨by rw [HX.out]; exact HB.out.1, by rw [HX.out]; exact HB.out.2, fun j hj => by rw [HX.out]; exact HN.out j hj⟩
      have k2 : ¬ (k : Int) < (k : Int) := by omega
      go_wp2_with fail
      go_ret
      exact ⟨ret_bool HF.out.symm, _, rfl⟩
set_option maxRecDepth 100000 in
set_option maxHeartbeats 1000000 in
theorem implNames (s : ByteArray) (w : World) (hs : s.size ≤ 1048576) : Calls Try.prog 144 #[.string s] w (Quiet (.bool (nmTo s s.size && inR (s.size : Int) 1 8)) w) := by
  obtain ⟨b0, hb0⟩ : ∃ b0, (nmTo s s.size && inR (s.size : Int) 1 8) = b0 := ⟨_, rfl⟩
  rw [hb0]
  have HB0 := Lib.hid hb0
  clear hb0
  go_enter Try.func144, Try.ntmps144
  go_wp2_with fail
  go_loopw [7] (fun a wr => ∃ (k q : Nat), k ≤ s.size ∧ a = .int .i64 k ∧ wr = w.drewN q ∧ Hid (NmTo s k)) (fun a _ => s.size - (intOf a).toNat)
  case atStart => exact ⟨0, 0, Nat.zero_le _, rfl, rfl, fun j hj => by omega⟩
  case round =>
    obtain ⟨i, q, hi, rfl, rfl, HT⟩ := hrel
    by_cases hlt : i < s.size
    · obtain ⟨x, hx⟩ : ∃ x, bt s i = x := ⟨_, rfl⟩
      have gx : s[i].toNat = x := by rw [← hx]; exact bt_is s i hlt
      have x0 : (0 : Int) ≤ (x : Int) := by omega
      have x1 : (x : Int) ≤ 255 := by have := bt_lt s i; omega
      have i0 : (0 : Int) ≤ (i : Int) := by omega
      have i1 : (i : Int) < (s.size : Int) := by omega
      have HX := Lib.hid hx
      obtain ⟨r, hr⟩ : ∃ r, inR (x : Int) 65 90 = r := ⟨_, rfl⟩
      have HW := Lib.hid (fun wx => within_any (x : Int) 65 90 wx)
      rw [hr] at HW
      clear hx
      cases r with
      | false =>
        have HF : Hid (false = b0) := by
          unfold Hid
          have h1 : ¬ NmAt s i := fun h => by
            have h2 := h.1
            have h3 := h.2.1
            rw [HX.out] at h2 h3
            exact inR_no.1 hr ⟨by omega, by omega⟩
          rw [← HB0.out, nmTo_no (NmTo.not hlt h1)]
          rfl
        clear hr
        go_wp2_with fail
        refine (HW.out _).mono ?_
        rintro e w2 ⟨rfl, rfl⟩
        go_wp2_with fail
        go_ret
        exact ⟨ret_bool HF.out, _, rfl⟩
      | true =>
        have HR := Lib.hid (inR_iff.1 hr)
        clear hr
        go_wp2_with fail
        refine (HW.out _).mono ?_
        rintro e w2 ⟨rfl, rfl⟩
        go_wp2_with fail
        obtain ⟨wo, hwo⟩ : ∃ wo, w.drewN q = wo := ⟨_, rfl⟩
        have HWO := Lib.hid hwo
        rw [hwo]
        clear hwo
        go_loopw [17] (fun a wr => ∃ (k q2 : Nat), k ≤ i ∧ a = .int .i64 k ∧ wr = wo.drewN q2 ∧ Hid (∀ j, j < k → bt s j ≠ x)) (fun a _ => i - (intOf a).toNat)
        case atStart => exact ⟨0, 0, Nat.zero_le _, rfl, rfl, fun j hj => by omega⟩
        case round =>
          obtain ⟨k, q2, hk, rfl, rfl, HN⟩ := hrel
          by_cases hki : k < i
          · obtain ⟨y, hy⟩ : ∃ y, bt s k = y := ⟨_, rfl⟩
            have hks : k < s.size := by omega
            have gy : s[k].toNat = y := by rw [← hy]; exact bt_is s k hks
            have y0 : (0 : Int) ≤ (y : Int) := by omega
            have y1 : (y : Int) ≤ 255 := by have := bt_lt s k; omega
            have k0 : (0 : Int) ≤ (k : Int) := by omega
            have k1 : (k : Int) < (s.size : Int) := by omega
            have k2 : (k : Int) < (i : Int) := by omega
            by_cases e : y = x
            · have HF : Hid (false = b0) := by
                unfold Hid
                have h1 : ¬ NmAt s i := fun h => by have := h.2.2 k hki; rw [HX.out, hy] at this; exact this e
                rw [← HB0.out, nmTo_no (NmTo.not hlt h1)]
                rfl
              have fe : ((y : Int) == (x : Int)) = true := by rw [e]; simp
              clear hy e
              go_wp2_with fail
              go_quiet (fail)
              go_wp2_with fail
              go_ret
              exact ⟨ret_bool HF.out, _, by rw [← HWO.out, World.drewN_drewN, World.drewN_drewN]⟩
            · have HN2 : Hid (∀ j, j < k + 1 → bt s j ≠ x) := fun j hj => by
                rcases Nat.lt_or_ge j k with h | h
                · exact HN.out j h
                · rw [show j = k from by omega, hy]; exact e
              have fe : ((y : Int) == (x : Int)) = false := by simp; omega
              clear hy e
              go_wp2_with fail
              go_quiet (fail)
              go_wp2_with fail
              go_roundw
              case rel => exact ⟨k + 1, _, by omega, by go_num, rfl, HN2⟩
              case measure => simp [intOf]; omega
          · obtain rfl : k = i := by omega
            have HT2 : Hid (NmTo s (k + 1)) := HT.out.more ⟨by rw [HX.out]; have := HR.out.1; omega, by rw [HX.out]; have := HR.out.2; omega, fun j hj => by rw [HX.out]; exact HN.out j hj⟩
            have k2 : ¬ (k : Int) < (k : Int) := by omega
            go_wp2_with fail
            go_roundw
            case rel => exact ⟨k + 1, _, by omega, by go_num, by rw [← HWO.out, World.drewN_drewN], HT2⟩
            case measure => simp [intOf]; omega
    · obtain rfl : i = s.size := by omega
      have HF : Hid (inR (s.size : Int) 1 8 = b0) := by unfold Hid; rw [← HB0.out, nmTo_yes HT.out]; rfl
      go_wp2_with (first | (go_at_call 66; refine (within_any _ _ _ _).mono ?_; rintro e w' ⟨rfl, rfl⟩))
      go_ret
      exact ⟨ret_bool HF.out, _, rfl⟩
end Go.Proofs.Ytfhdnanbhigpmaa
