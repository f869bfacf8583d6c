/- Unpacking of nibbles, at the implementation. Conditions: as each contract says. -/
import Derived.Test.YtdkoegccfpdldaaUn
namespace Go.Proofs.Ytdkoegccfpdldaa
open Go.RowKit

def unIn (s : ByteArray) (c : Int) : Bool := inR c 0 3000 && decide ((s.size : Int) = (c + 1) / 2)
def unV (s : ByteArray) (c : Int) : List Int := if unIn s c then unb s c.toNat else []
theorem unV_yes {s : ByteArray} {c : Int} (h : unOk s c = true) : unV s c = unL s c := by
  have h2 : unIn s c = true := by
    unfold unOk at h
    rw [Bool.and_eq_true] at h
    exact h.1
  simp [unV, unL, h, h2]
theorem unV_len (s : ByteArray) (c : Int) : (unV s c).length ≤ 3000 := by
  unfold unV
  split
  · rename_i h
    rw [unb_len]
    have := inR_iff.1 (Bool.and_eq_true _ _ ▸ h).1
    omega
  · simp
theorem unL_len (s : ByteArray) (c : Int) : (unL s c).length ≤ 3000 := by
  cases h : unOk s c
  · rw [unL_no h]; simp
  · rw [← unV_yes h]; exact unV_len s c
set_option maxRecDepth 100000 in
set_option maxHeartbeats 2000000 in
theorem unpacked4 (s : ByteArray) (cn : Int) (w : World) (hs : s.size ≤ 1048576) : Calls Try.prog 37 #[.string s, .int .i64 cn, .int .i64 4] w (IntsBool w.heap.size (unV s cn) (unOk s cn) w) := by
  have hE : Fresh w.heap.size w (.slice none 0 0) [] := Fresh.nil _ _
  have hB0 : Below w.heap.size w w := Below.refl _ _
  cases hr : inR cn 0 3000
  · have HK : Hid (unOk s cn = false) := by simp [Hid, unOk, hr]
    have HV : Hid (unV s cn = []) := by simp [Hid, unV, unIn, hr]
    go_enter Try.func37, Try.ntmps37
    go_wp2_with (first | (go_at_call 46; refine (within_any _ _ _ _).mono ?_; rintro e w' ⟨rfl, rfl⟩))
    go_ret2
    exact ⟨_, ret_vb rfl HK.out.symm, by rw [HV.out]; exact hE, hB0⟩
  have hcn := inR_iff.1 hr
  obtain ⟨n, rfl⟩ := Int.eq_ofNat_of_zero_le hcn.1
  have hn : n ≤ 3000 := by omega
  clear hcn
  by_cases hsz : (s.size : Int) = ((n : Int) + 1) / 2
  · have hne : ((s.size : Int) != ((n : Int) + 2 - 1) / 2) = false := by simpa using (by omega : (s.size : Int) = ((n : Int) + 2 - 1) / 2)
    have hsz2 : (n + 1) / 2 = s.size := by omega
    have HV : Hid (unV s (n : Int) = unb s n) := by simp [Hid, unV, unIn, hr, hsz]
    have HSZ := Lib.hid hsz2
    clear hsz hsz2
    go_enter Try.func37, Try.ntmps37
    go_wp2_with (first | (go_at_call 46; refine (within_any _ _ _ _).mono ?_; rintro e w' ⟨rfl, rfl⟩))
    clear hne
    go_loopw [9, 28] (fun v i wr => ∃ (k : Nat) (ys : List Int), k ≤ n ∧ i = .int .i64 k ∧ Fresh w.heap.size wr v ys ∧ Below w.heap.size w wr ∧ Hid (unb s k = ys)) (fun _ i _ => n - (intOf i).toNat)
    case atStart => exact ⟨0, [], Nat.zero_le _, rfl, hE, hB0, rfl⟩
    case round =>
      obtain ⟨k, ys, hk, rfl, hF, hB, HY⟩ := hrel
      clear hE hB0
      have hyl : ys.length ≤ 1048576 := by rw [← HY.out, unb_len]; omega
      by_cases hlt : k < n
      · obtain ⟨j, hj⟩ : ∃ j, k / 2 = j := ⟨_, rfl⟩
        have hjs : j < s.size := by have := HSZ.out; omega
        have c0 : (0 : Int) ≤ (s[j].toNat : Int) := by omega
        have c1 : (s[j].toNat : Int) ≤ 255 := by have := s[j].toNat_lt; omega
        have p0 : (0 : Int) ≤ (k : Int) := by omega
        have p1 : (k : Int) < (n : Int) := by omega
        have q0 : (0 : Int) ≤ (j : Int) := by omega
        have q1 : (j : Int) < (s.size : Int) := by omega
        have hd : (k : Int) / 2 = (j : Int) := by omega
        have hBz := hB.size
        by_cases he : k % 2 = 0
        · have hr2 : (k : Int) % 2 = 0 := by omega
          have HYN : Hid (unb s (k + 1) = ys ++ [(s[j].toNat : Int) / 16 % 16]) := by unfold Hid; rw [unb_more, HY.out, unAt, if_pos he, hj, byteAt_is s j hjs]
          have d0 : (0 : Int) ≤ (s[j].toNat : Int) / 16 := by omega
          have d1 : (s[j].toNat : Int) / 16 ≤ 15 := by omega
          have hm := mask15i ((s[j].toNat : Int) / 16) d0 (by omega)
          clear hj he
          go_wp2_with fail
          have hw1 : IntKind.i64.wrap (j : Int) = (j : Int) := IntWalk.i64_in _ (by omega)
          have hw2 : IntKind.i64.wrap (s[j].toNat : Int) = (s[j].toNat : Int) := IntWalk.i64_in _ (by omega)
          have ht : (k : Int).tmod 2 = 0 := by rw [IntWalk.rem_in _ _ p0]; exact hr2
          have l0 : IntKind.i64.wrap 0 = 0 := by decide
          have l1 : IntKind.i64.wrap 1 = 1 := by decide
          have l2 : IntKind.i64.wrap 2 = 2 := by decide
          have l4 : IntKind.i64.wrap 4 = 4 := by decide
          have l8 : IntKind.i64.wrap 8 = 8 := by decide
          have l15 : IntKind.i64.wrap 15 = 15 := by decide
          have l16 : IntKind.i64.wrap 16 = 16 := by decide
          go_region_held3 (fun w' => True) (trivial) ((refine step_append_one (by rfl) (.tmp 31) (.tmp 50) (by rfl) w.heap.size _ ys ((s[j].toNat : Int) / 16 % 16) (by rfl) (hF.ad _) wr.heap.size (by rfl) (by simp) hyl (by simp; omega) ?_; intro v1 w1 hF1 hg1 hb1))
          all_goals
            clear hd hr2 hm hw1 hw2 ht l0 l1 l2 l4 l8 l15 l16
            go_wp2_with fail
            go_roundw
            case rel => exact ⟨k + 1, _, by omega, by go_num, hF1, ((hB.alloc hB.size _).drew).trans hb1, HYN⟩
            case measure => simp [intOf]; omega
        · have hr2 : (k : Int) % 2 = 1 := by omega
          have HYN : Hid (unb s (k + 1) = ys ++ [(s[j].toNat : Int) % 16]) := by unfold Hid; rw [unb_more, HY.out, unAt, if_neg he, hj, byteAt_is s j hjs]
          have hm := mask15i (s[j].toNat : Int) c0 (by omega)
          clear hj he
          go_wp2_with fail
          have hw1 : IntKind.i64.wrap (j : Int) = (j : Int) := IntWalk.i64_in _ (by omega)
          have hw2 : IntKind.i64.wrap (s[j].toNat : Int) = (s[j].toNat : Int) := IntWalk.i64_in _ (by omega)
          have ht : (k : Int).tmod 2 = 1 := by rw [IntWalk.rem_in _ _ p0]; exact hr2
          have l0 : IntKind.i64.wrap 0 = 0 := by decide
          have l1 : IntKind.i64.wrap 1 = 1 := by decide
          have l2 : IntKind.i64.wrap 2 = 2 := by decide
          have l4 : IntKind.i64.wrap 4 = 4 := by decide
          have l8 : IntKind.i64.wrap 8 = 8 := by decide
          have l15 : IntKind.i64.wrap 15 = 15 := by decide
          have l16 : IntKind.i64.wrap 16 = 16 := by decide
          go_region_held3 (fun w' => True) (trivial) ((refine step_append_one (by rfl) (.tmp 31) (.tmp 50) (by rfl) w.heap.size _ ys ((s[j].toNat : Int) % 16) (by rfl) (hF.ad _) wr.heap.size (by rfl) (by simp) hyl (by simp; omega) ?_; intro v1 w1 hF1 hg1 hb1))
          all_goals
            clear hd hr2 hm hw1 hw2 ht l0 l1 l2 l4 l8 l15 l16
            go_wp2_with fail
            go_roundw
            case rel => exact ⟨k + 1, _, by omega, by go_num, hF1, ((hB.alloc hB.size _).drew).trans hb1, HYN⟩
            case measure => simp [intOf]; omega
      · have p1 : ¬ (k : Int) < (n : Int) := by omega
        obtain rfl : k = n := by omega
        obtain ⟨Ah, ch, rfl, hIh, -⟩ := hF.ints
        obtain ⟨X, hX⟩ : ∃ X, unP s k = X := ⟨_, rfl⟩
        have HN : Hid (strOfNums (bytesBy (nib ys) ((ys.length + 1) / 2)) = X) := by unfold Hid; rw [← HY.out, unb_len, ← hX]; rfl
        have HOK : Hid (unOk s (k : Int) = decide (X = s)) := by
          unfold Hid
          rw [unOk, hr, ← hX, show decide ((s.size : Int) = ((k : Int) + 1) / 2) = true from decide_eq_true (by have := HSZ.out; omega)]
          simp
        have hyl3 : ys.length ≤ 3000 := by rw [← HY.out, unb_len]; exact hn
        have HBD : Hid (∀ i, i < ys.length → 0 ≤ ys.getD i 0 ∧ ys.getD i 0 ≤ 15) := by unfold Hid; rw [← HY.out]; exact unb_bd s k
        clear hX
        go_wp2_with fail
        refine (packed4 Ah ch ys _ hIh hyl3 HBD.out).mono ?_
        rintro e w2 ⟨rfl, hb2⟩
        rw [HN.out]
        have hB2 := belowStep hb2 hB
        have hF2 := hF.below hb2
        go_wp2_with fail
        go_ret2
        exact ⟨_, ret_vb rfl (by rw [str_eq, HOK.out]), by rw [HV.out, HY.out]; exact hF2, hB2⟩
  · have hne : ((s.size : Int) != ((n : Int) + 2 - 1) / 2) = true := by simpa using (by omega : ¬ (s.size : Int) = ((n : Int) + 2 - 1) / 2)
    have HK : Hid (unOk s (n : Int) = false) := by simp [Hid, unOk, hsz]
    have HV : Hid (unV s (n : Int) = []) := by simp [Hid, unV, unIn, hsz]
    clear hsz
    go_enter Try.func37, Try.ntmps37
    go_wp2_with (first | (go_at_call 46; refine (within_any _ _ _ _).mono ?_; rintro e w' ⟨rfl, rfl⟩))
    go_ret2
    exact ⟨_, ret_vb rfl HK.out.symm, by rw [HV.out]; exact hE, hB0⟩
end Go.Proofs.Ytdkoegccfpdldaa
