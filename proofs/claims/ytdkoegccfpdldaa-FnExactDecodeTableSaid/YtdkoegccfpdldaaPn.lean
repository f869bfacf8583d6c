/- Packing of nibbles, at both packages. Conditions: as each contract says. -/
import Derived.Test.YtdkoegccfpdldaaAll
namespace Go.Proofs.Ytdkoegccfpdldaa
open Go.RowKit

def nibS (xs : List Int) : ByteArray := if allIn xs 15 then strOfNums (bytesBy (nib xs) ((xs.length + 1) / 2)) else ⟨#[]⟩
theorem bytesBy_more (f : Nat → Int) (n : Nat) : bytesBy f (n + 1) = bytesBy f n ++ [f n] := by simp [bytesBy, List.range_succ]
theorem bytesBy_len (f : Nat → Int) (n : Nat) : (bytesBy f n).length = n := by simp [bytesBy]
set_option maxRecDepth 100000 in
set_option maxHeartbeats 2000000 in
theorem specNibs (A : Option Addr) (c : Nat) (xs : List Int) (w : World) (hx : IntsAt w A xs) (hl : xs.length ≤ 1048576) :
    Calls Try.prog 18 #[.slice A xs.length c] w fun e w' => e = .returned (.tuple #[.string (nibS xs), .bool (allIn xs 15)]) ∧ Below w.heap.size w w' := by
  cases h : allIn xs 15
  · have HK := Lib.hid h
    go_enter Try.func18, Try.ntmps18
    go_wp2_with fail
    refine (specAllIn A c xs 15 _ hx hl).mono ?_
    rintro e w1 ⟨rfl, rfl⟩
    rw [h]
    clear h
    go_wp2_with fail
    go_ret2
    exact ⟨ret_sb (by rw [nibS, HK.out]; rfl) rfl, Below.refl _ _⟩
  · have HK := Lib.hid h
    obtain ⟨h1, h2⟩ := allIn_at h
    have H2 := Lib.hid h2
    clear h2
    have hE : BFresh w.heap.size (w.alloc (.cells #[] 5)) (.slice (some ⟨w.heap.size, 0, none⟩) 0 0) [] := BFresh.empty (Nat.le_refl _)
    have hB0 : Below w.heap.size w (w.alloc (.cells #[] 5)) := (by repeat (first | exact Below.refl _ _ | assumption | refine Below.setCell ?_ (by first | omega | (simp <;> omega)) _ | refine Below.alloc ?_ (by first | omega | (simp <;> omega)) _ | refine Below.drew ?_))
    go_enter Try.func18, Try.ntmps18
    go_wp2_with fail
    refine (specAllIn A c xs 15 _ hx hl).mono ?_
    rintro e w1 ⟨rfl, rfl⟩
    rw [h]
    clear h
    go_wp2_with fail
    go_loopw [4, 5] (fun v i wr => ∃ (m : Nat) (ys : List Int), m ≤ xs.length + 1 ∧ Hid (m % 2 = 0) ∧ i = .int .i64 m ∧ BFresh w.heap.size wr v ys ∧ Below w.heap.size w wr ∧ Hid (bytesBy (nib xs) (m / 2) = ys)) (fun _ i _ => xs.length + 2 - (intOf i).toNat)
    case atStart => exact ⟨0, [], Nat.zero_le _, rfl, rfl, hE, hB0, rfl⟩
    case round =>
      obtain ⟨m, ys, hm, HM, rfl, hF, hB, HY⟩ := hrel
      clear hE hB0
      have hyl : ys.length ≤ 4194304 := by rw [← HY.out, bytesBy_len]; omega
      by_cases hlt : m < xs.length
      · obtain ⟨b, off, x, rfl, hb, hc, HX⟩ := (hx.below hB).at_ hlt
        have bx := H2.out m hlt
        rw [HX.out] at bx
        have x0 := bx.1
        have x1 := bx.2
        have p0 : (0 : Int) ≤ (m : Int) := by omega
        have p1 : (m : Int) < (xs.length : Int) := by omega
        have HMN : Hid ((m + 2) % 2 = 0) := by unfold Hid; have := HM.out; omega
        by_cases hlt2 : m + 1 < xs.length
        · obtain ⟨b', off', y, e', hb', hc', HY'⟩ := (hx.below hB).at_ hlt2
          injection e' with e'
          injection e' with e1 e2
          subst e1 e2
          have by_ := H2.out (m + 1) hlt2
          rw [HY'.out] at by_
          have y0 := by_.1
          have y1 := by_.2
          have p2 : (m : Int) + 1 < (xs.length : Int) := by omega
          have hN : nib xs (m / 2) = 16 * x + y := by
            unfold nib
            rw [show 2 * (m / 2) = m from by have := HM.out; omega, getD_any 15 0 hlt, getD_any 15 0 hlt2, HX.out, HY'.out]
          have HYN : Hid (bytesBy (nib xs) ((m + 2) / 2) = ys ++ [16 * x + y]) := by unfold Hid; rw [show (m + 2) / 2 = m / 2 + 1 from by omega, bytesBy_more, HY.out, hN]
          have hw : IntKind.u8.wrap (16 * x + y) = 16 * x + y := IntWalk.u8_in _ (by omega)
          have hBz := hB.size
          clear hN bx by_
          go_wp2_with (first | (at_builtin; refine append_by1 rfl (.tmp 27) (.tmp 36) rfl w.heap.size _ ys (16 * x + y) rfl (hF.al _) _ rfl (by simp) hyl (by simp; omega) ?_; intro v1 w1 hF1 hg1 hb1))
          clear hw
          go_roundw
          case rel => exact ⟨m + 2, _, by omega, HMN, by go_num, hF1, (hB.alloc hB.size _).trans hb1, HYN⟩
          case measure => simp [intOf]; omega
        · have p2 : ¬ (m : Int) + 1 < (xs.length : Int) := by omega
          have hN : nib xs (m / 2) = 16 * x + 15 := by
            unfold nib
            rw [show 2 * (m / 2) = m from by have := HM.out; omega, getD_any 15 0 hlt, HX.out, List.getD_eq_getElem?_getD, List.getElem?_eq_none (by omega)]
            rfl
          have HYN : Hid (bytesBy (nib xs) ((m + 2) / 2) = ys ++ [16 * x + 15]) := by unfold Hid; rw [show (m + 2) / 2 = m / 2 + 1 from by omega, bytesBy_more, HY.out, hN]
          have hw : IntKind.u8.wrap (16 * x + 15) = 16 * x + 15 := IntWalk.u8_in _ (by omega)
          have hBz := hB.size
          clear hN bx
          go_wp2_with (first | (at_builtin; refine append_by1 rfl (.tmp 27) (.tmp 36) rfl w.heap.size _ ys (16 * x + 15) rfl (hF.al _) _ rfl (by simp) hyl (by simp; omega) ?_; intro v1 w1 hF1 hg1 hb1))
          clear hw
          go_roundw
          case rel => exact ⟨m + 2, _, by omega, HMN, by go_num, hF1, (hB.alloc hB.size _).trans hb1, HYN⟩
          case measure => simp [intOf]; omega
      · have p1 : ¬ (m : Int) < (xs.length : Int) := by omega
        have HE : Hid (strOfNums ys = nibS xs) := by unfold Hid; rw [nibS, HK.out, if_pos rfl, ← HY.out, show m / 2 = (xs.length + 1) / 2 from by have := HM.out; omega]
        have hcv := hF.str
        go_wp2_with fail
        go_ret2
        exact ⟨ret_sb HE.out rfl, hB⟩
end Go.Proofs.Ytdkoegccfpdldaa
