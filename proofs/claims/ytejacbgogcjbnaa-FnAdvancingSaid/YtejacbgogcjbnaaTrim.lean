/- The trimmed average, at both packages. Conditions: as each contract says. -/
import Derived.Test.YtejacbgogcjbnaaSort
namespace Go.Proofs.Ytejacbgogcjbnaa
open Go.RowKit

theorem insertionSort5 (B g cap : Nat) (xs : List Int) (h5 : xs.length = 5) (w : World) (hown : Fresh B w (.slice (some ⟨g, 0, none⟩) 5 cap) xs) :
    Calls Try.prog 91 #[.slice (some ⟨g, 0, none⟩) 5 cap, .int .i64 0, .int .i64 5, .func (.func 47) #[] #[]] w fun e w' =>
      e = .returned (.tuple #[]) ∧ SortInv w w' B g cap 5 (isort xs) := by
  have h := insertionSort B g cap xs w (by rw [h5]; exact hown) (by omega)
  rw [h5] at h
  exact h

set_option maxRecDepth 100000 in
set_option maxHeartbeats 2000000 in
theorem bitsLen5 (w : World) : Calls Try.prog 88 #[.int .u64 5] w fun e w' => ∃ k : Int, e = .returned (.int .i64 k) ∧ w = w' := by
  go_enter Try.func88, Try.ntmps88
  go_wp2
  go_ret
  exact ⟨_, rfl, rfl⟩

set_option maxRecDepth 100000 in
set_option maxHeartbeats 2000000 in
theorem pdq5 (B g cap : Nat) (lim : Int) (xs : List Int) (h5 : xs.length = 5) (w : World) (hown : Fresh B w (.slice (some ⟨g, 0, none⟩) 5 cap) xs) :
    Calls Try.prog 87 #[.slice (some ⟨g, 0, none⟩) 5 cap, .int .i64 0, .int .i64 5, .int .i64 lim, .func (.func 47) #[] #[]] w fun e w' =>
      e = .returned (.tuple #[]) ∧ SortInv w w' B g cap 5 (isort xs) := by
  have H5 := Lib.hid h5
  clear h5
  go_enter Try.func87, Try.ntmps87
  go_wp2_with fail
  refine wp_loop_rounds 1 ?_
  rw [rounds_succ]
  go_wp2_with (first | (go_at_call 91; refine (insertionSort5 B g cap xs H5.out _ hown).mono ?_; rintro e w1 ⟨rfl, hs1⟩))
  exact bodyPost_ret (results_none rfl _ _ _) rfl ⟨rfl, hs1⟩

set_option maxHeartbeats 2000000 in
theorem sortFunc5 (B g cap : Nat) (xs : List Int) (h5 : xs.length = 5) (w : World) (hown : Fresh B w (.slice (some ⟨g, 0, none⟩) 5 cap) xs) :
    Calls Try.prog 77 #[.slice (some ⟨g, 0, none⟩) 5 cap, .func (.func 47) #[] #[]] w fun e w' =>
      e = .returned (.tuple #[]) ∧ SortInv w w' B g cap 5 (isort xs) := by
  have H5 := Lib.hid h5
  clear h5
  go_enter Try.func77, Try.ntmps77
  go_wp2_with (first | (go_at_call 88; refine (bitsLen5 _).mono ?_; rintro e w1 ⟨k, rfl, rfl⟩) | (go_at_call 87; refine (pdq5 B g cap _ xs H5.out _ hown).mono ?_; rintro e w1 ⟨rfl, hs1⟩))
  go_end0
  exact ⟨rfl, hs1⟩

def mid3 (xs : List Int) : List Int := ((isort xs).drop 1).take 3
theorem take3_isRes {xs : List Int} (h : xs.all isRes = true) : (mid3 xs).all isRes = true := by
  unfold mid3
  have h2 := isort_isRes h
  rw [List.all_eq_true] at *
  exact fun x hx => h2 x (List.mem_of_mem_drop (List.mem_of_mem_take hx))
theorem mean3 {xs : List Int} (h5 : xs.length = 5) (h : xs.all isRes = true) : meanRes (mid3 xs) = avgOf xs := by
  have hl : (mid3 xs).length = 3 := by rw [mid3, List.length_take, List.length_drop, isort_len, h5]; rfl
  have hok : okTimes (mid3 xs) = true := by rw [okTimes, take3_isRes h, hl]; rfl
  have hne : (mid3 xs).isEmpty = false := by
    cases hx : mid3 xs with
    | nil => rw [hx] at hl; simp at hl
    | cons => rfl
  rw [meanRes, hok, hne]
  rfl
theorem IntsAt.sub {w : World} {b off : Nat} {xs : List Int} (h : IntsAt w (some ⟨b, off, none⟩) xs) (i m : Nat) : IntsAt w (some ⟨b, off + i, none⟩) ((xs.drop i).take m) := by
  intro k hk
  rw [List.length_take, List.length_drop] at hk
  obtain ⟨b', off', e, hb, hc⟩ := h (i + k) (by omega)
  injection e with e
  injection e with e1 e2
  subst e1 e2
  refine ⟨b, off + i, rfl, hb, ?_⟩
  rw [show off + i + k = off + (i + k) from by omega, hc]
  have hk2 : i + k < xs.length := by omega
  have hk3 : k < m := by omega
  simp [List.getD_eq_getElem?_getD, hk2, hk3]

theorem implMean3 (A : Option Addr) (c : Nat) (xs : List Int) (h3 : xs.length = 3) (w : World) (hx : IntsAt w A xs) :
    Calls Try.prog 78 #[.slice A 3 c] w fun e w' => e = .returned (.int .i64 (meanRes xs)) ∧ w = w' := by
  have h := implMean A c xs w hx (by omega)
  rw [h3] at h
  exact h

set_option maxHeartbeats 2000000 in
theorem implTrimmed (A : Option Addr) (c : Nat) (xs : List Int) (w : World) (hx : IntsAt w A xs) (hl : xs.length ≤ 1048576) :
    Calls Try.prog 48 #[.slice A xs.length c] w fun e w' => e = .returned (.int .i64 (avgRes xs)) ∧ Below w.heap.size w w' := by
  cases h : okTimes xs
  · go_enter Try.func48, Try.ntmps48
    go_wp2_with (first | (go_at_call 38; refine (implValidTimes _ _ xs _ hx hl).mono ?_; rintro e w' ⟨rfl, rfl⟩))
    go_ret
    exact ⟨ret_int (by simp [avgRes, h]), Below.refl _ _⟩
  by_cases h5 : xs.length = 5
  · have hne : A ≠ none := by
      obtain ⟨b, off, e, _⟩ := hx 0 (by omega)
      rw [e]; simp
    have hall := Lib.hid (okTimes_all h)
    have hlen3 : (mid3 xs).length = 3 := by rw [mid3, List.length_take, List.length_drop, isort_len, h5]; rfl
    have HL3 := Lib.hid hlen3
    clear hlen3
    have hfin := Lib.hid (mean3 h5 (okTimes_all h))
    have H5 := Lib.hid h5
    have hcl := cloneInts A c xs w hx hl hne
    have hvt := implValidTimes A c xs w hx hl
    rw [h5] at hcl hvt ⊢
    have HCL := Lib.hid hcl
    clear hcl h5
    go_enter Try.func48, Try.ntmps48
    go_wp2_with (first | (go_at_call 38; refine hvt.mono ?_; rintro e w' ⟨rfl, rfl⟩))
    refine HCL.out.mono ?_
    rintro e w1 ⟨v1, rfl, hF1, hB1⟩
    rcases hF1.2 with ⟨_, hn⟩ | ⟨g, cap, cur, rfl, hbg, hgg, hnc, hcm, hcs, htake⟩
    · have := H5.out; omega
    have hF2 : Fresh w.heap.size w1 (.slice (some ⟨g, 0, none⟩) 5 cap) xs := by have := H5.out; rw [this] at hF1; exact hF1
    have hnc5 : (5 : Int) ≤ (cap : Int) := by have := H5.out; omega
    have hnc4 : (4 : Int) ≤ (cap : Int) := by omega
    rw [H5.out]
    clear hF1 hgg htake hcs
    go_wp2_with fail
    refine (sortFunc5 w.heap.size g cap xs H5.out _ hF2).mono ?_
    rintro e w2 ⟨rfl, hs2⟩
    have hI2 : IntsAt w2 (some ⟨g, 0, none⟩) (isort xs) := by
      have hF3 : Fresh w.heap.size w2 (.slice (some ⟨g, 0, none⟩) (isort xs).length cap) (isort xs) := by
        have := hs2.1
        unfold Fresh
        rw [isort_len, H5.out]
        exact this
      exact hF3.intsAt
    have hB2 : Below w.heap.size w w2 := belowGrown hB1 hs2.2 hB1.size (fun k hk => by injection hk with hk; omega)
    go_wp2_with fail
    refine (implMean3 _ _ (mid3 xs) HL3.out _ (by simpa [mid3] using hI2.sub 1 3)).mono ?_
    rintro e w3 ⟨rfl, rfl⟩
    go_wp2_with fail
    go_ret
    exact ⟨ret_int (by rw [hfin.out, avgRes, h, H5.out]; rfl), hB2⟩
  · have hne : ((xs.length : Int) != 5) = true := by rw [bne_iff_ne]; omega
    have H5 := Lib.hid h5
    clear h5
    go_enter Try.func48, Try.ntmps48
    go_wp2_with (first | (go_at_call 38; refine (implValidTimes _ _ xs _ hx hl).mono ?_; rintro e w' ⟨rfl, rfl⟩))
    go_ret
    exact ⟨ret_int (by simp [avgRes, H5.out]), Below.refl _ _⟩
end Go.Proofs.Ytejacbgogcjbnaa
