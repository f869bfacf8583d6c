/- The best of a list of results and their mean, at both packages. Conditions: as each contract says. -/
import Derived.Test.YtejacbgogcjbnaaCmp
namespace Go.Proofs.Ytejacbgogcjbnaa
open Go.RowKit

def better (l n : Int) : Int := if lessR n l then n else l
def bestOf (xs : List Int) : Int := xs.foldl better (-1)
theorem bestOf_more (xs : List Int) (k : Nat) (hk : k < xs.length) {x : Int} (hx : xs.getD k 0 = x) : bestOf (xs.take (k + 1)) = better (bestOf (xs.take k)) x := by
  unfold bestOf
  rw [take_get xs k hk, List.foldl_append, hx]
  rfl
theorem bestOf_end (xs : List Int) (k : Nat) (hk : xs.length ≤ k) : bestOf (xs.take k) = bestOf xs := by rw [List.take_of_length_le hk]
theorem isRes_neg1 : isRes (-1) = true := by decide
theorem better_isRes {l n : Int} (hl : isRes l = true) (hn : isRes n = true) : isRes (better l n) = true := by unfold better; split <;> assumption
theorem best_isRes (xs : List Int) (h : xs.all isRes = true) : isRes (bestOf xs) = true := by
  have : ∀ (ys : List Int) (l : Int), isRes l = true → ys.all isRes = true → isRes (ys.foldl better l) = true := by
    intro ys
    induction ys with
    | nil => intro l hl _; exact hl
    | cons y ys ih =>
      intro l hl hy
      rw [List.all_cons, Bool.and_eq_true] at hy
      exact ih _ (better_isRes hl hy.1) hy.2
  exact this xs _ isRes_neg1 h
theorem all_at {p : Int → Bool} {xs : List Int} (h : xs.all p = true) {k : Nat} (hk : k < xs.length) {x : Int} (hx : xs.getD k 0 = x) : p x = true := by
  rw [List.all_eq_true] at h
  rw [← hx, getD_at _ _ hk]
  exact h _ (List.getElem_mem hk)
theorem all_take {p : Int → Bool} {xs : List Int} (h : xs.all p = true) (k : Nat) : (xs.take k).all p = true := by
  rw [List.all_eq_true] at *
  exact fun x hx => h x (List.mem_of_mem_take hx)

set_option maxHeartbeats 1000000 in
theorem implBest (A : Option Addr) (c : Nat) (xs : List Int) (w : World) (hx : IntsAt w A xs) (hl : xs.length ≤ 1048576) :
    Calls Try.prog 50 #[.slice A xs.length c] w fun e w' => e = .returned (.int .i64 (bestOf xs)) ∧ w = w' := by
  go_enter Try.func50, Try.ntmps50
  go_wp2_with fail
  go_loop [3, 5, 8] (fun b i j => ∃ k : Nat, k ≤ xs.length ∧ j = .int .i64 k ∧ b = .int .i64 (bestOf (xs.take k))) (fun _ _ j => xs.length - (intOf j).toNat)
  case atStart => exact ⟨0, Nat.zero_le _, rfl, rfl⟩
  case round =>
    obtain ⟨k, hk, rfl, rfl⟩ := hrel
    by_cases hlt : k < xs.length
    · obtain ⟨b, off, x, rfl, hb, hc, HX⟩ := hx.at_ hlt
      have hm := bestOf_more xs k hlt HX.out
      obtain ⟨l, hL⟩ : ∃ l, bestOf (xs.take k) = l := ⟨_, rfl⟩
      rw [hL] at hm ⊢
      cases hs : lessR x l
      · have h1 := cmpR_no hs
        have HS := Lib.hid hs
        have HM := Lib.hid hm
        clear hs hm hL
        go_wp2_with (first | (go_at_call 47; refine (compareResults_any _ _ _).mono ?_; rintro e w' ⟨rfl, rfl⟩))
        go_round
        case rel => exact ⟨k + 1, by omega, by go_num, by rw [HM.out, better, HS.out]; rfl⟩
        case measure => simp [intOf]; omega
      · have h1 := cmpR_yes hs
        have HS := Lib.hid hs
        have HM := Lib.hid hm
        clear hs hm hL
        go_wp2_with (first | (go_at_call 47; refine (compareResults_any _ _ _).mono ?_; rintro e w' ⟨rfl, rfl⟩))
        go_round
        case rel => exact ⟨k + 1, by omega, by go_num, by rw [HM.out, better, HS.out]; rfl⟩
        case measure => simp [intOf]; omega
    · have he := Lib.hid (bestOf_end xs k (by omega))
      go_wp2
      go_ret
      exact ⟨ret_int he.out, rfl⟩

set_option maxHeartbeats 1000000 in
theorem specBest (A : Option Addr) (c : Nat) (xs : List Int) (w : World) (hx : IntsAt w A xs) (hl : xs.length ≤ 1048576) (hv : xs.all isRes = true) :
    Calls Try.prog 30 #[.slice A xs.length c] w fun e w' => e = .returned (.int .i64 (bestOf xs)) ∧ w = w' := by
  have HV := Lib.hid hv
  clear hv
  go_enter Try.func30, Try.ntmps30
  go_wp2_with fail
  go_loop [3, 4] (fun b j => ∃ k : Nat, k ≤ xs.length ∧ j = .int .i64 k ∧ b = .int .i64 (bestOf (xs.take k))) (fun _ j => xs.length - (intOf j).toNat)
  case atStart => exact ⟨0, Nat.zero_le _, rfl, rfl⟩
  case round =>
    obtain ⟨k, hk, rfl, rfl⟩ := hrel
    by_cases hlt : k < xs.length
    · obtain ⟨b, off, x, rfl, hb, hc, HX⟩ := hx.at_ hlt
      have hm := bestOf_more xs k hlt HX.out
      have hvx := all_at HV.out hlt HX.out
      have hvl := best_isRes _ (all_take HV.out k)
      obtain ⟨l, hL⟩ : ∃ l, bestOf (xs.take k) = l := ⟨_, rfl⟩
      rw [hL] at hm hvl ⊢
      cases hs : lessR x l
      · have h1 : resLess x l = false := by simp [resLess, hs]
        have HS := Lib.hid hs
        have HM := Lib.hid hm
        clear hs hm hL hvx hvl
        go_wp2_with (first | (go_at_call 60; refine (specResLess _ _ _).mono ?_; rintro e w' ⟨rfl, rfl⟩))
        go_round
        case rel => exact ⟨k + 1, by omega, by go_num, by rw [HM.out, better, HS.out]; rfl⟩
        case measure => simp [intOf]; omega
      · have h1 : resLess x l = true := by simp [resLess, hs, hvx, hvl]
        have HS := Lib.hid hs
        have HM := Lib.hid hm
        clear hs hm hL hvx hvl
        go_wp2_with (first | (go_at_call 60; refine (specResLess _ _ _).mono ?_; rintro e w' ⟨rfl, rfl⟩))
        go_round
        case rel => exact ⟨k + 1, by omega, by go_num, by rw [HM.out, better, HS.out]; rfl⟩
        case measure => simp [intOf]; omega
    · have he := Lib.hid (bestOf_end xs k (by omega))
      go_wp2
      go_ret
      exact ⟨ret_int he.out, rfl⟩

def bestRes (xs : List Int) : Int := if okTimes xs then bestOf xs else -2
theorem okTimes_all {xs : List Int} (h : okTimes xs = true) : xs.all isRes = true := by unfold okTimes at h; rw [Bool.and_eq_true] at h; exact h.2
theorem okTimes_len {xs : List Int} (h : okTimes xs = true) : xs.length ≤ 5 := by unfold okTimes at h; rw [Bool.and_eq_true] at h; simpa using h.1

set_option maxHeartbeats 1000000 in
theorem specBestResult (A : Option Addr) (c : Nat) (xs : List Int) (w : World) (hx : IntsAt w A xs) (hl : xs.length ≤ 1048576) :
    Calls Try.prog 11 #[.slice A xs.length c] w fun e w' => e = .returned (.int .i64 (bestRes xs)) ∧ w = w' := by
  cases h : okTimes xs
  · go_enter Try.func11, Try.ntmps11
    go_wp2_with (first | (go_at_call 29; refine (specValidTimes _ _ xs _ hx hl).mono ?_; rintro e w' ⟨rfl, rfl⟩))
    go_ret
    exact ⟨ret_int (by rw [bestRes, h]; rfl), rfl⟩
  · go_enter Try.func11, Try.ntmps11
    go_wp2_with (first | (go_at_call 29; refine (specValidTimes _ _ xs _ hx hl).mono ?_; rintro e w' ⟨rfl, rfl⟩) | (go_at_call 30; refine (specBest _ _ xs _ hx hl (okTimes_all h)).mono ?_; rintro e w' ⟨rfl, rfl⟩))
    go_ret
    exact ⟨ret_int (by rw [bestRes, h]; rfl), rfl⟩

end Go.Proofs.Ytejacbgogcjbnaa
