/- Results compared; the best of a list; the mean; at both packages. Conditions: as each contract says. -/
import Derived.Test.YtejacbgogcjbnaaRes
namespace Go.Proofs.Ytejacbgogcjbnaa
open Go.RowKit

def lessR (a b : Int) : Bool := !(a == -1) && (b == -1 || decide (a < b))
def cmpR (a b : Int) : Int := if a = b then 0 else if a = -1 then 1 else if b = -1 then -1 else if a < b then -1 else 1
def cmpI (a b : Int) : Int := if a < b then -1 else if b < a then 1 else 0
def resLess (a b : Int) : Bool := isRes a && isRes b && lessR a b
theorem cmpR_neg (a b : Int) : decide (cmpR a b < 0) = lessR a b := by
  unfold cmpR lessR
  by_cases h1 : a = b
  · subst h1; by_cases h2 : a = -1 <;> simp [h2]
  · by_cases h2 : a = -1
    · subst h2; simp [h1]
    · by_cases h3 : b = -1
      · subst h3; simp [h2]
      · by_cases h4 : a < b <;> simp [h1, h2, h3, h4]
theorem cmpR_yes {a b : Int} (h : lessR a b = true) : cmpR a b < 0 := by rw [← cmpR_neg] at h; simpa using h
theorem cmpR_no {a b : Int} (h : lessR a b = false) : ¬ cmpR a b < 0 := by rw [← cmpR_neg] at h; simpa using h
theorem cmpR_bd (a b : Int) : -1 ≤ cmpR a b ∧ cmpR a b ≤ 1 := by
  unfold cmpR
  split
  · omega
  · split
    · omega
    · split
      · omega
      · split <;> omega

set_option maxHeartbeats 1000000 in
theorem cmpCompare (a b : Int) (w : World) : Calls Try.prog 75 #[.int .i64 a, .int .i64 b] w fun e w' => e = .returned (.int .i64 (cmpI a b)) ∧ w = w' := by
  have n1 : (a != a) = false := by simp
  have n2 : (b != b) = false := by simp
  rcases Int.lt_trichotomy a b with h | h | h
  · go_enter Try.func75, Try.ntmps75
    go_wp2
    go_ret
    exact ⟨ret_int (by simp [cmpI, h]), rfl⟩
  · subst h
    go_enter Try.func75, Try.ntmps75
    go_wp2
    go_ret
    exact ⟨ret_int (by simp [cmpI]), rfl⟩
  · have h2 : ¬ a < b := by omega
    go_enter Try.func75, Try.ntmps75
    go_wp2
    go_ret
    exact ⟨ret_int (by simp [cmpI, h, h2]), rfl⟩

set_option maxHeartbeats 1000000 in
theorem compareResults_any (a b : Int) (w : World) : Calls Try.prog 47 #[.int .i64 a, .int .i64 b] w fun e w' => e = .returned (.int .i64 (cmpR a b)) ∧ w = w' := by
  by_cases h1 : a = b
  · subst h1
    go_enter Try.func47, Try.ntmps47
    go_wp2
    go_ret
    exact ⟨ret_int (by simp [cmpR]), rfl⟩
  · have e1 : (a == b) = false := by simpa using h1
    by_cases h2 : a = -1
    · subst h2
      go_enter Try.func47, Try.ntmps47
      go_wp2
      go_ret
      exact ⟨ret_int (by simp [cmpR, h1]), rfl⟩
    · have e2 : (a == -1) = false := by simpa using h2
      by_cases h3 : b = -1
      · subst h3
        go_enter Try.func47, Try.ntmps47
        go_wp2
        go_ret
        exact ⟨ret_int (by simp [cmpR, h2]), rfl⟩
      · have e3 : (b == -1) = false := by simpa using h3
        have H1 := Lib.hid h1
        have H2 := Lib.hid h2
        have H3 := Lib.hid h3
        clear h1 h2 h3
        go_enter Try.func47, Try.ntmps47
        go_wp2_with (first | (go_at_call 75; refine (cmpCompare _ _ _).mono ?_; rintro e w' ⟨rfl, rfl⟩))
        go_ret
        refine ⟨ret_int ?_, rfl⟩
        have k1 := H1.out
        simp only [cmpR, cmpI, H1.out, H2.out, H3.out, if_false]
        split
        · rfl
        · rw [if_pos (by omega)]

set_option maxHeartbeats 1000000 in
theorem specResLess (a b : Int) (w : World) : Calls Try.prog 60 #[.int .i64 a, .int .i64 b] w fun e w' => e = .returned (.bool (resLess a b)) ∧ w = w' := by
  cases h1 : isRes a
  · go_enter Try.func60, Try.ntmps60
    go_wp2_with (first | (go_at_call 59; refine (specIsRes _ _).mono ?_; rintro e w' ⟨rfl, rfl⟩))
    go_ret
    exact ⟨ret_bool (by simp [resLess, h1]), rfl⟩
  cases h2 : isRes b
  · go_enter Try.func60, Try.ntmps60
    go_wp2_with (first | (go_at_call 59; refine (specIsRes _ _).mono ?_; rintro e w' ⟨rfl, rfl⟩))
    go_ret
    exact ⟨ret_bool (by simp [resLess, h1, h2]), rfl⟩
  by_cases h3 : a = -1
  · have e3 : (a == -1) = true := by simpa using h3
    have H3 := Lib.hid h3
    clear h3
    go_enter Try.func60, Try.ntmps60
    go_wp2_with (first | (go_at_call 59; refine (specIsRes _ _).mono ?_; rintro e w' ⟨rfl, rfl⟩))
    go_ret
    exact ⟨ret_bool (by simp [resLess, lessR, e3]), rfl⟩
  · have e3 : (a == -1) = false := by simpa using h3
    have H3 := Lib.hid h3
    clear h3
    by_cases h4 : b = -1
    · have e4 : (b == -1) = true := by simpa using h4
      have H4 := Lib.hid h4
      clear h4
      go_enter Try.func60, Try.ntmps60
      go_wp2_with (first | (go_at_call 59; refine (specIsRes _ _).mono ?_; rintro e w' ⟨rfl, rfl⟩))
      go_ret
      exact ⟨ret_bool (by simp [resLess, lessR, e3, e4, h1, h2]), rfl⟩
    · have e4 : (b == -1) = false := by simpa using h4
      have H4 := Lib.hid h4
      clear h4
      go_enter Try.func60, Try.ntmps60
      go_wp2_with (first | (go_at_call 59; refine (specIsRes _ _).mono ?_; rintro e w' ⟨rfl, rfl⟩))
      go_ret
      exact ⟨ret_bool (by simp [resLess, lessR, e3, e4, h1, h2]), rfl⟩
end Go.Proofs.Ytejacbgogcjbnaa
