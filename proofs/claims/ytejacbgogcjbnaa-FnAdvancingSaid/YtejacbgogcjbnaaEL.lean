/- Entries compared, at both packages. Conditions: as each contract says. -/
import Derived.Test.YtejacbgogcjbnaaSpecAvg
import Derived.Test.YtejacbgogcjbnaaEnt
import Derived.Deep.RegionHeld3
namespace Go.Proofs.Ytejacbgogcjbnaa
open Go.RowKit

def lessE (xs ys : List Int) : Bool := if xs.length = 5 ∧ avgOf xs ≠ avgOf ys then lessR (avgOf xs) (avgOf ys) else lessR (bestOf xs) (bestOf ys)
def entLess (k1 : Int) (xs : List Int) (k2 : Int) (ys : List Int) : Bool := entOk k1 xs && entOk k2 ys && decide (xs.length = ys.length) && lessE xs ys
theorem sum_bd {xs : List Int} (h : xs.all isRes = true) (hd : xs.any isDnf = false) : 0 ≤ xs.sum ∧ xs.sum ≤ xs.length * 360000 := by
  induction xs with
  | nil => simp
  | cons x xs ih =>
    rw [List.all_cons, Bool.and_eq_true] at h
    rw [List.any_cons, Bool.or_eq_false_iff] at hd
    have := ih h.2 hd.2
    have hb := isRes_bd h.1 hd.1
    rw [List.sum_cons, List.length_cons]
    omega
theorem avgOf_isRes {xs : List Int} (h5 : xs.length = 5) (h : xs.all isRes = true) : isRes (avgOf xs) = true := by
  have hl : (mid3 xs).length = 3 := by rw [mid3, List.length_take, List.length_drop, isort_len, h5]; rfl
  have ha := take3_isRes h
  rw [avgOf, show ((isort xs).drop 1).take 3 = mid3 xs from rfl]
  cases hd : (mid3 xs).any isDnf
  · have hb := sum_bd ha hd
    rw [meanOf_fin hd, hl]
    rw [hl] at hb
    have e : 0 ≤ (2 * (mid3 xs).sum + ((3 : Nat) : Int)) / (2 * ((3 : Nat) : Int)) ∧ (2 * (mid3 xs).sum + ((3 : Nat) : Int)) / (2 * ((3 : Nat) : Int)) ≤ 360000 := by omega
    simp [isRes, inR]
    omega
  · rw [meanOf_dnf hd]
    decide
theorem resLess_less {a b : Int} (ha : isRes a = true) (hb : isRes b = true) : resLess a b = lessR a b := by rw [resLess, ha, hb]; rfl

theorem specAverage5 (A : Option Addr) (c : Nat) (xs : List Int) (h5 : xs.length = 5) (w : World) (hx : IntsAt w A xs) (hv : xs.all isRes = true) :
    Calls Try.prog 85 #[.slice A 5 c] w fun e w' => e = .returned (.int .i64 (avgOf xs)) ∧ Below w.heap.size w w' := by
  have h := specAverage A c xs h5 w hx hv
  rw [h5] at h
  exact h
theorem specBestM (A : Option Addr) (c n : Nat) (xs : List Int) (hn : xs.length = n) (w : World) (hx : IntsAt w A xs) (hl : n ≤ 5) (hv : xs.all isRes = true) :
    Calls Try.prog 30 #[.slice A n c] w fun e w' => e = .returned (.int .i64 (bestOf xs)) ∧ w = w' := by
  subst hn
  exact specBest A c xs w hx (by omega) hv

set_option maxRecDepth 3000 in
set_option maxHeartbeats 600000 in
theorem specL26Less (k1 : Int) (A1 : Option Addr) (c1 : Nat) (xs1 : List Int) (k2 : Int) (A2 : Option Addr) (c2 : Nat) (xs2 : List Int) (n : Nat) (w : World) (hx : IntsAt w A1 xs1) (hy : IntsAt w A2 xs2)
    (h1 : xs1.length = n) (h2 : xs2.length = n) (hn : n ≤ 5) (hv1 : xs1.all isRes = true) (hv2 : xs2.all isRes = true) :
    Calls Try.prog 74 #[.agg #[.int .i64 k1, .slice A1 n c1], .agg #[.int .i64 k2, .slice A2 n c2]] w fun e w' => e = .returned (.bool (lessE xs1 xs2)) ∧ Below w.heap.size w w' := by
  have HB := Lib.hid (resLess_less (best_isRes xs1 hv1) (best_isRes xs2 hv2))
  by_cases h5 : n = 5
  · subst h5
    have HA := Lib.hid (resLess_less (avgOf_isRes h1 hv1) (avgOf_isRes h2 hv2))
    have H1 := Lib.hid h1
    have H2 := Lib.hid h2
    have HV1 := Lib.hid hv1
    have HV2 := Lib.hid hv2
    clear h1 h2 hv1 hv2
    have hB0 : Below w.heap.size w ((w.alloc (.cells #[.int .i64 k1, .slice A1 5 c1] 32)).alloc (.cells #[.int .i64 k2, .slice A2 5 c2] 32)) := (by repeat (first | exact Below.refl _ _ | assumption | refine Below.setCell ?_ (by first | omega | (simp <;> omega)) _ | refine Below.alloc ?_ (by first | omega | (simp <;> omega)) _ | refine Below.drew ?_))
    have g1 : ((w.alloc (.cells #[.int .i64 k1, .slice A1 5 c1] 32)).alloc (.cells #[.int .i64 k2, .slice A2 5 c2] 32)).cell? ⟨w.heap.size, 1, none⟩ = some (.slice A1 5 c1) := by simp
    have g2 : ((w.alloc (.cells #[.int .i64 k1, .slice A1 5 c1] 32)).alloc (.cells #[.int .i64 k2, .slice A2 5 c2] 32)).cell? ⟨w.heap.size + 1, 1, none⟩ = some (.slice A2 5 c2) := by simp
    go_enter Try.func74, Try.ntmps74
    go_wp2_with fail
    refine (specAverage5 A1 c1 xs1 H1.out _ (hx.below hB0) HV1.out).mono ?_
    rintro e w1 ⟨rfl, hb1⟩
    have hB1 : Below w.heap.size w w1 := belowStep hb1 hB0
    have hz1 : w.heap.size + 1 < w1.heap.size := by have := hb1.size; simp at this; omega
    have g1 := (hb1.cell (p := ⟨w.heap.size, 1, none⟩) (by simp; omega)).trans g1
    have g2 := (hb1.cell (p := ⟨w.heap.size + 1, 1, none⟩) (by simp)).trans g2
    clear hb1
    go_wp2_with fail
    refine (specAverage5 A2 c2 xs2 H2.out _ (hy.below hB1) HV2.out).mono ?_
    rintro e w2 ⟨rfl, hb2⟩
    have hB2 : Below w.heap.size w w2 := belowStep hb2 hB1
    have hz2 : w.heap.size + 1 < w2.heap.size := Nat.lt_of_lt_of_le hz1 hb2.size
    have g1 := (hb2.cell (p := ⟨w.heap.size, 1, none⟩) (by exact Nat.lt_of_succ_lt hz1)).trans g1
    have g2 := (hb2.cell (p := ⟨w.heap.size + 1, 1, none⟩) hz1).trans g2
    clear hb2
    have hx2 := hx.below hB2
    have hy2 := hy.below hB2
    by_cases ha : avgOf xs1 = avgOf xs2
    · have hne : (avgOf xs1 != avgOf xs2) = false := by simpa using ha
      have HE : Hid (lessE xs1 xs2 = lessR (bestOf xs1) (bestOf xs2)) := by unfold Hid lessE; rw [if_neg (by rw [ha]; simp)]
      clear ha
      go_wp2_with fail
      go_quiet (first | (go_at_call 30; first | with_reducible exact quietLeft (specBestM A1 c1 5 xs1 H1.out _ (hx2.drewN _) (Nat.le_refl 5) HV1.out) | with_reducible exact quietLeft (specBestM A2 c2 5 xs2 H2.out _ (hy2.drewN _) (Nat.le_refl 5) HV2.out)) | (go_at_call 60; exact quietLeft (specResLess _ _ _)))
      go_wp2
      go_ret
      exact ⟨ret_bool (by rw [HE.out, HB.out]), belowDrewN hB2 _⟩
    · have hne : (avgOf xs1 != avgOf xs2) = true := by simpa using ha
      have HE : Hid (lessE xs1 xs2 = lessR (avgOf xs1) (avgOf xs2)) := by unfold Hid lessE; rw [if_pos ⟨H1.out, ha⟩]
      clear ha
      go_wp2_with (first | (go_at_call 60; refine (specResLess _ _ _).mono ?_; rintro e w' ⟨rfl, rfl⟩))
      go_ret
      exact ⟨ret_bool (by rw [HE.out, HA.out]), hB2⟩
  · have hn5 : ((n : Int) == 5) = false := by simp; omega
    have HE : Hid (lessE xs1 xs2 = lessR (bestOf xs1) (bestOf xs2)) := by unfold Hid lessE; rw [if_neg (by rw [h1]; exact fun h => h5 h.1)]
    have H1 := Lib.hid h1
    have H2 := Lib.hid h2
    have HV1 := Lib.hid hv1
    have HV2 := Lib.hid hv2
    clear h1 h2 hv1 hv2 h5
    have hB0 : Below w.heap.size w ((w.alloc (.cells #[.int .i64 k1, .slice A1 n c1] 32)).alloc (.cells #[.int .i64 k2, .slice A2 n c2] 32)) := (by repeat (first | exact Below.refl _ _ | assumption | refine Below.setCell ?_ (by first | omega | (simp <;> omega)) _ | refine Below.alloc ?_ (by first | omega | (simp <;> omega)) _ | refine Below.drew ?_))
    have hx2 := hx.below hB0
    have hy2 := hy.below hB0
    go_enter Try.func74, Try.ntmps74
    go_wp2_with fail
    go_quiet (first | (go_at_call 30; first | with_reducible exact quietLeft (specBestM A1 c1 n xs1 H1.out _ (hx2.drewN _) hn HV1.out) | with_reducible exact quietLeft (specBestM A2 c2 n xs2 H2.out _ (hy2.drewN _) hn HV2.out)) | (go_at_call 60; exact quietLeft (specResLess _ _ _)))
    go_wp2
    go_ret
    exact ⟨ret_bool (by rw [HE.out, HB.out]), belowDrewN hB0 _⟩
end Go.Proofs.Ytejacbgogcjbnaa
