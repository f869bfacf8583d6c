/- ahead, at the reference. Conditions: as each contract says. -/
import Derived.Test.YtejacbgogcjbnaaNk
import Derived.BigQuiet
import Derived.Deep.QuietTactic
namespace Go.Proofs.Ytejacbgogcjbnaa
open Go.RowKit

theorem ahead_diff {r : RR} {k1 k2 : Int} {xs ys : List Int} {b : Bool} (h1 : ((xs.length : Int) == r.att) = b) (h2 : ((ys.length : Int) == r.att) = !b) : aheadE r (k1, xs) (k2, ys) = b := by
  cases b <;> simp [aheadE, fullE, h1, h2]
theorem ahead_full {r : RR} {k1 k2 : Int} {xs ys : List Int} (h1 : ((xs.length : Int) == r.att) = true) (h2 : ((ys.length : Int) == r.att) = true) : aheadE r (k1, xs) (k2, ys) = lessE xs ys := by
  simp [aheadE, fullE, h1, h2]
theorem ahead_none {r : RR} {k1 k2 : Int} {xs ys : List Int} (h1 : ((xs.length : Int) == r.att) = false) (h2 : ((ys.length : Int) == r.att) = false) : aheadE r (k1, xs) (k2, ys) = lessR (bestOf xs) (bestOf ys) := by
  simp [aheadE, fullE, h1, h2]
set_option maxRecDepth 3000 in
set_option maxHeartbeats 2000000 in
theorem specAhead (r : RR) (k1 : Int) (A1 : Option Addr) (c1 : Nat) (xs1 : List Int) (k2 : Int) (A2 : Option Addr) (c2 : Nat) (xs2 : List Int) (n1 n2 : Nat) (w : World) (hx : IntsAt w A1 xs1) (hy : IntsAt w A2 xs2)
    (h1 : xs1.length = n1) (h2 : xs2.length = n2) (hn1 : n1 ≤ 5) (hn2 : n2 ≤ 5) (hv1 : xs1.all isRes = true) (hv2 : xs2.all isRes = true) :
    Calls Try.prog 56 #[.agg #[.int .i64 r.att, .int .i64 r.lim, .int .i64 r.catt, .int .i64 r.cut, .int .i64 r.adv], .agg #[.int .i64 k1, .slice A1 n1 c1], .agg #[.int .i64 k2, .slice A2 n2 c2]] w fun e w' => e = .returned (.bool (aheadE r (k1, xs1) (k2, xs2))) ∧ Below w.heap.size w w' := by
  have HB := Lib.hid (resLess_less (best_isRes xs1 hv1) (best_isRes xs2 hv2))
  have H1 := Lib.hid h1
  have H2 := Lib.hid h2
  have HV1 := Lib.hid hv1
  have HV2 := Lib.hid hv2
  have hB0 : Below w.heap.size w (((w.alloc (.cells #[.int .i64 r.att, .int .i64 r.lim, .int .i64 r.catt, .int .i64 r.cut, .int .i64 r.adv] 25)).alloc (.cells #[.int .i64 k1, .slice A1 n1 c1] 32)).alloc (.cells #[.int .i64 k2, .slice A2 n2 c2] 32)) := (by repeat (first | exact Below.refl _ _ | assumption | refine Below.setCell ?_ (by first | omega | (simp <;> omega)) _ | refine Below.alloc ?_ (by first | omega | (simp <;> omega)) _ | refine Below.drew ?_))
  have hx2 := hx.below hB0
  have hy2 := hy.below hB0
  cases e1 : ((n1 : Int) == r.att) <;> cases e2 : ((n2 : Int) == r.att)
  · have HA : Hid (aheadE r (k1, xs1) (k2, xs2) = lessR (bestOf xs1) (bestOf xs2)) := ahead_none (by rw [h1]; exact e1) (by rw [h2]; exact e2)
    clear h1 h2 hv1 hv2
    go_enter Try.func56, Try.ntmps56
    go_wp2_with fail
    go_quiet (first | (go_at_call 30; first | with_reducible exact quietLeft (specBestM A1 c1 n1 xs1 H1.out _ (hx2.drewN _) hn1 HV1.out) | with_reducible exact quietLeft (specBestM A2 c2 n2 xs2 H2.out _ (hy2.drewN _) hn2 HV2.out)) | (go_at_call 60; exact quietLeft (specResLess _ _ _)))
    go_wp2
    go_ret
    exact ⟨ret_bool (by rw [HA.out, ← HB.out]), belowDrewN hB0 _⟩
  · have HA : Hid (aheadE r (k1, xs1) (k2, xs2) = false) := ahead_diff (by rw [h1]; exact e1) (by rw [h2]; exact e2)
    clear h1 h2 hv1 hv2
    go_enter Try.func56, Try.ntmps56
    go_wp2_with fail
    go_ret
    exact ⟨ret_bool (by rw [HA.out]), hB0⟩
  · have HA : Hid (aheadE r (k1, xs1) (k2, xs2) = true) := ahead_diff (by rw [h1]; exact e1) (by rw [h2]; exact e2)
    clear h1 h2 hv1 hv2
    go_enter Try.func56, Try.ntmps56
    go_wp2_with fail
    go_ret
    exact ⟨ret_bool (by rw [HA.out]), hB0⟩
  · have HA : Hid (aheadE r (k1, xs1) (k2, xs2) = lessE xs1 xs2) := ahead_full (by rw [h1]; exact e1) (by rw [h2]; exact e2)
    have he : n2 = n1 := by have a := eq_of_beq e1; have b := eq_of_beq e2; omega
    subst he
    clear h1 h2 hv1 hv2
    go_enter Try.func56, Try.ntmps56
    go_wp2_with fail
    refine (specL26Less k1 A1 c1 xs1 k2 A2 c2 xs2 _ _ (by exact hx2) (by exact hy2) H1.out H2.out hn1 HV1.out HV2.out).mono ?_
    rintro e w1 ⟨rfl, hb1⟩
    go_wp2_with fail
    go_ret
    exact ⟨ret_bool (by rw [HA.out]), belowStep hb1 hB0⟩
theorem cell_e12 (w : World) (o1 : Obj) (k1 k2 : Int) (S1 S2 : Value) : (((w.alloc o1).alloc (.cells #[.int .i64 k1, S1] 32)).alloc (.cells #[.int .i64 k2, S2] 32)).cell? ⟨w.heap.size + 1, 1, none⟩ = some S1 ∧ (((w.alloc o1).alloc (.cells #[.int .i64 k1, S1] 32)).alloc (.cells #[.int .i64 k2, S2] 32)).cell? ⟨w.heap.size + 1 + 1, 1, none⟩ = some S2 := by
  have s1 : (w.alloc o1).heap.size = w.heap.size + 1 := Array.size_push _
  generalize w.alloc o1 = w1 at *
  have h2 := heap_alloc_new w1 (.cells #[.int .i64 k1, S1] 32)
  have s2 : (w1.alloc (.cells #[.int .i64 k1, S1] 32)).heap.size = w1.heap.size + 1 := Array.size_push _
  generalize w1.alloc (.cells #[.int .i64 k1, S1] 32) = w2 at *
  have h3 := heap_alloc_new w2 (.cells #[.int .i64 k2, S2] 32)
  have b3 : Below w2.heap.size w2 (w2.alloc (.cells #[.int .i64 k2, S2] 32)) := (Below.refl _ _).alloc (Nat.le_refl _) _
  generalize w2.alloc (.cells #[.int .i64 k2, S2] 32) = w3 at *
  rw [← s1, ← s2]
  refine ⟨(cell_of_row _ _ 1 _ _ (0, 0) ((b3.block _ (by omega)).trans h2)).trans rfl, (cell_of_row _ _ 1 _ _ (0, 0) h3).trans rfl⟩
set_option maxRecDepth 3000 in
set_option maxHeartbeats 2000000 in
theorem implAhead (r : RR) (k1 : Int) (A1 : Option Addr) (c1 : Nat) (xs1 : List Int) (k2 : Int) (A2 : Option Addr) (c2 : Nat) (xs2 : List Int) (n1 n2 : Nat) (w : World) (hx : IntsAt w A1 xs1) (hy : IntsAt w A2 xs2)
    (h1 : xs1.length = n1) (h2 : xs2.length = n2) (hn1 : n1 ≤ 5) (hn2 : n2 ≤ 5) (hv1 : entOk k1 xs1 = true) (hv2 : entOk k2 xs2 = true) :
    Calls Try.prog 54 #[.agg #[.int .i64 r.att, .int .i64 r.lim, .int .i64 r.catt, .int .i64 r.cut, .int .i64 r.adv], .agg #[.int .i64 k1, .slice A1 n1 c1], .agg #[.int .i64 k2, .slice A2 n2 c2]] w fun e w' => e = .returned (.bool (aheadE r (k1, xs1) (k2, xs2))) ∧ Below w.heap.size w w' := by
  have H1 := Lib.hid h1
  have H2 := Lib.hid h2
  have HV1 := Lib.hid hv1
  have HV2 := Lib.hid hv2
  have hB0 : Below w.heap.size w (((w.alloc (.cells #[.int .i64 r.att, .int .i64 r.lim, .int .i64 r.catt, .int .i64 r.cut, .int .i64 r.adv] 25)).alloc (.cells #[.int .i64 k1, .slice A1 n1 c1] 32)).alloc (.cells #[.int .i64 k2, .slice A2 n2 c2] 32)) := (by repeat (first | exact Below.refl _ _ | assumption | refine Below.setCell ?_ (by first | omega | (simp <;> omega)) _ | refine Below.alloc ?_ (by first | omega | (simp <;> omega)) _ | refine Below.drew ?_))
  have Y1 : Hid ((((w.alloc (.cells #[.int .i64 r.att, .int .i64 r.lim, .int .i64 r.catt, .int .i64 r.cut, .int .i64 r.adv] 25)).alloc (.cells #[.int .i64 k1, .slice A1 n1 c1] 32)).alloc (.cells #[.int .i64 k2, .slice A2 n2 c2] 32)).cell? ⟨w.heap.size + 1, 1, none⟩ = some (.slice A1 n1 c1)) := (cell_e12 _ _ _ _ _ _).1
  have Y2 : Hid ((((w.alloc (.cells #[.int .i64 r.att, .int .i64 r.lim, .int .i64 r.catt, .int .i64 r.cut, .int .i64 r.adv] 25)).alloc (.cells #[.int .i64 k1, .slice A1 n1 c1] 32)).alloc (.cells #[.int .i64 k2, .slice A2 n2 c2] 32)).cell? ⟨w.heap.size + 1 + 1, 1, none⟩ = some (.slice A2 n2 c2)) := (cell_e12 _ _ _ _ _ _).2
  have hx2 := hx.below hB0
  have hy2 := hy.below hB0
  cases e1 : ((n1 : Int) == r.att) <;> cases e2 : ((n2 : Int) == r.att)
  · have HA : Hid (aheadE r (k1, xs1) (k2, xs2) = lessR (bestOf xs1) (bestOf xs2)) := ahead_none (by rw [h1]; exact e1) (by rw [h2]; exact e2)
    clear h1 h2 hv1 hv2
    go_enter Try.func54, Try.ntmps54
    go_wp2_with fail
    go_quiet (first | (go_at_call 66; exact quietLeft (lengthInts _ _ _ _)))
    have hx3 := hx2.drewN nq
    have hy3 := hy2.drewN nq
    have hB3 := belowDrewN hB0 nq
    have y1 : ((((w.alloc (.cells #[.int .i64 r.att, .int .i64 r.lim, .int .i64 r.catt, .int .i64 r.cut, .int .i64 r.adv] 25)).alloc (.cells #[.int .i64 k1, .slice A1 n1 c1] 32)).alloc (.cells #[.int .i64 k2, .slice A2 n2 c2] 32)).drewN nq).cell? ⟨w.heap.size + 1, 1, none⟩ = some (.slice A1 n1 c1) := Y1.out
    have y2 : ((((w.alloc (.cells #[.int .i64 r.att, .int .i64 r.lim, .int .i64 r.catt, .int .i64 r.cut, .int .i64 r.adv] 25)).alloc (.cells #[.int .i64 k1, .slice A1 n1 c1] 32)).alloc (.cells #[.int .i64 k2, .slice A2 n2 c2] 32)).drewN nq).cell? ⟨w.heap.size + 1 + 1, 1, none⟩ = some (.slice A2 n2 c2) := Y2.out
    generalize ((((w.alloc (.cells #[.int .i64 r.att, .int .i64 r.lim, .int .i64 r.catt, .int .i64 r.cut, .int .i64 r.adv] 25)).alloc (.cells #[.int .i64 k1, .slice A1 n1 c1] 32)).alloc (.cells #[.int .i64 k2, .slice A2 n2 c2] 32)).drewN nq) = w3 at *
    go_wp2_with fail
    go_quiet (first | (go_at_call 50; first | with_reducible exact quietLeft (implBestM A1 c1 n1 xs1 H1.out _ (hx3.drewN _) hn1) | with_reducible exact quietLeft (implBestM A2 c2 n2 xs2 H2.out _ (hy3.drewN _) hn2)) | (go_at_call 47; exact quietLeft (compareResults_any _ _ _)))
    go_wp2
    go_ret
    exact ⟨ret_bool (by rw [HA.out]; exact cmpR_neg _ _), belowDrewN hB3 _⟩
  · have HA : Hid (aheadE r (k1, xs1) (k2, xs2) = false) := ahead_diff (by rw [h1]; exact e1) (by rw [h2]; exact e2)
    clear h1 h2 hv1 hv2
    go_enter Try.func54, Try.ntmps54
    go_wp2_with fail
    go_quiet (first | (go_at_call 66; exact quietLeft (lengthInts _ _ _ _)))
    go_wp2_with fail
    go_ret
    exact ⟨ret_bool (by rw [HA.out]), belowDrewN hB0 _⟩
  · have HA : Hid (aheadE r (k1, xs1) (k2, xs2) = true) := ahead_diff (by rw [h1]; exact e1) (by rw [h2]; exact e2)
    clear h1 h2 hv1 hv2
    go_enter Try.func54, Try.ntmps54
    go_wp2_with fail
    go_quiet (first | (go_at_call 66; exact quietLeft (lengthInts _ _ _ _)))
    go_wp2_with fail
    go_ret
    exact ⟨ret_bool (by rw [HA.out]), belowDrewN hB0 _⟩
  · have HA : Hid (aheadE r (k1, xs1) (k2, xs2) = entLess k1 xs1 k2 xs2) := by
      unfold Hid
      rw [entLess_less HV1.out HV2.out (by have a := eq_of_beq e1; have b := eq_of_beq e2; omega)]
      exact ahead_full (by rw [h1]; exact e1) (by rw [h2]; exact e2)
    clear h1 h2 hv1 hv2
    go_enter Try.func54, Try.ntmps54
    go_wp2_with fail
    go_quiet (first | (go_at_call 66; exact quietLeft (lengthInts _ _ _ _)))
    go_wp2_with fail
    refine (implEntryLess k1 A1 c1 xs1 k2 A2 c2 xs2 _ _ _ (by exact hx2.drewN _) (by exact hy2.drewN _) H1.out H2.out (by omega) (by omega)).mono ?_
    rintro e w1 ⟨rfl, hb1⟩
    go_wp2_with fail
    go_ret
    exact ⟨ret_bool (by rw [HA.out]), belowStep hb1 (belowDrewN hB0 _)⟩
end Go.Proofs.Ytejacbgogcjbnaa
