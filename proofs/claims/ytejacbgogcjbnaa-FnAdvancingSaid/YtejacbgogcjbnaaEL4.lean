/- EntryLess at the implementation: the walk. Conditions: as each contract says. -/
import Derived.Test.YtejacbgogcjbnaaEL3
namespace Go.Proofs.Ytejacbgogcjbnaa
open Go.RowKit

set_option maxRecDepth 3000 in
set_option maxHeartbeats 1000000 in
theorem implEntryLess (k1 : Int) (A1 : Option Addr) (c1 : Nat) (xs1 : List Int) (k2 : Int) (A2 : Option Addr) (c2 : Nat) (xs2 : List Int) (n1 n2 : Nat) (w : World) (hx : IntsAt w A1 xs1) (hy : IntsAt w A2 xs2)
    (h1 : xs1.length = n1) (h2 : xs2.length = n2) (hl1 : n1 ≤ 1048576) (hl2 : n2 ≤ 1048576) :
    Calls Try.prog 19 #[.agg #[.int .i64 k1, .slice A1 n1 c1], .agg #[.int .i64 k2, .slice A2 n2 c2]] w fun e w' => e = .returned (.bool (entLess k1 xs1 k2 xs2)) ∧ Below w.heap.size w w' := by
  have H1 := Lib.hid h1
  have H2 := Lib.hid h2
  clear h1 h2
  have hB0 : Below w.heap.size w ((w.alloc (.cells #[.int .i64 k1, .slice A1 n1 c1] 32)).alloc (.cells #[.int .i64 k2, .slice A2 n2 c2] 32)) := (by repeat (first | exact Below.refl _ _ | assumption | refine Below.setCell ?_ (by first | omega | (simp <;> omega)) _ | refine Below.alloc ?_ (by first | omega | (simp <;> omega)) _ | refine Below.drew ?_))
  have g0 : ((w.alloc (.cells #[.int .i64 k1, .slice A1 n1 c1] 32)).alloc (.cells #[.int .i64 k2, .slice A2 n2 c2] 32)).cell? ⟨w.heap.size, 0, none⟩ = some (.int .i64 k1) := by simp
  have g1 : ((w.alloc (.cells #[.int .i64 k1, .slice A1 n1 c1] 32)).alloc (.cells #[.int .i64 k2, .slice A2 n2 c2] 32)).cell? ⟨w.heap.size, 1, none⟩ = some (.slice A1 n1 c1) := by simp
  have g2 : ((w.alloc (.cells #[.int .i64 k1, .slice A1 n1 c1] 32)).alloc (.cells #[.int .i64 k2, .slice A2 n2 c2] 32)).cell? ⟨w.heap.size + 1, 0, none⟩ = some (.int .i64 k2) := by simp
  have g3 : ((w.alloc (.cells #[.int .i64 k1, .slice A1 n1 c1] 32)).alloc (.cells #[.int .i64 k2, .slice A2 n2 c2] 32)).cell? ⟨w.heap.size + 1, 1, none⟩ = some (.slice A2 n2 c2) := by simp
  cases e1 : entOk k1 xs1
  · go_enter Try.func19, Try.ntmps19
    go_wp2_with fail
    refine (implEntOkN k1 A1 c1 n1 xs1 H1.out _ (hx.below hB0) hl1).mono ?_
    rintro e w1 ⟨rfl, hb1⟩
    go_wp2_with fail
    go_ret
    exact ⟨ret_bool (by simp [entLess, e1]), belowStep hb1 hB0⟩
  cases e2 : entOk k2 xs2
  · go_enter Try.func19, Try.ntmps19
    go_wp2_with fail
    refine (implEntOkN k1 A1 c1 n1 xs1 H1.out _ (hx.below hB0) hl1).mono ?_
    rintro e w1 ⟨rfl, hb1⟩
    have hB1 : Below w.heap.size w w1 := belowStep hb1 hB0
    have g2 := (hb1.cell (p := ⟨w.heap.size + 1, 0, none⟩) (by simp)).trans g2
    have g3 := (hb1.cell (p := ⟨w.heap.size + 1, 1, none⟩) (by simp)).trans g3
    go_wp2_with fail
    refine (implEntOkN k2 A2 c2 n2 xs2 H2.out _ (hy.below hB1) hl2).mono ?_
    rintro e w2 ⟨rfl, hb2⟩
    go_wp2_with fail
    go_ret
    exact ⟨ret_bool (by simp [entLess, e1, e2]), belowStep hb2 hB1⟩
  have HP1 := Lib.hid (entOk_parts e1)
  have HP2 := Lib.hid (entOk_parts e2)
  rcases Decidable.em (n1 = n2) with rfl | hn
  all_goals
    try (have hne : ((n1 : Int) != (n2 : Int)) = true := by simp; omega)
    try (have HN := Lib.hid hn)
    try clear hn
    go_enter Try.func19, Try.ntmps19
    go_wp2_with fail
    refine (implEntOkN k1 A1 c1 n1 xs1 H1.out _ (hx.below hB0) hl1).mono ?_
    rintro e w1 ⟨rfl, hb1⟩
    have hB1 : Below w.heap.size w w1 := belowStep hb1 hB0
    have hz1 : w.heap.size + 1 < w1.heap.size := by have := hb1.size; simp at this; omega
    have g0 := (hb1.cell (p := ⟨w.heap.size, 0, none⟩) (by simp; omega)).trans g0
    have g1 := (hb1.cell (p := ⟨w.heap.size, 1, none⟩) (by simp; omega)).trans g1
    have g2 := (hb1.cell (p := ⟨w.heap.size + 1, 0, none⟩) (by simp)).trans g2
    have g3 := (hb1.cell (p := ⟨w.heap.size + 1, 1, none⟩) (by simp)).trans g3
    go_wp2_with fail
    refine (implEntOkN k2 A2 c2 _ xs2 H2.out _ (hy.below hB1) hl2).mono ?_
    rintro e w2 ⟨rfl, hb2⟩
    have hB2 : Below w.heap.size w w2 := belowStep hb2 hB1
    have g0 := (hb2.cell (p := ⟨w.heap.size, 0, none⟩) (by exact Nat.lt_of_succ_lt hz1)).trans g0
    have g1 := (hb2.cell (p := ⟨w.heap.size, 1, none⟩) (by exact Nat.lt_of_succ_lt hz1)).trans g1
    have g2 := (hb2.cell (p := ⟨w.heap.size + 1, 0, none⟩) hz1).trans g2
    have g3 := (hb2.cell (p := ⟨w.heap.size + 1, 1, none⟩) hz1).trans g3
  · have hx2 := hx.below hB2
    have hy2 := hy.below hB2
    have hz2 : w.heap.size + 1 < w2.heap.size := Nat.lt_of_lt_of_le hz1 hb2.size
    have hz2a : w.heap.size < w2.heap.size := Nat.lt_of_succ_lt hz2
    have hn5 : n1 ≤ 5 := by have := HP1.out.1; rw [H1.out] at this; exact this
    by_cases h5 : n1 = 5
    · subst h5
      go_wp2_with fail
      go_region_held3 (fun w' => w'.cell? ⟨w.heap.size, 1, none⟩ = some (.slice A1 5 c1) ∧ w'.cell? ⟨w.heap.size + 1, 1, none⟩ = some (.slice A2 5 c2))
        (first | go_keep | exact ⟨(hb6.cell (p := ⟨w.heap.size, 1, none⟩) hz2a).trans g1, (hb6.cell (p := ⟨w.heap.size + 1, 1, none⟩) hz2).trans g3⟩ | exact ⟨(hb7.cell (p := ⟨w.heap.size, 1, none⟩) hz6a).trans q1, (hb7.cell (p := ⟨w.heap.size + 1, 1, none⟩) hz6).trans q3⟩)
        (first | (go_at_call 48; first | (refine (implTrimmedO _ _ _ _ (by exact hx2) H1.out).mono ?_; rintro e w6 ⟨rfl, hb6⟩; have hz6 : w.heap.size + 1 < w6.heap.size := Nat.lt_of_lt_of_le hz2 hb6.size; have hz6a : w.heap.size < w6.heap.size := Nat.lt_of_succ_lt hz6; have q1 := (hb6.cell (p := ⟨w.heap.size, 1, none⟩) hz2a).trans g1; have q3 := (hb6.cell (p := ⟨w.heap.size + 1, 1, none⟩) hz2).trans g3; have hx6 : IntsAt w6 A1 xs1 := IntsAt.below (w := World.drew _) hx2 hb6; have hy6 : IntsAt w6 A2 xs2 := IntsAt.below (w := World.drew _) hy2 hb6) | (refine (implTrimmedO _ _ _ _ (by exact hy6) H2.out).mono ?_; rintro e w7 ⟨rfl, hb7⟩; have hz7 : w.heap.size + 1 < w7.heap.size := Nat.lt_of_lt_of_le hz6 hb7.size; have hz7a : w.heap.size < w7.heap.size := Nat.lt_of_succ_lt hz7; have r1 := (hb7.cell (p := ⟨w.heap.size, 1, none⟩) hz6a).trans q1; have r3 := (hb7.cell (p := ⟨w.heap.size + 1, 1, none⟩) hz6).trans q3; have hx7 : IntsAt w7 A1 xs1 := hx6.below hb7; have hy7 : IntsAt w7 A2 xs2 := hy6.below hb7)) | (go_at_call 47; refine (compareResults_any _ _ _).mono ?_; rintro e w' ⟨rfl, rfl⟩))
      go_wp2_with fail
      go_region_held3 (fun w' => w'.cell? ⟨w.heap.size, 1, none⟩ = some (.slice A1 5 c1) ∧ w'.cell? ⟨w.heap.size + 1, 1, none⟩ = some (.slice A2 5 c2))
        (first | go_keep | exact ⟨r1, r3⟩)
        (first | (go_at_call 50; refine (implBestO _ _ _ _ _ (by first | exact hx7 | exact hy7) (by first | exact H1.out | exact H2.out) (Nat.le_refl 5)).mono ?_; rintro e w' ⟨rfl, rfl⟩) | (go_at_call 47; refine (compareResults_any _ _ _).mono ?_; rintro e w' ⟨rfl, rfl⟩) | (go_at_call 49; refine (cmpOr2 _ (cmpR (avgRes xs1) (avgRes xs2)) (cmpR (bestOf xs1) (bestOf xs2)) _ (by simp) (by simp)).mono ?_; rintro e w' ⟨rfl, rfl⟩))
      go_wp2_with fail
      go_ret
      exact ⟨ret_bool (by rw [or_less5 H1.out HP1.out.2 H2.out HP2.out.2]; simp [entLess, e1, e2, H1.out, H2.out]), (belowStep hb7 (belowStep hb6 hB2.drew)).drew.alloc (by simp; omega) _⟩
    · have hne5 : ((n1 : Int) == 5) = false := by simp; omega
      have H5 := Lib.hid h5
      clear h5
      go_wp2_with fail
      go_region_held3 (fun w' => w'.cell? ⟨w.heap.size, 1, none⟩ = some (.slice A1 n1 c1) ∧ w'.cell? ⟨w.heap.size + 1, 1, none⟩ = some (.slice A2 n1 c2))
        (first | go_keep | exact ⟨g1, g3⟩)
        (first | (go_at_call 50; refine (implBestO _ _ _ _ _ (by first | exact hx2 | exact hy2) (by first | exact H1.out | exact H2.out) hn5).mono ?_; rintro e w' ⟨rfl, rfl⟩) | (go_at_call 47; refine (compareResults_any _ _ _).mono ?_; rintro e w' ⟨rfl, rfl⟩) | (go_at_call 49; refine (cmpOr2 _ 0 (cmpR (bestOf xs1) (bestOf xs2)) _ (by simp) (by simp)).mono ?_; rintro e w' ⟨rfl, rfl⟩))
      go_wp2_with fail
      go_ret
      exact ⟨ret_bool (by rw [or_less (by rw [H1.out]; exact H5.out)]; simp [entLess, e1, e2, H1.out, H2.out]), hB2.drew.alloc (by simp; omega) _⟩
  · go_wp2_with fail
    go_ret
    exact ⟨ret_bool (by simp [entLess, H1.out, H2.out, HN.out]), hB2⟩
end Go.Proofs.Ytejacbgogcjbnaa
