/- EntryLess at both packages. Conditions: as each contract says. -/
import Derived.Test.YtdjkelhmdondcaaEL
namespace Go.Proofs.Ytdjkelhmdondcaa
open Go.RowKit

theorem specEntOkN (k1 : Int) (A1 : Option Addr) (c1 n : Nat) (xs1 : List Int) (hn : xs1.length = n) (w : World) (hx : IntsAt w A1 xs1) (hl : n ≤ 1048576) :
    Calls Try.prog 48 #[.agg #[.int .i64 k1, .slice A1 n c1]] w fun e w' => e = .returned (.bool (entOk k1 xs1)) ∧ Below w.heap.size w w' := by
  subst hn
  exact specEntOk k1 A1 c1 xs1 w hx hl
theorem implEntOkN (k1 : Int) (A1 : Option Addr) (c1 n : Nat) (xs1 : List Int) (hn : xs1.length = n) (w : World) (hx : IntsAt w A1 xs1) (hl : n ≤ 1048576) :
    Calls Try.prog 50 #[.agg #[.int .i64 k1, .slice A1 n c1]] w fun e w' => e = .returned (.bool (entOk k1 xs1)) ∧ Below w.heap.size w w' := by
  subst hn
  exact implEntOk k1 A1 c1 xs1 w hx hl
theorem entOk_parts {k : Int} {xs : List Int} (h : entOk k xs = true) : xs.length ≤ 5 ∧ xs.all isRes = true := by
  rw [entOk, Bool.and_eq_true, Bool.and_eq_true] at h
  exact ⟨okTimes_len h.2.2, okTimes_all h.2.2⟩

set_option maxRecDepth 3000 in
set_option maxHeartbeats 400000 in
theorem specEntryLess (k1 : Int) (A1 : Option Addr) (c1 : Nat) (xs1 : List Int) (k2 : Int) (A2 : Option Addr) (c2 : Nat) (xs2 : List Int) (n1 n2 : Nat) (w : World) (hx : IntsAt w A1 xs1) (hy : IntsAt w A2 xs2)
    (h1 : xs1.length = n1) (h2 : xs2.length = n2) (hl1 : n1 ≤ 1048576) (hl2 : n2 ≤ 1048576) :
    Calls Try.prog 76 #[.agg #[.int .i64 k1, .slice A1 n1 c1], .agg #[.int .i64 k2, .slice A2 n2 c2]] w fun e w' => e = .returned (.bool (entLess k1 xs1 k2 xs2)) ∧ Below w.heap.size w w' := by
  have H1 := Lib.hid h1
  have H2 := Lib.hid h2
  clear h1 h2
  have hB0 : Below w.heap.size w ((w.alloc (.cells #[.int .i64 k1, .slice A1 n1 c1] 49)).alloc (.cells #[.int .i64 k2, .slice A2 n2 c2] 49)) := (by repeat (first | exact Below.refl _ _ | assumption | refine Below.setCell ?_ (by first | omega | (simp <;> omega)) _ | refine Below.alloc ?_ (by first | omega | (simp <;> omega)) _ | refine Below.drew ?_))
  have g0 : ((w.alloc (.cells #[.int .i64 k1, .slice A1 n1 c1] 49)).alloc (.cells #[.int .i64 k2, .slice A2 n2 c2] 49)).cell? ⟨w.heap.size, 0, none⟩ = some (.int .i64 k1) := by simp
  have g1 : ((w.alloc (.cells #[.int .i64 k1, .slice A1 n1 c1] 49)).alloc (.cells #[.int .i64 k2, .slice A2 n2 c2] 49)).cell? ⟨w.heap.size, 1, none⟩ = some (.slice A1 n1 c1) := by simp
  have g2 : ((w.alloc (.cells #[.int .i64 k1, .slice A1 n1 c1] 49)).alloc (.cells #[.int .i64 k2, .slice A2 n2 c2] 49)).cell? ⟨w.heap.size + 1, 0, none⟩ = some (.int .i64 k2) := by simp
  have g3 : ((w.alloc (.cells #[.int .i64 k1, .slice A1 n1 c1] 49)).alloc (.cells #[.int .i64 k2, .slice A2 n2 c2] 49)).cell? ⟨w.heap.size + 1, 1, none⟩ = some (.slice A2 n2 c2) := by simp
  cases e1 : entOk k1 xs1
  · go_enter Try.func76, Try.ntmps76
    go_wp2_with fail
    refine (specEntOkN k1 A1 c1 n1 xs1 H1.out _ (hx.below hB0) hl1).mono ?_
    rintro e w1 ⟨rfl, hb1⟩
    go_wp2_with fail
    go_ret
    exact ⟨ret_bool (by simp [entLess, e1]), belowStep hb1 hB0⟩
  cases e2 : entOk k2 xs2
  · go_enter Try.func76, Try.ntmps76
    go_wp2_with fail
    refine (specEntOkN k1 A1 c1 n1 xs1 H1.out _ (hx.below hB0) hl1).mono ?_
    rintro e w1 ⟨rfl, hb1⟩
    have hB1 : Below w.heap.size w w1 := belowStep hb1 hB0
    have g2 := (hb1.cell (p := ⟨w.heap.size + 1, 0, none⟩) (by simp)).trans g2
    have g3 := (hb1.cell (p := ⟨w.heap.size + 1, 1, none⟩) (by simp)).trans g3
    go_wp2_with fail
    refine (specEntOkN k2 A2 c2 n2 xs2 H2.out _ (hy.below hB1) hl2).mono ?_
    rintro e w2 ⟨rfl, hb2⟩
    go_wp2_with fail
    go_ret
    exact ⟨ret_bool (by simp [entLess, e1, e2]), belowStep hb2 hB1⟩
  have HP1 := Lib.hid (entOk_parts e1)
  have HP2 := Lib.hid (entOk_parts e2)
  rcases Decidable.em (n1 = n2) with rfl | hn
  all_goals
    try (have hne : ((n1 : Int) == (n2 : Int)) = false := by simp; omega)
    try (have HN := Lib.hid hn)
    try clear hn
    go_enter Try.func76, Try.ntmps76
    go_wp2_with fail
    refine (specEntOkN k1 A1 c1 n1 xs1 H1.out _ (hx.below hB0) hl1).mono ?_
    rintro e w1 ⟨rfl, hb1⟩
    have hB1 : Below w.heap.size w w1 := belowStep hb1 hB0
    have hz1 : w.heap.size + 1 < w1.heap.size := by have := hb1.size; simp at this; omega
    have g0 := (hb1.cell (p := ⟨w.heap.size, 0, none⟩) (by simp; omega)).trans g0
    have g1 := (hb1.cell (p := ⟨w.heap.size, 1, none⟩) (by simp; omega)).trans g1
    have g2 := (hb1.cell (p := ⟨w.heap.size + 1, 0, none⟩) (by simp)).trans g2
    have g3 := (hb1.cell (p := ⟨w.heap.size + 1, 1, none⟩) (by simp)).trans g3
    go_wp2_with fail
    refine (specEntOkN k2 A2 c2 _ xs2 H2.out _ (hy.below hB1) hl2).mono ?_
    rintro e w2 ⟨rfl, hb2⟩
    have hB2 : Below w.heap.size w w2 := belowStep hb2 hB1
    have g0 := (hb2.cell (p := ⟨w.heap.size, 0, none⟩) (by exact Nat.lt_of_succ_lt hz1)).trans g0
    have g1 := (hb2.cell (p := ⟨w.heap.size, 1, none⟩) (by exact Nat.lt_of_succ_lt hz1)).trans g1
    have g2 := (hb2.cell (p := ⟨w.heap.size + 1, 0, none⟩) hz1).trans g2
    have g3 := (hb2.cell (p := ⟨w.heap.size + 1, 1, none⟩) hz1).trans g3
  · go_wp2_with fail
    refine (specL26Less k1 A1 c1 xs1 k2 A2 c2 xs2 n1 _ (hx.below hB2) (hy.below hB2) H1.out H2.out (by have := HP1.out.1; rw [H1.out] at this; exact this) HP1.out.2 HP2.out.2).mono ?_
    rintro e w3 ⟨rfl, hb3⟩
    go_wp2_with fail
    go_ret
    exact ⟨ret_bool (by simp [entLess, e1, e2, H1.out, H2.out]), belowStep hb3 hB2⟩
  · go_wp2_with fail
    go_ret
    exact ⟨ret_bool (by simp [entLess, H1.out, H2.out, HN.out]), hB2⟩
end Go.Proofs.Ytdjkelhmdondcaa
