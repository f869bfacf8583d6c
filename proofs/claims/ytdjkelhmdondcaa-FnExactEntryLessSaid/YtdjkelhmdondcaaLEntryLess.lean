/- FnExactEntryLess: for all arguments, both packages give one answer, and the arguments stay as they were. No conditions. -/
import Derived.Test.YtdjkelhmdondcaaEL4
import Derived.Test.YtdjkelhmdondcaaOpenE
import Derived.Deep.RegionHeld3
namespace Go.Proofs.Ytdjkelhmdondcaa.lawEntryLess
open Go.RowKit Go.ChangeShapes Go.WideShapes Go.ChangeAt
set_option maxRecDepth 3000 in
set_option maxHeartbeats 2000000 in
theorem walk (k1 : Int) (A1 : Option Addr) (c1 : Nat) (xs1 : List Int) (k2 : Int) (A2 : Option Addr) (c2 : Nat) (xs2 : List Int) (w : World) (hx : IntsAt w A1 xs1) (hm : xs1.length ≤ maxLen) (hy : IntsAt w A2 xs2) (hm2 : xs2.length ≤ maxLen) :
    Calls Try.prog 21 #[.agg #[.int .i64 k1, .slice A1 xs1.length c1], .agg #[.int .i64 k2, .slice A2 xs2.length c2]] w fun e w' => e = .returned (.bool true) ∧ Below w.heap.size w w' := by
  unfold maxLen at hm hm2
  have hB0 : Below w.heap.size w ((w.alloc (.cells #[.int .i64 k1, .slice A1 xs1.length c1] 46)).alloc (.cells #[.int .i64 k2, .slice A2 xs2.length c2] 46)) := (by repeat (first | exact Below.refl _ _ | assumption | refine Below.setCell ?_ (by first | omega | (simp <;> omega)) _ | refine Below.alloc ?_ (by first | omega | (simp <;> omega)) _ | refine Below.drew ?_))
  have g0 : ((w.alloc (.cells #[.int .i64 k1, .slice A1 xs1.length c1] 46)).alloc (.cells #[.int .i64 k2, .slice A2 xs2.length c2] 46)).cell? ⟨w.heap.size, 0, none⟩ = some (.int .i64 k1) := by simp
  have g1 : ((w.alloc (.cells #[.int .i64 k1, .slice A1 xs1.length c1] 46)).alloc (.cells #[.int .i64 k2, .slice A2 xs2.length c2] 46)).cell? ⟨w.heap.size, 1, none⟩ = some (.slice A1 xs1.length c1) := by simp
  have g2 : ((w.alloc (.cells #[.int .i64 k1, .slice A1 xs1.length c1] 46)).alloc (.cells #[.int .i64 k2, .slice A2 xs2.length c2] 46)).cell? ⟨w.heap.size + 1, 0, none⟩ = some (.int .i64 k2) := by simp
  have g3 : ((w.alloc (.cells #[.int .i64 k1, .slice A1 xs1.length c1] 46)).alloc (.cells #[.int .i64 k2, .slice A2 xs2.length c2] 46)).cell? ⟨w.heap.size + 1, 1, none⟩ = some (.slice A2 xs2.length c2) := by simp
  by_cases hl : xs1.length ≤ 1048576
  · have hsz := szLeft_yes hl
    have hle : 0 ≤ szLeft 1048576 xs1.length ∧ szLeft 1048576 xs1.length ≤ 1048576 := by unfold szLeft; split <;> omega
    have hll : szLeft 1048576 xs1.length ≤ 1048576 := hle.2
    obtain ⟨lf, hlf⟩ : ∃ lf, szLeft 1048576 xs1.length = lf := ⟨_, rfl⟩
    rw [hlf] at hsz hle
    have HLF := Lib.hid hlf
    clear hlf hll
    have HLE := Lib.hid hle
    clear hle
    by_cases hl2 : (xs2.length : Int) ≤ lf
    · have hsz2 : ¬ szLeft lf xs2.length < 0 := by rw [szLeft, if_neg (by omega)]; omega
      have hl2' : xs2.length ≤ 1048576 := by have := HLE.out.2; omega
      have HL2 := Lib.hid hl2
      clear hl2
      go_enter Try.func21, Try.ntmps21
      go_wp2_with fail
      refine (szEnt k1 A1 c1 xs1 _ _ hm (by omega) (by omega)).mono ?_
      rintro e w1 ⟨rfl, hb1⟩
      rw [HLF.out]
      have hB1 : Below w.heap.size w w1 := belowStep hb1 hB0
      have hz1 : w.heap.size + 1 < w1.heap.size := by have := hb1.size; simp at this; omega
      have g0 := (hb1.cell (p := ⟨w.heap.size, 0, none⟩) (by simp; omega)).trans g0
      have g1 := (hb1.cell (p := ⟨w.heap.size, 1, none⟩) (by simp; omega)).trans g1
      have g2 := (hb1.cell (p := ⟨w.heap.size + 1, 0, none⟩) (by simp)).trans g2
      have g3 := (hb1.cell (p := ⟨w.heap.size + 1, 1, none⟩) (by simp)).trans g3
      clear hb1
      go_wp2_with fail
      refine (szEnt k2 A2 c2 xs2 lf _ hm2 HLE.out.1 HLE.out.2).mono ?_
      rintro e w2 ⟨rfl, hb2⟩
      have hB2 : Below w.heap.size w w2 := belowStep hb2 hB1
      have hz2 : w.heap.size + 1 < w2.heap.size := Nat.lt_of_lt_of_le hz1 hb2.size
      have hz2a : w.heap.size < w2.heap.size := Nat.lt_of_succ_lt hz2
      have g0 := (hb2.cell (p := ⟨w.heap.size, 0, none⟩) (by exact Nat.lt_of_succ_lt hz1)).trans g0
      have g1 := (hb2.cell (p := ⟨w.heap.size, 1, none⟩) (by exact Nat.lt_of_succ_lt hz1)).trans g1
      have g2 := (hb2.cell (p := ⟨w.heap.size + 1, 0, none⟩) hz1).trans g2
      have g3 := (hb2.cell (p := ⟨w.heap.size + 1, 1, none⟩) hz1).trans g3
      clear hb2
      have hx2 := hx.below hB2
      have hy2 := hy.below hB2
      go_wp2_with fail
      go_region_held3 (fun w' => w'.cell? ⟨w.heap.size, 0, none⟩ = some (.int .i64 k1) ∧ w'.cell? ⟨w.heap.size, 1, none⟩ = some (.slice A1 xs1.length c1) ∧ w'.cell? ⟨w.heap.size + 1, 0, none⟩ = some (.int .i64 k2) ∧ w'.cell? ⟨w.heap.size + 1, 1, none⟩ = some (.slice A2 xs2.length c2))
        (first | go_keep | exact ⟨(hb3.cell (p := ⟨w.heap.size, 0, none⟩) hz2a).trans g0, (hb3.cell (p := ⟨w.heap.size, 1, none⟩) hz2a).trans g1, (hb3.cell (p := ⟨w.heap.size + 1, 0, none⟩) hz2).trans g2, (hb3.cell (p := ⟨w.heap.size + 1, 1, none⟩) hz2).trans g3⟩ | exact ⟨(hb4.cell (p := ⟨w.heap.size, 0, none⟩) hz3a).trans p0, (hb4.cell (p := ⟨w.heap.size, 1, none⟩) hz3a).trans p1, (hb4.cell (p := ⟨w.heap.size + 1, 0, none⟩) hz3).trans p2, (hb4.cell (p := ⟨w.heap.size + 1, 1, none⟩) hz3).trans p3⟩ | exact ⟨(hb5.cell (p := ⟨w.heap.size, 0, none⟩) hz4a).trans q0, (hb5.cell (p := ⟨w.heap.size, 1, none⟩) hz4a).trans q1, (hb5.cell (p := ⟨w.heap.size + 1, 0, none⟩) hz4).trans q2, (hb5.cell (p := ⟨w.heap.size + 1, 1, none⟩) hz4).trans q3⟩)
        (first | (go_at_call 49; first | (refine (toEnt _ _ _ _ _ (by exact hx2) (by exact hl)).mono ?_; rintro e w3 ⟨v3, rfl, hF3, hb3⟩; obtain ⟨A3, c3, rfl, hI3, -⟩ := hF3.ints; have hz3 : w.heap.size + 1 < w3.heap.size := Nat.lt_of_lt_of_le hz2 hb3.size; have hz3a : w.heap.size < w3.heap.size := Nat.lt_of_succ_lt hz3; have p0 := (hb3.cell (p := ⟨w.heap.size, 0, none⟩) hz2a).trans g0; have p1 := (hb3.cell (p := ⟨w.heap.size, 1, none⟩) hz2a).trans g1; have p2 := (hb3.cell (p := ⟨w.heap.size + 1, 0, none⟩) hz2).trans g2; have p3 := (hb3.cell (p := ⟨w.heap.size + 1, 1, none⟩) hz2).trans g3; have hy3 : IntsAt w3 A2 xs2 := IntsAt.below (w := World.drew _) hy2 hb3) | (refine (toEnt _ _ _ _ _ (by exact hy3) (by exact hl2')).mono ?_; rintro e w4 ⟨v4, rfl, hF4, hb4⟩; obtain ⟨A4, c4, rfl, hI4, -⟩ := hF4.ints; have hz4 : w.heap.size + 1 < w4.heap.size := Nat.lt_of_lt_of_le hz3 hb4.size; have hz4a : w.heap.size < w4.heap.size := Nat.lt_of_succ_lt hz4; have q0 := (hb4.cell (p := ⟨w.heap.size, 0, none⟩) hz3a).trans p0; have q1 := (hb4.cell (p := ⟨w.heap.size, 1, none⟩) hz3a).trans p1; have q2 := (hb4.cell (p := ⟨w.heap.size + 1, 0, none⟩) hz3).trans p2; have q3 := (hb4.cell (p := ⟨w.heap.size + 1, 1, none⟩) hz3).trans p3; have hI3b : IntsAt w4 A3 xs1 := hI3.below hb4)) | (go_at_call 76; refine (specEntryLess k1 A3 c3 xs1 k2 A4 c4 xs2 xs1.length xs2.length _ (by exact hI3b) (by exact hI4) rfl rfl hl hl2').mono ?_; rintro e w5 ⟨rfl, hb5⟩))
      have hB5 : Below w.heap.size w w5 := belowStep hb5 (belowStep hb4 (belowStep hb3 hB2.drew))
      have r0 := (hb5.cell (p := ⟨w.heap.size, 0, none⟩) hz4a).trans q0
      have r1 := (hb5.cell (p := ⟨w.heap.size, 1, none⟩) hz4a).trans q1
      have r2 := (hb5.cell (p := ⟨w.heap.size + 1, 0, none⟩) hz4).trans q2
      have r3 := (hb5.cell (p := ⟨w.heap.size + 1, 1, none⟩) hz4).trans q3
      have hz5 : w.heap.size + 1 < w5.heap.size := Nat.lt_of_lt_of_le hz4 hb5.size
      have hz5a : w.heap.size < w5.heap.size := Nat.lt_of_succ_lt hz5
      clear hF3 hF4 hI3 hI4 hI3b hy3 p0 p1 p2 p3 q0 q1 q2 q3 hx2 hy2
      go_wp2_with fail
      refine (toEnt k1 A1 c1 xs1 _ (hx.below hB5) hl).mono ?_
      rintro e w6 ⟨v6, rfl, hF6, hb6⟩
      obtain ⟨A6, c6, rfl, hI6, -⟩ := hF6.ints
      have hB6 : Below w.heap.size w w6 := belowStep hb6 hB5
      have s0 := (hb6.cell (p := ⟨w.heap.size, 0, none⟩) hz5a).trans r0
      have s1 := (hb6.cell (p := ⟨w.heap.size, 1, none⟩) hz5a).trans r1
      have s2 := (hb6.cell (p := ⟨w.heap.size + 1, 0, none⟩) hz5).trans r2
      have s3 := (hb6.cell (p := ⟨w.heap.size + 1, 1, none⟩) hz5).trans r3
      have hz6 : w.heap.size + 1 < w6.heap.size := Nat.lt_of_lt_of_le hz5 hb6.size
      have hz6a : w.heap.size < w6.heap.size := Nat.lt_of_succ_lt hz6
      have hB6a : Below w.heap.size w (w6.alloc (.cells #[.int .i64 k1, .slice A6 xs1.length c6] 49)) := hB6.alloc hB6.size _
      have hb6x : Below w6.heap.size w6 (w6.alloc (.cells #[.int .i64 k1, .slice A6 xs1.length c6] 49)) := (by repeat (first | exact Below.refl _ _ | assumption | refine Below.setCell ?_ (by first | omega | (simp <;> omega)) _ | refine Below.alloc ?_ (by first | omega | (simp <;> omega)) _ | refine Below.drew ?_))
      have j0 : (w6.alloc (.cells #[.int .i64 k1, .slice A6 xs1.length c6] 49)).cell? ⟨w6.heap.size, 0, none⟩ = some (.int .i64 k1) := by simp
      have j1 : (w6.alloc (.cells #[.int .i64 k1, .slice A6 xs1.length c6] 49)).cell? ⟨w6.heap.size, 1, none⟩ = some (.slice A6 xs1.length c6) := by simp
      clear hF6 r0 r1 r2 r3
      go_wp2_with fail
      refine (toEnt k2 A2 c2 xs2 _ (by exact hy.below hB6a) hl2').mono ?_
      rintro e w7 ⟨v7, rfl, hF7, hb7⟩
      obtain ⟨A7, c7, rfl, hI7, -⟩ := hF7.ints
      have hB7 : Below w.heap.size w w7 := belowStep hb7 hB6a
      have hb7x : Below w6.heap.size w6 w7 := belowStep hb7 hb6x
      have hz7 : w6.heap.size < w7.heap.size := by have := hb7.size; simp at this; omega
      have hz7b : w.heap.size + 1 < w7.heap.size := Nat.lt_trans hz6 hz7
      have hz7a : w.heap.size < w7.heap.size := Nat.lt_of_succ_lt hz7b
      have t0 := (hb7x.cell (p := ⟨w.heap.size, 0, none⟩) hz6a).trans s0
      have t1 := (hb7x.cell (p := ⟨w.heap.size, 1, none⟩) hz6a).trans s1
      have t2 := (hb7x.cell (p := ⟨w.heap.size + 1, 0, none⟩) hz6).trans s2
      have t3 := (hb7x.cell (p := ⟨w.heap.size + 1, 1, none⟩) hz6).trans s3
      have i0 := (hb7.cell (p := ⟨w6.heap.size, 0, none⟩) (by simp)).trans j0
      have i1 := (hb7.cell (p := ⟨w6.heap.size, 1, none⟩) (by simp)).trans j1
      have hI67 : IntsAt w7 A6 xs1 := hI6.below hb7x
      have hB7a : Below w.heap.size w (w7.alloc (.cells #[.int .i64 k2, .slice A7 xs2.length c7] 49)) := hB7.alloc hB7.size _
      have hb7y : Below w7.heap.size w7 (w7.alloc (.cells #[.int .i64 k2, .slice A7 xs2.length c7] 49)) := (by repeat (first | exact Below.refl _ _ | assumption | refine Below.setCell ?_ (by first | omega | (simp <;> omega)) _ | refine Below.alloc ?_ (by first | omega | (simp <;> omega)) _ | refine Below.drew ?_))
      have u0 := (hb7y.cell (p := ⟨w.heap.size, 0, none⟩) hz7a).trans t0
      have u1 := (hb7y.cell (p := ⟨w.heap.size, 1, none⟩) hz7a).trans t1
      have u2 := (hb7y.cell (p := ⟨w.heap.size + 1, 0, none⟩) hz7b).trans t2
      have u3 := (hb7y.cell (p := ⟨w.heap.size + 1, 1, none⟩) hz7b).trans t3
      have h0 := (hb7y.cell (p := ⟨w6.heap.size, 0, none⟩) hz7).trans i0
      have h1 := (hb7y.cell (p := ⟨w6.heap.size, 1, none⟩) hz7).trans i1
      have m0 : (w7.alloc (.cells #[.int .i64 k2, .slice A7 xs2.length c7] 49)).cell? ⟨w7.heap.size, 0, none⟩ = some (.int .i64 k2) := by simp
      have m1 : (w7.alloc (.cells #[.int .i64 k2, .slice A7 xs2.length c7] 49)).cell? ⟨w7.heap.size, 1, none⟩ = some (.slice A7 xs2.length c7) := by simp
      have hI6a : IntsAt (w7.alloc (.cells #[.int .i64 k2, .slice A7 xs2.length c7] 49)) A6 xs1 := hI67.below hb7y
      have hI7a : IntsAt (w7.alloc (.cells #[.int .i64 k2, .slice A7 xs2.length c7] 49)) A7 xs2 := hI7.below hb7y
      clear hF7 s0 s1 s2 s3 j0 j1 hI6 hI7 hI67 t0 t1 t2 t3
      go_wp2_with fail
      refine (implEntryLess k1 A6 c6 xs1 k2 A7 c7 xs2 xs1.length xs2.length _ (by exact hI6a) (by exact hI7a) rfl rfl hl hl2').mono ?_
      rintro e w8 ⟨rfl, hb8⟩
      have hB8 : Below w.heap.size w w8 := belowStep hb8 hB7a
      have a0 := (hb8.cell (p := ⟨w.heap.size, 0, none⟩) (by simp <;> omega)).trans u0
      have a1 := (hb8.cell (p := ⟨w.heap.size, 1, none⟩) (by simp <;> omega)).trans u1
      have a2 := (hb8.cell (p := ⟨w.heap.size + 1, 0, none⟩) (by simp <;> omega)).trans u2
      have a3 := (hb8.cell (p := ⟨w.heap.size + 1, 1, none⟩) (by simp <;> omega)).trans u3
      have a4 := (hb8.cell (p := ⟨w6.heap.size, 0, none⟩) (by simp <;> omega)).trans h0
      have a5 := (hb8.cell (p := ⟨w6.heap.size, 1, none⟩) (by simp <;> omega)).trans h1
      have a6 := (hb8.cell (p := ⟨w7.heap.size, 0, none⟩) (by simp <;> omega)).trans m0
      have a7 := (hb8.cell (p := ⟨w7.heap.size, 1, none⟩) (by simp <;> omega)).trans m1
      have hz8d : w7.heap.size < w8.heap.size := by have := hb8.size; simp at this; omega
      have hz8c : w6.heap.size < w8.heap.size := by omega
      have hz8b : w.heap.size + 1 < w8.heap.size := by omega
      have hz8a : w.heap.size < w8.heap.size := by omega
      have hx8 := hx.below hB8
      have hy8 := hy.below hB8
      have hI68 := hI6a.below hb8
      have hI78 := hI7a.below hb8
      have hself1 := Lib.hid (eqEnt_self k1 xs1)
      have hself2 := Lib.hid (eqEnt_self k2 xs2)
      clear hI6a hI7a i0 i1 u0 u1 u2 u3 h0 h1 m0 m1
      go_wp2_with fail
      go_region_held3 (fun w' => w'.cell? ⟨w.heap.size, 0, none⟩ = some (.int .i64 k1) ∧ w'.cell? ⟨w.heap.size, 1, none⟩ = some (.slice A1 xs1.length c1) ∧ w'.cell? ⟨w.heap.size + 1, 0, none⟩ = some (.int .i64 k2) ∧ w'.cell? ⟨w.heap.size + 1, 1, none⟩ = some (.slice A2 xs2.length c2) ∧ w'.cell? ⟨w6.heap.size, 0, none⟩ = some (.int .i64 k1) ∧ w'.cell? ⟨w6.heap.size, 1, none⟩ = some (.slice A6 xs1.length c6) ∧ w'.cell? ⟨w7.heap.size, 0, none⟩ = some (.int .i64 k2) ∧ w'.cell? ⟨w7.heap.size, 1, none⟩ = some (.slice A7 xs2.length c7))
        (first | go_keep | exact ⟨(hb9.cell (p := ⟨w.heap.size, 0, none⟩) hz8a).trans a0, (hb9.cell (p := ⟨w.heap.size, 1, none⟩) hz8a).trans a1, (hb9.cell (p := ⟨w.heap.size + 1, 0, none⟩) hz8b).trans a2, (hb9.cell (p := ⟨w.heap.size + 1, 1, none⟩) hz8b).trans a3, (hb9.cell (p := ⟨w6.heap.size, 0, none⟩) hz8c).trans a4, (hb9.cell (p := ⟨w6.heap.size, 1, none⟩) hz8c).trans a5, (hb9.cell (p := ⟨w7.heap.size, 0, none⟩) hz8d).trans a6, (hb9.cell (p := ⟨w7.heap.size, 1, none⟩) hz8d).trans a7⟩ | exact ⟨(hb10.cell (p := ⟨w.heap.size, 0, none⟩) hz9a).trans b0, (hb10.cell (p := ⟨w.heap.size, 1, none⟩) hz9a).trans b1, (hb10.cell (p := ⟨w.heap.size + 1, 0, none⟩) hz9b).trans b2, (hb10.cell (p := ⟨w.heap.size + 1, 1, none⟩) hz9b).trans b3, (hb10.cell (p := ⟨w6.heap.size, 0, none⟩) hz9c).trans b4, (hb10.cell (p := ⟨w6.heap.size, 1, none⟩) hz9c).trans b5, (hb10.cell (p := ⟨w7.heap.size, 0, none⟩) hz9d).trans b6, (hb10.cell (p := ⟨w7.heap.size, 1, none⟩) hz9d).trans b7⟩)
        (first | (go_at_call 49; refine (toEnt _ _ _ _ _ (by exact hx8) (by exact hl)).mono ?_; rintro e w9 ⟨v9, rfl, hF9, hb9⟩; obtain ⟨A9, c9, rfl, hI9, -⟩ := hF9.ints; have hz9a : w.heap.size < w9.heap.size := Nat.lt_of_lt_of_le hz8a hb9.size; have hz9b : w.heap.size + 1 < w9.heap.size := Nat.lt_of_lt_of_le hz8b hb9.size; have hz9c : w6.heap.size < w9.heap.size := Nat.lt_of_lt_of_le hz8c hb9.size; have hz9d : w7.heap.size < w9.heap.size := Nat.lt_of_lt_of_le hz8d hb9.size; have b0 := (hb9.cell (p := ⟨w.heap.size, 0, none⟩) hz8a).trans a0; have b1 := (hb9.cell (p := ⟨w.heap.size, 1, none⟩) hz8a).trans a1; have b2 := (hb9.cell (p := ⟨w.heap.size + 1, 0, none⟩) hz8b).trans a2; have b3 := (hb9.cell (p := ⟨w.heap.size + 1, 1, none⟩) hz8b).trans a3; have b4 := (hb9.cell (p := ⟨w6.heap.size, 0, none⟩) hz8c).trans a4; have b5 := (hb9.cell (p := ⟨w6.heap.size, 1, none⟩) hz8c).trans a5; have b6 := (hb9.cell (p := ⟨w7.heap.size, 0, none⟩) hz8d).trans a6; have b7 := (hb9.cell (p := ⟨w7.heap.size, 1, none⟩) hz8d).trans a7; have hJ9 : IntsAt w9 A6 xs1 := IntsAt.below (w := World.drew _) hI68 hb9) | (go_at_call 51; refine (eqEnt k1 A6 c6 xs1 k1 A9 c9 xs1 _ (by exact hJ9) (by exact hI9) hl).mono ?_; rintro e w10 ⟨rfl, hb10⟩; have d0 := (hb10.cell (p := ⟨w.heap.size, 0, none⟩) hz9a).trans b0; have d1 := (hb10.cell (p := ⟨w.heap.size, 1, none⟩) hz9a).trans b1; have d2 := (hb10.cell (p := ⟨w.heap.size + 1, 0, none⟩) hz9b).trans b2; have d3 := (hb10.cell (p := ⟨w.heap.size + 1, 1, none⟩) hz9b).trans b3; have d4 := (hb10.cell (p := ⟨w6.heap.size, 0, none⟩) hz9c).trans b4; have d5 := (hb10.cell (p := ⟨w6.heap.size, 1, none⟩) hz9c).trans b5; have d6 := (hb10.cell (p := ⟨w7.heap.size, 0, none⟩) hz9d).trans b6; have d7 := (hb10.cell (p := ⟨w7.heap.size, 1, none⟩) hz9d).trans b7; have hz10a : w.heap.size < w10.heap.size := Nat.lt_of_lt_of_le hz9a hb10.size; have hz10b : w.heap.size + 1 < w10.heap.size := Nat.lt_of_lt_of_le hz9b hb10.size; have hz10c : w6.heap.size < w10.heap.size := Nat.lt_of_lt_of_le hz9c hb10.size; have hz10d : w7.heap.size < w10.heap.size := Nat.lt_of_lt_of_le hz9d hb10.size; rw [hself1.out]))
      have hB10 : Below w.heap.size w w10 := belowStep hb10 (belowStep hb9 hB8.drew)
      have hb80 : Below w8.heap.size w8 w10 := belowStep hb10 (belowStep hb9 (Below.refl _ _).drew)
      have hy10 := hy.below hB10
      have hI710 := hI78.below hb80
      go_wp2_with fail
      go_region_held3 (fun w' => w'.cell? ⟨w.heap.size, 0, none⟩ = some (.int .i64 k1) ∧ w'.cell? ⟨w.heap.size, 1, none⟩ = some (.slice A1 xs1.length c1) ∧ w'.cell? ⟨w.heap.size + 1, 0, none⟩ = some (.int .i64 k2) ∧ w'.cell? ⟨w.heap.size + 1, 1, none⟩ = some (.slice A2 xs2.length c2) ∧ w'.cell? ⟨w6.heap.size, 0, none⟩ = some (.int .i64 k1) ∧ w'.cell? ⟨w6.heap.size, 1, none⟩ = some (.slice A6 xs1.length c6) ∧ w'.cell? ⟨w7.heap.size, 0, none⟩ = some (.int .i64 k2) ∧ w'.cell? ⟨w7.heap.size, 1, none⟩ = some (.slice A7 xs2.length c7))
        (first | go_keep | exact ⟨(hb11.cell (p := ⟨w.heap.size, 0, none⟩) hz10a).trans d0, (hb11.cell (p := ⟨w.heap.size, 1, none⟩) hz10a).trans d1, (hb11.cell (p := ⟨w.heap.size + 1, 0, none⟩) hz10b).trans d2, (hb11.cell (p := ⟨w.heap.size + 1, 1, none⟩) hz10b).trans d3, (hb11.cell (p := ⟨w6.heap.size, 0, none⟩) hz10c).trans d4, (hb11.cell (p := ⟨w6.heap.size, 1, none⟩) hz10c).trans d5, (hb11.cell (p := ⟨w7.heap.size, 0, none⟩) hz10d).trans d6, (hb11.cell (p := ⟨w7.heap.size, 1, none⟩) hz10d).trans d7⟩ | exact ⟨(hb12.cell (p := ⟨w.heap.size, 0, none⟩) hz11a).trans e0, (hb12.cell (p := ⟨w.heap.size, 1, none⟩) hz11a).trans e1, (hb12.cell (p := ⟨w.heap.size + 1, 0, none⟩) hz11b).trans e2, (hb12.cell (p := ⟨w.heap.size + 1, 1, none⟩) hz11b).trans e3, (hb12.cell (p := ⟨w6.heap.size, 0, none⟩) hz11c).trans e4, (hb12.cell (p := ⟨w6.heap.size, 1, none⟩) hz11c).trans e5, (hb12.cell (p := ⟨w7.heap.size, 0, none⟩) hz11d).trans e6, (hb12.cell (p := ⟨w7.heap.size, 1, none⟩) hz11d).trans e7⟩)
        (first | (go_at_call 49; refine (toEnt _ _ _ _ _ (by exact hy10) (by exact hl2')).mono ?_; rintro e w11 ⟨v11, rfl, hF11, hb11⟩; obtain ⟨A11, c11, rfl, hI11, -⟩ := hF11.ints; have hz11a : w.heap.size < w11.heap.size := Nat.lt_of_lt_of_le hz10a hb11.size; have hz11b : w.heap.size + 1 < w11.heap.size := Nat.lt_of_lt_of_le hz10b hb11.size; have hz11c : w6.heap.size < w11.heap.size := Nat.lt_of_lt_of_le hz10c hb11.size; have hz11d : w7.heap.size < w11.heap.size := Nat.lt_of_lt_of_le hz10d hb11.size; have e0 := (hb11.cell (p := ⟨w.heap.size, 0, none⟩) hz10a).trans d0; have e1 := (hb11.cell (p := ⟨w.heap.size, 1, none⟩) hz10a).trans d1; have e2 := (hb11.cell (p := ⟨w.heap.size + 1, 0, none⟩) hz10b).trans d2; have e3 := (hb11.cell (p := ⟨w.heap.size + 1, 1, none⟩) hz10b).trans d3; have e4 := (hb11.cell (p := ⟨w6.heap.size, 0, none⟩) hz10c).trans d4; have e5 := (hb11.cell (p := ⟨w6.heap.size, 1, none⟩) hz10c).trans d5; have e6 := (hb11.cell (p := ⟨w7.heap.size, 0, none⟩) hz10d).trans d6; have e7 := (hb11.cell (p := ⟨w7.heap.size, 1, none⟩) hz10d).trans d7; have hJ11 : IntsAt w11 A7 xs2 := IntsAt.below (w := World.drew _) hI710 hb11) | (go_at_call 51; refine (eqEnt k2 A7 c7 xs2 k2 A11 c11 xs2 _ (by exact hJ11) (by exact hI11) hl2').mono ?_; rintro e w12 ⟨rfl, hb12⟩; have f0 := (hb12.cell (p := ⟨w.heap.size, 0, none⟩) hz11a).trans e0; have f1 := (hb12.cell (p := ⟨w.heap.size, 1, none⟩) hz11a).trans e1; have f2 := (hb12.cell (p := ⟨w.heap.size + 1, 0, none⟩) hz11b).trans e2; have f3 := (hb12.cell (p := ⟨w.heap.size + 1, 1, none⟩) hz11b).trans e3; have f4 := (hb12.cell (p := ⟨w6.heap.size, 0, none⟩) hz11c).trans e4; have f5 := (hb12.cell (p := ⟨w6.heap.size, 1, none⟩) hz11c).trans e5; have f6 := (hb12.cell (p := ⟨w7.heap.size, 0, none⟩) hz11d).trans e6; have f7 := (hb12.cell (p := ⟨w7.heap.size, 1, none⟩) hz11d).trans e7; have hz12a : w.heap.size < w12.heap.size := Nat.lt_of_lt_of_le hz11a hb12.size; have hz12b : w.heap.size + 1 < w12.heap.size := Nat.lt_of_lt_of_le hz11b hb12.size; have hz12c : w6.heap.size < w12.heap.size := Nat.lt_of_lt_of_le hz11c hb12.size; have hz12d : w7.heap.size < w12.heap.size := Nat.lt_of_lt_of_le hz11d hb12.size; rw [hself2.out]))
      go_wp2_with fail
      go_ret
      exact ⟨rfl, belowStep hb12 (belowStep hb11 hB10.drew)⟩
    · have hsz2 : szLeft lf xs2.length < 0 := by rw [szLeft, if_pos (by omega)]; omega
      have HL2 := Lib.hid hl2
      clear hl2
      go_enter Try.func21, Try.ntmps21
      go_wp2_with fail
      refine (szEnt k1 A1 c1 xs1 _ _ hm (by omega) (by omega)).mono ?_
      rintro e w1 ⟨rfl, hb1⟩
      rw [HLF.out]
      have hB1 : Below w.heap.size w w1 := belowStep hb1 hB0
      have g2 := (hb1.cell (p := ⟨w.heap.size + 1, 0, none⟩) (by simp)).trans g2
      have g3 := (hb1.cell (p := ⟨w.heap.size + 1, 1, none⟩) (by simp)).trans g3
      go_wp2_with fail
      refine (szEnt k2 A2 c2 xs2 lf _ hm2 HLE.out.1 HLE.out.2).mono ?_
      rintro e w2 ⟨rfl, hb2⟩
      go_wp2_with fail
      go_ret
      exact ⟨rfl, belowStep hb2 hB1⟩
  · have hsz := szLeft_no hl
    go_enter Try.func21, Try.ntmps21
    go_wp2_with fail
    refine (szEnt k1 A1 c1 xs1 _ _ hm (by omega) (by omega)).mono ?_
    rintro e w1 ⟨rfl, hb1⟩
    go_wp2_with fail
    go_ret
    exact ⟨rfl, belowStep hb1 hB0⟩
theorem own : ownKnob Try.prog.godebug = none := by kernel_rfl
theorem laidOut : laidOutB Try.prog = true := by kernel_rfl
set_option maxRecDepth 100000 in
theorem lifted (os : Os) (started : os.Started) (H : Type) (enc : TypeId × Value → H) :
    ReturnsInHanded {} Try.checked os 21 .any (Rows.fnExactEntryLessSpec.pre6 enc Try.prog Try.f21 Rows.fnExactEntryLessRow.domain false) (Rows.fnExactEntryLessSpec.post enc Try.prog Try.f21 false true false false) := by
  refine returnsInHanded_of_change (C := Try.checked) own started (by kernel_rfl) Try.func21
    (ChangeSpec.witness6 (enc := enc) (C := Try.checked) false ⟨#[], #[.agg #[.int .i64 0, .slice none 0 0], .agg #[.int .i64 0, .slice none 0 0]], []⟩ 8 (by kernel_rfl) (by kernel_rfl) (by kernel_rfl) (by kernel_rfl)) ?_
  intro W base args ds gs before hval0 hW hcnd _
  have hval : ∀ (j : Nat) t v, Try.f21.params[j]? = some t → args[j]? = some v → Value.okWide Try.prog W .any base t v := hval0
  have hW' := hW
  obtain ⟨p, q, hA0, hV, rfl, hfz, hnd⟩ := hW
  have hA : DataW.TrodAll enc Try.prog W 0 (fun _ => true) true Try.f21.params.toList args.toList ds p := hA0
  rw [Try.params21] at hA hval
  obtain ⟨v0, vs0, d0, ds0, p0, q0, hargs, rfl, rfl, h0, r0⟩ := trodAll_cons hA
  obtain ⟨v1, vs1, d1, ds1, p1, q1, rfl, rfl, rfl, h1, r1⟩ := trodAll_cons r0
  obtain ⟨rfl, rfl, rfl⟩ := trodAll_nil r1
  obtain rfl : args = #[v0, v1] := by cases args; simp_all
  obtain ⟨rfl, rfl⟩ := trodVars_none hV
  have lt0 : ∀ x ∈ p0, x.block < W.heap.size := by obtain ⟨m, hm⟩ := h0; exact DataW.trod_lt m _ _ _ hm
  have lt1 : ∀ x ∈ p1, x.block < W.heap.size := by obtain ⟨m, hm⟩ := h1; exact DataW.trod_lt m _ _ _ hm
  obtain ⟨k0, A0, c0, x0, rfl, i0, m0⟩ := arg_entry (hval 0 46 v0 rfl rfl) h0
  obtain ⟨k1, A1, c1, x1, rfl, i1, m1⟩ := arg_entry (hval 1 46 v1 rfl rfl) h1
  clear hA0 hval0
  refine (walk k0 A0 c0 x0 k1 A1 c1 x1 W i0 m0 i1 m1).mono fun e W' ⟨he, bel⟩ => ?_
  subst he
  exact ⟨_, rfl, _, _, _, [], _, [], hW', trodAll_mk1 (shut_bool Try.underlying4 _), (trodAll_cons_mk (Below.trod laidOut (by kernel_rfl) (of_decide_eq_true (by kernel_rfl)) h0 bel lt0) (trodAll_cons_mk (Below.trod laidOut (by kernel_rfl) (of_decide_eq_true (by kernel_rfl)) h1 bel lt1) trodAll_mk0)), rfl, bel.frame _, fun h => by cases h⟩
theorem fact_wf : Rows.fnExactEntryLessRow.wf (OpenSpec.ofChange Rows.fnExactEntryLessSpec) = true := by kernel_rfl
theorem fact_pars : Try.f21.params.all (Try.prog.readableRec ·) = true := by kernel_rfl
theorem fact_tie : namedTie Try.prog Rows.fnExactEntryLessRow.named Rows.fnExactEntryLessSpec.vars = true := by kernel_rfl
theorem fact_st : (Rows.fnExactEntryLessRow.stops == []) = true := by kernel_rfl
theorem fact_kn : (Rows.fnExactEntryLessRow.knobs == []) = true := by kernel_rfl
theorem fact_inp : (Rows.fnExactEntryLessRow.inPlace == Try.prog.inPlace 21) = true := by kernel_rfl
theorem fact_unf : (Rows.fnExactEntryLessRow.unfollowed == Try.prog.unfollowed 21) = true := by kernel_rfl
theorem fact_rec : (Rows.fnExactEntryLessRow.recurses == Try.prog.recurses 21) = true := by kernel_rfl
theorem fact_nam : (Rows.fnExactEntryLessRow.named == Try.prog.varsNamed 21) = true := by kernel_rfl
theorem fact_mp : (Rows.fnExactEntryLessRow.maps == (Try.f21.params.toList ++ Rows.fnExactEntryLessSpec.plain.varTypes Try.prog).any (Try.prog.mapsRec ·)) = true := by kernel_rfl
theorem fact_ifc : (Rows.fnExactEntryLessRow.ifaces == (Try.f21.params.toList ++ Rows.fnExactEntryLessSpec.plain.varTypes Try.prog).any (Try.prog.ifacesRec ·)) = true := by kernel_rfl
theorem fact_mo : (Rows.fnExactEntryLessRow.mapsOut == Try.prog.mapsAmong Try.f21.resultTypes.toList) = true := by kernel_rfl
theorem fact_lo : (Rows.fnExactEntryLessRow.loops == (Try.f21.params.toList ++ Rows.fnExactEntryLessSpec.plain.varTypes Try.prog).any (Try.prog.loopsFrom ·)) = true := by kernel_rfl
theorem fact_wk : (Rows.fnExactEntryLessRow.wideKeys == (Try.f21.params.toList ++ Rows.fnExactEntryLessSpec.plain.varTypes Try.prog ++ Try.f21.resultTypes.toList).any (Try.prog.wideKeysFrom ·)) = true := by kernel_rfl
theorem fact_vs : Rows.fnExactEntryLessSpec.vars.all (Try.prog.varReadable ·) = true := by kernel_rfl
theorem fact_res : Try.f21.resultTypes.all (fun t => Try.prog.readableRec t && decide (t < Try.prog.types.size)) = true := by kernel_rfl
theorem fact_io : (Rows.fnExactEntryLessRow.ifacesOut == Try.f21.resultTypes.toList.any (Try.prog.ifacesRec ·)) = true := by kernel_rfl
theorem fact_loo : (Rows.fnExactEntryLessRow.loopsOut == Try.f21.resultTypes.toList.any (Try.prog.loopsFrom ·)) = true := by kernel_rfl
theorem fact_pk : (Rows.fnExactEntryLessRow.plainKeys == Try.prog.plainKeys) = true := by kernel_rfl
theorem fact_sh : Rows.fnExactEntryLessRow.shortTexts.isNone = true := by kernel_rfl
theorem fact_li : (Rows.fnExactEntryLessRow.lifted == Try.prog.liftsFinal) = true := by rw [fact_finals]; rfl
theorem fact_mk : (Try.prog.make == some Rows.fnExactEntryLessRow.make) = true := by rw [fact_make]; rfl
theorem fact_kd : (Rows.fnExactEntryLessRow.kinds == (if Rows.fnExactEntryLessRow.domain.isEmpty then [] else Try.f21.params.toList.map fun t => match Try.prog.underlying t with | some (.int k) => some k | _ => none)) = true := by kernel_rfl
theorem fact_pi : (Rows.fnExactEntryLessRow.pinned == Rows.fnExactEntryLessRow.pinnedBy) = true := by kernel_rfl
theorem fact_ve : (Rows.fnExactEntryLessRow.veiled == (Try.f21.params.toList ++ Rows.fnExactEntryLessSpec.plain.varTypes Try.prog ++ Try.f21.resultTypes.toList).any (Try.prog.veiledRec ·)) = true := by kernel_rfl
theorem fact_vf : Rows.fnExactEntryLessRow.veiledFits Try.prog Try.f21.params.toList (Try.f21.params.toList ++ Rows.fnExactEntryLessSpec.plain.varTypes Try.prog ++ Try.f21.resultTypes.toList) = true := by kernel_rfl
set_option maxRecDepth 100000 in
theorem facts : joinedFacts Try.prog 21 Try.f21 Rows.fnExactEntryLessSpec Rows.fnExactEntryLessRow = true := facts_of fact_wf fact_laid fact_rowed fact_pars fact_tie fact_st fact_pst fact_kn fact_pkn fact_inp fact_unf fact_rec fact_nam fact_mp fact_ifc fact_mo fact_lo fact_wk fact_vs fact_res fact_io fact_loo fact_pk fact_sh fact_hd fact_me fact_li fact_mk fact_kd fact_pi fact_ve fact_vf
theorem fact_fn : Try.prog.funcNamed Rows.fnExactEntryLessRow.func = some 21 := by kernel_rfl
theorem fact_inst : Try.f21.isInstance Try.prog Rows.fnExactEntryLessRow.origin Rows.fnExactEntryLessRow.targs := of_decide_eq_true (by kernel_rfl)
theorem fact_wrap : Try.f21.isWrapper Try.prog Rows.fnExactEntryLessRow.wrapper Rows.fnExactEntryLessRow.mainSum := by unfold Func.isWrapper; first | (rw [if_pos (by decide +kernel)]; kernel_rfl) | (rw [if_neg (by decide +kernel)]; exact ⟨rfl, rfl⟩)
theorem over : Rows.fnExactEntryLessRow.holds Try.pinned (OpenSpec.ofChange Rows.fnExactEntryLessSpec) :=
  OpenClaim.holds_of_wide 21 Try.f21 rfl rfl rfl rfl rfl rfl rfl ⟨rfl, rfl, rfl, rfl, rfl⟩ rfl rfl rfl rfl rfl fact_fn Try.func21 facts fact_inst fact_wrap
    (fun os started H enc _ => lifted os started H enc)
theorem proved : Rows.FnExactEntryLessSaid := over
#print axioms proved
end Go.Proofs.Ytdjkelhmdondcaa.lawEntryLess
