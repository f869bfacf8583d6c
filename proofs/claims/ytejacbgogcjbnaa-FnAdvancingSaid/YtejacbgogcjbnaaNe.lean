/- NormalizeEntry, at both packages. No conditions but the slice's length. -/
import Derived.Test.YtejacbgogcjbnaaNi
namespace Go.Proofs.Ytejacbgogcjbnaa
open Go.RowKit

def normB (r : RR) (k : Int) (xs : List Int) : Bool := r.ok && entOk k xs
def normK (r : RR) (k : Int) (xs : List Int) : Int := if normB r k xs then k else 0
def normXs (r : RR) (k : Int) (xs : List Int) : List Int := if normB r k xs then normL r xs else []
theorem norm_no {r : RR} {k : Int} {xs : List Int} (h : normB r k xs = false) : normK r k xs = 0 ∧ normXs r k xs = [] := by simp [normK, normXs, h]
theorem norm_yes {r : RR} {k : Int} {xs : List Int} (h : normB r k xs = true) : normK r k xs = k ∧ normXs r k xs = normL r xs := by simp [normK, normXs, h]
def Norm2Post (k : Int) (ys : List Int) (b : Bool) (w : World) (e : Ending) (w' : World) : Prop := ∃ v, e = .returned (.tuple #[.agg #[.int .i64 k, v], .bool b]) ∧ Fresh w.heap.size w' v ys ∧ Below w.heap.size w w'
structure Three (w W : World) (r : RR) (k1 : Int) (S1 : Value) : Prop where
  below : Below w.heap.size w W
  size : W.heap.size = w.heap.size + 1 + 1 + 1
  res : W.heap[w.heap.size + 1 + 1]? = some (.cells #[.int .i64 0, .slice none 0 0] 32 (0, 0))
  ent : W.heap[w.heap.size + 1]? = some (.cells #[.int .i64 k1, S1] 32 (0, 0))
  box : BoxRR W w.heap.size r
theorem three (w : World) (r : RR) (k1 : Int) (S1 : Value) : Three w (((w.alloc (.cells #[.int .i64 r.att, .int .i64 r.lim, .int .i64 r.catt, .int .i64 r.cut, .int .i64 r.adv] 25)).alloc (.cells #[.int .i64 k1, S1] 32)).alloc (.cells #[.int .i64 0, .slice none 0 0] 32)) r k1 S1 := by
  obtain ⟨o1, ho1⟩ : ∃ o1, (Obj.cells #[.int .i64 r.att, .int .i64 r.lim, .int .i64 r.catt, .int .i64 r.cut, .int .i64 r.adv] 25) = o1 := ⟨_, rfl⟩
  have hbox := BoxRR.new w r 25
  rw [ho1] at hbox ⊢
  have b1 : Below w.heap.size w (w.alloc o1) := (Below.refl _ _).alloc (Nat.le_refl _) _
  have s1 : (w.alloc o1).heap.size = w.heap.size + 1 := by simp
  generalize w.alloc o1 = w1 at *
  have h2 := heap_alloc_new w1 (.cells #[.int .i64 k1, S1] 32)
  have b2 : Below w1.heap.size w1 (w1.alloc (.cells #[.int .i64 k1, S1] 32)) := (Below.refl _ _).alloc (Nat.le_refl _) _
  have s2 : (w1.alloc (.cells #[.int .i64 k1, S1] 32)).heap.size = w1.heap.size + 1 := by simp
  generalize w1.alloc (.cells #[.int .i64 k1, S1] 32) = w2 at *
  have h3 := heap_alloc_new w2 (.cells #[.int .i64 0, .slice none 0 0] 32)
  have b3 : Below w2.heap.size w2 (w2.alloc (.cells #[.int .i64 0, .slice none 0 0] 32)) := (Below.refl _ _).alloc (Nat.le_refl _) _
  have s3 : (w2.alloc (.cells #[.int .i64 0, .slice none 0 0] 32)).heap.size = w2.heap.size + 1 := by simp
  generalize w2.alloc (.cells #[.int .i64 0, .slice none 0 0] 32) = w3 at *
  refine ⟨belowStep b3 (belowStep b2 b1), by omega, ?_, ?_, (hbox.below b2).below b3⟩
  · rw [show w.heap.size + 1 + 1 = w2.heap.size from by omega]; exact h3
  · rw [show w.heap.size + 1 = w1.heap.size from by omega, b3.block _ (by omega)]; exact h2
set_option maxRecDepth 100000 in
set_option maxHeartbeats 4000000 in
theorem specNE (r : RR) (k1 : Int) (A1 : Option Addr) (c1 : Nat) (xs1 : List Int) (w : World) (hx : IntsAt w A1 xs1) (hl : xs1.length ≤ 1048576) (_hlc : xs1.length ≤ c1) :
    Calls Try.prog 10 #[.agg #[.int .i64 r.att, .int .i64 r.lim, .int .i64 r.catt, .int .i64 r.cut, .int .i64 r.adv], .agg #[.int .i64 k1, .slice A1 xs1.length c1]] w (Norm2Post (normK r k1 xs1) (normXs r k1 xs1) (normB r k1 xs1) w) := by
  have hlc := _hlc
  have h3 := three w r k1 (.slice A1 xs1.length c1)
  have HB := Lib.hid h3.below
  have HZ := Lib.hid h3.size
  have HQ := Lib.hid h3.res
  have HE0 := Lib.hid (cell_of_row _ _ 0 _ _ (0, 0) h3.ent)
  have HE1 := Lib.hid (cell_of_row _ _ 1 _ _ (0, 0) h3.ent)
  have HX := Lib.hid h3.box
  clear h3
  cases h1 : r.ok
  · have hn : normB r k1 xs1 = false := by simp [normB, h1]
    rw [(norm_no hn).1, (norm_no hn).2, hn]
    go_enter Try.func10, Try.ntmps10
    go_wp2_with fail
    refine (specIsValidRR r _).mono ?_
    rintro e w1 ⟨rfl, hb1⟩
    have hz1 : w.heap.size + 1 + 1 < w1.heap.size := by have := hb1.size; have := HZ.out; omega
    have hB1 := belowStep hb1 HB.out
    have hq1 := (hb1.block (w.heap.size + 1 + 1) (by have := HZ.out; omega)).trans HQ.out
    rw [h1]
    clear hb1
    have c0 : w1.cell? ⟨w.heap.size + 1 + 1, 0, none⟩ = some (.int .i64 0) := cell_of_row w1 _ 0 _ _ (0, 0) hq1
    have c1' : w1.cell? ⟨w.heap.size + 1 + 1, 1, none⟩ = some (.slice none 0 0) := cell_of_row w1 _ 1 _ _ (0, 0) hq1
    have f0 : w1.frozen? ⟨w.heap.size + 1 + 1, 0, none⟩ = false := row_free hq1
    have f1 : w1.frozen? ⟨w.heap.size + 1 + 1, 1, none⟩ = false := row_free hq1
    go_wp2_with fail
    exact bodyPost_ret (v := .tuple #[.agg #[.int .i64 0, .slice none 0 0], .bool false]) (by simp [results, Try.results10, go_sem, c0, c1']) rfl ⟨_, rfl, Fresh.nil _ _, (hB1.setCell (p := ⟨w.heap.size + 1 + 1, 0, none⟩) (show w.heap.size ≤ w.heap.size + 1 + 1 by omega) _).setCell (p := ⟨w.heap.size + 1 + 1, 1, none⟩) (show w.heap.size ≤ w.heap.size + 1 + 1 by omega) _⟩
  cases h2 : entOk k1 xs1
  · have hn : normB r k1 xs1 = false := by simp [normB, h2]
    rw [(norm_no hn).1, (norm_no hn).2, hn]
    go_enter Try.func10, Try.ntmps10
    go_wp2_with fail
    refine (specIsValidRR r _).mono ?_
    rintro e w1 ⟨rfl, hb1⟩
    have hz1 : w.heap.size + 1 + 1 < w1.heap.size := by have := hb1.size; have := HZ.out; omega
    have hB1 := belowStep hb1 HB.out
    have hq1 := (hb1.block (w.heap.size + 1 + 1) (by have := HZ.out; omega)).trans HQ.out
    obtain ⟨b0, b1, b2, b3, b4⟩ := HX.out.below hb1
    have e0 := (hb1.cell (p := ⟨w.heap.size + 1, 0, none⟩) (show w.heap.size + 1 < _ by have := HZ.out; omega)).trans HE0.out
    have e1 := (hb1.cell (p := ⟨w.heap.size + 1, 1, none⟩) (show w.heap.size + 1 < _ by have := HZ.out; omega)).trans HE1.out
    clear hb1
    rw [h1]
    go_wp2_with fail
    refine (specEntOk k1 A1 c1 xs1 _ (by exact hx.below hB1) hl).mono ?_
    rintro e w2 ⟨rfl, hb2⟩
    rw [h2]
    have hz1a : w.heap.size < w1.heap.size := by omega
    have hz1b : w.heap.size + 1 < w1.heap.size := by omega
    have hz2 : w.heap.size + 1 + 1 < w2.heap.size := Nat.lt_of_lt_of_le hz1 hb2.size
    have hB2 := belowStep hb2 hB1
    have hq2 := (hb2.block (w.heap.size + 1 + 1) hz1).trans hq1
    clear hb2
    have c0 : w2.cell? ⟨w.heap.size + 1 + 1, 0, none⟩ = some (.int .i64 0) := cell_of_row w2 _ 0 _ _ (0, 0) hq2
    have c1' : w2.cell? ⟨w.heap.size + 1 + 1, 1, none⟩ = some (.slice none 0 0) := cell_of_row w2 _ 1 _ _ (0, 0) hq2
    have f0 : w2.frozen? ⟨w.heap.size + 1 + 1, 0, none⟩ = false := row_free hq2
    have f1 : w2.frozen? ⟨w.heap.size + 1 + 1, 1, none⟩ = false := row_free hq2
    go_wp2_with fail
    exact bodyPost_ret (v := .tuple #[.agg #[.int .i64 0, .slice none 0 0], .bool false]) (by simp [results, Try.results10, go_sem, c0, c1']) rfl ⟨_, rfl, Fresh.nil _ _, (hB2.setCell (p := ⟨w.heap.size + 1 + 1, 0, none⟩) (show w.heap.size ≤ w.heap.size + 1 + 1 by omega) _).setCell (p := ⟨w.heap.size + 1 + 1, 1, none⟩) (show w.heap.size ≤ w.heap.size + 1 + 1 by omega) _⟩
  · have hn : normB r k1 xs1 = true := by simp [normB, h1, h2]
    rw [(norm_yes hn).1, (norm_yes hn).2, hn]
    go_enter Try.func10, Try.ntmps10
    go_wp2_with fail
    refine (specIsValidRR r _).mono ?_
    rintro e w1 ⟨rfl, hb1⟩
    have hz1 : w.heap.size + 1 + 1 < w1.heap.size := by have := hb1.size; have := HZ.out; omega
    have hB1 := belowStep hb1 HB.out
    have hq1 := (hb1.block (w.heap.size + 1 + 1) (by have := HZ.out; omega)).trans HQ.out
    obtain ⟨b0, b1, b2, b3, b4⟩ := HX.out.below hb1
    have e0 := (hb1.cell (p := ⟨w.heap.size + 1, 0, none⟩) (show w.heap.size + 1 < _ by have := HZ.out; omega)).trans HE0.out
    have e1 := (hb1.cell (p := ⟨w.heap.size + 1, 1, none⟩) (show w.heap.size + 1 < _ by have := HZ.out; omega)).trans HE1.out
    clear hb1
    rw [h1]
    go_wp2_with fail
    refine (specEntOk k1 A1 c1 xs1 _ (by exact hx.below hB1) hl).mono ?_
    rintro e w2 ⟨rfl, hb2⟩
    rw [h2]
    have hz1a : w.heap.size < w1.heap.size := by omega
    have hz1b : w.heap.size + 1 < w1.heap.size := by omega
    have hz2 : w.heap.size + 1 + 1 < w2.heap.size := Nat.lt_of_lt_of_le hz1 hb2.size
    have hB2 := belowStep hb2 hB1
    have hq2 := (hb2.block (w.heap.size + 1 + 1) hz1).trans hq1
    have b0 := (hb2.cell (p := ⟨w.heap.size, 0, none⟩) hz1a).trans b0
    have b1 := (hb2.cell (p := ⟨w.heap.size, 1, none⟩) hz1a).trans b1
    have b2 := (hb2.cell (p := ⟨w.heap.size, 2, none⟩) hz1a).trans b2
    have b3 := (hb2.cell (p := ⟨w.heap.size, 3, none⟩) hz1a).trans b3
    have b4 := (hb2.cell (p := ⟨w.heap.size, 4, none⟩) hz1a).trans b4
    have e0 := (hb2.cell (p := ⟨w.heap.size + 1, 0, none⟩) hz1b).trans e0
    have e1 := (hb2.cell (p := ⟨w.heap.size + 1, 1, none⟩) hz1b).trans e1
    clear hb2
    go_wp2_with fail
    refine (specNorm r k1 A1 c1 xs1 _ (by exact hx.below hB2) (entOk_parts h2).1 (entOk_parts h2).2 h1).mono ?_
    rintro e w3 ⟨v3, rfl, hF3, hb3⟩
    obtain ⟨Av, cv, rfl, -, -⟩ := hF3.ints
    have hB3 := belowStep hb3 hB2
    have hq3 := (hb3.block (w.heap.size + 1 + 1) hz2).trans hq2
    have hFF : Fresh (w.heap.size + 1 + 1 + 1) w3 (.slice Av (normL r xs1).length cv) (normL r xs1) := hF3.mono hz2
    obtain ⟨n, hnn⟩ : ∃ n, (normL r xs1).length = n := ⟨_, rfl⟩
    rw [hnn] at hFF ⊢
    clear hF3 hb3 hnn
    have c0 : w3.cell? ⟨w.heap.size + 1 + 1, 0, none⟩ = some (.int .i64 0) := cell_of_row w3 _ 0 _ _ (0, 0) hq3
    have c1' : w3.cell? ⟨w.heap.size + 1 + 1, 1, none⟩ = some (.slice none 0 0) := cell_of_row w3 _ 1 _ _ (0, 0) hq3
    have f0 : w3.frozen? ⟨w.heap.size + 1 + 1, 0, none⟩ = false := row_free hq3
    have f1 : w3.frozen? ⟨w.heap.size + 1 + 1, 1, none⟩ = false := row_free hq3
    go_wp2_with fail
    have hF5 : Fresh w.heap.size ((w3.setCell ⟨w.heap.size + 1 + 1, 0, none⟩ (.int .i64 k1)).setCell ⟨w.heap.size + 1 + 1, 1, none⟩ (.slice Av n cv)) (.slice Av n cv) (normL r xs1) :=
      ((hFF.setCell (a := ⟨w.heap.size + 1 + 1, 0, none⟩) (show w.heap.size + 1 + 1 < _ by omega) _).setCell (a := ⟨w.heap.size + 1 + 1, 1, none⟩) (show w.heap.size + 1 + 1 < _ by omega) _).mono (by omega)
    have hB5 : Below w.heap.size w ((w3.setCell ⟨w.heap.size + 1 + 1, 0, none⟩ (.int .i64 k1)).setCell ⟨w.heap.size + 1 + 1, 1, none⟩ (.slice Av n cv)) := (hB3.setCell (p := ⟨w.heap.size + 1 + 1, 0, none⟩) (show w.heap.size ≤ w.heap.size + 1 + 1 by omega) _).setCell (p := ⟨w.heap.size + 1 + 1, 1, none⟩) (show w.heap.size ≤ w.heap.size + 1 + 1 by omega) _
    exact bodyPost_ret (v := .tuple #[.agg #[.int .i64 k1, .slice Av n cv], .bool true]) (by simp [results, Try.results10, go_sem, c0, c1']) rfl ⟨_, rfl, hF5, hB5⟩

set_option maxRecDepth 100000 in
set_option maxHeartbeats 4000000 in
theorem implNE (r : RR) (k1 : Int) (A1 : Option Addr) (c1 : Nat) (xs1 : List Int) (w : World) (hx : IntsAt w A1 xs1) (hl : xs1.length ≤ 1048576) (_hlc : xs1.length ≤ c1) :
    Calls Try.prog 13 #[.agg #[.int .i64 r.att, .int .i64 r.lim, .int .i64 r.catt, .int .i64 r.cut, .int .i64 r.adv], .agg #[.int .i64 k1, .slice A1 xs1.length c1]] w (Norm2Post (normK r k1 xs1) (normXs r k1 xs1) (normB r k1 xs1) w) := by
  have hlc := _hlc
  have h3 := three w r k1 (.slice A1 xs1.length c1)
  have HB := Lib.hid h3.below
  have HZ := Lib.hid h3.size
  have HQ := Lib.hid h3.res
  have HE0 := Lib.hid (cell_of_row _ _ 0 _ _ (0, 0) h3.ent)
  have HE1 := Lib.hid (cell_of_row _ _ 1 _ _ (0, 0) h3.ent)
  have HX := Lib.hid h3.box
  clear h3
  cases h1 : r.ok
  · have hn : normB r k1 xs1 = false := by simp [normB, h1]
    rw [(norm_no hn).1, (norm_no hn).2, hn]
    go_enter Try.func13, Try.ntmps13
    go_wp2_with fail
    refine (implIsValidRR r _).mono ?_
    rintro e w1 ⟨rfl, hb1⟩
    have hz1 : w.heap.size + 1 + 1 < w1.heap.size := by have := hb1.size; have := HZ.out; omega
    have hB1 := belowStep hb1 HB.out
    have hq1 := (hb1.block (w.heap.size + 1 + 1) (by have := HZ.out; omega)).trans HQ.out
    rw [h1]
    clear hb1
    have c0 : w1.cell? ⟨w.heap.size + 1 + 1, 0, none⟩ = some (.int .i64 0) := cell_of_row w1 _ 0 _ _ (0, 0) hq1
    have c1' : w1.cell? ⟨w.heap.size + 1 + 1, 1, none⟩ = some (.slice none 0 0) := cell_of_row w1 _ 1 _ _ (0, 0) hq1
    have f0 : w1.frozen? ⟨w.heap.size + 1 + 1, 0, none⟩ = false := row_free hq1
    have f1 : w1.frozen? ⟨w.heap.size + 1 + 1, 1, none⟩ = false := row_free hq1
    go_wp2_with fail
    exact bodyPost_ret (v := .tuple #[.agg #[.int .i64 0, .slice none 0 0], .bool false]) (by simp [results, Try.results13, go_sem, c0, c1']) rfl ⟨_, rfl, Fresh.nil _ _, (hB1.setCell (p := ⟨w.heap.size + 1 + 1, 0, none⟩) (show w.heap.size ≤ w.heap.size + 1 + 1 by omega) _).setCell (p := ⟨w.heap.size + 1 + 1, 1, none⟩) (show w.heap.size ≤ w.heap.size + 1 + 1 by omega) _⟩
  cases h2 : entOk k1 xs1
  · have hn : normB r k1 xs1 = false := by simp [normB, h2]
    rw [(norm_no hn).1, (norm_no hn).2, hn]
    go_enter Try.func13, Try.ntmps13
    go_wp2_with fail
    refine (implIsValidRR r _).mono ?_
    rintro e w1 ⟨rfl, hb1⟩
    have hz1 : w.heap.size + 1 + 1 < w1.heap.size := by have := hb1.size; have := HZ.out; omega
    have hB1 := belowStep hb1 HB.out
    have hq1 := (hb1.block (w.heap.size + 1 + 1) (by have := HZ.out; omega)).trans HQ.out
    obtain ⟨b0, b1, b2, b3, b4⟩ := HX.out.below hb1
    have e0 := (hb1.cell (p := ⟨w.heap.size + 1, 0, none⟩) (show w.heap.size + 1 < _ by have := HZ.out; omega)).trans HE0.out
    have e1 := (hb1.cell (p := ⟨w.heap.size + 1, 1, none⟩) (show w.heap.size + 1 < _ by have := HZ.out; omega)).trans HE1.out
    clear hb1
    rw [h1]
    go_wp2_with fail
    refine (implEntOk k1 A1 c1 xs1 _ (by exact hx.below hB1) hl).mono ?_
    rintro e w2 ⟨rfl, hb2⟩
    rw [h2]
    have hz1a : w.heap.size < w1.heap.size := by omega
    have hz1b : w.heap.size + 1 < w1.heap.size := by omega
    have hz2 : w.heap.size + 1 + 1 < w2.heap.size := Nat.lt_of_lt_of_le hz1 hb2.size
    have hB2 := belowStep hb2 hB1
    have hq2 := (hb2.block (w.heap.size + 1 + 1) hz1).trans hq1
    clear hb2
    have c0 : w2.cell? ⟨w.heap.size + 1 + 1, 0, none⟩ = some (.int .i64 0) := cell_of_row w2 _ 0 _ _ (0, 0) hq2
    have c1' : w2.cell? ⟨w.heap.size + 1 + 1, 1, none⟩ = some (.slice none 0 0) := cell_of_row w2 _ 1 _ _ (0, 0) hq2
    have f0 : w2.frozen? ⟨w.heap.size + 1 + 1, 0, none⟩ = false := row_free hq2
    have f1 : w2.frozen? ⟨w.heap.size + 1 + 1, 1, none⟩ = false := row_free hq2
    go_wp2_with fail
    exact bodyPost_ret (v := .tuple #[.agg #[.int .i64 0, .slice none 0 0], .bool false]) (by simp [results, Try.results13, go_sem, c0, c1']) rfl ⟨_, rfl, Fresh.nil _ _, (hB2.setCell (p := ⟨w.heap.size + 1 + 1, 0, none⟩) (show w.heap.size ≤ w.heap.size + 1 + 1 by omega) _).setCell (p := ⟨w.heap.size + 1 + 1, 1, none⟩) (show w.heap.size ≤ w.heap.size + 1 + 1 by omega) _⟩
  · have hn : normB r k1 xs1 = true := by simp [normB, h1, h2]
    rw [(norm_yes hn).1, (norm_yes hn).2, hn]
    go_enter Try.func13, Try.ntmps13
    go_wp2_with fail
    refine (implIsValidRR r _).mono ?_
    rintro e w1 ⟨rfl, hb1⟩
    have hz1 : w.heap.size + 1 + 1 < w1.heap.size := by have := hb1.size; have := HZ.out; omega
    have hB1 := belowStep hb1 HB.out
    have hq1 := (hb1.block (w.heap.size + 1 + 1) (by have := HZ.out; omega)).trans HQ.out
    obtain ⟨b0, b1, b2, b3, b4⟩ := HX.out.below hb1
    have e0 := (hb1.cell (p := ⟨w.heap.size + 1, 0, none⟩) (show w.heap.size + 1 < _ by have := HZ.out; omega)).trans HE0.out
    have e1 := (hb1.cell (p := ⟨w.heap.size + 1, 1, none⟩) (show w.heap.size + 1 < _ by have := HZ.out; omega)).trans HE1.out
    clear hb1
    rw [h1]
    go_wp2_with fail
    refine (implEntOk k1 A1 c1 xs1 _ (by exact hx.below hB1) hl).mono ?_
    rintro e w2 ⟨rfl, hb2⟩
    rw [h2]
    have hz1a : w.heap.size < w1.heap.size := by omega
    have hz1b : w.heap.size + 1 < w1.heap.size := by omega
    have hz2 : w.heap.size + 1 + 1 < w2.heap.size := Nat.lt_of_lt_of_le hz1 hb2.size
    have hB2 := belowStep hb2 hB1
    have hq2 := (hb2.block (w.heap.size + 1 + 1) hz1).trans hq1
    have b0 := (hb2.cell (p := ⟨w.heap.size, 0, none⟩) hz1a).trans b0
    have b1 := (hb2.cell (p := ⟨w.heap.size, 1, none⟩) hz1a).trans b1
    have b2 := (hb2.cell (p := ⟨w.heap.size, 2, none⟩) hz1a).trans b2
    have b3 := (hb2.cell (p := ⟨w.heap.size, 3, none⟩) hz1a).trans b3
    have b4 := (hb2.cell (p := ⟨w.heap.size, 4, none⟩) hz1a).trans b4
    have e0 := (hb2.cell (p := ⟨w.heap.size + 1, 0, none⟩) hz1b).trans e0
    have e1 := (hb2.cell (p := ⟨w.heap.size + 1, 1, none⟩) hz1b).trans e1
    clear hb2
    go_wp2_with fail
    refine (implNorm r k1 A1 c1 xs1 _ (by exact hx.below hB2) (entOk_parts h2).1 hlc h1).mono ?_
    rintro e w3 ⟨v3, rfl, hF3, hb3⟩
    obtain ⟨Av, cv, rfl, -, -⟩ := hF3.ints
    have hB3 := belowStep hb3 hB2
    have hq3 := (hb3.block (w.heap.size + 1 + 1) hz2).trans hq2
    have hFF : Fresh (w.heap.size + 1 + 1 + 1) w3 (.slice Av (normL r xs1).length cv) (normL r xs1) := hF3.mono hz2
    obtain ⟨n, hnn⟩ : ∃ n, (normL r xs1).length = n := ⟨_, rfl⟩
    rw [hnn] at hFF ⊢
    clear hF3 hb3 hnn
    have c0 : w3.cell? ⟨w.heap.size + 1 + 1, 0, none⟩ = some (.int .i64 0) := cell_of_row w3 _ 0 _ _ (0, 0) hq3
    have c1' : w3.cell? ⟨w.heap.size + 1 + 1, 1, none⟩ = some (.slice none 0 0) := cell_of_row w3 _ 1 _ _ (0, 0) hq3
    have f0 : w3.frozen? ⟨w.heap.size + 1 + 1, 0, none⟩ = false := row_free hq3
    have f1 : w3.frozen? ⟨w.heap.size + 1 + 1, 1, none⟩ = false := row_free hq3
    go_wp2_with fail
    have hF5 : Fresh w.heap.size ((w3.setCell ⟨w.heap.size + 1 + 1, 0, none⟩ (.int .i64 k1)).setCell ⟨w.heap.size + 1 + 1, 1, none⟩ (.slice Av n cv)) (.slice Av n cv) (normL r xs1) :=
      ((hFF.setCell (a := ⟨w.heap.size + 1 + 1, 0, none⟩) (show w.heap.size + 1 + 1 < _ by omega) _).setCell (a := ⟨w.heap.size + 1 + 1, 1, none⟩) (show w.heap.size + 1 + 1 < _ by omega) _).mono (by omega)
    have hB5 : Below w.heap.size w ((w3.setCell ⟨w.heap.size + 1 + 1, 0, none⟩ (.int .i64 k1)).setCell ⟨w.heap.size + 1 + 1, 1, none⟩ (.slice Av n cv)) := (hB3.setCell (p := ⟨w.heap.size + 1 + 1, 0, none⟩) (show w.heap.size ≤ w.heap.size + 1 + 1 by omega) _).setCell (p := ⟨w.heap.size + 1 + 1, 1, none⟩) (show w.heap.size ≤ w.heap.size + 1 + 1 by omega) _
    exact bodyPost_ret (v := .tuple #[.agg #[.int .i64 k1, .slice Av n cv], .bool true]) (by simp [results, Try.results13, go_sem, c0, c1']) rfl ⟨_, rfl, hF5, hB5⟩

end Go.Proofs.Ytejacbgogcjbnaa
