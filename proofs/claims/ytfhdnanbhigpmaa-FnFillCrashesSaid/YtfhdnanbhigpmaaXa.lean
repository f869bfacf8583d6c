/- Letters and copies of jobs, spec. Conditions: lengths as each contract says. The memory of an expansion, spec: lists, depths, lists added. No conditions. -/
import Derived.Test.YtfhdnanbhigpmaaRc
import Derived.Test.YtfhdnanbhigpmaaJk
import Derived.Test.YtfhdnanbhigpmaaGf
import Derived.Deep.RegionLaw
namespace Go.Proofs.Ytfhdnanbhigpmaa
section
open Go.RowKit Grp

set_option maxRecDepth 100000 in
set_option maxHeartbeats 1000000 in
theorem specLettersP (A : Option Addr) (c : Nat) (p : Pz) (w : World) (h : PzAt w A p) (hq : pzQ p = true) (hm : p.moves.length ≤ 100000) :
    Calls Try.prog 101 #[.agg #[.int .i64 p.pts, .string p.names, .slice A p.moves.length c]] w fun e w' => ∃ v, e = .returned v ∧ Fresh w.heap.size w' v (letsOf p.moves.length) ∧ Below w.heap.size w w' := by
  obtain ⟨w0, hw0⟩ : ∃ w0, w.alloc (.cells #[.int .i64 p.pts, .string p.names, .slice A p.moves.length c] 29) = w0 := ⟨_, rfl⟩
  have hb0 : Below w.heap.size w w0 := by rw [← hw0]; exact (by repeat (first | exact Below.refl _ _ | assumption | refine Below.setCell ?_ (by first | omega | (simp <;> omega)) _ | refine Below.alloc ?_ (by first | omega | (simp <;> omega)) _ | refine Below.drew ?_))
  have R0 : Hid (w0.heap[w.heap.size]? = some (.cells #[.int .i64 p.pts, .string p.names, .slice A p.moves.length c] 29 (0, 0))) := by rw [← hw0]; exact heap_alloc_new _ _
  have HC := Lib.hid (specPz A c p w0 (h.below hb0))
  rw [hq] at HC
  have HB0 := Lib.hid hb0
  obtain ⟨p0, p1, p2, -, -⟩ := row3 R0.out
  clear h hq hb0
  go_enter Try.func101, Try.ntmps101
  go_wp2_with fail
  clear hw0
  refine HC.out.mono ?_
  rintro e w1 ⟨rfl, hb1⟩
  have HB1 := Lib.hid (belowStep hb1 HB0.out)
  have R1 := Lib.hid (rowB hb1 R0.out)
  clear hb1 p0 p1 p2
  obtain ⟨p0, p1, p2, -, -⟩ := row3 R1.out
  go_wp2_with fail
  refine (specLetters A c p w1 hm).mono ?_
  rintro e w2 ⟨v2, rfl, hF2, hb2⟩
  have hz := HB1.out.size
  have HF2 := Lib.hid (hF2.mono hz)
  have HB2 := Lib.hid (belowStep hb2 HB1.out)
  clear hF2 hb2
  go_wp2_with fail
  go_ret
  exact ⟨v2, rfl, HF2.out, HB2.out⟩
/-- A copied table: header, lists, distances. -/
def CpTb (lo : Nat) (t : Tb) (v1 v2 v3 : Value) (w : World) : Prop :=
  Fresh lo w v1 t.trk ∧ GrAt lo (fun b => b < lo ∨ v1.ownBlock = some b ∨ v3.ownBlock = some b) w v2 t.pats ∧ Fresh lo w v3 t.dist ∧ ∀ b, v1.ownBlock = some b → v3.ownBlock ≠ some b
theorem CpTb.kept {lo g : Nat} {t : Tb} {v1 v2 v3 : Value} {w w' : World} (h : CpTb lo t v1 v2 v3 w) (hg : w.grownBy w' (some g)) (hz : g < lo) : CpTb lo t v1 v2 v3 w' :=
  ⟨h.1.row hg (fun b hb e => by have := (World.ownsRow.lt h.1 b hb).1; injection e with e; omega), h.2.1.kept hg (fun g' e => by injection e with e; exact .inl (by omega)), h.2.2.1.row hg (fun b hb e => by have := (World.ownsRow.lt h.2.2.1 b hb).1; injection e with e; omega), h.2.2.2⟩
theorem CpTb.less {lo lo' : Nat} {t : Tb} {v1 v2 v3 : Value} {w : World} (h : CpTb lo t v1 v2 v3 w) (hl : lo' ≤ lo) : CpTb lo' t v1 v2 v3 w :=
  ⟨h.1.mono hl, h.2.1.weak hl (fun b hb => by
    rcases hb with e | e
    · exact .inl (by omega)
    · exact .inr e), h.2.2.1.mono hl, h.2.2.2⟩
set_option maxRecDepth 100000 in
set_option maxHeartbeats 1000000 in
theorem specCopyT (A1 A2 A3 : Option Addr) (c1 c2 c3 : Nat) (t : Tb) (w : World) (h1 : IntsAt w A1 t.trk) (h2 : LAt w A2 t.pats) (h3 : IntsAt w A3 t.dist) (hs : ShortT t) :
    Calls Try.prog 124 #[.agg #[.slice A1 t.trk.length c1, .slice A2 t.pats.length c2, .slice A3 t.dist.length c3]] w fun e w' => ∃ v1 v2 v3, e = .returned (.agg #[v1, v2, v3]) ∧ CpTb w.heap.size t v1 v2 v3 w' ∧ Below w.heap.size w w' := by
  obtain ⟨xs, ls, ys⟩ := t
  obtain ⟨s1, s2, s3, s4⟩ := hs
  dsimp only at *
  obtain ⟨w0, hw0⟩ : ∃ w0, (w.alloc (.cells #[.slice A1 xs.length c1, .slice A2 ls.length c2, .slice A3 ys.length c3] 34)).alloc (.cells #[.slice none 0 0, .slice none 0 0, .slice none 0 0] 34) = w0 := ⟨_, rfl⟩
  have hb0 : Below w.heap.size w w0 := by rw [← hw0]; exact (by repeat (first | exact Below.refl _ _ | assumption | refine Below.setCell ?_ (by first | omega | (simp <;> omega)) _ | refine Below.alloc ?_ (by first | omega | (simp <;> omega)) _ | refine Below.drew ?_))
  have R0 : Hid (w0.heap[w.heap.size]? = some (.cells #[.slice A1 xs.length c1, .slice A2 ls.length c2, .slice A3 ys.length c3] 34 (0, 0))) := by rw [← hw0]; exact alloc2_0 _ _ _
  have R1 : Hid (w0.heap[w.heap.size + 1]? = some (.cells #[.slice none 0 0, .slice none 0 0, .slice none 0 0] 34 (0, 0))) := by rw [← hw0]; exact alloc2_1 _ _ _
  have HW0 := Lib.hid hw0
  have HB0 := Lib.hid hb0
  have H1 := Lib.hid (h1.below hb0)
  have H2 := Lib.hid (h2.below hb0)
  have H3 := Lib.hid (h3.below hb0)
  have S3 : Hid (∀ i, i < ls.length → (ls.getD i []).length ≤ 1048576) := s3
  have hs0 : (w.alloc (.cells #[.slice A1 xs.length c1, .slice A2 ls.length c2, .slice A3 ys.length c3] 34)).heap.size = w.heap.size + 1 := by simp
  clear h1 h2 h3 s3 hb0 hw0
  go_enter Try.func124, Try.ntmps124
  go_wp2_with fail
  rw [HW0.out]
  try rw [hs0]
  obtain ⟨p0, p1, p2, -, pl⟩ := row3 R0.out
  go_region_held3 (fun w' => w'.cell? ⟨w.heap.size, 0, none⟩ = some (.slice A1 xs.length c1) ∧ w'.cell? ⟨w.heap.size, 1, none⟩ = some (.slice A2 ls.length c2) ∧ w'.cell? ⟨w.heap.size, 2, none⟩ = some (.slice A3 ys.length c3)) (first | go_keep | exact ⟨u50, u51, u52⟩ | exact ⟨u60, u61, u62⟩ | exact ⟨u70, u71, u72⟩) (first
      | (go_at_call 46; with_reducible refine Calls.mono (specCopy A1 c1 xs.length xs _ (by exact H1.out.below (by first | assumption | exact (Below.refl _ _).drew)) rfl s1) ?_; rintro e w5 ⟨v5, rfl, hF5, hb5⟩; have T5 : Below w0.heap.size w0 w5 := belowStep hb5 (by first | assumption | exact (Below.refl _ _).drew); have u50 := (T5.cell (p := ⟨w.heap.size, 0, none⟩) pl).trans p0; have u51 := (T5.cell (p := ⟨w.heap.size, 1, none⟩) pl).trans p1; have u52 := (T5.cell (p := ⟨w.heap.size, 2, none⟩) pl).trans p2; obtain ⟨t50, t51, t52, t5f, t5l⟩ := row3 (rowB T5 R1.out); obtain ⟨A5, c5, -, rfl, -⟩ := hF5.capped)
      | (go_at_call 46; with_reducible refine Calls.mono (specCopy A3 c3 ys.length ys _ (by exact H3.out.below (by first | assumption | exact (Below.refl _ _).drew)) rfl s4) ?_; rintro e w7 ⟨v7, rfl, hF7, hb7⟩; have T7 : Below w0.heap.size w0 w7 := belowStep hb7 (by first | assumption | exact (Below.refl _ _).drew); have u70 := (T7.cell (p := ⟨w.heap.size, 0, none⟩) pl).trans p0; have u71 := (T7.cell (p := ⟨w.heap.size, 1, none⟩) pl).trans p1; have u72 := (T7.cell (p := ⟨w.heap.size, 2, none⟩) pl).trans p2; obtain ⟨t70, t71, t72, t7f, t7l⟩ := row3 (rowB T7 R1.out); obtain ⟨A7, c7, -, rfl, -⟩ := hF7.capped)
      | (go_at_call 47; refine Calls.mono (specCopies A2 c2 ls.length ls _ (by exact H2.out.below (by first | assumption | exact (Below.refl _ _).drew)) rfl s2 S3.out) ?_; rintro e w6 ⟨v6, rfl, hF6, hb6⟩; have T6 : Below w0.heap.size w0 w6 := belowStep hb6 (by first | assumption | exact (Below.refl _ _).drew); have u60 := (T6.cell (p := ⟨w.heap.size, 0, none⟩) pl).trans p0; have u61 := (T6.cell (p := ⟨w.heap.size, 1, none⟩) pl).trans p1; have u62 := (T6.cell (p := ⟨w.heap.size, 2, none⟩) pl).trans p2; obtain ⟨t60, t61, t62, t6f, t6l⟩ := row3 (rowB T6 R1.out); obtain ⟨A6, c6, rfl, -, -⟩ := GrAt.shape hF6))
  obtain ⟨y0, y1, y2, -, -⟩ := row3 (row3S (rowB T7 R1.out) (.slice A5 xs.length c5) (.slice A6 ls.length c6) (.slice A7 ys.length c7))
  have hl1 : w.heap.size + 1 < w0.heap.size := row_lt R1.out
  have hd0 : w0.drew.heap.size = w0.heap.size := rfl
  rw [hd0] at hF5
  have hz3 := T5.size
  have hz5 := hb6.size
  have hz6 := hb7.size
  have hB7 := belowStep T7 HB0.out
  have HF5 : Hid (Fresh w.heap.size (((w7.setCell ⟨w.heap.size + 1, 0, none⟩ (.slice A5 xs.length c5)).setCell ⟨w.heap.size + 1, 1, none⟩ (.slice A6 ls.length c6)).setCell ⟨w.heap.size + 1, 2, none⟩ (.slice A7 ys.length c7)) (.slice A5 xs.length c5) xs) :=
      (((((hF5.below hb6).below hb7).setCell (a := ⟨w.heap.size + 1, 0, none⟩) (by simp only; omega) _).setCell (a := ⟨w.heap.size + 1, 1, none⟩) (by simp only; omega) _).setCell (a := ⟨w.heap.size + 1, 2, none⟩) (by simp only; omega) _).mono (show w.heap.size ≤ w0.heap.size by omega)
  have hA7 : ∀ b, (Value.slice A7 ys.length c7).ownBlock = some b → w6.heap.size ≤ b := fun b hb => (World.ownsRow.lt hF7 b hb).1
  have hA5 : ∀ b, (Value.slice A5 xs.length c5).ownBlock = some b → b < w5.heap.size := fun b hb => (World.ownsRow.lt hF5 b hb).2
  have HNE : Hid (∀ b, (Value.slice A5 xs.length c5).ownBlock = some b → (Value.slice A7 ys.length c7).ownBlock ≠ some b) := fun b hb e => by
    have := hA5 b hb
    have := hA7 b e
    omega
  have hG6 : GrAt w5.heap.size (fun b => b < w5.heap.size ∨ (Value.slice A5 xs.length c5).ownBlock = some b ∨ (Value.slice A7 ys.length c7).ownBlock = some b) w6 (.slice A6 ls.length c6) ls := GrAt.other hF6 (fun b hb => by
    rcases hb with e | e | e
    · exact .inl e
    · exact .inl (hA5 b e)
    · exact .inr (hA7 b e))
  have HF6 : Hid (GrAt w.heap.size (fun b => b < w.heap.size ∨ (Value.slice A5 xs.length c5).ownBlock = some b ∨ (Value.slice A7 ys.length c7).ownBlock = some b) (((w7.setCell ⟨w.heap.size + 1, 0, none⟩ (.slice A5 xs.length c5)).setCell ⟨w.heap.size + 1, 1, none⟩ (.slice A6 ls.length c6)).setCell ⟨w.heap.size + 1, 2, none⟩ (.slice A7 ys.length c7)) (.slice A6 ls.length c6) ls) :=
      ((((hG6.below hb7).kept (setGrown _ (w.heap.size + 1) 0 _) (fun g e => by injection e with e; exact .inl (by omega))).kept (setGrown _ (w.heap.size + 1) 1 _) (fun g e => by injection e with e; exact .inl (by omega))).kept (setGrown _ (w.heap.size + 1) 2 _) (fun g e => by injection e with e; exact .inl (by omega))).weak (show w.heap.size ≤ w5.heap.size by omega) (fun b hb => by
        rcases hb with e | e
        · exact .inl (by omega)
        · exact .inr e)
  have HF7 : Hid (Fresh w.heap.size (((w7.setCell ⟨w.heap.size + 1, 0, none⟩ (.slice A5 xs.length c5)).setCell ⟨w.heap.size + 1, 1, none⟩ (.slice A6 ls.length c6)).setCell ⟨w.heap.size + 1, 2, none⟩ (.slice A7 ys.length c7)) (.slice A7 ys.length c7) ys) :=
      (((hF7.setCell (a := ⟨w.heap.size + 1, 0, none⟩) (by simp only; omega) _).setCell (a := ⟨w.heap.size + 1, 1, none⟩) (by simp only; omega) _).setCell (a := ⟨w.heap.size + 1, 2, none⟩) (by simp only; omega) _).mono (show w.heap.size ≤ w6.heap.size by omega)
  go_wp2_with fail
  refine bodyPost_ret (v := .agg #[.slice A5 xs.length c5, .slice A6 ls.length c6, .slice A7 ys.length c7]) (by simp [results, Try.results124, go_sem, y0, y1, y2]) rfl ?_
  exact ⟨_, _, _, rfl, ⟨HF5.out, HF6.out, HF7.out, HNE.out⟩, ((hB7.setCell (p := ⟨w.heap.size + 1, 0, none⟩) (Nat.le_succ _) _).setCell (p := ⟨w.heap.size + 1, 1, none⟩) (Nat.le_succ _) _).setCell (p := ⟨w.heap.size + 1, 2, none⟩) (Nat.le_succ _) _⟩
set_option maxRecDepth 100000 in
set_option maxHeartbeats 4000000 in
theorem specCopyJ (A1 A2 A3 : Option Addr) (c1 c2 c3 : Nat) (t : Tb) (nx : Int) (lg : ByteArray) (sy : Int) (w : World) (h1 : IntsAt w A1 t.trk) (h2 : LAt w A2 t.pats) (h3 : IntsAt w A3 t.dist) (hs : ShortT t) :
    Calls Try.prog 100 #[jobV A1 A2 A3 c1 c2 c3 t nx lg sy] w fun e w' => ∃ v1 v2 v3, e = .returned (.agg #[v1, v2, v3, .int .i64 nx, .string lg, .int .i64 sy]) ∧ CpTb w.heap.size t v1 v2 v3 w' ∧ Below w.heap.size w w' := by
  obtain ⟨w0, hw0⟩ : ∃ w0, (w.alloc (.cells #[.slice A1 t.trk.length c1, .slice A2 t.pats.length c2, .slice A3 t.dist.length c3, .int .i64 nx, .string lg, .int .i64 sy] 45)).alloc (.cells #[.slice none 0 0, .slice none 0 0, .slice none 0 0, .int .i64 0, .string ⟨#[]⟩, .int .i64 0] 45) = w0 := ⟨_, rfl⟩
  have hb0 : Below w.heap.size w w0 := by rw [← hw0]; exact (by repeat (first | exact Below.refl _ _ | assumption | refine Below.setCell ?_ (by first | omega | (simp <;> omega)) _ | refine Below.alloc ?_ (by first | omega | (simp <;> omega)) _ | refine Below.drew ?_))
  have R0 : Hid (w0.heap[w.heap.size]? = some (.cells #[.slice A1 t.trk.length c1, .slice A2 t.pats.length c2, .slice A3 t.dist.length c3, .int .i64 nx, .string lg, .int .i64 sy] 45 (0, 0))) := by rw [← hw0]; exact alloc2_0 _ _ _
  have R1 : Hid (w0.heap[w.heap.size + 1]? = some (.cells #[.slice none 0 0, .slice none 0 0, .slice none 0 0, .int .i64 0, .string ⟨#[]⟩, .int .i64 0] 45 (0, 0))) := by rw [← hw0]; exact alloc2_1 _ _ _
  have HW0 := Lib.hid hw0
  have HB0 := Lib.hid hb0
  have HC := Lib.hid (fun wx hb => specCopyT A1 A2 A3 c1 c2 c3 t wx (h1.below (Below.trans hb0 (Below.mono hb (by have := hb0.size; omega)))) (h2.below (Below.trans hb0 (Below.mono hb (by have := hb0.size; omega)))) (h3.below (Below.trans hb0 (Below.mono hb (by have := hb0.size; omega)))) hs)
  have hs0 : (w.alloc (.cells #[.slice A1 t.trk.length c1, .slice A2 t.pats.length c2, .slice A3 t.dist.length c3, .int .i64 nx, .string lg, .int .i64 sy] 45)).heap.size = w.heap.size + 1 := by simp
  unfold jobV
  clear h1 h2 h3 hs hb0 hw0
  go_enter Try.func100, Try.ntmps100
  go_wp2_with fail
  rw [HW0.out]
  try rw [hs0]
  obtain ⟨p0, p1, p2, p3, p4, p5, -, pl⟩ := row6 R0.out
  obtain ⟨n1, hn1⟩ : ∃ n1, t.trk.length = n1 := ⟨_, rfl⟩
  obtain ⟨n2, hn2⟩ : ∃ n2, t.pats.length = n2 := ⟨_, rfl⟩
  obtain ⟨n3, hn3⟩ : ∃ n3, t.dist.length = n3 := ⟨_, rfl⟩
  rw [hn1, hn2, hn3] at HC R0 ⊢
  rw [hn1] at p0
  rw [hn2] at p1
  rw [hn3] at p2
  have HN1 := Lib.hid hn1
  have HN2 := Lib.hid hn2
  have HN3 := Lib.hid hn3
  clear hn1 hn2 hn3
  go_region_held3 (fun w' => w'.cell? ⟨w.heap.size, 0, none⟩ = some (.slice A1 n1 c1) ∧ w'.cell? ⟨w.heap.size, 1, none⟩ = some (.slice A2 n2 c2) ∧ w'.cell? ⟨w.heap.size, 2, none⟩ = some (.slice A3 n3 c3) ∧ w'.cell? ⟨w.heap.size, 3, none⟩ = some (.int .i64 nx) ∧ w'.cell? ⟨w.heap.size, 4, none⟩ = some (.string lg) ∧ w'.cell? ⟨w.heap.size, 5, none⟩ = some (.int .i64 sy)) (first | go_keep | exact ⟨u50, u51, u52, u53, u54, u55⟩) ((go_at_call 124; refine (HC.out _ (by exact (Below.refl _ _).drew)).mono ?_; rintro e w5 ⟨v1, v2, v3, rfl, ⟨hF5, hF6, hF7, hNE⟩, hb5⟩; have T5 : Below w0.heap.size w0 w5 := ⟨hb5.os, hb5.tape, hb5.output, hb5.size, hb5.block⟩; have u50 := (T5.cell (p := ⟨w.heap.size, 0, none⟩) pl).trans p0; have u51 := (T5.cell (p := ⟨w.heap.size, 1, none⟩) pl).trans p1; have u52 := (T5.cell (p := ⟨w.heap.size, 2, none⟩) pl).trans p2; have u53 := (T5.cell (p := ⟨w.heap.size, 3, none⟩) pl).trans p3; have u54 := (T5.cell (p := ⟨w.heap.size, 4, none⟩) pl).trans p4; have u55 := (T5.cell (p := ⟨w.heap.size, 5, none⟩) pl).trans p5; have RT := rowB T5 R1.out; obtain ⟨t50, t51, t52, t53, t54, t55, t5f, t5l⟩ := row6 RT; obtain ⟨A5, c5, -, rfl, -⟩ := hF5.capped; obtain ⟨A6, c6, rfl, -, -⟩ := GrAt.shape hF6; obtain ⟨A7, c7, -, rfl, -⟩ := hF7.capped))
  have hl1 : w.heap.size + 1 < w0.heap.size := row_lt R1.out
  have hCP : CpTb w.heap.size t (.slice A5 t.trk.length c5) (.slice A6 t.pats.length c6) (.slice A7 t.dist.length c7) ((((((w5.setCell ⟨w.heap.size + 1, 0, none⟩ (.slice A5 t.trk.length c5)).setCell ⟨w.heap.size + 1, 1, none⟩ (.slice A6 t.pats.length c6)).setCell ⟨w.heap.size + 1, 2, none⟩ (.slice A7 t.dist.length c7)).setCell ⟨w.heap.size + 1, 3, none⟩ (.int .i64 nx)).setCell ⟨w.heap.size + 1, 4, none⟩ (.string lg)).setCell ⟨w.heap.size + 1, 5, none⟩ (.int .i64 sy)) :=
    CpTb.less (CpTb.kept (lo := w0.heap.size) ⟨hF5, hF6, hF7, hNE⟩ (grown6 _ _ _ _ _ _ _ _) hl1) (by omega)
  have HCP := Lib.hid hCP
  have HB5 := Lib.hid (belowStep T5 HB0.out)
  obtain ⟨y0, y1, y2, y3, y4, y5, -, -⟩ := row6 (row6S RT (.slice A5 t.trk.length c5) (.slice A6 t.pats.length c6) (.slice A7 t.dist.length c7) (.int .i64 nx) (.string lg) (.int .i64 sy))
  clear hCP hF5 hF6 hF7 hNE
  go_wp2_with fail
  refine bodyPost_ret (v := .agg #[.slice A5 t.trk.length c5, .slice A6 t.pats.length c6, .slice A7 t.dist.length c7, .int .i64 nx, .string lg, .int .i64 sy]) (by simp [results, Try.results100, go_sem, y0, y1, y2, y3, y4, y5]) rfl ?_
  exact ⟨_, _, _, rfl, HCP.out, belSet6 HB5.out (Nat.le_succ _) _ _ _ _ _ _⟩
end
section
open Go.RowKit Grp

structure XlAt (Z : Nat → Prop) (lo : Nat) (w : World) (vl vd va : Value) (ls : List (List Int)) (ds : List Int) (ad : List (List Int)) : Prop where
  lists : GrAt lo (fun b => Z b ∨ vd.ownBlock = some b ∨ va.ownBlock = some b) w vl ls
  deps : Fresh lo w vd ds
  adds : GrAt lo (fun b => Z b ∨ vd.ownBlock = some b ∨ vl.ownBlock = some b) w va ad
  zlt : ∀ b, Z b → b < w.heap.size
  zdep : ∀ b, vd.ownBlock = some b → ¬ Z b
section
variable {Z : Nat → Prop} {lo : Nat} {w w' : World} {vl vd va : Value} {ls ad : List (List Int)} {ds : List Int}
theorem XlAt.below (h : XlAt Z lo w vl vd va ls ds ad) (hb : Below w.heap.size w w') : XlAt Z lo w' vl vd va ls ds ad :=
  ⟨h.lists.below hb, h.deps.row (gB hb none) (fun b _ e => by cases e), h.adds.below hb, fun b hz => Nat.lt_of_lt_of_le (h.zlt b hz) hb.size, h.zdep⟩
theorem XlAt.kept (h : XlAt Z lo w vl vd va ls ds ad) {g : Nat} (hg : w.grownBy w' (some g)) (hz : Z g) : XlAt Z lo w' vl vd va ls ds ad :=
  ⟨h.lists.kept hg (fun g' e => by injection e with e; exact .inl (e ▸ hz)), h.deps.row hg (fun b hb e => by injection e with e; exact h.zdep b hb (e ▸ hz)), h.adds.kept hg (fun g' e => by injection e with e; exact .inl (e ▸ hz)), fun b hz => Nat.lt_of_lt_of_le (h.zlt b hz) hg.size, h.zdep⟩
theorem XlAt.list (h : XlAt Z lo w vl vd va ls ds ad) {vl' : Value} {ls' : List (List Int)} (hL : GrAt lo (fun b => Z b ∨ vd.ownBlock = some b ∨ va.ownBlock = some b) w' vl' ls') (hg : w.grownBy w' vl.ownBlock) (hat : vl'.ownBlock = vl.ownBlock ∨ vl'.ownBlock = some w.heap.size) : XlAt Z lo w' vl' vd va ls' ds ad := by
  have ho := h.lists.own
  refine ⟨hL, h.deps.row hg (fun b hb e => (ho b e).2.2 (.inr (.inl hb))), h.adds.step hg (fun g e => .inr (.inr e)) ?_, fun b hz => Nat.lt_of_lt_of_le (h.zlt b hz) hg.size, h.zdep⟩
  intro b hb
  rcases hb with e | e | e
  · exact .inl (.inl e)
  · exact .inl (.inr (.inl e))
  · rcases hat with e2 | e2
    · exact .inl (.inr (.inr (e2 ▸ e)))
    · rw [e2] at e; injection e with e; exact .inr (by omega)
theorem XlAt.add (h : XlAt Z lo w vl vd va ls ds ad) {va' : Value} {ad' : List (List Int)} (hL : GrAt lo (fun b => Z b ∨ vd.ownBlock = some b ∨ vl.ownBlock = some b) w' va' ad') (hg : w.grownBy w' va.ownBlock) (hat : va'.ownBlock = va.ownBlock ∨ va'.ownBlock = some w.heap.size) : XlAt Z lo w' vl vd va' ls ds ad' := by
  have ho := h.adds.own
  refine ⟨h.lists.step hg (fun g e => .inr (.inr e)) ?_, h.deps.row hg (fun b hb e => (ho b e).2.2 (.inr (.inl hb))), hL, fun b hz => Nat.lt_of_lt_of_le (h.zlt b hz) hg.size, h.zdep⟩
  intro b hb
  rcases hb with e | e | e
  · exact .inl (.inl e)
  · exact .inl (.inr (.inl e))
  · rcases hat with e2 | e2
    · exact .inl (.inr (.inr (e2 ▸ e)))
    · rw [e2] at e; injection e with e; exact .inr (by omega)
theorem XlAt.dep (h : XlAt Z lo w vl vd va ls ds ad) {vd' : Value} {ds' : List Int} (hD : Fresh lo w' vd' ds') (hg : w.grownBy w' vd.ownBlock) (hat : vd'.ownBlock = vd.ownBlock ∨ vd'.ownBlock = some w.heap.size) : XlAt Z lo w' vl vd' va ls ds' ad := by
  refine ⟨h.lists.step hg (fun g e => .inr (.inl e)) ?_, hD, h.adds.step hg (fun g e => .inr (.inl e)) ?_, fun b hz => Nat.lt_of_lt_of_le (h.zlt b hz) hg.size, fun b hb hz => ?_⟩
  · intro b hb
    rcases hb with e | e | e
    · exact .inl (.inl e)
    · rcases hat with e2 | e2
      · exact .inl (.inr (.inl (e2 ▸ e)))
      · rw [e2] at e; injection e with e; exact .inr (by omega)
    · exact .inl (.inr (.inr e))
  · intro b hb
    rcases hb with e | e | e
    · exact .inl (.inl e)
    · rcases hat with e2 | e2
      · exact .inl (.inr (.inl (e2 ▸ e)))
      · rw [e2] at e; injection e with e; exact .inr (by omega)
    · exact .inl (.inr (.inr e))
  · rcases hat with e2 | e2
    · exact h.zdep b (e2 ▸ hb) hz
    · rw [e2] at hb; injection hb with hb
      have := h.zlt b hz; omega
/-- All blocks of an expansion's lists are its own; others may hold the rows. -/
theorem XlAt.own (h : XlAt Z lo w vl vd va ls ds ad) : (∀ b, vl.ownBlock = some b → b < w.heap.size ∧ ¬ Z b) ∧ (∀ b, vd.ownBlock = some b → b < w.heap.size ∧ ¬ Z b) ∧ ∀ b, va.ownBlock = some b → b < w.heap.size ∧ ¬ Z b :=
  ⟨fun b hb => ⟨(h.lists.own b hb).2.1, fun hz => (h.lists.own b hb).2.2 (.inl hz)⟩, fun b hb => ⟨(World.ownsRow.lt h.deps b hb).2, h.zdep b hb⟩, fun b hb => ⟨(h.adds.own b hb).2.1, fun hz => (h.adds.own b hb).2.2 (.inl hz)⟩⟩
end
/-- The state of an expansion. -/
structure XRel (lo HO L : Nat) (Z : Nat → Prop) (w0 wr : World) (B1 : Option Addr) (d1 : Nat) (vl vd va : Value) (trk : List Int) (k : Nat) (lg : ByteArray) (sy : Int) (ls : List (List Int)) (ds : List Int) (ad : List (List Int)) : Prop where
  st : XlAt Z lo wr vl vd va ls ds ad
  row : wr.heap[HO]? = some (.cells #[.slice B1 L d1, vl, vd, .int .i64 (k : Int), .string lg, .int .i64 sy] 45 (0, 0))
  trk : Fresh lo wr (.slice B1 L d1) trk
  bel : Below lo w0 wr
  zho : Z HO
  zb1 : ∀ b, (Value.slice B1 L d1).ownBlock = some b → Z b
  hob : ∀ b, (Value.slice B1 L d1).ownBlock = some b → b ≠ HO
  lho : lo ≤ HO
  lw0 : lo ≤ w0.heap.size
section
variable {lo HO L : Nat} {Z : Nat → Prop} {w0 wr wr' : World} {B1 : Option Addr} {d1 : Nat} {vl vd va : Value} {trk : List Int} {k : Nat} {lg : ByteArray} {sy : Int} {ls ad : List (List Int)} {ds : List Int}
theorem XRel.below (h : XRel lo HO L Z w0 wr B1 d1 vl vd va trk k lg sy ls ds ad) (hb : Below wr.heap.size wr wr') : XRel lo HO L Z w0 wr' B1 d1 vl vd va trk k lg sy ls ds ad :=
  ⟨h.st.below hb, rowB hb h.row, h.trk.below hb, h.bel.trans (hb.mono (by have := h.bel.size; have := h.lw0; omega)), h.zho, h.zb1, h.hob, h.lho, h.lw0⟩
theorem XRel.grown (h : XRel lo HO L Z w0 wr B1 d1 vl vd va trk k lg sy ls ds ad) {row : Option Nat} (hg : wr.grownBy wr' row) (hr : ∀ b, row = some b → lo ≤ b) : Below lo w0 wr' :=
  h.bel.grown hg (by have := h.bel.size; have := h.lw0; omega) hr
theorem XRel.pushList (h : XRel lo HO L Z w0 wr B1 d1 vl vd va trk k lg sy ls ds ad) {vl' : Value} {ls' : List (List Int)} (hL : GrAt lo (fun b => Z b ∨ vd.ownBlock = some b ∨ va.ownBlock = some b) wr' vl' ls') (hg : wr.grownBy wr' vl.ownBlock) (hat : vl'.ownBlock = vl.ownBlock ∨ vl'.ownBlock = some wr.heap.size) : XRel lo HO L Z w0 (wr'.setCell ⟨HO, 1, none⟩ vl') B1 d1 vl' vd va trk k lg sy ls' ds ad := by
  have ho := h.st.lists.own
  exact ⟨(h.st.list hL hg hat).kept (setGrown _ _ _ _) h.zho, rowSet vl' (rowR hg h.row (fun e => (ho HO e).2.2 (.inl h.zho))), (h.trk.row hg (fun b hb e => (ho b e).2.2 (.inl (h.zb1 b hb)))).row (setGrown wr' HO 1 vl') (fun b hb e => by injection e with e; exact h.hob b hb e.symm), (h.grown hg (fun b e => (ho b e).1)).setCell h.lho _, h.zho, h.zb1, h.hob, h.lho, h.lw0⟩
theorem XRel.pushDep (h : XRel lo HO L Z w0 wr B1 d1 vl vd va trk k lg sy ls ds ad) {vd' : Value} {ds' : List Int} (hD : Fresh lo wr' vd' ds') (hg : wr.grownBy wr' vd.ownBlock) (hat : vd'.ownBlock = vd.ownBlock ∨ vd'.ownBlock = some wr.heap.size) : XRel lo HO L Z w0 (wr'.setCell ⟨HO, 2, none⟩ vd') B1 d1 vl vd' va trk k lg sy ls ds' ad :=
  ⟨(h.st.dep hD hg hat).kept (setGrown _ _ _ _) h.zho, rowSet vd' (rowR hg h.row (fun e => h.st.zdep HO e h.zho)), (h.trk.row hg (fun b hb e => h.st.zdep b e (h.zb1 b hb))).row (setGrown wr' HO 2 vd') (fun b hb e => by injection e with e; exact h.hob b hb e.symm), (h.grown hg (fun b e => (World.ownsRow.lt h.st.deps b e).1)).setCell h.lho _, h.zho, h.zb1, h.hob, h.lho, h.lw0⟩
theorem XRel.pushAdd (h : XRel lo HO L Z w0 wr B1 d1 vl vd va trk k lg sy ls ds ad) {va' : Value} {ad' : List (List Int)} (hL : GrAt lo (fun b => Z b ∨ vd.ownBlock = some b ∨ vl.ownBlock = some b) wr' va' ad') (hg : wr.grownBy wr' va.ownBlock) (hat : va'.ownBlock = va.ownBlock ∨ va'.ownBlock = some wr.heap.size) : XRel lo HO L Z w0 wr' B1 d1 vl vd va' trk k lg sy ls ds ad' := by
  have ho := h.st.adds.own
  exact ⟨h.st.add hL hg hat, rowR hg h.row (fun e => (ho HO e).2.2 (.inl h.zho)), h.trk.row hg (fun b hb e => (ho b e).2.2 (.inl (h.zb1 b hb))), h.grown hg (fun b e => (ho b e).1), h.zho, h.zb1, h.hob, h.lho, h.lw0⟩
/-- Other memory of the call that the appends leave alone. -/
theorem XlAt.leaves (h : XlAt Z lo wr vl vd va ls ds ad) {b : Nat} (hz : Z b) : vl.ownBlock ≠ some b ∧ vd.ownBlock ≠ some b ∧ va.ownBlock ≠ some b :=
  ⟨fun e => (h.own.1 b e).2 hz, fun e => (h.own.2.1 b e).2 hz, fun e => (h.own.2.2 b e).2 hz⟩
end
set_option maxRecDepth 100000 in
theorem step_append_at {w : World} {ops : Array Oper} {o : Oper} {a : Act} {K : Act → World → Prop} {Q : Exit → Act → World → Prop} {E : Prop} (hgd : o.guard = none) (s x : Operand)
    (hop : o.op = Op.call { callee := Callee.builtin Builtin.append, args := #[s, x], argTypes := #[31, 31] })
    (B : Nat) (v : Value) (xs : List Int) (n : Int) (hs : a.eval s = v) (hown : Fresh B w v xs) (g : Nat) (hx : a.eval x = .slice (some ⟨g, 0, none⟩) 1 1)
    (hcell : w.cell? ⟨g, 0, none⟩ = some (.int .i64 n)) (hl : xs.length ≤ 1048576) (hB : B ≤ w.heap.size)
    (h : ∀ A' c' w', Fresh B w' (.slice A' (xs.length + 1) c') (xs ++ [n]) → w.grownBy w' v.ownBlock → ((Value.slice A' (xs.length + 1) c').ownBlock = v.ownBlock ∨ (Value.slice A' (xs.length + 1) c').ownBlock = some w.heap.size) → K (a.put o.dst (.slice A' (xs.length + 1) c')) w') :
    if Region.wanted o (yielded ops a.tmps) = true then Oper.wp Try.prog o a w K Q else E := by
  have hw : Region.wanted o (yielded ops a.tmps) = true := by simp [Region.wanted, hgd]
  rw [if_pos hw]
  obtain ⟨i0, hi, hz0, hz1, hz2⟩ := info_parts intInfo
  obtain ⟨v', w', hr, hown', hgrow, -, hat⟩ := run_append_own_at (P := Try.prog) w B 31 o.type 2 i0 (.int .i64 0) 1 8 Try.underlying31 hi hz0 hz1 hz2 rfl (by decide) v xs.length (xs.map (Value.int .i64)) hown ⟨g, 0, none⟩ 1 1 [.int .i64 n] rfl
    (by intro j u2 hj; match j, hj with
        | 0, hj => simp at hj; subst hj; simpa [Addr.add] using hcell)
    (by intro u2 hu2; simp at hu2; subst hu2; rfl) (by unfold maxLen; omega) (by omega) hB
  have hF : Fresh B w' v' (xs ++ [n]) := by simpa [Fresh] using hown'
  obtain ⟨A', c', -, hv', -⟩ := hF.capped
  rw [List.length_append, List.length_singleton] at hv'
  subst hv'
  unfold Oper.wp execOp
  simp only [hop, resolve, invoke, builtin, Sem.run_bind, Sem.run_pure, Result.andThen_ok, List.map_toArray, List.map_cons, List.map_nil, hs, hx, hr]
  exact h A' c' w' hF hgrow hat
end
end Go.Proofs.Ytfhdnanbhigpmaa
