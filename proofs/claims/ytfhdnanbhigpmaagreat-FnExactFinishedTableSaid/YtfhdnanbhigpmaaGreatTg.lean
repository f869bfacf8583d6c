/- Tables and jobs as the law files make them: of the call's own. Conditions: as each contract says. -/
import Derived.Test.YtfhdnanbhigpmaaGreatMg
import Derived.Test.YtfhdnanbhigpmaaGreatOk
import Derived.Test.YtfhdnanbhigpmaaGreatRw
namespace Go.Proofs.YtfhdnanbhigpmaaGreat
open Go.RowKit Grp

set_option maxRecDepth 100000 in
set_option maxHeartbeats 1000000 in
theorem toTabG (A1 A2 A3 : Option Addr) (c1 c2 c3 : Nat) (t : Tb) (w : World) (h1 : IntsAt w A1 t.trk) (h2 : LAt w A2 t.pats) (h3 : IntsAt w A3 t.dist) (hs : ShortT t) :
    Calls Tryz.prog 22 #[.agg #[.slice A1 t.trk.length c1, .slice A2 t.pats.length c2, .slice A3 t.dist.length c3]] w fun e w' => ∃ B1 d1 B2 d2 B3 d3, e = .returned (.agg #[.slice B1 t.trk.length d1, .slice B2 t.pats.length d2, .slice B3 t.dist.length d3]) ∧ FTo w.heap.size w' B1 d1 B2 B3 d3 t ∧ Below w.heap.size w w' := by
  obtain ⟨xs, ls, ys⟩ := t
  obtain ⟨s1, s2, s3, s4⟩ := hs
  dsimp only at *
  have H1 := Lib.hid h1
  have H2 := Lib.hid h2
  have H3 := Lib.hid h3
  have S3 := Lib.hid s3
  clear h1 h2 h3 s3
  go_enter Tryz.func22, Tryz.ntmps22
  go_wp2_with fail
  obtain ⟨w0, hw0⟩ : ∃ w0, ((w.alloc (.cells #[.slice A1 xs.length c1, .slice A2 ls.length c2, .slice A3 ys.length c3] 27)).alloc (.cells #[.slice none 0 0, .slice none 0 0, .slice none 0 0] 32)).alloc (.cells #[.slice none 0 0, .slice none 0 0, .slice none 0 0] 32) = w0 := ⟨_, rfl⟩
  have hb0 : Below w.heap.size w w0 := by rw [← hw0]; exact (by repeat (first | exact Below.refl _ _ | assumption | refine Below.setCell ?_ (by first | omega | (simp <;> omega)) _ | refine Below.alloc ?_ (by first | omega | (simp <;> omega)) _ | refine Below.drew ?_))
  have r0 : w0.heap[w.heap.size]? = some (.cells #[.slice A1 xs.length c1, .slice A2 ls.length c2, .slice A3 ys.length c3] 27 (0, 0)) := by
    rw [← hw0, heap_alloc_old _ _ (by simp; omega), heap_alloc_old _ _ (by simp), heap_alloc_new]
  have r1 : w0.heap[w.heap.size + 1]? = some (.cells #[.slice none 0 0, .slice none 0 0, .slice none 0 0] 32 (0, 0)) := by
    rw [← hw0, heap_alloc_old _ _ (by simp)]
    have := heap_alloc_new (w.alloc (.cells #[.slice A1 xs.length c1, .slice A2 ls.length c2, .slice A3 ys.length c3] 27)) (.cells #[.slice none 0 0, .slice none 0 0, .slice none 0 0] 32)
    simpa using this
  have r2 : w0.heap[w.heap.size + 1 + 1]? = some (.cells #[.slice none 0 0, .slice none 0 0, .slice none 0 0] 32 (0, 0)) := by
    rw [← hw0]
    have := heap_alloc_new ((w.alloc (.cells #[.slice A1 xs.length c1, .slice A2 ls.length c2, .slice A3 ys.length c3] 27)).alloc (.cells #[.slice none 0 0, .slice none 0 0, .slice none 0 0] 32)) (.cells #[.slice none 0 0, .slice none 0 0, .slice none 0 0] 32)
    simpa using this
  have hz0 : w0.heap.size = w.heap.size + 1 + 1 + 1 := by rw [← hw0]; simp
  rw [hw0]
  clear hw0
  have HR0 := Lib.hid r0
  have HR1 := Lib.hid r1
  have HR2 := Lib.hid r2
  clear r0 r1 r2
  refine (toInts A1 c1 xs _ (H1.out.below hb0) s1).mono ?_
  rintro e w1 ⟨v1, rfl, hF1, hb1⟩
  have hB1 := belowStep hb1 hb0
  have HR0 := Lib.hid (rowB hb1 HR0.out)
  have HR1 := Lib.hid (rowB hb1 HR1.out)
  have hr2 := rowB hb1 HR2.out
  obtain ⟨k0, k1, k2, kf, kl⟩ := row3 hr2
  have kf0 := kf 0
  have hn1 := rowSet (p := 0) v1 hr2
  obtain ⟨p0, p1, p2, -, -⟩ := row3 HR0.out
  obtain ⟨A1', c1', hc1', rfl, hI1⟩ := hF1.capped
  have HC1 := Lib.hid hc1'
  have HI1 := Lib.hid hI1
  have HF1 := Lib.hid hF1
  have HN1 := Lib.hid hn1
  have HKL := Lib.hid kl
  clear hr2 hF1 hI1 hn1 kf kl hc1' HR2 p0
  go_wp2_with fail
  obtain ⟨z1, hz1⟩ : ∃ z1, w1.setCell ⟨w.heap.size + 1 + 1, 0, none⟩ (.slice A1' xs.length c1') = z1 := ⟨_, rfl⟩
  have hbz : Below w.heap.size w z1 := by rw [← hz1]; exact hB1.setCell (by simp; omega) _
  have HR2 : Hid (z1.heap[w.heap.size + 1 + 1]? = some (.cells #[.slice A1' xs.length c1', .slice none 0 0, .slice none 0 0] 32 (0, 0))) := by rw [← hz1]; exact HN1.out
  have hs0 := rowS (a := ⟨w.heap.size + 1 + 1, 0, none⟩) (v := .slice A1' xs.length c1') HR0.out (by simp; omega)
  have hs1 := rowS (a := ⟨w.heap.size + 1 + 1, 0, none⟩) (v := .slice A1' xs.length c1') HR1.out (by simp)
  rw [hz1] at hs0 hs1
  have HR0 := Lib.hid hs0
  have HR1 := Lib.hid hs1
  clear hs0 hs1
  have HF1 : Hid (Fresh w0.heap.size z1 (.slice A1' xs.length c1') xs) := by rw [← hz1]; exact HF1.out.setCell (by simp; omega) _
  have hzz1 : z1.heap.size = w1.heap.size := by rw [← hz1]; simp
  have HU1 := Lib.hid HF1.out.under
  rw [hz1]
  clear hz1 HI1 HN1
  refine (toListsB A2 c2 ls _ (H2.out.below hbz) s2 S3.out).mono ?_
  rintro e w2 ⟨g2, rfl, -, hF2, hb2⟩
  have HGB : Hid (0 < ls.length → z1.heap.size ≤ g2 ∧ g2 < w2.heap.size) := fun h0 => by
    obtain ⟨A', c', V, B, e0, hL, -, -, hg⟩ := hF2
    injection e0 with e0
    subst e0
    obtain ⟨g, e, h1, -⟩ := hL.row 0 h0
    injection e with e
    injection e with e
    exact ⟨hg g2 0 none rfl, by omega⟩
  have hB2 := belowStep hb2 hbz
  have HR0 := Lib.hid (rowB hb2 HR0.out)
  have HR1 := Lib.hid (rowB hb2 HR1.out)
  have hr2 := rowB hb2 HR2.out
  obtain ⟨k0, k1, k2, kf, kl⟩ := row3 hr2
  have kf1 := kf 1
  have hn2 := rowSet (p := 1) (.slice (some ⟨g2, 0, none⟩) ls.length ls.length) hr2
  obtain ⟨p0, p1, p2, -, -⟩ := row3 HR0.out
  have HF1 := Lib.hid (HF1.out.below hb2)
  have HF2 := Lib.hid hF2
  have HN2 := Lib.hid hn2
  clear hr2 hF2 hn2 kf kl HR2 p0
  go_wp2_with fail
  obtain ⟨z2, hz2⟩ : ∃ z2, w2.setCell ⟨w.heap.size + 1 + 1, 1, none⟩ (.slice (some ⟨g2, 0, none⟩) ls.length ls.length) = z2 := ⟨_, rfl⟩
  have hbz2 : Below w.heap.size w z2 := by rw [← hz2]; exact hB2.setCell (by simp; omega) _
  have HR2 : Hid (z2.heap[w.heap.size + 1 + 1]? = some (.cells #[.slice A1' xs.length c1', .slice (some ⟨g2, 0, none⟩) ls.length ls.length, .slice none 0 0] 32 (0, 0))) := by rw [← hz2]; exact HN2.out
  have hs0 := rowS (a := ⟨w.heap.size + 1 + 1, 1, none⟩) (v := .slice (some ⟨g2, 0, none⟩) ls.length ls.length) HR0.out (by simp; omega)
  have hs1 := rowS (a := ⟨w.heap.size + 1 + 1, 1, none⟩) (v := .slice (some ⟨g2, 0, none⟩) ls.length ls.length) HR1.out (by simp)
  rw [hz2] at hs0 hs1
  have HR0 := Lib.hid hs0
  have HR1 := Lib.hid hs1
  clear hs0 hs1
  have hss : z1.heap.size ≤ w2.heap.size := hb2.size
  have HF1 : Hid (Fresh w0.heap.size z2 (.slice A1' xs.length c1') xs) := by rw [← hz2]; exact HF1.out.setCell (by simp; omega) _
  have hon : OnlyIn (w.heap.size + 1 + 1) (w.heap.size + 1 + 1 + 1) w2 z2 := by
    rw [← hz2]
    exact (OnlyIn.refl _ _ _).grown (row := some (w.heap.size + 1 + 1)) ⟨rfl, rfl, rfl, by simp, fun k _ hne => heap_setCell_other _ _ k _ (fun e => hne (by rw [e]))⟩ (fun g e => by injection e with e; omega)
  have HF2 : Hid (FLs z1.heap.size w2.heap.size z2 (.slice (some ⟨g2, 0, none⟩) ls.length ls.length) ls) := HF2.out.onlyHi hon (by have := hb1.size; omega)
  have hzz2 : z2.heap.size = w2.heap.size := by rw [← hz2]; simp
  rw [hz2]
  clear hz2 HN2 hon
  refine (toInts A3 c3 ys _ (H3.out.below hbz2) s4).mono ?_
  rintro e w3 ⟨v3, rfl, hF3, hb3⟩
  have hB3 := belowStep hb3 hbz2
  have HR1 := Lib.hid (rowB hb3 HR1.out)
  have hr2 := rowB hb3 HR2.out
  obtain ⟨k0, k1, k2, kf, kl⟩ := row3 hr2
  have kf2 := kf 2
  obtain ⟨A3', c3', hc3', rfl, hI3⟩ := hF3.capped
  have hn3 := rowSet (p := 2) (.slice A3' ys.length c3') hr2
  obtain ⟨j0, j1, j2, jf, jl⟩ := row3 HR1.out
  have jf0 := jf 0
  have jf1 := jf 1
  have jf2 := jf 2
  have HF1 := Lib.hid (HF1.out.below hb3)
  have HF2 := Lib.hid (HF2.out.below hb3)
  have HF3 := Lib.hid hF3
  have HN3 := Lib.hid hn3
  have HC3 := Lib.hid hc3'
  clear hr2 hF3 hn3 kf jf HR2 hI3 hc3'
  go_wp2_with fail
  have t1 := rowS (a := ⟨w.heap.size + 1 + 1, 2, none⟩) (v := .slice A3' ys.length c3') HR1.out (by simp)
  have t2 := rowSet (p := 0) (.slice A1' xs.length c1') t1
  have t3 := rowSet (p := 1) (.slice (some ⟨g2, 0, none⟩) ls.length ls.length) t2
  have t4 := rowSet (p := 2) (.slice A3' ys.length c3') t3
  obtain ⟨z, hz⟩ : ∃ z, (((w3.setCell ⟨w.heap.size + 1 + 1, 2, none⟩ (.slice A3' ys.length c3')).setCell ⟨w.heap.size + 1, 0, none⟩ (.slice A1' xs.length c1')).setCell ⟨w.heap.size + 1, 1, none⟩ (.slice (some ⟨g2, 0, none⟩) ls.length ls.length)).setCell ⟨w.heap.size + 1, 2, none⟩ (.slice A3' ys.length c3') = z := ⟨_, rfl⟩
  rw [hz] at t4 ⊢
  obtain ⟨y0, y1, y2, -, -⟩ := row3 (a := .slice A1' xs.length c1') (b := .slice (some ⟨g2, 0, none⟩) ls.length ls.length) (c := .slice A3' ys.length c3') t4
  have hbz : Below w.heap.size w z := by
    rw [← hz]
    exact (((hB3.setCell (p := ⟨w.heap.size + 1 + 1, 2, none⟩) (by simp; omega) _).setCell (p := ⟨w.heap.size + 1, 0, none⟩) (by simp) _).setCell (p := ⟨w.heap.size + 1, 1, none⟩) (by simp) _).setCell (p := ⟨w.heap.size + 1, 2, none⟩) (by simp) _
  have hs3 : z2.heap.size ≤ w3.heap.size := hb3.size
  have hzs : z.heap.size = w3.heap.size := by rw [← hz]; simp
  have hw01 : w0.heap.size ≤ w1.heap.size := hb1.size
  have HF1 : Hid (Fresh w0.heap.size z (.slice A1' xs.length c1') xs) := by
    rw [← hz]
    exact (((HF1.out.setCell (a := ⟨w.heap.size + 1 + 1, 2, none⟩) (by simp; omega) _).setCell (a := ⟨w.heap.size + 1, 0, none⟩) (by simp; omega) _).setCell (a := ⟨w.heap.size + 1, 1, none⟩) (by simp; omega) _).setCell (a := ⟨w.heap.size + 1, 2, none⟩) (by simp; omega) _
  have HF3 : Hid (Fresh z2.heap.size z (.slice A3' ys.length c3') ys) := by
    rw [← hz]
    exact (((HF3.out.setCell (a := ⟨w.heap.size + 1 + 1, 2, none⟩) (by simp; omega) _).setCell (a := ⟨w.heap.size + 1, 0, none⟩) (by simp; omega) _).setCell (a := ⟨w.heap.size + 1, 1, none⟩) (by simp; omega) _).setCell (a := ⟨w.heap.size + 1, 2, none⟩) (by simp; omega) _
  have hon : OnlyIn (w.heap.size + 1) (w.heap.size + 1 + 1 + 1) w3 z := by
    rw [← hz]
    refine ⟨rfl, rfl, rfl, by simp, fun k _ hc => ?_⟩
    rw [heap_setCell_other _ _ k _ (by simp; omega), heap_setCell_other _ _ k _ (by simp; omega), heap_setCell_other _ _ k _ (by simp; omega), heap_setCell_other _ _ k _ (by simp; omega)]
  have HF2 : Hid (FLs z1.heap.size w2.heap.size z (.slice (some ⟨g2, 0, none⟩) ls.length ls.length) ls) := HF2.out.onlyHi hon (by omega)
  clear hz t1 t2 t3 t4 hon
  refine bodyPost_ret (v := .agg #[.slice A1' xs.length c1', .slice (some ⟨g2, 0, none⟩) ls.length ls.length, .slice A3' ys.length c3']) (by simp [results, Tryz.results22, go_sem, y0, y1, y2]) rfl ?_
  obtain ⟨A', c', V, B, e0, hL, hlo, hhi, hg⟩ := HF2.out
  injection e0 with e0
  subst e0
  have hlow : ∀ i, i < ls.length → ∀ b, (V i).ownBlock = some b → z1.heap.size ≤ b ∧ b < w2.heap.size := fun i hi b hb => by
    have h1 := (World.ownsRow.lt (hL.own i hi) b hb).1
    have h2 := hL.cap i hi b hb
    have h3 := hL.upij 0 i (Nat.zero_le _) (by omega)
    have h4 := hL.upij (i + 1) ls.length (by omega) (Nat.le_refl _)
    omega
  have hsep : ∀ i j, i < j → j < ls.length → ∀ b, (V i).ownBlock = some b → (V j).ownBlock ≠ some b := fun i j hij hj b hb e => by
    have h1 := hL.cap i (by omega) b hb
    have h2 := (World.ownsRow.lt (hL.own j hj) b e).1
    have h3 := hL.upij (i + 1) j (by omega) (by omega)
    omega
  refine ⟨A1', c1', some ⟨g2, 0, none⟩, ls.length, A3', c3', rfl, ⟨V, ⟨HF1.out.mono (by omega), ⟨hL.row, fun i hi => (hL.own i hi).mono ?_, fun i j hi hj hne b hb => ?_⟩, HF3.out.mono (by omega), fun b hb e => ?_, fun i hi g e => ?_, fun i hi b hb => ⟨fun e => ?_, fun e => ?_⟩⟩, fun i hi g e => ?_⟩, hbz⟩
  · dsimp only at hi
    have := hL.upij 0 i (Nat.zero_le _) (by omega)
    omega
  · rcases Nat.lt_or_gt_of_ne hne with h | h
    · exact hsep i j h hj b hb
    · exact fun e => hsep j i h hi b e hb
  · have h1 := HU1.out b hb
    have h2 := (World.ownsRow.lt HF3.out b e).1
    omega
  · injection e with e
    injection e with e
    subst e
    have h0 := HGB.out (by dsimp only at hi; omega)
    exact ⟨fun e => by have := HU1.out _ e; omega, fun e => by have := (World.ownsRow.lt HF3.out _ e).1; omega⟩
  · have h1 := HU1.out b e
    have h2 := (hlow i hi b hb).1
    omega
  · have h1 := (World.ownsRow.lt HF3.out b e).1
    have h2 := (hlow i hi b hb).2
    omega
  · injection e with e
    injection e with e
    subst e
    have h0 := HGB.out (by dsimp only at hi; omega)
    omega
set_option maxRecDepth 100000 in
set_option maxHeartbeats 4000000 in
theorem toJobG (A1 A2 A3 : Option Addr) (c1 c2 c3 : Nat) (t : Tb) (nx : Int) (lg : ByteArray) (sy : Int) (w : World) (h1 : IntsAt w A1 t.trk) (h2 : LAt w A2 t.pats) (h3 : IntsAt w A3 t.dist) (hs : ShortT t) :
    Calls Tryz.prog 8 #[jobV A1 A2 A3 c1 c2 c3 t nx lg sy] w fun e w' => ∃ B1 d1 B2 d2 B3 d3, e = .returned (jobV B1 B2 B3 d1 d2 d3 t nx lg sy) ∧ FTo w.heap.size w' B1 d1 B2 B3 d3 t ∧ Below w.heap.size w w' := by
  unfold jobV
  obtain ⟨w0, hw0⟩ : ∃ w0, ((w.alloc (.cells #[.slice A1 t.trk.length c1, .slice A2 t.pats.length c2, .slice A3 t.dist.length c3, .int .i64 nx, .string lg, .int .i64 sy] 29)).alloc (.cells #[.slice none 0 0, .slice none 0 0, .slice none 0 0, .int .i64 0, .string ⟨#[]⟩, .int .i64 0] 38)).alloc (.cells #[.slice none 0 0, .slice none 0 0, .slice none 0 0, .int .i64 0, .string ⟨#[]⟩, .int .i64 0] 38) = w0 := ⟨_, rfl⟩
  have hb0 : Below w.heap.size w w0 := by rw [← hw0]; exact (by repeat (first | exact Below.refl _ _ | assumption | refine Below.setCell ?_ (by first | omega | (simp <;> omega)) _ | refine Below.alloc ?_ (by first | omega | (simp <;> omega)) _ | refine Below.drew ?_))
  have hz0 : w0.heap.size = w.heap.size + 3 := by rw [← hw0]; simp
  have R0 : Hid (w0.heap[w.heap.size]? = some (.cells #[.slice A1 t.trk.length c1, .slice A2 t.pats.length c2, .slice A3 t.dist.length c3, .int .i64 nx, .string lg, .int .i64 sy] 29 (0, 0))) := by rw [← hw0]; exact alloc3_0 _ _ _ _
  have R1 : Hid (w0.heap[w.heap.size + 1]? = some (.cells #[.slice none 0 0, .slice none 0 0, .slice none 0 0, .int .i64 0, .string ⟨#[]⟩, .int .i64 0] 38 (0, 0))) := by rw [← hw0]; exact alloc3_1 _ _ _ _
  have R2 : Hid (w0.heap[w.heap.size + 1 + 1]? = some (.cells #[.slice none 0 0, .slice none 0 0, .slice none 0 0, .int .i64 0, .string ⟨#[]⟩, .int .i64 0] 38 (0, 0))) := by
    rw [← hw0]
    have := heap_alloc_new ((w.alloc (.cells #[.slice A1 t.trk.length c1, .slice A2 t.pats.length c2, .slice A3 t.dist.length c3, .int .i64 nx, .string lg, .int .i64 sy] 29)).alloc (.cells #[.slice none 0 0, .slice none 0 0, .slice none 0 0, .int .i64 0, .string ⟨#[]⟩, .int .i64 0] 38)) (.cells #[.slice none 0 0, .slice none 0 0, .slice none 0 0, .int .i64 0, .string ⟨#[]⟩, .int .i64 0] 38)
    unfold Hid
    simpa using this
  have HW0 := Lib.hid hw0
  have HB0 := Lib.hid hb0
  have HZ0 := Lib.hid hz0
  have HC := Lib.hid (toTabG A1 A2 A3 c1 c2 c3 t w0 (h1.below hb0) (h2.below hb0) (h3.below hb0) hs)
  clear h1 h2 h3 hs hw0 hb0 hz0
  obtain ⟨n1, hn1⟩ : ∃ n1, t.trk.length = n1 := ⟨_, rfl⟩
  obtain ⟨n2, hn2⟩ : ∃ n2, t.pats.length = n2 := ⟨_, rfl⟩
  obtain ⟨n3, hn3⟩ : ∃ n3, t.dist.length = n3 := ⟨_, rfl⟩
  rw [hn1, hn2, hn3] at R0 HC HW0
  rw [hn1, hn2, hn3]
  have HN1 := Lib.hid hn1
  have HN2 := Lib.hid hn2
  have HN3 := Lib.hid hn3
  clear hn1 hn2 hn3
  go_enter Tryz.func8, Tryz.ntmps8
  go_wp2_with fail
  rw [HW0.out]
  refine HC.out.mono ?_
  rintro e w1 ⟨B1, d1, B2, d2, B3, d3, rfl, hFT, hb1⟩
  have HFT := Lib.hid hFT
  have r0 := rowB hb1 R0.out
  have r1 := rowB hb1 R1.out
  have r2 := rowB hb1 R2.out
  obtain ⟨p0, p1, p2, p3, p4, p5, -, -⟩ := row6 r0
  obtain ⟨q0, q1, q2, q3, q4, q5, qF, ql⟩ := row6 r1
  obtain ⟨t0, t1, t2, t3, t4, t5, tF, tl⟩ := row6 r2
  have RR1 := Lib.hid r1
  have RR2 := Lib.hid r2
  have HB1 := Lib.hid (belowStep hb1 HB0.out)
  have hz1 := hb1.size
  clear hFT hb1 r0 r1 r2 HC
  go_wp2_with fail
  obtain ⟨w2, hw2⟩ : ∃ w2, (((((w1.setCell ⟨w.heap.size + 1 + 1, 0, none⟩ (.slice B1 n1 d1)).setCell ⟨w.heap.size + 1 + 1, 1, none⟩ (.slice B2 n2 d2)).setCell ⟨w.heap.size + 1 + 1, 2, none⟩ (.slice B3 n3 d3)).setCell ⟨w.heap.size + 1 + 1, 3, none⟩ (.int .i64 nx)).setCell ⟨w.heap.size + 1 + 1, 4, none⟩ (.string lg)).setCell ⟨w.heap.size + 1 + 1, 5, none⟩ (.int .i64 sy) = w2 := ⟨_, rfl⟩
  have hg2 : w1.grownBy w2 (some (w.heap.size + 1 + 1)) := by rw [← hw2]; exact grown6 _ _ _ _ _ _ _ _
  have hR2 := rowR hg2 RR1.out (fun e => by injection e with e; omega)
  obtain ⟨y0, y1, y2, y3, y4, y5, -, -⟩ := row6 (row6S hR2 (.slice B1 n1 d1) (.slice B2 n2 d2) (.slice B3 n3 d3) (.int .i64 nx) (.string lg) (.int .i64 sy))
  have hg3 := grown6 w2 (w.heap.size + 1) (.slice B1 n1 d1) (.slice B2 n2 d2) (.slice B3 n3 d3) (.int .i64 nx) (.string lg) (.int .i64 sy)
  have hon : OnlyIn (w.heap.size + 1) (w.heap.size + 3) w1 _ := ((OnlyIn.refl _ _ _).grown hg2 (fun b e => by injection e with e; omega)).grown hg3 (fun b e => by injection e with e; omega)
  have hzw := HZ0.out
  subst hw2
  refine bodyPost_ret (v := .agg #[.slice B1 n1 d1, .slice B2 n2 d2, .slice B3 n3 d3, .int .i64 nx, .string lg, .int .i64 sy]) (by simp [results, Tryz.results8, go_sem, y0, y1, y2, y3, y4, y5]) rfl ?_
  exact ⟨B1, d1, B2, d2, B3, d3, rfl, (HFT.out.only hon (by omega)).less (by omega), hon.below HB1.out (by omega) HB1.out.size⟩
set_option maxRecDepth 3000 in
set_option maxHeartbeats 2000000 in
theorem markLgB (lo : Nat) (A : Option Addr) (c : Nat) (ls : List (List Int)) (V : Nat → Value) (k0 : Int) (w : World) (hL : RsAt lo w A ls V) (hl : ls.length ≤ 1048576) (hs : ShortL ls) (h0 : 0 ≤ k0) (h1 : k0 ≤ 1125899906842624) :
    Calls Tryz.prog 27 #[.slice A ls.length c, .int .i64 k0] w (MarkG A ls V k0 w) := by
  have HL := Lib.hid hL
  have HS := Lib.hid hs
  have HT := Lib.hid (totTo_le hs)
  have HK0 : Hid (k0 + (totTo ls 0 : Nat) = k0) := by unfold Hid; rw [totTo_zero]; simp
  have HF0 : Hid (∀ j, 0 ≤ j → j < ls.length → Fresh lo w (V j) (ls.getD j [])) := fun j _ hj => hL.own j hj
  have HM0 : Hid (∀ j, j < 0 → Fresh lo w (V j) (marks (k0 + totTo ls j) (ls.getD j []).length)) := fun j hj => absurd hj (Nat.not_lt_zero _)
  clear hs hL
  go_enter Tryz.func27, Tryz.ntmps27
  go_wp2_with fail
  go_loopw [1, 5] (fun q i wr => ∃ (k : Nat) (x : Int), k ≤ ls.length ∧ i = .int .i64 k ∧ q = .int .i64 x ∧ Hid (k0 + (totTo ls k : Nat) = x) ∧ Hid (∀ j, k ≤ j → j < ls.length → Fresh lo wr (V j) (ls.getD j [])) ∧ Hid (∀ j, j < k → Fresh lo wr (V j) (marks (k0 + totTo ls j) (ls.getD j []).length)) ∧
      Hid (∀ i, i < ls.length → ∃ g, A = some ⟨g, 0, none⟩ ∧ g < wr.heap.size ∧ wr.cell? ⟨g, i, none⟩ = some (V i) ∧ ∀ j, j < ls.length → (V j).ownBlock ≠ some g) ∧ OnlyV ls.length V w wr) (fun _ i _ => ls.length - (intOf i).toNat)
  case atStart => exact ⟨0, k0, Nat.zero_le _, rfl, rfl, HK0, HF0, HM0, HL.out.row, OnlyV.refl _ _ _⟩
  case round =>
    obtain ⟨k, x, hk, rfl, rfl, HK, HF, HM, HR, hon⟩ := hrel
    clear HK0 HF0 HM0
    have htk := HT.out k hk
    have hkx := HK.out
    by_cases hlt : k < ls.length
    · obtain ⟨g, rfl, hgl, hc, hsep⟩ := HR.out k hlt
      have hFk := HF.out k (Nat.le_refl _) hlt
      obtain ⟨xs, hxs⟩ : ∃ xs, ls.getD k [] = xs := ⟨_, rfl⟩
      have hxl : xs.length ≤ 1048576 := by rw [← hxs]; exact HS.out k hlt
      rw [hxs] at hFk
      have HXS := Lib.hid hxs
      obtain ⟨tv, htv⟩ : ∃ tv, V k = tv := ⟨_, rfl⟩
      rw [htv] at hc hFk
      have HTV := Lib.hid htv
      have p0 : (0 : Int) ≤ (k : Int) := by omega
      have p1 : (k : Int) < (ls.length : Int) := by omega
      have HCALL := Lib.hid (markInts lo tv xs x wr hFk hxl (by omega) (by omega))
      have hkx2 : x + (xs.length : Int) ≤ 9223372036854775807 := by omega
      have HSEP := Lib.hid hsep
      have HON := Lib.hid hon
      clear hxs htv hFk hkx htk hsep hon
      go_wp2_with fail
      refine HCALL.out.mono ?_
      rintro e w2 ⟨rfl, hF2, hg2⟩
      rw [← HTV.out] at hg2
      have HKN : Hid (k0 + (totTo ls (k + 1) : Nat) = x + (xs.length : Int)) := by
        have := HK.out
        unfold Hid
        rw [totTo_more hlt, HXS.out]
        omega
      have HFN : Hid (∀ j, k + 1 ≤ j → j < ls.length → Fresh lo w2 (V j) (ls.getD j [])) := fun j hj1 hj2 => (HF.out j (by omega) hj2).row hg2 fun b hb e => HL.out.sep k j hlt hj2 (by omega) b e hb
      have HMN : Hid (∀ j, j < k + 1 → Fresh lo w2 (V j) (marks (k0 + totTo ls j) (ls.getD j []).length)) := fun j hj => by
        rcases Nat.lt_or_ge j k with h3 | h3
        · exact (HM.out j h3).row hg2 fun b hb e => HL.out.sep k j hlt (by omega) (by omega) b e hb
        · obtain rfl : j = k := by omega
          rw [HTV.out, HXS.out, HK.out]
          exact hF2
      have HRN : Hid (∀ i, i < ls.length → ∃ g', some (⟨g, 0, none⟩ : Addr) = some ⟨g', 0, none⟩ ∧ g' < w2.heap.size ∧ w2.cell? ⟨g', i, none⟩ = some (V i) ∧ ∀ j, j < ls.length → (V j).ownBlock ≠ some g') := fun i hi => by
        obtain ⟨g', e', h1, h2, h3⟩ := HR.out i hi
        refine ⟨g', e', Nat.lt_of_lt_of_le h1 hg2.size, (World.cell?_of_block (a := ⟨g', i, none⟩) (hg2.block g' h1 fun e => h3 k hlt e.symm)).trans h2, h3⟩
      have hon2 := HON.out.grown hlt hg2
      clear hF2 hg2 HCALL
      go_wp2_with fail
      go_roundw
      case rel => exact ⟨k + 1, _, by omega, by go_num, rfl, HKN, HFN, HMN, HRN, hon2⟩
      case measure => simp [intOf]; omega
    · obtain rfl : k = ls.length := by omega
      clear hkx htk
      go_wp2_with fail
      go_ret
      exact ⟨ret_int HK.out.symm, hon, fun i hi => by
        obtain ⟨g, e, g1, g2, -⟩ := HR.out i hi
        exact ⟨g, e, g1, g2⟩, fun i hi => ⟨lo, HM.out i hi⟩⟩
set_option maxRecDepth 100000 in
set_option maxHeartbeats 1000000 in
theorem markThB (lo : Nat) (A1 A2 A3 : Option Addr) (c1 c2 c3 : Nat) (t : Tb) (V : Nat → Value) (k0 : Int) (w : World) (wq : World) (hq : FTg lo wq A1 c1 A2 A3 c3 t V) (hf : FTg lo w A1 c1 A2 A3 c3 t V) (hs : ShortT t) (h0 : 0 ≤ k0) (h1 : k0 + t.trk.length ≤ 1125899906842624) :
    Calls Tryz.prog 15 #[.agg #[.slice A1 t.trk.length c1, .slice A2 t.pats.length c2, .slice A3 t.dist.length c3], .int .i64 k0] w fun e w' => e = .returned (.int .i64 (k0 + t.trk.length + totTo t.pats t.pats.length + t.dist.length)) ∧ MrkAt w' A1 A2 A3 t k0 ∧ OnlyIn lo wq.heap.size w w' := by
  obtain ⟨xs, ls, ys⟩ := t
  obtain ⟨s1, s2, s3, s4⟩ := hs
  dsimp only at s1 s2 s3 s4 h1 ⊢
  have HF := Lib.hid hf
  have hbq1 : ∀ b, (Value.slice A1 xs.length c1).ownBlock = some b → lo ≤ b ∧ b < wq.heap.size := fun b hb => World.ownsRow.lt hq.f1 b hb
  have hbq3 : ∀ b, (Value.slice A3 ys.length c3).ownBlock = some b → lo ≤ b ∧ b < wq.heap.size := fun b hb => World.ownsRow.lt hq.f3 b hb
  have hbqr : ∀ i, i < ls.length → ∀ b, (V i).ownBlock = some b → lo ≤ b ∧ b < wq.heap.size := fun i hi b hb => World.ownsRow.lt (hq.f2.own i hi) b hb
  clear hq
  have S3 := Lib.hid s3
  have htot := totTo_le s3 ls.length (Nat.le_refl _)
  clear hf s3
  go_enter Tryz.func15, Tryz.ntmps15
  go_wp2_with fail
  obtain ⟨w0, hw0⟩ : ∃ w0, w.alloc (.cells #[.slice A1 xs.length c1, .slice A2 ls.length c2, .slice A3 ys.length c3] 32) = w0 := ⟨_, rfl⟩
  have hb0 : Below w.heap.size w w0 := by rw [← hw0]; exact (by repeat (first | exact Below.refl _ _ | assumption | refine Below.setCell ?_ (by first | omega | (simp <;> omega)) _ | refine Below.alloc ?_ (by first | omega | (simp <;> omega)) _ | refine Below.drew ?_))
  have r0 : w0.heap[w.heap.size]? = some (.cells #[.slice A1 xs.length c1, .slice A2 ls.length c2, .slice A3 ys.length c3] 32 (0, 0)) := by
    rw [← hw0, heap_alloc_new]
  rw [hw0]
  clear hw0
  have hG0 := HF.out.below hb0
  have n0 : OnlyIn lo wq.heap.size w w0 := ⟨hb0.os, hb0.tape, hb0.output, hb0.size, fun k hk _ => hb0.block k hk⟩
  have hbw : ∀ b, (Value.slice A1 xs.length c1).ownBlock = some b → lo ≤ b ∧ b < w.heap.size := fun b hb => World.ownsRow.lt HF.out.f1 b hb
  have hbw3 : ∀ b, (Value.slice A3 ys.length c3).ownBlock = some b → lo ≤ b ∧ b < w.heap.size := fun b hb => World.ownsRow.lt HF.out.f3 b hb
  have hbwr : ∀ i, i < ls.length → ∀ b, (V i).ownBlock = some b → lo ≤ b ∧ b < w.heap.size := fun i hi b hb => World.ownsRow.lt (HF.out.f2.own i hi) b hb
  have hz0 := hb0.size
  have hl0 := row_lt r0
  clear hb0
  refine (markInts lo _ xs k0 _ hG0.f1 s1 h0 (by omega)).mono ?_
  rintro e w1 ⟨rfl, G1, g1⟩
  have n1 : OnlyIn lo wq.heap.size w w1 := n0.grown g1 hbq1
  have r1 := rowR g1 r0 (fun e => by have := (hbw _ e).2; omega)
  have hR1 : RsAt lo w1 A2 ls V := hG0.f2.keep g1.size fun b hb hc => g1.block b hb fun e => by
    obtain ⟨i, hi, e2 | e2⟩ := hc
    · exact (HF.out.a2 i hi b e2).1 e.symm
    · exact (HF.out.ar i hi b e2).1 e.symm
  have hF3 : Fresh lo w1 (.slice A3 ys.length c3) ys := hG0.f3.row g1 fun b hb e => HF.out.a13 b e hb
  obtain ⟨p0, p1, p2, -, -⟩ := row3 r1
  have HG1 := Lib.hid G1
  have HR1 := Lib.hid r1
  have HRS1 := Lib.hid hR1
  have HF31 := Lib.hid hF3
  have HN1 := Lib.hid n1
  have hz1 := g1.size
  clear g1 n0 r0 G1 r1 hR1 hF3 n1 hG0
  go_wp2_with fail
  refine (markLgB lo A2 c2 ls V (k0 + xs.length) _ HRS1.out s2 S3.out (by omega) h1).mono ?_
  rintro e w2 ⟨rfl, q2, qa, qb⟩
  have r2 := (q2.block w.heap.size (by omega) (fun i hi e => by have := (hbwr i hi _ e).2; omega)).trans HR1.out
  have G1 := q2.fresh HG1.out (fun b hb i hi e => (HF.out.ar i hi b e).1 hb)
  have G3 := q2.fresh HF31.out (fun b hb i hi e => (HF.out.ar i hi b e).2 hb)
  have n2 : OnlyIn lo wq.heap.size w w2 := HN1.out.trans ⟨q2.os, q2.tape, q2.output, q2.size, fun k hk hc => q2.block k hk fun i hi e => by have := hbqr i hi k e; omega⟩
  obtain ⟨p0, p1, p2, -, -⟩ := row3 r2
  have HG1 := Lib.hid G1
  have HG3 := Lib.hid G3
  have QA := Lib.hid qa
  have QB := Lib.hid qb
  have HN2 := Lib.hid n2
  clear q2 G1 G3 r2 n2 qa qb
  go_wp2_with fail
  refine (markInts lo _ ys _ _ HG3.out s4 (by omega) (by omega)).mono ?_
  rintro e w3 ⟨rfl, G3, g3⟩
  have HN3 := Lib.hid (HN2.out.grown g3 hbq3)
  have HG1 := Lib.hid (HG1.out.row g3 fun b hb e => HF.out.a13 b hb e)
  have HM : Hid (MrkAt w3 A1 A2 A3 ⟨xs, ls, ys⟩ k0) := by
    refine ⟨?_, MarkG.lat (V := V) (fun i hi => ?_) (fun i hi => ?_), ?_⟩
    · exact HG1.out.intsAt
    · obtain ⟨g, e, h1, h2⟩ := QA.out i hi
      exact ⟨g, e, Nat.lt_of_lt_of_le h1 g3.size, (World.cell?_of_block (a := ⟨g, i, none⟩) (g3.block g h1 fun e2 => (HF.out.a2 i hi g e).2 e2.symm)).trans h2⟩
    · obtain ⟨l2, hF⟩ := QB.out i hi
      exact ⟨l2, hF.row g3 fun b hb e => (HF.out.ar i hi b hb).2 e⟩
    · exact G3.intsAt
  clear G3 g3
  go_wp2_with fail
  go_ret
  exact ⟨rfl, HM.out, HN3.out⟩
set_option maxRecDepth 100000 in
set_option maxHeartbeats 4000000 in
theorem markJhB (lo : Nat) (A1 A2 A3 : Option Addr) (c1 c2 c3 : Nat) (t : Tb) (V : Nat → Value) (nx : Int) (lg : ByteArray) (sy k0 : Int) (w : World) (wq : World) (hq : FTg lo wq A1 c1 A2 A3 c3 t V) (hf : FTg lo w A1 c1 A2 A3 c3 t V) (hs : ShortT t) (h0 : 0 ≤ k0) (h1 : k0 + t.trk.length ≤ 1125899906842624) :
    Calls Tryz.prog 14 #[jobV A1 A2 A3 c1 c2 c3 t nx lg sy, .int .i64 k0] w fun e w' => e = .returned (.int .i64 (k0 + t.trk.length + totTo t.pats t.pats.length + t.dist.length)) ∧ MrkAt w' A1 A2 A3 t k0 ∧ OnlyIn lo wq.heap.size w w' := by
  obtain ⟨w0, hw0⟩ : ∃ w0, w.alloc (.cells #[.slice A1 t.trk.length c1, .slice A2 t.pats.length c2, .slice A3 t.dist.length c3, .int .i64 nx, .string lg, .int .i64 sy] 38) = w0 := ⟨_, rfl⟩
  have hb0 : Below w.heap.size w w0 := by rw [← hw0]; exact (by repeat (first | exact Below.refl _ _ | assumption | refine Below.setCell ?_ (by first | omega | (simp <;> omega)) _ | refine Below.alloc ?_ (by first | omega | (simp <;> omega)) _ | refine Below.drew ?_))
  have R0 : Hid (w0.heap[w.heap.size]? = some (.cells #[.slice A1 t.trk.length c1, .slice A2 t.pats.length c2, .slice A3 t.dist.length c3, .int .i64 nx, .string lg, .int .i64 sy] 38 (0, 0))) := by rw [← hw0]; exact heap_alloc_new _ _
  have HM := Lib.hid (markThB lo A1 A2 A3 c1 c2 c3 t V k0 w0 wq hq (hf.below hb0) hs h0 h1)
  have HB0 := Lib.hid hb0
  obtain ⟨p0, p1, p2, -, -, -, -, -⟩ := row6 R0.out
  clear hf hb0 hq
  unfold jobV
  obtain ⟨n1, hn1⟩ : ∃ n1, t.trk.length = n1 := ⟨_, rfl⟩
  obtain ⟨n2, hn2⟩ : ∃ n2, t.pats.length = n2 := ⟨_, rfl⟩
  obtain ⟨n3, hn3⟩ : ∃ n3, t.dist.length = n3 := ⟨_, rfl⟩
  obtain ⟨tt, htt⟩ : ∃ tt : Int, k0 + (t.trk.length : Int) + (totTo t.pats t.pats.length : Int) + (t.dist.length : Int) = tt := ⟨_, rfl⟩
  rw [htt] at HM ⊢
  simp only [hn1, hn2, hn3] at HM hw0 p0 p1 p2 ⊢
  clear hn1 hn2 hn3 htt
  go_enter Tryz.func14, Tryz.ntmps14
  go_wp2_with fail
  clear hw0
  refine HM.out.mono ?_
  rintro e w1 ⟨rfl, hF1, ho⟩
  have HF1 := Lib.hid hF1
  have HO : Hid (OnlyIn lo wq.heap.size w w1) := OnlyIn.trans ⟨HB0.out.os, HB0.out.tape, HB0.out.output, HB0.out.size, fun k hk _ => HB0.out.block k hk⟩ ho
  clear hF1 ho
  go_wp2_with fail
  go_ret
  exact ⟨rfl, HF1.out, HO.out⟩
/-- What both packages give. -/
noncomputable def finB (p : Pz) (t : Tb) (nx : Int) (lg : ByteArray) (sy : Int) : Bool := validF p t nx lg sy && decide (nx = (t.pats.length : Int))
noncomputable def finT (p : Pz) (t : Tb) (nx : Int) (lg : ByteArray) (sy : Int) : Tb := if finB p t nx lg sy = true then t else ⟨[], [], []⟩
theorem finB_iff {p : Pz} {t : Tb} {nx : Int} {lg : ByteArray} {sy : Int} : finB p t nx lg sy = true ↔ validF p t nx lg sy = true ∧ nx = (t.pats.length : Int) := by
  unfold finB; rw [Bool.and_eq_true, decide_eq_true_eq]
theorem finT_short {p : Pz} {t : Tb} {nx : Int} {lg : ByteArray} {sy : Int} (h : ShortT t) : ShortT (finT p t nx lg sy) := by
  unfold finT
  split
  · exact h
  · exact ⟨by simp, by simp, fun i hi => by simp at hi, by simp⟩
theorem finT_trk {p : Pz} {t : Tb} {nx : Int} {lg : ByteArray} {sy : Int} : (finT p t nx lg sy).trk.length ≤ 255 := by
  unfold finT
  split
  · rename_i h
    obtain ⟨N, -, -, -, -, h6, -⟩ := ch_full (validF_iff.1 (finB_iff.1 h).1).vbld
    omega
  · simp
theorem implFinJ (A : Option Addr) (c : Nat) (p : Pz) (A1 A2 A3 : Option Addr) (c1 c2 c3 : Nat) (t : Tb) (nx : Int) (lg : ByteArray) (sy : Int) (w : World) (h : PzAt w A p) (h1 : IntsAt w A1 t.trk) (h2 : LAt w A2 t.pats) (h3 : IntsAt w A3 t.dist) (hs : ShortT t) (hnx : -9223372036854775808 ≤ nx ∧ nx ≤ 9223372036854775807) (hlg : lg.size ≤ 1048576) :
    Calls Tryz.prog 9 #[.agg #[.int .i64 p.pts, .string p.names, .slice A p.moves.length c], jobV A1 A2 A3 c1 c2 c3 t nx lg sy] w fun e w' => ∃ B1 d1 B2 d2 B3 d3, e = .returned (.tuple #[.agg #[.slice B1 (finT p t nx lg sy).trk.length d1, .slice B2 (finT p t nx lg sy).pats.length d2, .slice B3 (finT p t nx lg sy).dist.length d3], .bool (finB p t nx lg sy)]) ∧ FTo w.heap.size w' B1 d1 B2 B3 d3 (finT p t nx lg sy) ∧ Below w.heap.size w w' := by
  refine implFinQ A c p A1 A2 A3 c1 c2 c3 t nx lg sy w h h1 h2 h3 hs hnx hlg _ (fun hq e w' k => ?_) (fun hq e w' k => ?_)
  · have hb := finB_iff.2 hq
    unfold finT
    rw [if_pos hb, hb]
    exact k
  · obtain ⟨rfl, hb⟩ := k
    have hb2 : finB p t nx lg sy = false := (Bool.not_eq_true _).mp (fun q => hq (finB_iff.1 q))
    unfold finT
    rw [if_neg (fun q => hq (finB_iff.1 q)), hb2]
    exact ⟨none, 0, none, 0, none, 0, rfl, FTo.empty _ _, hb⟩
end Go.Proofs.YtfhdnanbhigpmaaGreat
