/- The law file's helpers over tables. Conditions: as each contract says. -/
import Derived.Test.YtfhdnanbhigpmaaLo
namespace Go.Proofs.Ytfhdnanbhigpmaa
open Go.RowKit

theorem row3 {w : World} {g : Nat} {a b c : Value} {T : TypeId} (h : w.heap[g]? = some (.cells #[a, b, c] T (0, 0))) : w.cell? ⟨g, 0, none⟩ = some a ∧ w.cell? ⟨g, 1, none⟩ = some b ∧ w.cell? ⟨g, 2, none⟩ = some c ∧ (∀ p, w.frozen? ⟨g, p, none⟩ = false) ∧ g < w.heap.size :=
  ⟨cell_of_row w g 0 _ _ (0, 0) h, cell_of_row w g 1 _ _ (0, 0) h, cell_of_row w g 2 _ _ (0, 0) h, fun _ => row_free h, row_lt h⟩
theorem rowSet {w : World} {g p : Nat} {cs : Array Value} {T : TypeId} (v : Value) (h : w.heap[g]? = some (.cells cs T (0, 0))) : (w.setCell ⟨g, p, none⟩ v).heap[g]? = some (.cells (cs.setIfInBounds p v) T (0, 0)) := heap_setCell_same w g p _ _ v h
structure Tb where
  trk : List Int
  pats : List (List Int)
  dist : List Int
/-- v is the table t, wherever its lists lie. -/
def TabAt (w : World) (v : Value) (t : Tb) : Prop := ∃ A1 c1 A2 c2 A3 c3, v = .agg #[.slice A1 t.trk.length c1, .slice A2 t.pats.length c2, .slice A3 t.dist.length c3] ∧ IntsAt w A1 t.trk ∧ t.trk.length ≤ c1 ∧ LAt w A2 t.pats ∧ t.pats.length ≤ c2 ∧ IntsAt w A3 t.dist ∧ t.dist.length ≤ c3
theorem TabAt.below {w w' : World} {v : Value} {t : Tb} (h : TabAt w v t) (hb : Below w.heap.size w w') : TabAt w' v t := by
  obtain ⟨A1, c1, A2, c2, A3, c3, e, h1, h2, h3, h4, h5, h6⟩ := h
  exact ⟨A1, c1, A2, c2, A3, c3, e, h1.below hb, h2, h3.below hb, h4, h5.below hb, h6⟩
/-- Its lists are no longer than the law allows. -/
structure ShortT (t : Tb) : Prop where
  trk : t.trk.length ≤ 1048576
  pats : t.pats.length ≤ 1048576
  rows : ShortL t.pats
  dist : t.dist.length ≤ 1048576
def SzT (t : Tb) (w : World) (e : Ending) (w' : World) : Prop := ∃ q : Int, e = .returned (.int .i64 q) ∧ (0 ≤ q → ShortT t) ∧ (0 ≤ q → q ≤ 1048576) ∧ Below w.heap.size w w'
theorem szLeft_bd {lf : Int} {n : Nat} (_l0 : 0 ≤ lf) (l1 : lf ≤ 1048576) : (0 ≤ szLeft lf n → n ≤ 1048576) ∧ (0 ≤ szLeft lf n → szLeft lf n ≤ 1048576) := by
  unfold szLeft
  split <;> omega
set_option maxRecDepth 100000 in
set_option maxHeartbeats 1000000 in
theorem szTab (A1 A2 A3 : Option Addr) (c1 c2 c3 : Nat) (t : Tb) (left : Int) (w : World) (h2 : LAt w A2 t.pats) (m1 : t.trk.length ≤ 9223372036854775807) (m2 : t.pats.length ≤ 9223372036854775807) (m3 : ∀ i, i < t.pats.length → (t.pats.getD i []).length ≤ 9223372036854775807) (m4 : t.dist.length ≤ 9223372036854775807) (l0 : 0 ≤ left) (l1 : left ≤ 1048576) :
    Calls Try.prog 77 #[.agg #[.slice A1 t.trk.length c1, .slice A2 t.pats.length c2, .slice A3 t.dist.length c3], .int .i64 left] w (SzT t w) := by
  obtain ⟨xs, ls, ys⟩ := t
  dsimp only at *
  have H2 := Lib.hid h2
  have M3 := Lib.hid m3
  clear h2 m3
  go_enter Try.func77, Try.ntmps77
  go_wp2_with fail
  refine (szInts A1 xs.length c1 left _ m1 l0 l1).mono ?_
  rintro e w1 ⟨rfl, rfl⟩
  obtain ⟨b1, b2⟩ := szLeft_bd (n := xs.length) l0 l1
  obtain ⟨q1, hq1⟩ : ∃ q, szLeft left xs.length = q := ⟨_, rfl⟩
  rw [hq1] at b1 b2 ⊢
  clear hq1
  by_cases n1 : q1 < 0
  · go_wp2_with fail
    go_ret
    exact ⟨-1, rfl, fun h => by omega, fun h => by omega, (by repeat (first | exact Below.refl _ _ | assumption | refine Below.setCell ?_ (by first | omega | (simp <;> omega)) _ | refine Below.alloc ?_ (by first | omega | (simp <;> omega)) _ | refine Below.drew ?_))⟩
  · go_wp2_with fail
    refine (szLists A2 c2 ls q1 _ (by exact H2.out.below (by repeat (first | exact Below.refl _ _ | assumption | refine Below.setCell ?_ (by first | omega | (simp <;> omega)) _ | refine Below.alloc ?_ (by first | omega | (simp <;> omega)) _ | refine Below.drew ?_))) m2 M3.out (by omega) (b2 (by omega))).mono ?_
    rintro e w2 ⟨q2, rfl, hs, hs2, rfl⟩
    have HS := Lib.hid hs
    clear hs
    by_cases n2 : q2 < 0
    · go_wp2_with fail
      go_ret
      exact ⟨-1, rfl, fun h => by omega, fun h => by omega, (by repeat (first | exact Below.refl _ _ | assumption | refine Below.setCell ?_ (by first | omega | (simp <;> omega)) _ | refine Below.alloc ?_ (by first | omega | (simp <;> omega)) _ | refine Below.drew ?_))⟩
    · have hq2 := hs2 (by omega)
      go_wp2_with fail
      refine (szInts A3 ys.length c3 q2 _ m4 (by omega) hq2).mono ?_
      rintro e w3 ⟨rfl, rfl⟩
      obtain ⟨d1, d2⟩ := szLeft_bd (n := ys.length) (show 0 ≤ q2 by omega) hq2
      obtain ⟨q3, hq3⟩ : ∃ q, szLeft q2 ys.length = q := ⟨_, rfl⟩
      rw [hq3] at d1 d2 ⊢
      clear hq3 hs2
      by_cases n3 : q3 < 0
      · go_wp2_with fail
        go_ret
        exact ⟨-1, rfl, fun h => by omega, fun h => by omega, (by repeat (first | exact Below.refl _ _ | assumption | refine Below.setCell ?_ (by first | omega | (simp <;> omega)) _ | refine Below.alloc ?_ (by first | omega | (simp <;> omega)) _ | refine Below.drew ?_))⟩
      · go_wp2_with fail
        go_ret
        exact ⟨q3, rfl, fun h => ⟨b1 (by omega), (HS.out (by omega)).1, (HS.out (by omega)).2, d1 h⟩, fun h => d2 h, (by repeat (first | exact Below.refl _ _ | assumption | refine Below.setCell ?_ (by first | omega | (simp <;> omega)) _ | refine Below.alloc ?_ (by first | omega | (simp <;> omega)) _ | refine Below.drew ?_))⟩
/-- A table of the call's own. -/
def FTab (lo hi : Nat) (w : World) (v : Value) (t : Tb) : Prop := ∃ v1 v2 v3 m1 m2, v = .agg #[v1, v2, v3] ∧ Fresh lo w v1 t.trk ∧ (∀ b, v1.ownBlock = some b → b < m1) ∧ FLs m1 m2 w v2 t.pats ∧ Fresh m2 w v3 t.dist ∧ (∀ b, v3.ownBlock = some b → b < hi) ∧ lo ≤ m1 ∧ m1 ≤ m2 ∧ m2 ≤ hi
def ToTb (t : Tb) (w : World) (e : Ending) (w' : World) : Prop := ∃ v, e = .returned v ∧ TabAt w' v t ∧ FTab w.heap.size w'.heap.size w' v t ∧ Below w.heap.size w w'
set_option maxRecDepth 100000 in
set_option maxHeartbeats 1000000 in
theorem toTab (A1 A2 A3 : Option Addr) (c1 c2 c3 : Nat) (t : Tb) (w : World) (h1 : IntsAt w A1 t.trk) (h2 : LAt w A2 t.pats) (h3 : IntsAt w A3 t.dist) (hs : ShortT t) :
    Calls Try.prog 78 #[.agg #[.slice A1 t.trk.length c1, .slice A2 t.pats.length c2, .slice A3 t.dist.length c3]] w (ToTb t w) := by
  obtain ⟨xs, ls, ys⟩ := t
  obtain ⟨s1, s2, s3, s4⟩ := hs
  dsimp only at *
  have H1 := Lib.hid h1
  have H2 := Lib.hid h2
  have H3 := Lib.hid h3
  have S3 := Lib.hid s3
  clear h1 h2 h3 s3
  go_enter Try.func78, Try.ntmps78
  go_wp2_with fail
  obtain ⟨w0, hw0⟩ : ∃ w0, ((w.alloc (.cells #[.slice A1 xs.length c1, .slice A2 ls.length c2, .slice A3 ys.length c3] 66)).alloc (.cells #[.slice none 0 0, .slice none 0 0, .slice none 0 0] 34)).alloc (.cells #[.slice none 0 0, .slice none 0 0, .slice none 0 0] 34) = w0 := ⟨_, rfl⟩
  have hb0 : Below w.heap.size w w0 := by rw [← hw0]; exact (by repeat (first | exact Below.refl _ _ | assumption | refine Below.setCell ?_ (by first | omega | (simp <;> omega)) _ | refine Below.alloc ?_ (by first | omega | (simp <;> omega)) _ | refine Below.drew ?_))
  have r0 : w0.heap[w.heap.size]? = some (.cells #[.slice A1 xs.length c1, .slice A2 ls.length c2, .slice A3 ys.length c3] 66 (0, 0)) := by
    rw [← hw0, heap_alloc_old _ _ (by simp; omega), heap_alloc_old _ _ (by simp), heap_alloc_new]
  have r1 : w0.heap[w.heap.size + 1]? = some (.cells #[.slice none 0 0, .slice none 0 0, .slice none 0 0] 34 (0, 0)) := by
    rw [← hw0, heap_alloc_old _ _ (by simp)]
    have := heap_alloc_new (w.alloc (.cells #[.slice A1 xs.length c1, .slice A2 ls.length c2, .slice A3 ys.length c3] 66)) (.cells #[.slice none 0 0, .slice none 0 0, .slice none 0 0] 34)
    simpa using this
  have r2 : w0.heap[w.heap.size + 1 + 1]? = some (.cells #[.slice none 0 0, .slice none 0 0, .slice none 0 0] 34 (0, 0)) := by
    rw [← hw0]
    have := heap_alloc_new ((w.alloc (.cells #[.slice A1 xs.length c1, .slice A2 ls.length c2, .slice A3 ys.length c3] 66)).alloc (.cells #[.slice none 0 0, .slice none 0 0, .slice none 0 0] 34)) (.cells #[.slice none 0 0, .slice none 0 0, .slice none 0 0] 34)
    simpa using this
  have hz0 : w0.heap.size = w.heap.size + 1 + 1 + 1 := by rw [← hw0]; simp
  rw [hw0]
  clear hw0
  have HR0 := Lib.hid r0
  have HR1 := Lib.hid r1
  have HR2 := Lib.hid r2
  clear r0 r1 r2
  refine (toInts A1 c1 xs _ (H1.out.below hb0) s1).mono ?_
  rintro e w1 ⟨v1, rfl, hF1, hb1⟩
  have hB1 := belowStep hb1 hb0
  have HR0 := Lib.hid (rowB hb1 HR0.out)
  have HR1 := Lib.hid (rowB hb1 HR1.out)
  have hr2 := rowB hb1 HR2.out
  obtain ⟨k0, k1, k2, kf, kl⟩ := row3 hr2
  have kf0 := kf 0
  have hn1 := rowSet (p := 0) v1 hr2
  obtain ⟨p0, p1, p2, -, -⟩ := row3 HR0.out
  obtain ⟨A1', c1', hc1', rfl, hI1⟩ := hF1.capped
  have HC1 := Lib.hid hc1'
  have HI1 := Lib.hid hI1
  have HF1 := Lib.hid hF1
  have HN1 := Lib.hid hn1
  have HKL := Lib.hid kl
  clear hr2 hF1 hI1 hn1 kf kl hc1' HR2 p0
  go_wp2_with fail
  obtain ⟨z1, hz1⟩ : ∃ z1, w1.setCell ⟨w.heap.size + 1 + 1, 0, none⟩ (.slice A1' xs.length c1') = z1 := ⟨_, rfl⟩
  have hbz : Below w.heap.size w z1 := by rw [← hz1]; exact hB1.setCell (by simp; omega) _
  have HR2 : Hid (z1.heap[w.heap.size + 1 + 1]? = some (.cells #[.slice A1' xs.length c1', .slice none 0 0, .slice none 0 0] 34 (0, 0))) := by rw [← hz1]; exact HN1.out
  have hs0 := rowS (a := ⟨w.heap.size + 1 + 1, 0, none⟩) (v := .slice A1' xs.length c1') HR0.out (by simp; omega)
  have hs1 := rowS (a := ⟨w.heap.size + 1 + 1, 0, none⟩) (v := .slice A1' xs.length c1') HR1.out (by simp)
  rw [hz1] at hs0 hs1
  have HR0 := Lib.hid hs0
  have HR1 := Lib.hid hs1
  clear hs0 hs1
  have HF1 : Hid (Fresh w0.heap.size z1 (.slice A1' xs.length c1') xs) := by rw [← hz1]; exact HF1.out.setCell (by simp; omega) _
  have hzz1 : z1.heap.size = w1.heap.size := by rw [← hz1]; simp
  have HU1 := Lib.hid HF1.out.under
  rw [hz1]
  clear hz1 HI1 HN1
  refine (toListsB A2 c2 ls _ (H2.out.below hbz) s2 S3.out).mono ?_
  rintro e w2 ⟨g2, rfl, -, hF2, hb2⟩
  have hB2 := belowStep hb2 hbz
  have HR0 := Lib.hid (rowB hb2 HR0.out)
  have HR1 := Lib.hid (rowB hb2 HR1.out)
  have hr2 := rowB hb2 HR2.out
  obtain ⟨k0, k1, k2, kf, kl⟩ := row3 hr2
  have kf1 := kf 1
  have hn2 := rowSet (p := 1) (.slice (some ⟨g2, 0, none⟩) ls.length ls.length) hr2
  obtain ⟨p0, p1, p2, -, -⟩ := row3 HR0.out
  have HF1 := Lib.hid (HF1.out.below hb2)
  have HF2 := Lib.hid hF2
  have HN2 := Lib.hid hn2
  clear hr2 hF2 hn2 kf kl HR2 p0
  go_wp2_with fail
  obtain ⟨z2, hz2⟩ : ∃ z2, w2.setCell ⟨w.heap.size + 1 + 1, 1, none⟩ (.slice (some ⟨g2, 0, none⟩) ls.length ls.length) = z2 := ⟨_, rfl⟩
  have hbz2 : Below w.heap.size w z2 := by rw [← hz2]; exact hB2.setCell (by simp; omega) _
  have HR2 : Hid (z2.heap[w.heap.size + 1 + 1]? = some (.cells #[.slice A1' xs.length c1', .slice (some ⟨g2, 0, none⟩) ls.length ls.length, .slice none 0 0] 34 (0, 0))) := by rw [← hz2]; exact HN2.out
  have hs0 := rowS (a := ⟨w.heap.size + 1 + 1, 1, none⟩) (v := .slice (some ⟨g2, 0, none⟩) ls.length ls.length) HR0.out (by simp; omega)
  have hs1 := rowS (a := ⟨w.heap.size + 1 + 1, 1, none⟩) (v := .slice (some ⟨g2, 0, none⟩) ls.length ls.length) HR1.out (by simp)
  rw [hz2] at hs0 hs1
  have HR0 := Lib.hid hs0
  have HR1 := Lib.hid hs1
  clear hs0 hs1
  have hss : z1.heap.size ≤ w2.heap.size := hb2.size
  have HF1 : Hid (Fresh w0.heap.size z2 (.slice A1' xs.length c1') xs) := by rw [← hz2]; exact HF1.out.setCell (by simp; omega) _
  have hon : OnlyIn (w.heap.size + 1 + 1) (w.heap.size + 1 + 1 + 1) w2 z2 := by
    rw [← hz2]
    exact (OnlyIn.refl _ _ _).grown (row := some (w.heap.size + 1 + 1)) ⟨rfl, rfl, rfl, by simp, fun k _ hne => heap_setCell_other _ _ k _ (fun e => hne (by rw [e]))⟩ (fun g e => by injection e with e; omega)
  have HF2 : Hid (FLs z1.heap.size w2.heap.size z2 (.slice (some ⟨g2, 0, none⟩) ls.length ls.length) ls) := HF2.out.onlyHi hon (by have := hb1.size; omega)
  have hzz2 : z2.heap.size = w2.heap.size := by rw [← hz2]; simp
  rw [hz2]
  clear hz2 HN2 hon
  refine (toInts A3 c3 ys _ (H3.out.below hbz2) s4).mono ?_
  rintro e w3 ⟨v3, rfl, hF3, hb3⟩
  have hB3 := belowStep hb3 hbz2
  have HR1 := Lib.hid (rowB hb3 HR1.out)
  have hr2 := rowB hb3 HR2.out
  obtain ⟨k0, k1, k2, kf, kl⟩ := row3 hr2
  have kf2 := kf 2
  obtain ⟨A3', c3', hc3', rfl, hI3⟩ := hF3.capped
  have hn3 := rowSet (p := 2) (.slice A3' ys.length c3') hr2
  obtain ⟨j0, j1, j2, jf, jl⟩ := row3 HR1.out
  have jf0 := jf 0
  have jf1 := jf 1
  have jf2 := jf 2
  have HF1 := Lib.hid (HF1.out.below hb3)
  have HF2 := Lib.hid (HF2.out.below hb3)
  have HF3 := Lib.hid hF3
  have HN3 := Lib.hid hn3
  have HC3 := Lib.hid hc3'
  clear hr2 hF3 hn3 kf jf HR2 hI3 hc3'
  go_wp2_with fail
  have t1 := rowS (a := ⟨w.heap.size + 1 + 1, 2, none⟩) (v := .slice A3' ys.length c3') HR1.out (by simp)
  have t2 := rowSet (p := 0) (.slice A1' xs.length c1') t1
  have t3 := rowSet (p := 1) (.slice (some ⟨g2, 0, none⟩) ls.length ls.length) t2
  have t4 := rowSet (p := 2) (.slice A3' ys.length c3') t3
  obtain ⟨z, hz⟩ : ∃ z, (((w3.setCell ⟨w.heap.size + 1 + 1, 2, none⟩ (.slice A3' ys.length c3')).setCell ⟨w.heap.size + 1, 0, none⟩ (.slice A1' xs.length c1')).setCell ⟨w.heap.size + 1, 1, none⟩ (.slice (some ⟨g2, 0, none⟩) ls.length ls.length)).setCell ⟨w.heap.size + 1, 2, none⟩ (.slice A3' ys.length c3') = z := ⟨_, rfl⟩
  rw [hz] at t4 ⊢
  obtain ⟨y0, y1, y2, -, -⟩ := row3 (a := .slice A1' xs.length c1') (b := .slice (some ⟨g2, 0, none⟩) ls.length ls.length) (c := .slice A3' ys.length c3') t4
  have hbz : Below w.heap.size w z := by
    rw [← hz]
    exact (((hB3.setCell (p := ⟨w.heap.size + 1 + 1, 2, none⟩) (by simp; omega) _).setCell (p := ⟨w.heap.size + 1, 0, none⟩) (by simp) _).setCell (p := ⟨w.heap.size + 1, 1, none⟩) (by simp) _).setCell (p := ⟨w.heap.size + 1, 2, none⟩) (by simp) _
  have hs3 : z2.heap.size ≤ w3.heap.size := hb3.size
  have hzs : z.heap.size = w3.heap.size := by rw [← hz]; simp
  have hw01 : w0.heap.size ≤ w1.heap.size := hb1.size
  have HF1 : Hid (Fresh w0.heap.size z (.slice A1' xs.length c1') xs) := by
    rw [← hz]
    exact (((HF1.out.setCell (a := ⟨w.heap.size + 1 + 1, 2, none⟩) (by simp; omega) _).setCell (a := ⟨w.heap.size + 1, 0, none⟩) (by simp; omega) _).setCell (a := ⟨w.heap.size + 1, 1, none⟩) (by simp; omega) _).setCell (a := ⟨w.heap.size + 1, 2, none⟩) (by simp; omega) _
  have HF3 : Hid (Fresh z2.heap.size z (.slice A3' ys.length c3') ys) := by
    rw [← hz]
    exact (((HF3.out.setCell (a := ⟨w.heap.size + 1 + 1, 2, none⟩) (by simp; omega) _).setCell (a := ⟨w.heap.size + 1, 0, none⟩) (by simp; omega) _).setCell (a := ⟨w.heap.size + 1, 1, none⟩) (by simp; omega) _).setCell (a := ⟨w.heap.size + 1, 2, none⟩) (by simp; omega) _
  have hon : OnlyIn (w.heap.size + 1) (w.heap.size + 1 + 1 + 1) w3 z := by
    rw [← hz]
    refine ⟨rfl, rfl, rfl, by simp, fun k _ hc => ?_⟩
    rw [heap_setCell_other _ _ k _ (by simp; omega), heap_setCell_other _ _ k _ (by simp; omega), heap_setCell_other _ _ k _ (by simp; omega), heap_setCell_other _ _ k _ (by simp; omega)]
  have HF2 : Hid (FLs z1.heap.size w2.heap.size z (.slice (some ⟨g2, 0, none⟩) ls.length ls.length) ls) := HF2.out.onlyHi hon (by omega)
  clear hz t1 t2 t3 t4 hon
  refine bodyPost_ret (v := .agg #[.slice A1' xs.length c1', .slice (some ⟨g2, 0, none⟩) ls.length ls.length, .slice A3' ys.length c3']) (by simp [results, Try.results78, go_sem, y0, y1, y2]) rfl ?_
  refine ⟨_, rfl, ⟨A1', c1', some ⟨g2, 0, none⟩, ls.length, A3', c3', rfl, HF1.out.intsAt, HC1.out, HF2.out.lat, Nat.le_refl _, HF3.out.intsAt, HC3.out⟩, ⟨_, _, _, z1.heap.size, w2.heap.size, rfl, HF1.out.mono (by omega), HU1.out, HF2.out, HF3.out.mono (by omega), HF3.out.under, by omega, by omega, by omega⟩, hbz⟩
end Go.Proofs.Ytfhdnanbhigpmaa
