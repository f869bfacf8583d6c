/- New jobs, spec. Conditions: as each contract says. -/
import Derived.Test.YtfhdnanbhigpmaaFi
namespace Go.Proofs.Ytfhdnanbhigpmaa
open Go.RowKit Grp

theorem grown6 (w : World) (g : Nat) (x y z u v t : Value) : w.grownBy ((((((w.setCell ⟨g, 0, none⟩ x).setCell ⟨g, 1, none⟩ y).setCell ⟨g, 2, none⟩ z).setCell ⟨g, 3, none⟩ u).setCell ⟨g, 4, none⟩ v).setCell ⟨g, 5, none⟩ t) (some g) :=
  (((((setGrown w g 0 x).trans (setGrown _ g 1 y)).trans (setGrown _ g 2 z)).trans (setGrown _ g 3 u)).trans (setGrown _ g 4 v)).trans (setGrown _ g 5 t)
/-- A new job of the call's own. -/
def NewJob (lo : Nat) (trk : List Int) (v : Value) (w : World) : Prop :=
  ∃ A1 c1 A2 c2 A3 c3, v = .agg #[.slice A1 trk.length c1, .slice A2 1 c2, .slice A3 1 c3, .int .i64 0, .string ⟨#[]⟩, .int .i64 0] ∧ Fresh lo w (.slice A1 trk.length c1) trk ∧ trk.length ≤ c1 ∧ OwnL lo w (.slice A2 1 c2) [trk] ∧ 1 ≤ c2 ∧ Fresh lo w (.slice A3 1 c3) [0] ∧ 1 ≤ c3
set_option maxRecDepth 100000 in
set_option maxHeartbeats 4000000 in
theorem specNew (A : Option Addr) (c : Nat) (trk : List Int) (w : World) (hx : IntsAt w A trk) (hl : trk.length ≤ 1048576) :
    Calls Try.prog 56 #[.slice A trk.length c] w fun e w' => ∃ v, e = .returned v ∧ NewJob w.heap.size trk v w' ∧ Below w.heap.size w w' := by
  have HX := Lib.hid hx
  obtain ⟨w0, hw0⟩ : ∃ w0, w.alloc (.cells #[.slice none 0 0, .slice none 0 0, .slice none 0 0, .int .i64 0, .string ⟨#[]⟩, .int .i64 0] 45) = w0 := ⟨_, rfl⟩
  have hb0 : Below w.heap.size w w0 := by rw [← hw0]; exact (by repeat (first | exact Below.refl _ _ | assumption | refine Below.setCell ?_ (by first | omega | (simp <;> omega)) _ | refine Below.alloc ?_ (by first | omega | (simp <;> omega)) _ | refine Below.drew ?_))
  have R0 : Hid (w0.heap[w.heap.size]? = some (.cells #[.slice none 0 0, .slice none 0 0, .slice none 0 0, .int .i64 0, .string ⟨#[]⟩, .int .i64 0] 45 (0, 0))) := by rw [← hw0]; exact heap_alloc_new _ _
  have HB0 := Lib.hid hb0
  clear hx hb0
  go_enter Try.func56, Try.ntmps56
  go_wp2_with fail
  clear hw0
  refine (specCopy A c trk.length trk w0 (HX.out.below HB0.out) rfl hl).mono ?_
  rintro e w1 ⟨v1, rfl, hF1, hb1⟩
  obtain ⟨A1, c1, hc1, rfl, hI1⟩ := hF1.capped
  have HF1 := Lib.hid hF1
  have HI1 := Lib.hid hI1
  have HN1 : Hid (∀ g off s, A1 = some ⟨g, off, s⟩ → w0.heap.size ≤ g) := fun g off s e => (World.ownsRow.lt hF1 g (by rw [e]; rfl)).1
  have HB1 := Lib.hid (belowStep hb1 HB0.out)
  have R1 := Lib.hid (rowB hb1 R0.out)
  have HZ1 := Lib.hid hb1.size
  clear hF1 hI1 hb1
  go_wp2_with fail
  refine (specCopy A c trk.length trk w1 (HX.out.below HB1.out) rfl hl).mono ?_
  rintro e w2 ⟨v2, rfl, hF2, hb2⟩
  obtain ⟨A2, c2, hc2, rfl, hI2⟩ := hF2.capped
  have HF1 : Hid (Fresh w0.heap.size w2 (.slice A1 trk.length c1) trk) := HF1.out.below hb2
  have HI2 := Lib.hid hI2
  have HN2 : Hid (∀ g off s, A2 = some ⟨g, off, s⟩ → w1.heap.size ≤ g) := fun g off s e => (World.ownsRow.lt hF2 g (by rw [e]; rfl)).1
  have HU2 : Hid (∀ g off s, A2 = some ⟨g, off, s⟩ → g < w2.heap.size) := fun g off s e => (World.ownsRow.lt hF2 g (by rw [e]; rfl)).2
  have hz1 : w0.heap.size ≤ w1.heap.size := HZ1.out
  have HB2 := Lib.hid (belowStep hb2 HB1.out)
  have R2 := Lib.hid (rowB hb2 R1.out)
  have HZ2 : Hid (w1.heap.size ≤ w2.heap.size) := hb2.size
  clear hF2 hI2 hb2 HB1 R1
  obtain ⟨w4, hw4⟩ : ∃ w4, (w2.alloc (.cells #[.slice A2 trk.length c2] 31)).alloc (.cells #[.int .i64 0] 2) = w4 := ⟨_, rfl⟩
  have hb4 : Below w2.heap.size w2 w4 := by rw [← hw4]; exact (by repeat (first | exact Below.refl _ _ | assumption | refine Below.setCell ?_ (by first | omega | (simp <;> omega)) _ | refine Below.alloc ?_ (by first | omega | (simp <;> omega)) _ | refine Below.drew ?_))
  have hz4 : w4.heap.size = w2.heap.size + 2 := by rw [← hw4]; simp
  have RL : Hid (w4.heap[w2.heap.size]? = some (.cells #[.slice A2 trk.length c2] 31 (0, 0))) := by rw [← hw4]; exact alloc2_0 _ _ _
  have RD : Hid (w4.heap[w2.heap.size + 1]? = some (.cells #[.int .i64 0] 2 (0, 0))) := by rw [← hw4]; exact alloc2_1 _ _ _
  have HF1 : Hid (Fresh w0.heap.size w4 (.slice A1 trk.length c1) trk) := HF1.out.below hb4
  have HI2 : Hid (IntsAt w4 A2 trk) := HI2.out.below hb4
  have HB4 := Lib.hid (belowStep hb4 HB2.out)
  have R4 := Lib.hid (rowB hb4 R2.out)
  clear hb4 HB2 R2
  obtain ⟨w5, hw5⟩ : ∃ w5, w4.alloc (.cells #[.slice A1 trk.length c1, .slice (some ⟨w2.heap.size, 0, none⟩) 1 1, .slice (some ⟨w2.heap.size + 1, 0, none⟩) 1 1] 34) = w5 := ⟨_, rfl⟩
  have hb5 : Below w4.heap.size w4 w5 := by rw [← hw5]; exact (by repeat (first | exact Below.refl _ _ | assumption | refine Below.setCell ?_ (by first | omega | (simp <;> omega)) _ | refine Below.alloc ?_ (by first | omega | (simp <;> omega)) _ | refine Below.drew ?_))
  have R5 := Lib.hid (rowB hb5 R4.out)
  have RT : Hid (w5.heap[w2.heap.size + 2]? = some (.cells #[.slice A1 trk.length c1, .slice (some ⟨w2.heap.size, 0, none⟩) 1 1, .slice (some ⟨w2.heap.size + 1, 0, none⟩) 1 1] 34 (0, 0))) := by rw [← hw5, ← hz4]; exact heap_alloc_new _ _
  have HB5 := Lib.hid hb5
  clear hb5
  obtain ⟨m0, m1, m2, -, -⟩ := row3 RT.out
  obtain ⟨k0, k1, k2, k3, k4, k5, kf, kl⟩ := row6 R5.out
  go_wp2_with fail
  obtain ⟨y0, y1, y2, y3, y4, y5, -, -⟩ := row6 (row6S R5.out (.slice A1 trk.length c1) (.slice (some ⟨w2.heap.size, 0, none⟩) 1 1) (.slice (some ⟨w2.heap.size + 1, 0, none⟩) 1 1) (.int .i64 0) (.string ⟨#[]⟩) (.int .i64 0))
  have hHl := row_lt R0.out
  have hne2 : w.heap.size < w2.heap.size := by have := row_lt RL.out; have := HZ2.out; omega
  have hgr := grown6 w5 w.heap.size (.slice A1 trk.length c1) (.slice (some ⟨w2.heap.size, 0, none⟩) 1 1) (.slice (some ⟨w2.heap.size + 1, 0, none⟩) 1 1) (.int .i64 0) (.string ⟨#[]⟩) (.int .i64 0)
  refine bodyPost_ret (v := .agg #[.slice A1 trk.length c1, .slice (some ⟨w2.heap.size, 0, none⟩) 1 1, .slice (some ⟨w2.heap.size + 1, 0, none⟩) 1 1, .int .i64 0, .string ⟨#[]⟩, .int .i64 0]) (by simp [results, Try.results56, go_sem, y0, y1, y2, y3, y4, y5]) rfl ?_
  refine ⟨_, rfl, ⟨A1, c1, _, 1, _, 1, rfl, ((HF1.out.below HB5.out).row hgr (fun b hb e => ?_)).mono (by omega), hc1, GrAt.one (rowR hgr (rowB HB5.out RL.out) (fun e => by injection e with e; omega)) (by omega) hc2 ((HI2.out.below HB5.out).kept hgr (fun h0 g off s e e2 => ?_)) (by omega) (fun g off s e => ?_), Nat.le_refl _, Fresh.one0 (rowR hgr (rowB HB5.out RD.out) (fun e => by injection e with e; omega)) (by omega), Nat.le_refl _⟩, belSet6 (belowStep HB5.out HB4.out) (Nat.le_refl _) _ _ _ _ _ _⟩
  · have := (World.ownsRow.lt HF1.out b hb).1
    injection e with e
    omega
  · have := HN2.out g off s e
    injection e2 with e2
    omega
  · have h1 := HN2.out g off s e
    have h2 := HI2.out
    have h3 := HU2.out g off s e
    exact ⟨by omega, by omega⟩
def SpecJob (p : Pz) (trk : List Int) (w : World) (e : Ending) (w' : World) : Prop :=
  if buildQ p trk = true then ∃ A1 c1 A2 c2 A3 c3, e = .returned (.tuple #[.agg #[.slice A1 trk.length c1, .slice A2 1 c2, .slice A3 1 c3, .int .i64 0, .string ⟨#[]⟩, .int .i64 0], .bool true]) ∧ Fresh w.heap.size w' (.slice A1 trk.length c1) trk ∧ trk.length ≤ c1 ∧ OwnL w.heap.size w' (.slice A2 1 c2) [trk] ∧ 1 ≤ c2 ∧ Fresh w.heap.size w' (.slice A3 1 c3) [0] ∧ 1 ≤ c3 ∧ Below w.heap.size w w' else JobNo w e w'
set_option maxRecDepth 100000 in
set_option maxHeartbeats 4000000 in
theorem specStartFill (A : Option Addr) (c : Nat) (p : Pz) (A2 : Option Addr) (c2 : Nat) (trk : List Int) (w : World) (h : PzAt w A p) (hx : IntsAt w A2 trk) (hl : trk.length ≤ 1048576) :
    Calls Try.prog 19 #[.agg #[.int .i64 p.pts, .string p.names, .slice A p.moves.length c], .slice A2 trk.length c2] w (SpecJob p trk w) := by
  have HP := Lib.hid h
  have HX := Lib.hid hx
  obtain ⟨q, hq⟩ : ∃ q, buildQ p trk = q := ⟨_, rfl⟩
  have HQ := Lib.hid hq
  unfold SpecJob
  rw [hq]
  clear hx h hq
  obtain ⟨w0, hw0⟩ : ∃ w0, (w.alloc (.cells #[.int .i64 p.pts, .string p.names, .slice A p.moves.length c] 29)).alloc (.cells #[.slice none 0 0, .slice none 0 0, .slice none 0 0, .int .i64 0, .string ⟨#[]⟩, .int .i64 0] 45) = w0 := ⟨_, rfl⟩
  have hb : Below w.heap.size w w0 := by rw [← hw0]; exact (by repeat (first | exact Below.refl _ _ | assumption | refine Below.setCell ?_ (by first | omega | (simp <;> omega)) _ | refine Below.alloc ?_ (by first | omega | (simp <;> omega)) _ | refine Below.drew ?_))
  have r0 : w0.heap[w.heap.size]? = some (.cells #[.int .i64 p.pts, .string p.names, .slice A p.moves.length c] 29 (0, 0)) := by rw [← hw0]; exact alloc2_0 _ _ _
  have R1 : Hid (w0.heap[w.heap.size + 1]? = some (.cells #[.slice none 0 0, .slice none 0 0, .slice none 0 0, .int .i64 0, .string ⟨#[]⟩, .int .i64 0] 45 (0, 0))) := by rw [← hw0]; exact alloc2_1 _ _ _
  obtain ⟨p0, p1, p2, -, -⟩ := row3 r0
  clear r0
  go_enter Try.func19, Try.ntmps19
  go_wp2_with fail
  clear hw0
  refine (specBuild A c p A2 c2 trk w0 (HP.out.below hb) (HX.out.below hb) hl).mono ?_
  rintro e w1 ⟨A1, n1, c1, A3, n3, c3, A4, n4, c4, rfl, -, hb1⟩
  rw [HQ.out]
  have RR1 := Lib.hid (rowB hb1 R1.out)
  have hB1 := belowStep hb1 hb
  have hz1 := hb1.size
  have hz0 := row_lt R1.out
  clear p0 p1 p2 hb1 hb
  obtain ⟨k0, k1, k2, k3, k4, k5, kf, kl⟩ := row6 RR1.out
  cases q with
  | false =>
    clear HP HX
    go_wp2_with fail
    obtain ⟨w3, hw3⟩ : ∃ w3, (((((w1.setCell ⟨w.heap.size + 1, 0, none⟩ (.slice none 0 0)).setCell ⟨w.heap.size + 1, 1, none⟩ (.slice none 0 0)).setCell ⟨w.heap.size + 1, 2, none⟩ (.slice none 0 0)).setCell ⟨w.heap.size + 1, 3, none⟩ (.int .i64 0)).setCell ⟨w.heap.size + 1, 4, none⟩ (.string ⟨#[]⟩)).setCell ⟨w.heap.size + 1, 5, none⟩ (.int .i64 0) = w3 := ⟨_, rfl⟩
    rw [hw3]
    have R3 := row6S RR1.out (.slice none 0 0) (.slice none 0 0) (.slice none 0 0) (.int .i64 0) (.string ⟨#[]⟩) (.int .i64 0)
    have hB3 := belSet6 hB1 (Nat.le_succ w.heap.size) (.slice none 0 0) (.slice none 0 0) (.slice none 0 0) (.int .i64 0) (.string ⟨#[]⟩) (.int .i64 0)
    rw [hw3] at R3 hB3
    have hbA : Below w3.heap.size w3 (w3.alloc (.cells #[.slice A1 n1 c1, .slice A3 n3 c3, .slice A4 n4 c4] 34)) := (by repeat (first | exact Below.refl _ _ | assumption | refine Below.setCell ?_ (by first | omega | (simp <;> omega)) _ | refine Below.alloc ?_ (by first | omega | (simp <;> omega)) _ | refine Below.drew ?_))
    obtain ⟨y0, y1, y2, y3, y4, y5, -, -⟩ := row6 (rowB hbA R3)
    refine bodyPost_ret (v := .tuple #[.agg #[.slice none 0 0, .slice none 0 0, .slice none 0 0, .int .i64 0, .string ⟨#[]⟩, .int .i64 0], .bool false]) (by simp [results, Try.results19, go_sem, y0, y1, y2, y3, y4, y5]) rfl ?_
    exact ⟨rfl, belowStep hbA hB3⟩
  | true =>
    obtain ⟨wa, hwa⟩ : ∃ wa, w1.alloc (.cells #[.slice A1 n1 c1, .slice A3 n3 c3, .slice A4 n4 c4] 34) = wa := ⟨_, rfl⟩
    have hba : Below w1.heap.size w1 wa := by rw [← hwa]; exact (by repeat (first | exact Below.refl _ _ | assumption | refine Below.setCell ?_ (by first | omega | (simp <;> omega)) _ | refine Below.alloc ?_ (by first | omega | (simp <;> omega)) _ | refine Below.drew ?_))
    have RA := Lib.hid (rowB hba RR1.out)
    have HWA := Lib.hid hwa
    have HBA := Lib.hid (belowStep hba hB1)
    clear hwa hba
    go_wp2_with fail
    rw [HWA.out]
    refine (specNew A2 c2 trk wa (HX.out.below HBA.out) hl).mono ?_
    rintro e w2 ⟨v2, rfl, ⟨B1, d1, B2, d2, B3, d3, rfl, i1, i2, i3, i4, i5, i6⟩, hb2⟩
    have R2 := Lib.hid (rowB hb2 RA.out)
    have HB2 := Lib.hid (belowStep hb2 HBA.out)
    have hH1 : w.heap.size + 1 < wa.heap.size := row_lt RA.out
    have HI1 := Lib.hid i1
    have HI3 := Lib.hid i3
    have HI5 := Lib.hid i5
    clear i1 i3 i5 hb2 k0 k1 k2 k3 k4 k5 kf kl
    obtain ⟨k0, k1, k2, k3, k4, k5, kf, kl⟩ := row6 R2.out
    go_wp2_with fail
    obtain ⟨y0, y1, y2, y3, y4, y5, -, -⟩ := row6 (row6S R2.out (.slice B1 trk.length d1) (.slice B2 1 d2) (.slice B3 1 d3) (.int .i64 0) (.string ⟨#[]⟩) (.int .i64 0))
    have hgr := grown6 w2 (w.heap.size + 1) (.slice B1 trk.length d1) (.slice B2 1 d2) (.slice B3 1 d3) (.int .i64 0) (.string ⟨#[]⟩) (.int .i64 0)
    refine bodyPost_ret (v := .tuple #[.agg #[.slice B1 trk.length d1, .slice B2 1 d2, .slice B3 1 d3, .int .i64 0, .string ⟨#[]⟩, .int .i64 0], .bool true]) (by simp [results, Try.results19, go_sem, y0, y1, y2, y3, y4, y5]) rfl ?_
    have hz : w.heap.size ≤ wa.heap.size := by omega
    exact ⟨B1, d1, B2, d2, B3, d3, rfl, (HI1.out.row hgr (fun b hb e => by have := (World.ownsRow.lt HI1.out b hb).1; injection e with e; omega)).mono hz, i2, (HI3.out.kept hgr hH1).less hz, i4, (HI5.out.row hgr (fun b hb e => by have := (World.ownsRow.lt HI5.out b hb).1; injection e with e; omega)).mono hz, i6, belSet6 HB2.out (Nat.le_succ _) _ _ _ _ _ _⟩
end Go.Proofs.Ytfhdnanbhigpmaa
