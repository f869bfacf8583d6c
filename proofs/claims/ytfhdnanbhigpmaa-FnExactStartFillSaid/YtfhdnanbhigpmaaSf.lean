/- A new job, impl. Conditions: as each contract says. -/
import Derived.Test.YtfhdnanbhigpmaaNf
namespace Go.Proofs.Ytfhdnanbhigpmaa
open Go.RowKit Grp

def StartYes (p : Pz) (trk : List Int) (w : World) (e : Ending) (w' : World) : Prop :=
  ∃ lo f bm At ct Al Ad vm m1 m2 hi, w.heap.size ≤ lo ∧ e = .returned (.tuple #[.pointer (some ⟨f, 0, none⟩), .bool true]) ∧ FlAt lo f bm w' (.slice At trk.length ct) (.slice Al 1 1) (.slice Ad 1 1) vm trk (mvsOf p.moves) [trk] [0] 0 ⟨#[]⟩ 0 1 [strOfNums trk] ∧ FTb (f + 1) hi w' At ct Al 1 Ad 1 m1 m2 ⟨trk, [trk], [0]⟩ ∧ hi ≤ w'.heap.size ∧ Below w.heap.size w w'
def StartNo (w : World) (e : Ending) (w' : World) : Prop := e = .returned (.tuple #[.pointer none, .bool false]) ∧ Below w.heap.size w w'
theorem build_parts {p : Pz} {trk : List Int} (h : buildQ p trk = true) : ∃ N : Nat, p.pts = (N : Int) ∧ N ≤ 20 ∧ MvsOk N p.moves ∧ p.moves.length ≤ 8 ∧ PtsOk N trk.length trk ∧ 0 < trk.length := by
  unfold buildQ at h
  rw [Bool.and_eq_true] at h
  exact trk_parts h.1
set_option maxRecDepth 100000 in
set_option maxHeartbeats 1000000 in
theorem implStart (A : Option Addr) (c : Nat) (p : Pz) (A2 : Option Addr) (c2 : Nat) (trk : List Int) (w : World) (h : PzAt w A p) (hx : IntsAt w A2 trk) (hl : trk.length ≤ 1048576) :
    Calls Try.prog 58 #[.agg #[.int .i64 p.pts, .string p.names, .slice A p.moves.length c], .slice A2 trk.length c2] w fun e w' => if buildQ p trk = true then StartYes p trk w e w' else StartNo w e w' := by
  have HP := Lib.hid h
  have HX := Lib.hid hx
  obtain ⟨q, hq⟩ : ∃ q, buildQ p trk = q := ⟨_, rfl⟩
  have HQ := Lib.hid hq
  have HC := Lib.hid (fun wx hw hw2 => implBuild A c p A2 c2 trk wx hw hw2 hl)
  rw [hq] at HC ⊢
  clear hx h hq
  obtain ⟨w0, hw0⟩ : ∃ w0, w.alloc (.cells #[.int .i64 p.pts, .string p.names, .slice A p.moves.length c] 29) = w0 := ⟨_, rfl⟩
  have hb : Below w.heap.size w w0 := by rw [← hw0]; exact (by repeat (first | exact Below.refl _ _ | assumption | refine Below.setCell ?_ (by first | omega | (simp <;> omega)) _ | refine Below.alloc ?_ (by first | omega | (simp <;> omega)) _ | refine Below.drew ?_))
  have r0 : w0.heap[w.heap.size]? = some (.cells #[.int .i64 p.pts, .string p.names, .slice A p.moves.length c] 29 (0, 0)) := by rw [← hw0]; exact heap_alloc_new _ _
  obtain ⟨p0, p1, p2, -, -⟩ := row3 r0
  have HR0 := Lib.hid r0
  clear r0
  go_enter Try.func58, Try.ntmps58
  go_wp2_with fail
  clear hw0
  refine (HC.out _ (HP.out.below hb) (HX.out.below hb)).mono ?_
  rintro e w1 ⟨B1, n1, k1, B2, n2, k2, B3, n3, k3, rfl, hb1⟩
  obtain ⟨w2, hw2⟩ : ∃ w2, w1.alloc (.cells #[.slice B1 n1 k1, .slice B2 n2 k2, .slice B3 n3 k3] 34) = w2 := ⟨_, rfl⟩
  have hb2 : Below w1.heap.size w1 w2 := by rw [← hw2]; exact (by repeat (first | exact Below.refl _ _ | assumption | refine Below.setCell ?_ (by first | omega | (simp <;> omega)) _ | refine Below.alloc ?_ (by first | omega | (simp <;> omega)) _ | refine Below.drew ?_))
  have hr2 := rowB hb2 (rowB hb1 HR0.out)
  have hB2 := belowStep hb2 (belowStep hb1 hb)
  clear p0 p1 p2 hb1 hb hb2
  obtain ⟨p0, p1, p2, -, -⟩ := row3 hr2
  clear hr2
  cases q with
  | false =>
    go_wp2_with fail
    go_ret2
    exact ⟨rfl, hB2⟩
  | true =>
    obtain ⟨N, hN, hN20, hmv, hm8, hpt, hne⟩ := build_parts HQ.out
    have HMV := Lib.hid hmv
    have HPT := Lib.hid hpt
    clear hmv hpt hN
    go_wp2_with fail
    refine (implNew A c p A2 c2 trk N _ (HP.out.below hB2) (HX.out.below hB2) HMV.out hm8 hN20 HPT.out hne hl).mono ?_
    rintro e w3 ⟨f, bm, At, ct, Al, Ad, vm, m1, m2, hi, rfl, hFL, hTB, hhi, hb3⟩
    have hB3 := belowStep hb3 hB2
    have hz2 := hB2.size
    have HFL := Lib.hid hFL
    have HTB := Lib.hid hTB
    clear hFL hTB hb3
    go_wp2_with fail
    go_ret2
    exact ⟨_, f, bm, At, ct, Al, Ad, vm, m1, m2, hi, hz2, rfl, HFL.out, HTB.out, hhi, hB3⟩
/-- A new job. -/
def JobYes (trk : List Int) (w : World) (e : Ending) (w' : World) : Prop :=
  ∃ At ct Al Ad lo m1 m2 hi, w.heap.size ≤ lo ∧ e = .returned (.tuple #[.agg #[.slice At trk.length ct, .slice Al 1 1, .slice Ad 1 1, .int .i64 0, .string ⟨#[]⟩, .int .i64 0], .bool true]) ∧ FTb lo hi w' At ct Al 1 Ad 1 m1 m2 ⟨trk, [trk], [0]⟩ ∧ hi ≤ w'.heap.size ∧ Below w.heap.size w w'
def JobNo (w : World) (e : Ending) (w' : World) : Prop := e = .returned (.tuple #[.agg #[.slice none 0 0, .slice none 0 0, .slice none 0 0, .int .i64 0, .string ⟨#[]⟩, .int .i64 0], .bool false]) ∧ Below w.heap.size w w'
theorem row6S {w : World} {g : Nat} {a b c d e f : Value} {T : TypeId} (h : w.heap[g]? = some (.cells #[a, b, c, d, e, f] T (0, 0))) (x y z u v t : Value) : ((((((w.setCell ⟨g, 0, none⟩ x).setCell ⟨g, 1, none⟩ y).setCell ⟨g, 2, none⟩ z).setCell ⟨g, 3, none⟩ u).setCell ⟨g, 4, none⟩ v).setCell ⟨g, 5, none⟩ t).heap[g]? = some (.cells #[x, y, z, u, v, t] T (0, 0)) := rowSet t (rowSet v (rowSet u (rowSet z (rowSet y (rowSet x h)))))
theorem row6 {w : World} {g : Nat} {a b c d e f : Value} {T : TypeId} (h : w.heap[g]? = some (.cells #[a, b, c, d, e, f] T (0, 0))) : w.cell? ⟨g, 0, none⟩ = some a ∧ w.cell? ⟨g, 1, none⟩ = some b ∧ w.cell? ⟨g, 2, none⟩ = some c ∧ w.cell? ⟨g, 3, none⟩ = some d ∧ w.cell? ⟨g, 4, none⟩ = some e ∧ w.cell? ⟨g, 5, none⟩ = some f ∧ (∀ p, w.frozen? ⟨g, p, none⟩ = false) ∧ g < w.heap.size :=
  ⟨cell_of_row w g 0 _ _ (0, 0) h, cell_of_row w g 1 _ _ (0, 0) h, cell_of_row w g 2 _ _ (0, 0) h, cell_of_row w g 3 _ _ (0, 0) h, cell_of_row w g 4 _ _ (0, 0) h, cell_of_row w g 5 _ _ (0, 0) h, fun _ => row_free h, row_lt h⟩
theorem belSet6 {B g : Nat} {w w1 : World} (hB : Below B w w1) (h : B ≤ g) (x y z u v t : Value) : Below B w ((((((w1.setCell ⟨g, 0, none⟩ x).setCell ⟨g, 1, none⟩ y).setCell ⟨g, 2, none⟩ z).setCell ⟨g, 3, none⟩ u).setCell ⟨g, 4, none⟩ v).setCell ⟨g, 5, none⟩ t) :=
  (((((hB.setCell (p := ⟨g, 0, none⟩) h _).setCell (p := ⟨g, 1, none⟩) h _).setCell (p := ⟨g, 2, none⟩) h _).setCell (p := ⟨g, 3, none⟩) h _).setCell (p := ⟨g, 4, none⟩) h _).setCell (p := ⟨g, 5, none⟩) h _
set_option maxRecDepth 100000 in
set_option maxHeartbeats 8000000 in
theorem implStartFill (A : Option Addr) (c : Nat) (p : Pz) (A2 : Option Addr) (c2 : Nat) (trk : List Int) (w : World) (h : PzAt w A p) (hx : IntsAt w A2 trk) (hl : trk.length ≤ 1048576) :
    Calls Try.prog 22 #[.agg #[.int .i64 p.pts, .string p.names, .slice A p.moves.length c], .slice A2 trk.length c2] w fun e w' => if buildQ p trk = true then JobYes trk w e w' else JobNo w e w' := by
  have HP := Lib.hid h
  have HX := Lib.hid hx
  obtain ⟨q, hq⟩ : ∃ q, buildQ p trk = q := ⟨_, rfl⟩
  have HQ := Lib.hid hq
  have HC := Lib.hid (fun wx hw hw2 => implStart A c p A2 c2 trk wx hw hw2 hl)
  rw [hq] at HC ⊢
  clear hx h hq
  obtain ⟨w0, hw0⟩ : ∃ w0, (w.alloc (.cells #[.int .i64 p.pts, .string p.names, .slice A p.moves.length c] 29)).alloc (.cells #[.slice none 0 0, .slice none 0 0, .slice none 0 0, .int .i64 0, .string ⟨#[]⟩, .int .i64 0] 45) = w0 := ⟨_, rfl⟩
  have hb : Below w.heap.size w w0 := by rw [← hw0]; exact (by repeat (first | exact Below.refl _ _ | assumption | refine Below.setCell ?_ (by first | omega | (simp <;> omega)) _ | refine Below.alloc ?_ (by first | omega | (simp <;> omega)) _ | refine Below.drew ?_))
  have hz0 : w0.heap.size = w.heap.size + 2 := by rw [← hw0]; simp
  have r0 : w0.heap[w.heap.size]? = some (.cells #[.int .i64 p.pts, .string p.names, .slice A p.moves.length c] 29 (0, 0)) := by rw [← hw0]; exact alloc2_0 _ _ _
  have r1 : w0.heap[w.heap.size + 1]? = some (.cells #[.slice none 0 0, .slice none 0 0, .slice none 0 0, .int .i64 0, .string ⟨#[]⟩, .int .i64 0] 45 (0, 0)) := by rw [← hw0]; exact alloc2_1 _ _ _
  obtain ⟨p0, p1, p2, -, -⟩ := row3 r0
  have HR1 := Lib.hid r1
  clear r0 r1
  go_enter Try.func22, Try.ntmps22
  go_wp2_with fail
  clear hw0 p0 p1 p2
  refine (HC.out _ (HP.out.below hb) (HX.out.below hb)).mono ?_
  intro e w1 hpost
  cases q with
  | false =>
    obtain ⟨rfl, hb1⟩ := hpost
    have hr1 := rowB hb1 HR1.out
    have hB1 := belowStep hb1 hb
    obtain ⟨k0, k1, k2, k3, k4, k5, kf, kl⟩ := row6 hr1
    have HR := Lib.hid hr1
    clear HP HX HC hr1
    go_wp2_with fail
    obtain ⟨y0, y1, y2, y3, y4, y5, -, -⟩ := row6 (row6S HR.out (.slice none 0 0) (.slice none 0 0) (.slice none 0 0) (.int .i64 0) (.string ⟨#[]⟩) (.int .i64 0))
    refine bodyPost_ret (v := .tuple #[.agg #[.slice none 0 0, .slice none 0 0, .slice none 0 0, .int .i64 0, .string ⟨#[]⟩, .int .i64 0], .bool false]) (by simp [results, Try.results22, go_sem, y0, y1, y2, y3, y4, y5]) rfl ?_
    exact ⟨rfl, belSet6 hB1 (by omega) _ _ _ _ _ _⟩
  | true =>
    obtain ⟨lo, f, bm, At, ct, Al, Ad, vm, m1, m2, hi, hlo, rfl, hFL, hTB, hhi, hb1⟩ := hpost
    have hr1 := rowB hb1 HR1.out
    have hB1 := belowStep hb1 hb
    have hrf := hFL.row
    have hfl := hFL.lof
    have g0 := cell_of_row w1 f 0 _ _ (0, 0) hrf
    have g1 := cell_of_row w1 f 1 _ _ (0, 0) hrf
    have g2 := cell_of_row w1 f 2 _ _ (0, 0) hrf
    have g3 := cell_of_row w1 f 3 _ _ (0, 0) hrf
    have g4 := cell_of_row w1 f 4 _ _ (0, 0) hrf
    have g5 := cell_of_row w1 f 5 _ _ (0, 0) hrf
    obtain ⟨k0, k1, k2, k3, k4, k5, kf, kl⟩ := row6 hr1
    have HR := Lib.hid hr1
    have HTB := Lib.hid hTB
    clear HP HX HC hFL hTB hrf hr1
    go_wp2_with fail
    obtain ⟨y0, y1, y2, y3, y4, y5, -, -⟩ := row6 (row6S HR.out (.slice At trk.length ct) (.slice Al 1 1) (.slice Ad 1 1) (.int .i64 0) (.string ⟨#[]⟩) (.int .i64 0))
    refine bodyPost_ret (v := .tuple #[.agg #[.slice At trk.length ct, .slice Al 1 1, .slice Ad 1 1, .int .i64 0, .string ⟨#[]⟩, .int .i64 0], .bool true]) (by simp [results, Try.results22, go_sem, y0, y1, y2, y3, y4, y5]) rfl ?_
    refine ⟨At, ct, Al, Ad, f + 1, m1, m2, hi, by omega, rfl, HTB.out.keep (by simp) (fun b h1 h2 => ?_), by simpa using hhi, belSet6 hB1 (by omega) _ _ _ _ _ _⟩
    have hne : ∀ (wx : World) (p : Nat) (v : Value), (wx.setCell ⟨w.heap.size + 1, p, none⟩ v).heap[b]? = wx.heap[b]? := fun wx p v => heap_setCell_other _ _ b _ (by simp; omega)
    simp only [hne]
end Go.Proofs.Ytfhdnanbhigpmaa
