/- One event of the timer, at both packages. Conditions: as each contract says. -/
import Derived.Test.YtmfmkalgalmbcaaTv
namespace Go.Proofs.Ytmfmkalgalmbcaa
open Go.RowKit

theorem rowB {w w' : World} {H : Nat} {o : Obj} (hb : Below w.heap.size w w') (h : w.heap[H]? = some o) : w'.heap[H]? = some o := (hb.block H (Array.getElem?_eq_some_iff.1 h).1).trans h
theorem row_free {w : World} {g : Nat} {cs : Array Value} {p : Nat} {T : TypeId} (h : w.heap[g]? = some (.cells cs T (0, 0))) : w.frozen? ⟨g, p, none⟩ = false := by simp [World.frozen?, h]
theorem alloc2_0 (w : World) (a b : Obj) : ((w.alloc a).alloc b).heap[w.heap.size]? = some a := rowB (by exact (Below.refl _ _).alloc (Nat.le_refl _) _) (heap_alloc_new w a)
theorem alloc2_1 (w : World) (a b : Obj) : ((w.alloc a).alloc b).heap[w.heap.size + 1]? = some b := by
  have := heap_alloc_new (w.alloc a) b
  rwa [show (w.alloc a).heap.size = w.heap.size + 1 from by simp] at this
theorem alloc3_2 (w : World) (a b c : Obj) : (((w.alloc a).alloc b).alloc c).heap[w.heap.size + 1 + 1]? = some c := by
  have := heap_alloc_new ((w.alloc a).alloc b) c
  rwa [show ((w.alloc a).alloc b).heap.size = w.heap.size + 1 + 1 from by simp] at this
theorem alloc4_2 (w : World) (a b c d : Obj) : ((((w.alloc a).alloc b).alloc c).alloc d).heap[w.heap.size + 1 + 1]? = some c := by
  have := alloc2_0 ((w.alloc a).alloc b) c d
  rwa [show ((w.alloc a).alloc b).heap.size = w.heap.size + 1 + 1 from by simp] at this
theorem alloc4_3 (w : World) (a b c d : Obj) : ((((w.alloc a).alloc b).alloc c).alloc d).heap[w.heap.size + 1 + 1 + 1]? = some d := by
  have := alloc2_1 ((w.alloc a).alloc b) c d
  rwa [show ((w.alloc a).alloc b).heap.size = w.heap.size + 1 + 1 from by simp] at this
theorem zcells {w : World} {H : Nat} {a0 a1 a2 a3 a4 a5 a6 a7 : Value} (h : w.heap[H]? = some (.cells #[a0, a1, a2, a3, a4, a5, a6, a7] 26 (0, 0))) :
    (w.cell? ⟨H, 0, none⟩ = some a0 ∧ w.cell? ⟨H, 1, none⟩ = some a1 ∧ w.cell? ⟨H, 2, none⟩ = some a2 ∧ w.cell? ⟨H, 3, none⟩ = some a3 ∧ w.cell? ⟨H, 4, none⟩ = some a4 ∧ w.cell? ⟨H, 5, none⟩ = some a5 ∧ w.cell? ⟨H, 6, none⟩ = some a6 ∧ w.cell? ⟨H, 7, none⟩ = some a7) ∧
    w.frozen? ⟨H, 0, none⟩ = false ∧ w.frozen? ⟨H, 1, none⟩ = false ∧ w.frozen? ⟨H, 2, none⟩ = false ∧ w.frozen? ⟨H, 3, none⟩ = false ∧ w.frozen? ⟨H, 4, none⟩ = false ∧ w.frozen? ⟨H, 5, none⟩ = false ∧ w.frozen? ⟨H, 6, none⟩ = false ∧ w.frozen? ⟨H, 7, none⟩ = false :=
  ⟨⟨cell_of_row _ _ 0 _ _ (0, 0) h, cell_of_row _ _ 1 _ _ (0, 0) h, cell_of_row _ _ 2 _ _ (0, 0) h, cell_of_row _ _ 3 _ _ (0, 0) h, cell_of_row _ _ 4 _ _ (0, 0) h, cell_of_row _ _ 5 _ _ (0, 0) h, cell_of_row _ _ 6 _ _ (0, 0) h, cell_of_row _ _ 7 _ _ (0, 0) h⟩, row_free h, row_free h, row_free h, row_free h, row_free h, row_free h, row_free h, row_free h⟩
def Set8 (w : World) (H : Nat) (t : Tm) : World := (((((((w.setCell ⟨H, 0, none⟩ (.int .i64 t.ph)).setCell ⟨H, 1, none⟩ (.int .i64 t.la)).setCell ⟨H, 2, none⟩ (.int .i64 t.ins)).setCell ⟨H, 3, none⟩ (.int .i64 t.dn)).setCell ⟨H, 4, none⟩ (.int .i64 t.st)).setCell ⟨H, 5, none⟩ (.int .i64 t.sp)).setCell ⟨H, 6, none⟩ (.int .i64 t.pe)).setCell ⟨H, 7, none⟩ (.bool t.fl)
theorem set8_row {w : World} {H : Nat} {a0 a1 a2 a3 a4 a5 a6 a7 : Value} (h : w.heap[H]? = some (.cells #[a0, a1, a2, a3, a4, a5, a6, a7] 26 (0, 0))) (t : Tm) : (Set8 w H t).heap[H]? = some (.cells #[.int .i64 t.ph, .int .i64 t.la, .int .i64 t.ins, .int .i64 t.dn, .int .i64 t.st, .int .i64 t.sp, .int .i64 t.pe, .bool t.fl] 26) := by
  have h0 : (w.setCell ⟨H, 0, none⟩ (.int .i64 t.ph)).heap[H]? = some (.cells #[.int .i64 t.ph, a1, a2, a3, a4, a5, a6, a7] 26 (0, 0)) := heap_setCell_same _ H 0 _ _ (.int .i64 t.ph) h
  have h1 : ((w.setCell ⟨H, 0, none⟩ (.int .i64 t.ph)).setCell ⟨H, 1, none⟩ (.int .i64 t.la)).heap[H]? = some (.cells #[.int .i64 t.ph, .int .i64 t.la, a2, a3, a4, a5, a6, a7] 26 (0, 0)) := heap_setCell_same _ H 1 _ _ (.int .i64 t.la) h0
  have h2 : (((w.setCell ⟨H, 0, none⟩ (.int .i64 t.ph)).setCell ⟨H, 1, none⟩ (.int .i64 t.la)).setCell ⟨H, 2, none⟩ (.int .i64 t.ins)).heap[H]? = some (.cells #[.int .i64 t.ph, .int .i64 t.la, .int .i64 t.ins, a3, a4, a5, a6, a7] 26 (0, 0)) := heap_setCell_same _ H 2 _ _ (.int .i64 t.ins) h1
  have h3 : ((((w.setCell ⟨H, 0, none⟩ (.int .i64 t.ph)).setCell ⟨H, 1, none⟩ (.int .i64 t.la)).setCell ⟨H, 2, none⟩ (.int .i64 t.ins)).setCell ⟨H, 3, none⟩ (.int .i64 t.dn)).heap[H]? = some (.cells #[.int .i64 t.ph, .int .i64 t.la, .int .i64 t.ins, .int .i64 t.dn, a4, a5, a6, a7] 26 (0, 0)) := heap_setCell_same _ H 3 _ _ (.int .i64 t.dn) h2
  have h4 : (((((w.setCell ⟨H, 0, none⟩ (.int .i64 t.ph)).setCell ⟨H, 1, none⟩ (.int .i64 t.la)).setCell ⟨H, 2, none⟩ (.int .i64 t.ins)).setCell ⟨H, 3, none⟩ (.int .i64 t.dn)).setCell ⟨H, 4, none⟩ (.int .i64 t.st)).heap[H]? = some (.cells #[.int .i64 t.ph, .int .i64 t.la, .int .i64 t.ins, .int .i64 t.dn, .int .i64 t.st, a5, a6, a7] 26 (0, 0)) := heap_setCell_same _ H 4 _ _ (.int .i64 t.st) h3
  have h5 : ((((((w.setCell ⟨H, 0, none⟩ (.int .i64 t.ph)).setCell ⟨H, 1, none⟩ (.int .i64 t.la)).setCell ⟨H, 2, none⟩ (.int .i64 t.ins)).setCell ⟨H, 3, none⟩ (.int .i64 t.dn)).setCell ⟨H, 4, none⟩ (.int .i64 t.st)).setCell ⟨H, 5, none⟩ (.int .i64 t.sp)).heap[H]? = some (.cells #[.int .i64 t.ph, .int .i64 t.la, .int .i64 t.ins, .int .i64 t.dn, .int .i64 t.st, .int .i64 t.sp, a6, a7] 26 (0, 0)) := heap_setCell_same _ H 5 _ _ (.int .i64 t.sp) h4
  have h6 : (((((((w.setCell ⟨H, 0, none⟩ (.int .i64 t.ph)).setCell ⟨H, 1, none⟩ (.int .i64 t.la)).setCell ⟨H, 2, none⟩ (.int .i64 t.ins)).setCell ⟨H, 3, none⟩ (.int .i64 t.dn)).setCell ⟨H, 4, none⟩ (.int .i64 t.st)).setCell ⟨H, 5, none⟩ (.int .i64 t.sp)).setCell ⟨H, 6, none⟩ (.int .i64 t.pe)).heap[H]? = some (.cells #[.int .i64 t.ph, .int .i64 t.la, .int .i64 t.ins, .int .i64 t.dn, .int .i64 t.st, .int .i64 t.sp, .int .i64 t.pe, a7] 26 (0, 0)) := heap_setCell_same _ H 6 _ _ (.int .i64 t.pe) h5
  have h7 : ((((((((w.setCell ⟨H, 0, none⟩ (.int .i64 t.ph)).setCell ⟨H, 1, none⟩ (.int .i64 t.la)).setCell ⟨H, 2, none⟩ (.int .i64 t.ins)).setCell ⟨H, 3, none⟩ (.int .i64 t.dn)).setCell ⟨H, 4, none⟩ (.int .i64 t.st)).setCell ⟨H, 5, none⟩ (.int .i64 t.sp)).setCell ⟨H, 6, none⟩ (.int .i64 t.pe)).setCell ⟨H, 7, none⟩ (.bool t.fl)).heap[H]? = some (.cells #[.int .i64 t.ph, .int .i64 t.la, .int .i64 t.ins, .int .i64 t.dn, .int .i64 t.st, .int .i64 t.sp, .int .i64 t.pe, .bool t.fl] 26 (0, 0)) := heap_setCell_same _ H 7 _ _ (.bool t.fl) h6
  exact h7
theorem set8_other {w : World} {H K : Nat} {o : Obj} (h : w.heap[K]? = some o) (hne : K ≠ H) (t : Tm) : (Set8 w H t).heap[K]? = some o := by
  unfold Set8
  rw [heap_setCell_other _ _ _ _ hne, heap_setCell_other _ _ _ _ hne, heap_setCell_other _ _ _ _ hne, heap_setCell_other _ _ _ _ hne, heap_setCell_other _ _ _ _ hne, heap_setCell_other _ _ _ _ hne, heap_setCell_other _ _ _ _ hne, heap_setCell_other _ _ _ _ hne]
  exact h
theorem set8_below {B : Nat} {a w : World} {H : Nat} (h : Below B a w) (hH : B ≤ H) (t : Tm) : Below B a (Set8 w H t) :=
  (((((((h.setCell (p := ⟨H, 0, none⟩) hH _).setCell (p := ⟨H, 1, none⟩) hH _).setCell (p := ⟨H, 2, none⟩) hH _).setCell (p := ⟨H, 3, none⟩) hH _).setCell (p := ⟨H, 4, none⟩) hH _).setCell (p := ⟨H, 5, none⟩) hH _).setCell (p := ⟨H, 6, none⟩) hH _).setCell (p := ⟨H, 7, none⟩) hH _
def TpPost (t : Tm) (b : Bool) (w : World) (e : Ending) (w' : World) : Prop := e = .returned (.tuple #[.agg #[.int .i64 t.ph, .int .i64 t.la, .int .i64 t.ins, .int .i64 t.dn, .int .i64 t.st, .int .i64 t.sp, .int .i64 t.pe, .bool t.fl], .bool b]) ∧ Below w.heap.size w w'

set_option maxHeartbeats 1000000 in
theorem implAb0 (la at_ : Int) (w : World) : Calls Try.prog 43 #[.agg #[.int .i64 0, .int .i64 la, .int .i64 0, .int .i64 0, .int .i64 0, .int .i64 0, .int .i64 0, .bool false], .int .i64 at_] w (TpPost ⟨0, la, 0, 0, 0, 0, 0, false⟩ false w) := by
  go_enter Try.func43, Try.ntmps43
  go_wp2_with fail
  exact bodyPost_ret (v := .tuple #[.agg #[.int .i64 0, .int .i64 la, .int .i64 0, .int .i64 0, .int .i64 0, .int .i64 0, .int .i64 0, .bool false], .bool false]) (by simp [results, Try.results43, go_sem]) rfl ⟨rfl, (by repeat (first | exact Below.refl _ _ | assumption | refine Below.setCell ?_ (by first | omega | (simp <;> omega)) _ | refine Below.alloc ?_ (by first | omega | (simp <;> omega)) _ | refine Below.drew ?_))⟩

set_option maxHeartbeats 1000000 in
theorem implAb1 (la ins at_ : Int) (w : World) : Calls Try.prog 43 #[.agg #[.int .i64 1, .int .i64 la, .int .i64 ins, .int .i64 0, .int .i64 0, .int .i64 0, .int .i64 0, .bool false], .int .i64 at_] w (TpPost ⟨4, at_, ins, 0, 0, 0, 0, true⟩ true w) := by
  go_enter Try.func43, Try.ntmps43
  go_wp2_with fail
  exact bodyPost_ret (v := .tuple #[.agg #[.int .i64 4, .int .i64 at_, .int .i64 ins, .int .i64 0, .int .i64 0, .int .i64 0, .int .i64 0, .bool true], .bool true]) (by simp [results, Try.results43, go_sem]) rfl ⟨rfl, (by repeat (first | exact Below.refl _ _ | assumption | refine Below.setCell ?_ (by first | omega | (simp <;> omega)) _ | refine Below.alloc ?_ (by first | omega | (simp <;> omega)) _ | refine Below.drew ?_))⟩

set_option maxHeartbeats 1000000 in
theorem implAb2 (la ins at_ : Int) (w : World) : Calls Try.prog 43 #[.agg #[.int .i64 2, .int .i64 la, .int .i64 ins, .int .i64 la, .int .i64 0, .int .i64 0, .int .i64 0, .bool false], .int .i64 at_] w (TpPost ⟨4, at_, ins, 0, 0, 0, 0, true⟩ true w) := by
  go_enter Try.func43, Try.ntmps43
  go_wp2_with fail
  exact bodyPost_ret (v := .tuple #[.agg #[.int .i64 4, .int .i64 at_, .int .i64 ins, .int .i64 0, .int .i64 0, .int .i64 0, .int .i64 0, .bool true], .bool true]) (by simp [results, Try.results43, go_sem]) rfl ⟨rfl, (by repeat (first | exact Below.refl _ _ | assumption | refine Below.setCell ?_ (by first | omega | (simp <;> omega)) _ | refine Below.alloc ?_ (by first | omega | (simp <;> omega)) _ | refine Below.drew ?_))⟩

set_option maxHeartbeats 1000000 in
theorem implAb3 (la ins p at_ : Int) (f : Bool) (w : World) : Calls Try.prog 43 #[.agg #[.int .i64 3, .int .i64 la, .int .i64 ins, .int .i64 0, .int .i64 la, .int .i64 0, .int .i64 p, .bool f], .int .i64 at_] w (TpPost ⟨4, at_, ins, 0, la, at_, 0, true⟩ true w) := by
  go_enter Try.func43, Try.ntmps43
  go_wp2_with fail
  exact bodyPost_ret (v := .tuple #[.agg #[.int .i64 4, .int .i64 at_, .int .i64 ins, .int .i64 0, .int .i64 la, .int .i64 at_, .int .i64 0, .bool true], .bool true]) (by simp [results, Try.results43, go_sem]) rfl ⟨rfl, (by repeat (first | exact Below.refl _ _ | assumption | refine Below.setCell ?_ (by first | omega | (simp <;> omega)) _ | refine Below.alloc ?_ (by first | omega | (simp <;> omega)) _ | refine Below.drew ?_))⟩

set_option maxHeartbeats 1000000 in
theorem implAb4 (la ins st sp pe at_ : Int) (fl : Bool) (w : World) : Calls Try.prog 43 #[.agg #[.int .i64 4, .int .i64 la, .int .i64 ins, .int .i64 0, .int .i64 st, .int .i64 sp, .int .i64 pe, .bool fl], .int .i64 at_] w (TpPost ⟨4, la, ins, 0, st, sp, pe, fl⟩ false w) := by
  go_enter Try.func43, Try.ntmps43
  go_wp2_with fail
  exact bodyPost_ret (v := .tuple #[.agg #[.int .i64 4, .int .i64 la, .int .i64 ins, .int .i64 0, .int .i64 st, .int .i64 sp, .int .i64 pe, .bool fl], .bool false]) (by simp [results, Try.results43, go_sem]) rfl ⟨rfl, (by repeat (first | exact Below.refl _ _ | assumption | refine Below.setCell ?_ (by first | omega | (simp <;> omega)) _ | refine Below.alloc ?_ (by first | omega | (simp <;> omega)) _ | refine Below.drew ?_))⟩

set_option maxHeartbeats 1000000 in
theorem implUp1 (la ins at_ : Int) (w : World) (_h1 : la ≤ at_) (h3 : at_ - la < 55) : Calls Try.prog 42 #[.agg #[.int .i64 2, .int .i64 la, .int .i64 ins, .int .i64 la, .int .i64 0, .int .i64 0, .int .i64 0, .bool false], .int .i64 at_] w (TmPost ⟨1, at_, ins, 0, 0, 0, 0, false⟩ w) := by
  have h3a : decide (at_ - la < 55) = true := decide_eq_true h3
  go_enter Try.func42, Try.ntmps42
  go_wp2_with fail
  exact bodyPost_ret (v := .agg #[.int .i64 1, .int .i64 at_, .int .i64 ins, .int .i64 0, .int .i64 0, .int .i64 0, .int .i64 0, .bool false]) (by simp [results, Try.results42, go_sem]) rfl ⟨rfl, (by repeat (first | exact Below.refl _ _ | assumption | refine Below.setCell ?_ (by first | omega | (simp <;> omega)) _ | refine Below.alloc ?_ (by first | omega | (simp <;> omega)) _ | refine Below.drew ?_))⟩
set_option maxHeartbeats 8000000 in
theorem implUp2 (la ins at_ p : Int) (f : Bool) (w : World) (hs : startedT at_ ins = ⟨3, at_, ins, 0, at_, 0, p, f⟩) (h00 : 0 ≤ ins) (h01 : ins ≤ la) (_h1 : la ≤ at_) (h2 : at_ ≤ 360000) (h3 : ¬ at_ - la < 55) : Calls Try.prog 42 #[.agg #[.int .i64 2, .int .i64 la, .int .i64 ins, .int .i64 la, .int .i64 0, .int .i64 0, .int .i64 0, .bool false], .int .i64 at_] w (TmPost ⟨3, at_, ins, 0, at_, 0, p, f⟩ w) := by
  have h3a : decide (at_ - la < 55) = false := decide_eq_false h3
  have hc := fun w => implStarted at_ ins w h00 (by omega) h2
  rw [hs] at hc
  have HC := Lib.hid hc
  clear hc hs
  go_enter Try.func42, Try.ntmps42
  go_wp2_with fail
  refine (HC.out _).mono ?_
  rintro e w1 ⟨rfl, hb1⟩
  have hB1 : Below w.heap.size w w1 := belowStep hb1 (by exact (by repeat (first | exact Below.refl _ _ | assumption | refine Below.setCell ?_ (by first | omega | (simp <;> omega)) _ | refine Below.alloc ?_ (by first | omega | (simp <;> omega)) _ | refine Below.drew ?_)))
  have hr1 : w1.heap[w.heap.size + 1]? = some (.cells #[.int .i64 0, .int .i64 0, .int .i64 0, .int .i64 0, .int .i64 0, .int .i64 0, .int .i64 0, .bool false] 26 (0, 0)) := rowB hb1 (by exact alloc2_1 w _ _)
  obtain ⟨⟨j0, j1, j2, j3, j4, j5, j6, j7⟩, f0, f1, f2, f3, f4, f5, f6, f7⟩ := zcells hr1
  have HR := Lib.hid (set8_row hr1 ⟨3, at_, ins, 0, at_, 0, p, f⟩)
  have HB := Lib.hid (set8_below hB1 (H := w.heap.size + 1) (Nat.le_succ _) ⟨3, at_, ins, 0, at_, 0, p, f⟩)
  unfold Set8 at HR HB
  clear hb1 hr1 hB1
  go_wp2_with fail
  obtain ⟨⟨k0, k1, k2, k3, k4, k5, k6, k7⟩, -⟩ := zcells HR.out
  exact bodyPost_ret (v := .agg #[.int .i64 3, .int .i64 at_, .int .i64 ins, .int .i64 0, .int .i64 at_, .int .i64 0, .int .i64 p, .bool f]) (by simp only [results, Try.results42]; simp [go_sem, k0, k1, k2, k3, k4, k5, k6, k7]) rfl ⟨rfl, HB.out⟩
end Go.Proofs.Ytmfmkalgalmbcaa
