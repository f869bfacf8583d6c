/- Rules of a round drawn from a source. Conditions: as each contract says. -/
import Derived.Test.YtejacbgogcjbnaaDg
import Derived.Deep.RegionWith
namespace Go.Proofs.Ytejacbgogcjbnaa
open Go.RowKit

theorem alloc2_0 (w : World) (a b : Obj) : ((w.alloc a).alloc b).heap[w.heap.size]? = some a := rowB (by exact (Below.refl _ _).alloc (Nat.le_refl _) _) (heap_alloc_new w a)
theorem alloc2_1 (w : World) (a b : Obj) : ((w.alloc a).alloc b).heap[w.heap.size + 1]? = some b := by
  have := heap_alloc_new (w.alloc a) b
  rwa [show (w.alloc a).heap.size = w.heap.size + 1 from by simp] at this
def RRow (w : World) (T : Nat) (r : RR) : Prop := w.heap[T]? = some (.cells #[.int .i64 r.att, .int .i64 r.lim, .int .i64 r.catt, .int .i64 r.cut, .int .i64 r.adv] 25 (0, 0))
def RR.zero : RR := ⟨0, 0, 0, 0, 0⟩
/-- Rules in the making: block T; block H is the result's. -/
structure DrawR (w wr : World) (g T H : Nat) (A : Option Addr) (c : Nat) (xs : List Int) (r : RR) : Prop where
  src : SrcAt wr g A c xs
  grown : w.grownBy wr (some g)
  row : RRow wr T r
  res : RRow wr H .zero
  neT : T ≠ g
  neH : H ≠ g
  ne : T ≠ H
  newT : w.heap.size ≤ T
  newH : w.heap.size ≤ H
theorem DrawR.draw {w w1 w2 : World} {g T H : Nat} {A : Option Addr} {c : Nat} {xs : List Int} {r : RR} (h : DrawR w w1 g T H A c xs r) (hd : SrcAt w2 g A c xs) (hg : w1.grownBy w2 (some g)) : DrawR w w2 g T H A c xs r :=
  ⟨hd, grownTrans h.grown hg, rowG hg h.row h.neT, rowG hg h.res h.neH, h.neT, h.neH, h.ne, h.newT, h.newH⟩
theorem rowS {w : World} {H : Nat} {o : Obj} {a : Addr} {v : Value} (h : w.heap[H]? = some o) (hne : H ≠ a.block) : (w.setCell a v).heap[H]? = some o := (heap_setCell_other w a H v hne).trans h
theorem DrawR.set {w wr : World} {g T H : Nat} {A : Option Addr} {c : Nat} {xs : List Int} {r r' : RR} (h : DrawR w wr g T H A c xs r) (hlow : ∀ b off, A = some ⟨b, off, none⟩ → 0 < xs.length → b < w.heap.size) (hg : g < w.heap.size) (p : Nat) (v : Value) (hr : RRow (wr.setCell ⟨T, p, none⟩ v) T r') : DrawR w (wr.setCell ⟨T, p, none⟩ v) g T H A c xs r' :=
  ⟨h.src.keep ((Below.refl _ _).setCell (p := ⟨T, p, none⟩) h.newT _) hg hlow, ⟨h.grown.os, h.grown.tape, h.grown.output, by simpa using h.grown.size, fun k hk hne => (heap_setCell_other wr ⟨T, p, none⟩ k v (by have := h.newT; simp; omega)).trans (h.grown.block k hk hne)⟩, hr, rowS h.res (fun e => h.ne e.symm), h.neT, h.neH, h.ne, h.newT, h.newH⟩
theorem RRow.s0 {w : World} {T : Nat} {r : RR} (h : RRow w T r) (x : Int) : RRow (w.setCell ⟨T, 0, none⟩ (.int .i64 x)) T { r with att := x } := by
  unfold RRow at *
  simp [World.setCell, Array.getElem?_modify, h]
theorem RRow.s1 {w : World} {T : Nat} {r : RR} (h : RRow w T r) (x : Int) : RRow (w.setCell ⟨T, 1, none⟩ (.int .i64 x)) T { r with lim := x } := by
  unfold RRow at *
  simp [World.setCell, Array.getElem?_modify, h]
theorem RRow.s2 {w : World} {T : Nat} {r : RR} (h : RRow w T r) (x : Int) : RRow (w.setCell ⟨T, 2, none⟩ (.int .i64 x)) T { r with catt := x } := by
  unfold RRow at *
  simp [World.setCell, Array.getElem?_modify, h]
theorem RRow.s3 {w : World} {T : Nat} {r : RR} (h : RRow w T r) (x : Int) : RRow (w.setCell ⟨T, 3, none⟩ (.int .i64 x)) T { r with cut := x } := by
  unfold RRow at *
  simp [World.setCell, Array.getElem?_modify, h]
theorem RRow.s4 {w : World} {T : Nat} {r : RR} (h : RRow w T r) (x : Int) : RRow (w.setCell ⟨T, 4, none⟩ (.int .i64 x)) T { r with adv := x } := by
  unfold RRow at *
  simp [World.setCell, Array.getElem?_modify, h]
theorem DrawR.s0 {w wr : World} {g T H : Nat} {A : Option Addr} {c : Nat} {xs : List Int} {r : RR} (h : DrawR w wr g T H A c xs r) (hlow : ∀ b off, A = some ⟨b, off, none⟩ → 0 < xs.length → b < w.heap.size) (hg : g < w.heap.size) (x : Int) : DrawR w (wr.setCell ⟨T, 0, none⟩ (.int .i64 x)) g T H A c xs { r with att := x } := h.set hlow hg 0 _ (h.row.s0 x)
theorem DrawR.s1 {w wr : World} {g T H : Nat} {A : Option Addr} {c : Nat} {xs : List Int} {r : RR} (h : DrawR w wr g T H A c xs r) (hlow : ∀ b off, A = some ⟨b, off, none⟩ → 0 < xs.length → b < w.heap.size) (hg : g < w.heap.size) (x : Int) : DrawR w (wr.setCell ⟨T, 1, none⟩ (.int .i64 x)) g T H A c xs { r with lim := x } := h.set hlow hg 1 _ (h.row.s1 x)
theorem DrawR.s2 {w wr : World} {g T H : Nat} {A : Option Addr} {c : Nat} {xs : List Int} {r : RR} (h : DrawR w wr g T H A c xs r) (hlow : ∀ b off, A = some ⟨b, off, none⟩ → 0 < xs.length → b < w.heap.size) (hg : g < w.heap.size) (x : Int) : DrawR w (wr.setCell ⟨T, 2, none⟩ (.int .i64 x)) g T H A c xs { r with catt := x } := h.set hlow hg 2 _ (h.row.s2 x)
theorem DrawR.s3 {w wr : World} {g T H : Nat} {A : Option Addr} {c : Nat} {xs : List Int} {r : RR} (h : DrawR w wr g T H A c xs r) (hlow : ∀ b off, A = some ⟨b, off, none⟩ → 0 < xs.length → b < w.heap.size) (hg : g < w.heap.size) (x : Int) : DrawR w (wr.setCell ⟨T, 3, none⟩ (.int .i64 x)) g T H A c xs { r with cut := x } := h.set hlow hg 3 _ (h.row.s3 x)
theorem DrawR.s4 {w wr : World} {g T H : Nat} {A : Option Addr} {c : Nat} {xs : List Int} {r : RR} (h : DrawR w wr g T H A c xs r) (hlow : ∀ b off, A = some ⟨b, off, none⟩ → 0 < xs.length → b < w.heap.size) (hg : g < w.heap.size) (x : Int) : DrawR w (wr.setCell ⟨T, 4, none⟩ (.int .i64 x)) g T H A c xs { r with adv := x } := h.set hlow hg 4 _ (h.row.s4 x)
theorem DrawR.below {w wr w2 : World} {g T H : Nat} {A : Option Addr} {c : Nat} {xs : List Int} {r : RR} (h : DrawR w wr g T H A c xs r) (hb : Below wr.heap.size wr w2) : DrawR w w2 g T H A c xs r :=
  ⟨h.src.below hb, grownB h.grown hb, rowB hb h.row, rowB hb h.res, h.neT, h.neH, h.ne, h.newT, h.newH⟩
theorem DrawR.of {w wr w2 : World} {g T H : Nat} {A : Option Addr} {c : Nat} {xs : List Int} {r : RR} (hd : SrcAt wr g A c xs) (hG : w.grownBy wr (some g)) (hres : RRow wr H .zero) (hgH : H ≠ g) (hgw : g < w.heap.size) (hH : w.heap.size = H) (hb : Below wr.heap.size wr w2) (hT : RRow w2 T r) (hTw : wr.heap.size ≤ T) (hz : w.heap.size < wr.heap.size) : DrawR w w2 g T H A c xs r :=
  ⟨hd.below hb, grownB hG hb, hT, rowB hb hres, by omega, hgH, by omega, by omega, by omega⟩
theorem DrawR.set5 {w wr : World} {g T H : Nat} {A : Option Addr} {c : Nat} {xs : List Int} (h : DrawR w wr g T H A c xs .zero) (hlow : ∀ b off, A = some ⟨b, off, none⟩ → 0 < xs.length → b < w.heap.size) (hg : g < w.heap.size) (v0 v1 v2 v3 v4 : Int) :
    DrawR w (((((wr.setCell ⟨T, 0, none⟩ (.int .i64 v0)).setCell ⟨T, 1, none⟩ (.int .i64 v1)).setCell ⟨T, 2, none⟩ (.int .i64 v2)).setCell ⟨T, 3, none⟩ (.int .i64 v3)).setCell ⟨T, 4, none⟩ (.int .i64 v4)) g T H A c xs ⟨v0, v1, v2, v3, v4⟩ :=
  ((((h.s0 hlow hg v0).s1 hlow hg v1).s2 hlow hg v2).s3 hlow hg v3).s4 hlow hg v4
def RulesDrawn (g : Nat) (A : Option Addr) (c : Nat) (xs : List Int) (w : World) (e : Ending) (w' : World) : Prop :=
  ∃ r : RR, e = .returned (.agg #[.int .i64 r.att, .int .i64 r.lim, .int .i64 r.catt, .int .i64 r.cut, .int .i64 r.adv]) ∧ SrcAt w' g A c xs ∧ w.grownBy w' (some g)
theorem picks4 {m : Nat} (h : m < 4) : ∃ z : Int, ([5, 3, 2, 1] : List Int).getD m 0 = z ∧ 1 ≤ z ∧ z ≤ 5 := by
  match m, h with
  | 0, _ | 1, _ | 2, _ | 3, _ => simp
theorem picksV {m : Nat} (h : m < 4) {z : Int} (hz : ([5, 3, 2, 1] : List Int).getD m 0 = z) : ([.int .i64 5, .int .i64 3, .int .i64 2, .int .i64 1] : List Value)[m]? = some (.int .i64 z) := by
  subst hz
  match m, h with
  | 0, _ | 1, _ | 2, _ | 3, _ => rfl
theorem picksA {m : Nat} (h : m < 4) {z : Int} (hz : ([5, 3, 2, 1] : List Int).getD m 0 = z) : (#[.int .i64 5, .int .i64 3, .int .i64 2, .int .i64 1] : Array Value)[m]? = some (.int .i64 z) := by
  subst hz
  match m, h with
  | 0, _ | 1, _ | 2, _ | 3, _ => rfl
set_option maxRecDepth 100000 in
set_option maxHeartbeats 80000000 in
theorem srcRules (g : Nat) (A : Option Addr) (c : Nat) (xs : List Int) (w : World) (hd : SrcAt w g A c xs) (hl : xs.length ≤ 4096) :
    Calls Try.prog 31 #[.pointer (some ⟨g, 0, none⟩)] w (RulesDrawn g A c xs w) := by
  have hlow := Lib.hid hd.low
  have hgw := hd.lt
  obtain ⟨w0, hw0⟩ : ∃ w0, w.alloc (.cells #[.int .i64 0, .int .i64 0, .int .i64 0, .int .i64 0, .int .i64 0] 25) = w0 := ⟨_, rfl⟩
  have hH0 : RRow w0 w.heap.size .zero := by rw [← hw0]; exact heap_alloc_new w _
  have hd0 : SrcAt w0 g A c xs := by rw [← hw0]; exact hd.below (by repeat (first | exact Below.refl _ _ | assumption | refine Below.setCell ?_ (by first | omega | (simp <;> omega)) _ | refine Below.alloc ?_ (by first | omega | (simp <;> omega)) _ | refine Below.drew ?_))
  have hG0 : w.grownBy w0 (some g) := by rw [← hw0]; exact World.grownBy_alloc _ _ _
  have hz0 : w.heap.size < w0.heap.size := (Array.getElem?_eq_some_iff.1 hH0).1
  have hgne : w.heap.size ≠ g := by omega
  have HH0 := Lib.hid hH0
  clear hd hH0
  go_enter Try.func31, Try.ntmps31
  go_upto_region 1 with fail
  clear hw0
  go_cut [3] from 4 to 14 (fun p wx => ∃ (T : Nat) (r : RR), p = .pointer (some ⟨T, 0, none⟩) ∧ DrawR w wx g T w.heap.size A c xs r ∧ 1 ≤ r.att ∧ r.att ≤ 5)
  case first =>
    have hne0 : w0.heap.size ≠ g := by omega
    have hne1 : w0.heap.size + 1 ≠ g := by omega
    go_region_with (first
      | (go_at_call 33; have _t := tok2; refine (srcBelow g A c xs 4 _ (by exact hd2.below (by repeat (first | exact Below.refl _ _ | assumption | refine Below.setCell ?_ (by first | omega | (simp <;> omega)) _ | refine Below.alloc ?_ (by first | omega | (simp <;> omega)) _ | refine Below.drew ?_))) hl (by omega) (by omega)).mono ?_; rintro e w3 ⟨y3, rfl, y30, y31, hd3, hg3⟩; have hG3 : w0.grownBy w3 (some g) := grownTrans (grownB hG2 (by exact (by repeat (first | exact Below.refl _ _ | assumption | refine Below.setCell ?_ (by first | omega | (simp <;> omega)) _ | refine Below.alloc ?_ (by first | omega | (simp <;> omega)) _ | refine Below.drew ?_)))) hg3; have hz3 := hG3.size
          ; (first | replace hT := rowG hg3 (rowB (by exact (by repeat (first | exact Below.refl _ _ | assumption | refine Below.setCell ?_ (by first | omega | (simp <;> omega)) _ | refine Below.alloc ?_ (by first | omega | (simp <;> omega)) _ | refine Below.drew ?_))) hT) (by omega) | have hT : w3.heap[w2.heap.size]? = some (.cells #[.int .i64 0, .int .i64 0, .int .i64 0, .int .i64 0, .int .i64 0] 25 (0, 0)) := rowG hg3 (by first | exact heap_alloc_new w2 _ | exact alloc2_0 w2 _ _) (by omega) | have hT : w3.heap[w2.heap.size + 1]? = some (.cells #[.int .i64 0, .int .i64 0, .int .i64 0, .int .i64 0, .int .i64 0] 25 (0, 0)) := rowG hg3 (by exact alloc2_1 w2 _ _) (by omega) | skip)
          ; (first | replace hS := rowG hg3 (rowB (by exact (by repeat (first | exact Below.refl _ _ | assumption | refine Below.setCell ?_ (by first | omega | (simp <;> omega)) _ | refine Below.alloc ?_ (by first | omega | (simp <;> omega)) _ | refine Below.drew ?_))) hS) (by omega) | have hS : w3.heap[w2.heap.size]? = some (.cells #[.int .i64 5, .int .i64 3, .int .i64 2, .int .i64 1] 2 (0, 0)) := rowG hg3 (by first | exact heap_alloc_new w2 _ | exact alloc2_0 w2 _ _) (by omega) | have hS : w3.heap[w2.heap.size + 1]? = some (.cells #[.int .i64 5, .int .i64 3, .int .i64 2, .int .i64 1] 2 (0, 0)) := rowG hg3 (by exact alloc2_1 w2 _ _) (by omega) | skip)
          ; (try (have hp := pick_at (m := m) [5, 3, 2, 1] hS rfl (by simp; omega); rw [HZ.out] at hp; have hpn := World.new_ne _ _ hp; have hpl := World.block_lt_of_cell? _ _ hp; dsimp only at hpn hpl)); (try (have k0 := cell_of_row _ _ 0 _ _ (0, 0) hT; have k1 := cell_of_row _ _ 1 _ _ (0, 0) hT; have k2 := cell_of_row _ _ 2 _ _ (0, 0) hT; have k3 := cell_of_row _ _ 3 _ _ (0, 0) hT; have k4 := cell_of_row _ _ 4 _ _ (0, 0) hT; have f0 := row_free (p := 0) hT; have f1 := row_free (p := 1) hT; have f2 := row_free (p := 2) hT; have f3 := row_free (p := 3) hT; have f4 := row_free (p := 4) hT; have kn := World.new_ne _ _ k0; have kl := World.block_lt_of_cell? _ _ k0; dsimp only at kn kl; have HT := Lib.hid hT; clear hT)))
      | (go_at_call 33; have _t := tok1; refine (srcBelow g A c xs 10 _ (by exact hd1.below (by repeat (first | exact Below.refl _ _ | assumption | refine Below.setCell ?_ (by first | omega | (simp <;> omega)) _ | refine Below.alloc ?_ (by first | omega | (simp <;> omega)) _ | refine Below.drew ?_))) hl (by omega) (by omega)).mono ?_; rintro e w2 ⟨y2, rfl, y20, y21, hd2, hg2⟩; have tok2 : True := trivial; have hG2 : w0.grownBy w2 (some g) := grownTrans (grownB hG1 (by exact (by repeat (first | exact Below.refl _ _ | assumption | refine Below.setCell ?_ (by first | omega | (simp <;> omega)) _ | refine Below.alloc ?_ (by first | omega | (simp <;> omega)) _ | refine Below.drew ?_)))) hg2; have hz2 := hG2.size
          ; (first | replace hT := rowG hg2 (rowB (by exact (by repeat (first | exact Below.refl _ _ | assumption | refine Below.setCell ?_ (by first | omega | (simp <;> omega)) _ | refine Below.alloc ?_ (by first | omega | (simp <;> omega)) _ | refine Below.drew ?_))) hT) (by omega) | have hT : w2.heap[w1.heap.size]? = some (.cells #[.int .i64 0, .int .i64 0, .int .i64 0, .int .i64 0, .int .i64 0] 25 (0, 0)) := rowG hg2 (by first | exact heap_alloc_new w1 _ | exact alloc2_0 w1 _ _) (by omega) | have hT : w2.heap[w1.heap.size + 1]? = some (.cells #[.int .i64 0, .int .i64 0, .int .i64 0, .int .i64 0, .int .i64 0] 25 (0, 0)) := rowG hg2 (by exact alloc2_1 w1 _ _) (by omega) | skip)
          ; (first | replace hS := rowG hg2 (rowB (by exact (by repeat (first | exact Below.refl _ _ | assumption | refine Below.setCell ?_ (by first | omega | (simp <;> omega)) _ | refine Below.alloc ?_ (by first | omega | (simp <;> omega)) _ | refine Below.drew ?_))) hS) (by omega) | have hS : w2.heap[w1.heap.size]? = some (.cells #[.int .i64 5, .int .i64 3, .int .i64 2, .int .i64 1] 2 (0, 0)) := rowG hg2 (by first | exact heap_alloc_new w1 _ | exact alloc2_0 w1 _ _) (by omega) | have hS : w2.heap[w1.heap.size + 1]? = some (.cells #[.int .i64 5, .int .i64 3, .int .i64 2, .int .i64 1] 2 (0, 0)) := rowG hg2 (by exact alloc2_1 w1 _ _) (by omega) | skip)
          ; (try (have hp := pick_at (m := m) [5, 3, 2, 1] hS rfl (by simp; omega); rw [HZ.out] at hp; have hpn := World.new_ne _ _ hp; have hpl := World.block_lt_of_cell? _ _ hp; dsimp only at hpn hpl)))
      | (go_at_call 33; refine (srcBelow g A c xs 4 _ (by exact hd0.below (by repeat (first | exact Below.refl _ _ | assumption | refine Below.setCell ?_ (by first | omega | (simp <;> omega)) _ | refine Below.alloc ?_ (by first | omega | (simp <;> omega)) _ | refine Below.drew ?_))) hl (by omega) (by omega)).mono ?_; rintro e w1 ⟨y1, rfl, y10, y11, hd1, hg1⟩; have tok1 : True := trivial; have hG1 : w0.grownBy w1 (some g) := grownTrans (grownThen (gRefl w0 (some g)) (by exact (by repeat (first | exact Below.refl _ _ | assumption | refine Below.setCell ?_ (by first | omega | (simp <;> omega)) _ | refine Below.alloc ?_ (by first | omega | (simp <;> omega)) _ | refine Below.drew ?_)))) hg1; have hz1 := hG1.size
          ; obtain ⟨m, rfl⟩ := Int.eq_ofNat_of_zero_le y10
          ; obtain ⟨z, hz, zlo, zhi⟩ := picks4 (m := m) (by omega)
          ; have HZ := Lib.hid hz
          ; clear hz
          ; have hq : ([.int .i64 5, .int .i64 3, .int .i64 2, .int .i64 1] : List Value)[m]? = some (.int .i64 z) := picksV (by omega) HZ.out
          ; have hqa : (#[.int .i64 5, .int .i64 3, .int .i64 2, .int .i64 1] : Array Value)[m]? = some (.int .i64 z) := picksA (by omega) HZ.out
          ; (first | have hT : w1.heap[w0.heap.size]? = some (.cells #[.int .i64 0, .int .i64 0, .int .i64 0, .int .i64 0, .int .i64 0] 25 (0, 0)) := rowG hg1 (by first | exact heap_alloc_new w0 _ | exact alloc2_0 w0 _ _) hne0 | have hT : w1.heap[w0.heap.size + 1]? = some (.cells #[.int .i64 0, .int .i64 0, .int .i64 0, .int .i64 0, .int .i64 0] 25 (0, 0)) := rowG hg1 (by exact alloc2_1 w0 _ _) hne1 | skip)
          ; (first | have hS : w1.heap[w0.heap.size]? = some (.cells #[.int .i64 5, .int .i64 3, .int .i64 2, .int .i64 1] 2 (0, 0)) := rowG hg1 (by first | exact heap_alloc_new w0 _ | exact alloc2_0 w0 _ _) hne0 | have hS : w1.heap[w0.heap.size + 1]? = some (.cells #[.int .i64 5, .int .i64 3, .int .i64 2, .int .i64 1] 2 (0, 0)) := rowG hg1 (by exact alloc2_1 w0 _ _) hne1 | skip)
          ; (try (have hp := pick_at (m := m) [5, 3, 2, 1] hS rfl (by simp; omega); rw [HZ.out] at hp; have hpn := World.new_ne _ _ hp; have hpl := World.block_lt_of_cell? _ _ hp; dsimp only at hpn hpl))))
    all_goals
      have hGG := grownTrans hG0 hG3
      have hres3 : RRow w3 w.heap.size .zero := rowG hG3 HH0.out hgne
      have hz03 : w.heap.size < w3.heap.size := by omega
      clear HH0 hG0 hG1 hG2 hG3 hd0 hd1 hd2
      go_wp2_with fail
      go_meet
      refine ⟨_, ⟨z, IntKind.i64.wrap (105 + y2), 0, 0, y3⟩, rfl, ?_, zlo, zhi⟩
      first
        | (have D0 : DrawR w w3 g _ w.heap.size A c xs .zero := ⟨hd3, hGG, HT.out, hres3, by omega, hgne, by omega, by omega, Nat.le_refl _⟩
           have D1 := D0.set5 hlow.out hgw z (IntKind.i64.wrap (105 + y2)) 0 0 y3
           first
             | (with_reducible exact D1)
             | (have D2 := D1.below (w2 := _) ((Below.refl _ _).alloc (Nat.le_refl _) (.cells #[.int .i64 5, .int .i64 3, .int .i64 2, .int .i64 1] 2)); with_reducible exact D2))
        | (have D1 : DrawR w (w3.alloc (.cells #[.int .i64 z, .int .i64 (IntKind.i64.wrap (105 + y2)), .int .i64 0, .int .i64 0, .int .i64 y3] 25)) g w3.heap.size w.heap.size A c xs ⟨z, IntKind.i64.wrap (105 + y2), 0, 0, y3⟩ := DrawR.of hd3 hGG hres3 hgne hgw rfl (by exact (Below.refl _ _).alloc (Nat.le_refl _) _) (by exact heap_alloc_new w3 _) (Nat.le_refl _) hz03
           first
             | (with_reducible exact D1)
             | (have D2 := D1.below (w2 := _) ((Below.refl _ _).alloc (Nat.le_refl _) (.cells #[.int .i64 5, .int .i64 3, .int .i64 2, .int .i64 1] 2)); with_reducible exact D2)
             | (have D3 : DrawR w ((w3.alloc (.cells #[.int .i64 5, .int .i64 3, .int .i64 2, .int .i64 1] 2)).alloc (.cells #[.int .i64 z, .int .i64 (IntKind.i64.wrap (105 + y2)), .int .i64 0, .int .i64 0, .int .i64 y3] 25)) g (w3.heap.size + 1) w.heap.size A c xs ⟨z, IntKind.i64.wrap (105 + y2), 0, 0, y3⟩ := DrawR.of hd3 hGG hres3 hgne hgw rfl (by exact ((Below.refl _ _).alloc (Nat.le_refl _) _).alloc (by simp) _) (by exact alloc2_1 w3 _ _) (Nat.le_succ _) hz03
                with_reducible exact D3))
  case rest =>
    obtain ⟨T, r, rfl, hD, ha1, ha5⟩ := hcut
    have c0 : wc.cell? ⟨T, 0, none⟩ = some (.int .i64 r.att) := cell_of_row _ _ 0 _ _ (0, 0) hD.row
    have HD := Lib.hid hD
    clear HH0 hd0 hG0 hz0 hD
    go_upto_region 2 with fail
    go_cut [21] from 15 to 62 (fun p wx => ∃ bb : Bool, p = .bool bb ∧ (bb = true → 1 < r.att) ∧ DrawR w wx g T w.heap.size A c xs r)
    case first =>
      by_cases hat : 1 < r.att
      · have pa : decide (1 < r.att) = true := decide_eq_true hat
        go_wp2_with fail
        refine (srcOneIn g A c xs 2 _ HD.out.src hl (by omega) (by omega)).mono ?_
        rintro e w4 ⟨b, rfl, hd4, hg4⟩
        have HD4 := Lib.hid (HD.out.draw hd4 hg4)
        clear hd4 hg4 c0 HD
        go_wp2_with fail
        go_meet
        exact ⟨b, rfl, fun _ => hat, HD4.out⟩
      · have pa : decide (1 < r.att) = false := decide_eq_false hat
        go_wp2_with fail
        go_meet
        exact ⟨false, rfl, (fun h => by cases h), HD.out⟩
    case rest =>
      clear HD c0
      obtain ⟨bb, rfl, hbb, hD⟩ := hcut
      have HBB := Lib.hid hbb
      clear hbb
      go_upto_if 21 with fail
      go_cut [] from 15 to 62 (fun wx => ∃ r : RR, DrawR w wx g T w.heap.size A c xs r)
      case first =>
        cases bb
        · go_wp2_with fail
          go_meet
          exact ⟨r, hD⟩
        · have hat := HBB.out rfl
          have c0 : wc.cell? ⟨T, 0, none⟩ = some (.int .i64 r.att) := cell_of_row _ _ 0 _ _ (0, 0) hD.row
          have HD := Lib.hid hD
          clear hD
          go_wp2_with fail
          refine (srcBelow g A c xs (r.att - 1) _ HD.out.src hl (by omega) (by omega)).mono ?_
          rintro e w4 ⟨y, rfl, y0, y1, hd4, hg4⟩
          have hD4 := HD.out.draw hd4 hg4
          have c2 : w4.cell? ⟨T, 2, none⟩ = some (.int .i64 r.catt) := cell_of_row _ _ 2 _ _ (0, 0) hD4.row
          have f2 : w4.frozen? ⟨T, 2, none⟩ = false := row_free hD4.row
          have HD5 := Lib.hid (hD4.s2 hlow.out hgw (1 + y))
          clear hd4 hg4 c0 HD hD4
          go_wp2_with fail
          refine (srcBelow g A c xs 6 _ HD5.out.src hl (by omega) (by omega)).mono ?_
          rintro e w6 ⟨x, rfl, x0, x1, hd6, hg6⟩
          have hD6 := HD5.out.draw hd6 hg6
          have c3 : w6.cell? ⟨T, 3, none⟩ = some (.int .i64 r.cut) := cell_of_row _ _ 3 _ _ (0, 0) hD6.row
          have f3 : w6.frozen? ⟨T, 3, none⟩ = false := row_free hD6.row
          have HD7 := Lib.hid (hD6.s3 hlow.out hgw (100 + x))
          clear hd6 hg6 c2 f2 HD5 hD6
          go_wp2_with fail
          go_meet
          exact ⟨_, HD7.out⟩
      case rest =>
        clear hD ha1 ha5 HBB
        obtain ⟨r2, hD⟩ := hcut
        go_wp2_with fail
        refine (srcOneIn g A c xs 10 _ hD.src hl (by omega) (by omega)).mono ?_
        rintro e w4 ⟨b, rfl, hd4, hg4⟩
        have hD4 := hD.draw hd4 hg4
        clear hD hd4 hg4
        go_upto_if 34 with fail
        go_cut [] from 15 to 62 (fun wx => ∃ r : RR, DrawR w wx g T w.heap.size A c xs r)
        case first =>
          cases b
          · go_wp2_with fail
            go_meet
            exact ⟨r2, hD4⟩
          · have HD4 := Lib.hid hD4
            clear hD4
            go_wp2_with fail
            refine (srcBelow g A c xs 5 _ HD4.out.src hl (by omega) (by omega)).mono ?_
            rintro e w5 ⟨y, rfl, y0, y1, hd5, hg5⟩
            have hD5 := HD4.out.draw hd5 hg5
            obtain ⟨m, rfl⟩ := Int.eq_ofNat_of_zero_le y0
            have hm : m < 5 := by omega
            have k0 : w5.cell? ⟨T, 0, none⟩ = some (.int .i64 r2.att) := cell_of_row _ _ 0 _ _ (0, 0) hD5.row
            clear hd5 hg5 HD4 k0
            have HD5 := Lib.hid hD5
            clear hD5
            match m, hm with
            | 0, _ =>
              go_wp2_with fail
              refine (srcUpTo g A c xs 5 _ HD5.out.src hl (by omega) (by omega)).mono ?_
              rintro e w6 ⟨x, rfl, hd6, hg6⟩
              have hD6 := HD5.out.draw hd6 hg6
              have k0 : w6.cell? ⟨T, 0, none⟩ = some (.int .i64 r2.att) := cell_of_row _ _ 0 _ _ (0, 0) hD6.row
              have f0 : w6.frozen? ⟨T, 0, none⟩ = false := row_free hD6.row
              have HD7 := Lib.hid (hD6.s0 hlow.out hgw x)
              clear hd6 hg6 HD5 hD6
              go_wp2_with fail
              go_meet
              exact ⟨_, HD7.out⟩
            | 1, _ =>
              go_wp2_with fail
              refine (srcUpTo g A c xs 360000 _ HD5.out.src hl (by omega) (by omega)).mono ?_
              rintro e w6 ⟨x, rfl, hd6, hg6⟩
              have hD6 := HD5.out.draw hd6 hg6
              have k0 : w6.cell? ⟨T, 1, none⟩ = some (.int .i64 r2.lim) := cell_of_row _ _ 1 _ _ (0, 0) hD6.row
              have f0 : w6.frozen? ⟨T, 1, none⟩ = false := row_free hD6.row
              have HD7 := Lib.hid (hD6.s1 hlow.out hgw x)
              clear hd6 hg6 HD5 hD6
              go_wp2_with fail
              go_meet
              exact ⟨_, HD7.out⟩
            | 2, _ =>
              go_wp2_with fail
              refine (srcBetween g A c xs (-1) 5 _ HD5.out.src hl (by omega) (by omega) (by omega) (by omega)).mono ?_
              rintro e w6 ⟨x, rfl, _, _, hd6, hg6⟩
              have hD6 := HD5.out.draw hd6 hg6
              have k0 : w6.cell? ⟨T, 2, none⟩ = some (.int .i64 r2.catt) := cell_of_row _ _ 2 _ _ (0, 0) hD6.row
              have f0 : w6.frozen? ⟨T, 2, none⟩ = false := row_free hD6.row
              have HD7 := Lib.hid (hD6.s2 hlow.out hgw x)
              clear hd6 hg6 HD5 hD6
              go_wp2_with fail
              go_meet
              exact ⟨_, HD7.out⟩
            | 3, _ =>
              go_wp2_with fail
              refine (srcBetween g A c xs (-1) 200 _ HD5.out.src hl (by omega) (by omega) (by omega) (by omega)).mono ?_
              rintro e w6 ⟨x, rfl, _, _, hd6, hg6⟩
              have hD6 := HD5.out.draw hd6 hg6
              have k0 : w6.cell? ⟨T, 3, none⟩ = some (.int .i64 r2.cut) := cell_of_row _ _ 3 _ _ (0, 0) hD6.row
              have f0 : w6.frozen? ⟨T, 3, none⟩ = false := row_free hD6.row
              have HD7 := Lib.hid (hD6.s3 hlow.out hgw x)
              clear hd6 hg6 HD5 hD6
              go_wp2_with fail
              go_meet
              exact ⟨_, HD7.out⟩
            | 4, _ =>
              go_wp2_with fail
              refine (srcUpTo g A c xs 12 _ HD5.out.src hl (by omega) (by omega)).mono ?_
              rintro e w6 ⟨x, rfl, hd6, hg6⟩
              have hD6 := HD5.out.draw hd6 hg6
              have k0 : w6.cell? ⟨T, 4, none⟩ = some (.int .i64 r2.adv) := cell_of_row _ _ 4 _ _ (0, 0) hD6.row
              have f0 : w6.frozen? ⟨T, 4, none⟩ = false := row_free hD6.row
              have HD7 := Lib.hid (hD6.s4 hlow.out hgw x)
              clear hd6 hg6 HD5 hD6
              go_wp2_with fail
              go_meet
              exact ⟨_, HD7.out⟩
        case rest =>
          clear hD4
          obtain ⟨r3, hD⟩ := hcut
          have k0 : wc.cell? ⟨T, 0, none⟩ = some (.int .i64 r3.att) := cell_of_row _ _ 0 _ _ (0, 0) hD.row
          have k1 : wc.cell? ⟨T, 1, none⟩ = some (.int .i64 r3.lim) := cell_of_row _ _ 1 _ _ (0, 0) hD.row
          have k2 : wc.cell? ⟨T, 2, none⟩ = some (.int .i64 r3.catt) := cell_of_row _ _ 2 _ _ (0, 0) hD.row
          have k3 : wc.cell? ⟨T, 3, none⟩ = some (.int .i64 r3.cut) := cell_of_row _ _ 3 _ _ (0, 0) hD.row
          have k4 : wc.cell? ⟨T, 4, none⟩ = some (.int .i64 r3.adv) := cell_of_row _ _ 4 _ _ (0, 0) hD.row
          have j0 : wc.cell? ⟨w.heap.size, 0, none⟩ = some (.int .i64 0) := cell_of_row _ _ 0 _ _ (0, 0) hD.res
          have j1 : wc.cell? ⟨w.heap.size, 1, none⟩ = some (.int .i64 0) := cell_of_row _ _ 1 _ _ (0, 0) hD.res
          have j2 : wc.cell? ⟨w.heap.size, 2, none⟩ = some (.int .i64 0) := cell_of_row _ _ 2 _ _ (0, 0) hD.res
          have j3 : wc.cell? ⟨w.heap.size, 3, none⟩ = some (.int .i64 0) := cell_of_row _ _ 3 _ _ (0, 0) hD.res
          have j4 : wc.cell? ⟨w.heap.size, 4, none⟩ = some (.int .i64 0) := cell_of_row _ _ 4 _ _ (0, 0) hD.res
          have f0 : wc.frozen? ⟨w.heap.size, 0, none⟩ = false := row_free hD.res
          have f1 : wc.frozen? ⟨w.heap.size, 1, none⟩ = false := row_free hD.res
          have f2 : wc.frozen? ⟨w.heap.size, 2, none⟩ = false := row_free hD.res
          have f3 : wc.frozen? ⟨w.heap.size, 3, none⟩ = false := row_free hD.res
          have f4 : wc.frozen? ⟨w.heap.size, 4, none⟩ = false := row_free hD.res
          have HD := Lib.hid hD
          clear hD
          go_wp2_with fail
          have hb5 : Below w.heap.size wc (((((wc.setCell ⟨w.heap.size, 0, none⟩ (.int .i64 r3.att)).setCell ⟨w.heap.size, 1, none⟩ (.int .i64 r3.lim)).setCell ⟨w.heap.size, 2, none⟩ (.int .i64 r3.catt)).setCell ⟨w.heap.size, 3, none⟩ (.int .i64 r3.cut)).setCell ⟨w.heap.size, 4, none⟩ (.int .i64 r3.adv)) :=
            (((((Below.refl _ _).setCell (p := ⟨w.heap.size, 0, none⟩) (Nat.le_refl _) _).setCell (p := ⟨w.heap.size, 1, none⟩) (Nat.le_refl _) _).setCell (p := ⟨w.heap.size, 2, none⟩) (Nat.le_refl _) _).setCell (p := ⟨w.heap.size, 3, none⟩) (Nat.le_refl _) _).setCell (p := ⟨w.heap.size, 4, none⟩) (Nat.le_refl _) _
          exact bodyPost_ret (v := .agg #[.int .i64 r3.att, .int .i64 r3.lim, .int .i64 r3.catt, .int .i64 r3.cut, .int .i64 r3.adv]) (by simp [results, Try.results31, go_sem, j0, j1, j2, j3, j4]) rfl ⟨r3, rfl, HD.out.src.keep hb5 hgw hlow.out, grownThen HD.out.grown hb5⟩
end Go.Proofs.Ytejacbgogcjbnaa
