/- Timers and events drawn from a source. Conditions: as each contract says. -/
import Derived.Test.YtmfmkalgalmbcaaDr
import Derived.Test.YtmfmkalgalmbcaaTs
import Derived.Test.YtmfmkalgalmbcaaTe
import Derived.Deep.CutRange
import Derived.Deep.RegionWith
namespace Go.Proofs.Ytmfmkalgalmbcaa
open Go.RowKit

theorem gRefl (w : World) (row : Option Nat) : w.grownBy w row := ⟨rfl, rfl, rfl, Nat.le_refl _, fun _ _ _ => rfl⟩
theorem rowG {w w' : World} {g H : Nat} {o : Obj} (hg : w.grownBy w' (some g)) (h : w.heap[H]? = some o) (hne : H ≠ g) : w'.heap[H]? = some o :=
  (hg.block H (Array.getElem?_eq_some_iff.1 h).1 (fun e => hne (by injection e))).trans h
theorem grownB {w w1 w2 : World} {row : Option Nat} (h : w.grownBy w1 row) (hb : Below w1.heap.size w1 w2) : w.grownBy w2 row := grownThen h (hb.mono h.size)
theorem unD {w w' : World} {row : Option Nat} (h : w.drew.grownBy w' row) : w.grownBy w' row := ⟨h.os, h.tape, h.output, h.size, h.block⟩
/-- A timer in the making: block T; block H is the result's. -/
structure DrawT (w wr : World) (g T H : Nat) (A : Option Addr) (c : Nat) (xs : List Int) (t : Tm) : Prop where
  src : SrcAt wr g A c xs
  grown : w.grownBy wr (some g)
  row : wr.heap[T]? = some (.cells #[.int .i64 t.ph, .int .i64 t.la, .int .i64 t.ins, .int .i64 t.dn, .int .i64 t.st, .int .i64 t.sp, .int .i64 t.pe, .bool t.fl] 26 (0, 0))
  res : wr.heap[H]? = some (.cells #[.int .i64 0, .int .i64 0, .int .i64 0, .int .i64 0, .int .i64 0, .int .i64 0, .int .i64 0, .bool false] 26 (0, 0))
  neT : T ≠ g
  neH : H ≠ g
  ne : T ≠ H
  newT : w.heap.size ≤ T
  newH : w.heap.size ≤ H
theorem DrawT.draw {w w1 w2 : World} {g T H : Nat} {A : Option Addr} {c : Nat} {xs : List Int} {t : Tm} (h : DrawT w w1 g T H A c xs t) (hd : SrcAt w2 g A c xs) (hg : w1.grownBy w2 (some g)) : DrawT w w2 g T H A c xs t :=
  ⟨hd, grownTrans h.grown hg, rowG hg h.row h.neT, rowG hg h.res h.neH, h.neT, h.neH, h.ne, h.newT, h.newH⟩
theorem DrawT.below {w wr w2 : World} {g T H : Nat} {A : Option Addr} {c : Nat} {xs : List Int} {t : Tm} (h : DrawT w wr g T H A c xs t) (hb : Below wr.heap.size wr w2) : DrawT w w2 g T H A c xs t :=
  ⟨h.src.below hb, grownB h.grown hb, rowB hb h.row, rowB hb h.res, h.neT, h.neH, h.ne, h.newT, h.newH⟩
theorem DrawT.drew {w wr : World} {g T H : Nat} {A : Option Addr} {c : Nat} {xs : List Int} {t : Tm} (h : DrawT w wr g T H A c xs t) : DrawT w wr.drew g T H A c xs t := h.below (Below.refl _ _).drew
theorem rowS {w : World} {H : Nat} {o : Obj} {a : Addr} {v : Value} (h : w.heap[H]? = some o) (hne : H ≠ a.block) : (w.setCell a v).heap[H]? = some o := (heap_setCell_other w a H v hne).trans h
theorem DrawT.set8 {w wr : World} {g T H : Nat} {A : Option Addr} {c : Nat} {xs : List Int} {t : Tm} (h : DrawT w wr g T H A c xs t) (hlow : ∀ b off, A = some ⟨b, off, none⟩ → 0 < xs.length → b < w.heap.size) (hg : g < w.heap.size) (u : Tm) : DrawT w (Set8 wr T u) g T H A c xs u :=
  ⟨h.src.keep (set8_below (Below.refl _ _) h.newT u) hg hlow, grownThen h.grown (set8_below (Below.refl _ _) h.newT u), set8_row h.row u, set8_other h.res (fun e => h.ne e.symm) u, h.neT, h.neH, h.ne, h.newT, h.newH⟩
theorem DrawT.of {w wr w2 : World} {g T H : Nat} {A : Option Addr} {c : Nat} {xs : List Int} {t : Tm} (hd : SrcAt wr g A c xs) (hG : w.grownBy wr (some g)) (hres : wr.heap[H]? = some (.cells #[.int .i64 0, .int .i64 0, .int .i64 0, .int .i64 0, .int .i64 0, .int .i64 0, .int .i64 0, .bool false] 26 (0, 0))) (hgw : g < w.heap.size) (hH : w.heap.size = H) (hb : Below wr.heap.size wr w2) (hT : w2.heap[T]? = some (.cells #[.int .i64 t.ph, .int .i64 t.la, .int .i64 t.ins, .int .i64 t.dn, .int .i64 t.st, .int .i64 t.sp, .int .i64 t.pe, .bool t.fl] 26 (0, 0))) (hTw : wr.heap.size ≤ T) : DrawT w w2 g T H A c xs t := by
  have hz := (Array.getElem?_eq_some_iff.1 hres).1
  exact ⟨hd.below hb, grownB hG hb, hT, rowB hb hres, by omega, by omega, by omega, by omega, by omega⟩
theorem DrawT.fin {w wr : World} {g T H : Nat} {A : Option Addr} {c : Nat} {xs : List Int} {t : Tm} (h : DrawT w wr g T H A c xs t) (hlow : ∀ b off, A = some ⟨b, off, none⟩ → 0 < xs.length → b < w.heap.size) (hg : g < w.heap.size) (u : Tm) :
    SrcAt (Set8 wr H u) g A c xs ∧ w.grownBy (Set8 wr H u) (some g) ∧ (Set8 wr H u).heap[H]? = some (.cells #[.int .i64 u.ph, .int .i64 u.la, .int .i64 u.ins, .int .i64 u.dn, .int .i64 u.st, .int .i64 u.sp, .int .i64 u.pe, .bool u.fl] 26 (0, 0)) :=
  ⟨h.src.keep (set8_below (Below.refl _ _) h.newH u) hg hlow, grownThen h.grown (set8_below (Below.refl _ _) h.newH u), set8_row h.res u⟩
/-- One number of a list, as the walk meets it. -/
theorem pickL {m : Nat} (l : List Int) (h : m < l.length) {z : Int} (hz : l.getD m 0 = z) : (l.map (Value.int .i64))[m]? = some (.int .i64 z) := by
  rw [List.getElem?_map, List.getElem?_eq_getElem h]
  rw [getD_at _ _ h] at hz
  rw [hz]; rfl
theorem pickA {m : Nat} (l : List Int) (h : m < l.length) {z : Int} (hz : l.getD m 0 = z) : (l.map (Value.int .i64)).toArray[m]? = some (.int .i64 z) := by
  rw [List.getElem?_toArray]; exact pickL l h hz
theorem lastT {t : Tm} (h : validT t = true) : 0 ≤ t.la ∧ t.la ≤ 360000 := by
  obtain ⟨f0, f1, f2, -⟩ := valid_form h
  omega
theorem phaseT {t : Tm} (h : validT t = true) : 0 ≤ t.ph := by
  obtain ⟨f0, f1, f2, f⟩ := valid_form h
  rcases f with f | f | f | f | ⟨f, fs⟩
  · rw [f]; simp
  · rw [f]; simp
  · rw [f]; simp
  · rw [f, (started_ph _ _).1]; omega
  · omega
theorem valid_idle {x : Int} (h0 : 0 ≤ x) (h1 : x < 100) : validT ⟨0, x, 0, 0, 0, 0, 0, false⟩ = true := by
  have r1 : inR x 0 360000 = true := inR_iff.2 ⟨h0, by omega⟩
  have r2 : inR 0 0 x = true := inR_iff.2 ⟨by omega, h0⟩
  simp [validT, r1, r2, tmEq]
/-- A valid timer drawn, with a time. -/
def DrawnT (g : Nat) (A : Option Addr) (c : Nat) (xs : List Int) (w : World) (e : Ending) (w' : World) : Prop :=
  ∃ (t : Tm) (a : Int), e = .returned (.tuple #[.agg #[.int .i64 t.ph, .int .i64 t.la, .int .i64 t.ins, .int .i64 t.dn, .int .i64 t.st, .int .i64 t.sp, .int .i64 t.pe, .bool t.fl], .int .i64 a]) ∧ validT t = true ∧ SrcAt w' g A c xs ∧ w.grownBy w' (some g)
theorem timer_ret {w w5 : World} {g T : Nat} {A : Option Addr} {c : Nat} {xs : List Int} {t : Tm} (h : DrawT w w5 g T w.heap.size A c xs t) (hlow : ∀ b off, A = some ⟨b, off, none⟩ → 0 < xs.length → b < w.heap.size) (hg : g < w.heap.size) (hv : validT t = true) {a : Act} {x : Int}
    (h2 : a.tmps[2]? = some (.pointer (some ⟨w.heap.size, 0, none⟩))) (h3 : a.tmps[3]? = some (.int .i64 x)) (hd : a.defers = []) : bodyPost Try.prog Try.f35 (DrawnT g A c xs w) .ret a (Set8 w5 w.heap.size t) := by
  obtain ⟨r1, r2, r3⟩ := h.fin hlow hg t
  obtain ⟨⟨k0, k1, k2, k3, k4, k5, k6, k7⟩, -⟩ := zcells r3
  refine bodyPost_ret (v := .tuple #[.agg #[.int .i64 t.ph, .int .i64 t.la, .int .i64 t.ins, .int .i64 t.dn, .int .i64 t.st, .int .i64 t.sp, .int .i64 t.pe, .bool t.fl], .int .i64 x]) ?_ hd ⟨t, x, rfl, hv, r1, r2⟩
  simp only [results, Try.results35]
  simp [go_sem, h2, h3, k0, k1, k2, k3, k4, k5, k6, k7]
theorem timer_ret8 {w w5 : World} {g T : Nat} {A : Option Addr} {c : Nat} {xs : List Int} {t : Tm} (h : DrawT w w5 g T w.heap.size A c xs t) (hlow : ∀ b off, A = some ⟨b, off, none⟩ → 0 < xs.length → b < w.heap.size) (hg : g < w.heap.size) (hv : validT t = true) {a : Act} {x : Int}
    (h2 : a.tmps[2]? = some (.pointer (some ⟨w.heap.size, 0, none⟩))) (h3 : a.tmps[3]? = some (.int .i64 x)) (hd : a.defers = []) : bodyPost Try.prog Try.f35 (DrawnT g A c xs w) .ret a
      ((((((((w5.setCell ⟨w.heap.size, 0, none⟩ (.int .i64 t.ph)).setCell ⟨w.heap.size, 1, none⟩ (.int .i64 t.la)).setCell ⟨w.heap.size, 2, none⟩ (.int .i64 t.ins)).setCell ⟨w.heap.size, 3, none⟩ (.int .i64 t.dn)).setCell ⟨w.heap.size, 4, none⟩ (.int .i64 t.st)).setCell ⟨w.heap.size, 5, none⟩ (.int .i64 t.sp)).setCell ⟨w.heap.size, 6, none⟩ (.int .i64 t.pe)).setCell ⟨w.heap.size, 7, none⟩ (.bool t.fl)) := timer_ret h hlow hg hv h2 h3 hd
end Go.Proofs.Ytmfmkalgalmbcaa
