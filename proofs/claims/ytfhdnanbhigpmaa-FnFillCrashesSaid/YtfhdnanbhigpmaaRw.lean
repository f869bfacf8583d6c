/- Jobs synced, crashed, finished, impl. Conditions: as each contract says. -/
import Derived.Test.YtfhdnanbhigpmaaRv
import Derived.Deep.CutRange
import Derived.Deep.RegionHeld3
namespace Go.Proofs.Ytfhdnanbhigpmaa
open Go.RowKit Grp

theorem valid_chT {p : Pz} {t : Tb} {nx : Int} {lg : ByteArray} {sy : Int} (h : ValidF p t nx lg sy) : chT p t.trk nx.toNat = t := by
  unfold chT
  rw [h.vls, h.vds]
def SyncYes (t : Tb) (nx : Int) (lg : ByteArray) (w : World) (e : Ending) (w' : World) : Prop :=
  ∃ (A1 : Option Addr) (c1 : Nat) (A2 : Option Addr) (c2 : Nat) (A3 : Option Addr) (c3 : Nat), e = .returned (.tuple #[jobV A1 A2 A3 c1 c2 c3 t nx lg (lg.size : Int), .bool true]) ∧ FTo w.heap.size w' A1 c1 A2 A3 c3 t ∧ Below w.heap.size w w'
set_option maxRecDepth 100000 in
set_option maxHeartbeats 8000000 in
theorem implSyncFill (A : Option Addr) (c : Nat) (p : Pz) (A1 A2 A3 : Option Addr) (c1 c2 c3 : Nat) (t : Tb) (nx : Int) (lg : ByteArray) (sy : Int) (w : World) (h : PzAt w A p) (h1 : IntsAt w A1 t.trk) (h2 : LAt w A2 t.pats) (h3 : IntsAt w A3 t.dist) (hs : ShortT t) (hnx : -9223372036854775808 ≤ nx ∧ nx ≤ 9223372036854775807) (hlg : lg.size ≤ 1048576) (hv : validF p t nx lg sy = true) :
    Calls Try.prog 32 #[.agg #[.int .i64 p.pts, .string p.names, .slice A p.moves.length c], jobV A1 A2 A3 c1 c2 c3 t nx lg sy] w (SyncYes t nx lg w) := by
  obtain ⟨w0, hw0⟩ : ∃ w0, ((w.alloc (.cells #[.int .i64 p.pts, .string p.names, .slice A p.moves.length c] 29)).alloc (.cells #[.slice A1 t.trk.length c1, .slice A2 t.pats.length c2, .slice A3 t.dist.length c3, .int .i64 nx, .string lg, .int .i64 sy] 45)).alloc (.cells #[.slice none 0 0, .slice none 0 0, .slice none 0 0, .int .i64 0, .string ⟨#[]⟩, .int .i64 0] 45) = w0 := ⟨_, rfl⟩
  have hb0 : Below w.heap.size w w0 := by rw [← hw0]; exact (by repeat (first | exact Below.refl _ _ | assumption | refine Below.setCell ?_ (by first | omega | (simp <;> omega)) _ | refine Below.alloc ?_ (by first | omega | (simp <;> omega)) _ | refine Below.drew ?_))
  have hz0 : w0.heap.size = w.heap.size + 3 := by rw [← hw0]; simp
  have R0 : Hid (w0.heap[w.heap.size]? = some (.cells #[.int .i64 p.pts, .string p.names, .slice A p.moves.length c] 29 (0, 0))) := by rw [← hw0]; exact alloc3_0 _ _ _ _
  have R1 : Hid (w0.heap[w.heap.size + 1]? = some (.cells #[.slice A1 t.trk.length c1, .slice A2 t.pats.length c2, .slice A3 t.dist.length c3, .int .i64 nx, .string lg, .int .i64 sy] 45 (0, 0))) := by rw [← hw0]; exact alloc3_1 _ _ _ _
  have R2 : Hid (w0.heap[w.heap.size + 1 + 1]? = some (.cells #[.slice none 0 0, .slice none 0 0, .slice none 0 0, .int .i64 0, .string ⟨#[]⟩, .int .i64 0] 45 (0, 0))) := by rw [← hw0]; exact alloc3_2r _ _ _ _
  obtain ⟨p0, p1, p2, -, -⟩ := row3 R0.out
  obtain ⟨j0, j1, j2, j3, j4, j5, -, jl⟩ := row6 R1.out
  have HB0 := Lib.hid hb0
  have hres := implResume A c p A1 A2 A3 c1 c2 c3 t nx lg sy w0 (h.below hb0) (h1.below hb0) (h2.below hb0) (h3.below hb0) hs hnx hlg
  unfold ResPost at hres
  simp only [hv] at hres
  have HR := Lib.hid hres
  have HV := Lib.hid hv
  unfold jobV at HR ⊢
  have HW0 := Lib.hid hw0
  clear h h1 h2 h3 hs hb0 hv hw0 hres
  go_enter Try.func32, Try.ntmps32
  go_wp2_with fail
  rw [HW0.out]
  refine HR.out.mono ?_
  rintro e w1 ⟨⟨f, rfl, hok⟩, hb1⟩
  have HB1 := Lib.hid (belowStep hb1 HB0.out)
  have HRB := Lib.hid (rowB hb1 R2.out)
  have hz1 := hb1.size
  obtain ⟨lo, f, bm, vt, vm, rfl, hlo, hlbm, hFs⟩ := hok (by first | rfl | trivial)
  have hva := validF_iff.1 HV.out
  obtain ⟨N, hN20, hx0, hmv, hml, hx20, hch⟩ := ch_full hva.vbld
  have hgd := hch _ hva.vok
  have hnxn : ((nx.toNat : Nat) : Int) = nx := by have := hva.vnx; omega
  obtain ⟨vl, vd, K, hFl, hKO⟩ := hFs
  rw [hnxn, hva.vls, hva.vds] at hFl
  have hrw := hgd.1.rows
  rw [hva.vls] at hrw
  have hnd := ch_nodup (mvs := mvsOf p.moves) (trk := t.trk) nx.toNat
  rw [hva.vls] at hnd
  obtain ⟨E1, e1, -, rfl, -⟩ := hFl.trk.capped
  obtain ⟨E2, e2, rfl, -, -⟩ := hFl.st.lists.shape
  obtain ⟨E3, e3, -, rfl, -⟩ := hFl.st.deps.capped
  have HFT := Lib.hid ((hFl.setSyn (lg.size : Int)).fto hrw hx0 hnd)
  have hlf := hFl.lof
  obtain ⟨f0, f1, f2, f3, f4, f5, fF, fl⟩ := row8 hFl.row
  clear hFl hKO hok hb1 HR hgd hch hmv hrw hnd hva hnxn j0 j1 j2 j3 j4 j5 jl p0 p1 p2 HW0
  obtain ⟨q0, q1, q2, q3, q4, q5, qF, ql⟩ := row6 HRB.out
  go_wp2_with fail
  obtain ⟨y0, y1, y2, y3, y4, y5, -, -⟩ := row6 (row6S (rowS (a := ⟨f, 5, none⟩) (v := .int .i64 (lg.size : Int)) HRB.out (by simp only; omega)) (.slice E1 t.trk.length e1) (.slice E2 t.pats.length e2) (.slice E3 t.dist.length e3) (.int .i64 nx) (.string lg) (.int .i64 (lg.size : Int)))
  refine bodyPost_ret (v := .tuple #[.agg #[.slice E1 t.trk.length e1, .slice E2 t.pats.length e2, .slice E3 t.dist.length e3, .int .i64 nx, .string lg, .int .i64 (lg.size : Int)], .bool true]) (by simp [results, Try.results32, go_sem, y0, y1, y2, y3, y4, y5]) rfl ?_
  have hon := (OnlyIn.refl (w.heap.size + 1 + 1) (w.heap.size + 1 + 1 + 1) (w1.setCell ⟨f, 5, none⟩ (.int .i64 (lg.size : Int)))).grown (grown6 (w1.setCell ⟨f, 5, none⟩ (.int .i64 (lg.size : Int))) (w.heap.size + 1 + 1) (.slice E1 t.trk.length e1) (.slice E2 t.pats.length e2) (.slice E3 t.dist.length e3) (.int .i64 nx) (.string lg) (.int .i64 (lg.size : Int))) (fun b e => by injection e with e; omega)
  exact ⟨E1, e1, E2, e2, E3, e3, rfl, (HFT.out.only hon (by omega)).less (by omega), hon.below (HB1.out.setCell (p := ⟨f, 5, none⟩) (by simp only; omega) _) (by omega) (by simpa using HB1.out.size)⟩
def FinYes (t : Tb) (w : World) (e : Ending) (w' : World) : Prop :=
  ∃ (A1 : Option Addr) (c1 : Nat) (A2 : Option Addr) (c2 : Nat) (A3 : Option Addr) (c3 : Nat), e = .returned (.tuple #[.agg #[.slice A1 t.trk.length c1, .slice A2 t.pats.length c2, .slice A3 t.dist.length c3], .bool true]) ∧ FTo w.heap.size w' A1 c1 A2 A3 c3 t ∧ Below w.heap.size w w'
def FinNo (w : World) (e : Ending) (w' : World) : Prop := e = .returned (.tuple #[.agg #[.slice none 0 0, .slice none 0 0, .slice none 0 0], .bool false]) ∧ Below w.heap.size w w'
theorem row3S_grown (w : World) (g : Nat) (x y z : Value) : w.grownBy (((w.setCell ⟨g, 0, none⟩ x).setCell ⟨g, 1, none⟩ y).setCell ⟨g, 2, none⟩ z) (some g) :=
  ((setGrown w g 0 x).trans (setGrown _ g 1 y)).trans (setGrown _ g 2 z)
set_option maxRecDepth 100000 in
set_option maxHeartbeats 8000000 in
theorem implFinQ (A : Option Addr) (c : Nat) (p : Pz) (A1 A2 A3 : Option Addr) (c1 c2 c3 : Nat) (t : Tb) (nx : Int) (lg : ByteArray) (sy : Int) (w : World) (h : PzAt w A p) (h1 : IntsAt w A1 t.trk) (h2 : LAt w A2 t.pats) (h3 : IntsAt w A3 t.dist) (hs : ShortT t) (hnx : -9223372036854775808 ≤ nx ∧ nx ≤ 9223372036854775807) (hlg : lg.size ≤ 1048576) (Q : Ending → World → Prop) (hy : validF p t nx lg sy = true ∧ nx = (t.pats.length : Int) → ∀ e w', FinYes t w e w' → Q e w') (hn : ¬ (validF p t nx lg sy = true ∧ nx = (t.pats.length : Int)) → ∀ e w', FinNo w e w' → Q e w') :
    Calls Try.prog 34 #[.agg #[.int .i64 p.pts, .string p.names, .slice A p.moves.length c], jobV A1 A2 A3 c1 c2 c3 t nx lg sy] w Q := by
  have HYY := Lib.hid hy
  have HNN := Lib.hid hn
  clear hy hn
  obtain ⟨w0, hw0⟩ : ∃ w0, ((w.alloc (.cells #[.int .i64 p.pts, .string p.names, .slice A p.moves.length c] 29)).alloc (.cells #[.slice A1 t.trk.length c1, .slice A2 t.pats.length c2, .slice A3 t.dist.length c3, .int .i64 nx, .string lg, .int .i64 sy] 45)).alloc (.cells #[.slice none 0 0, .slice none 0 0, .slice none 0 0] 34) = w0 := ⟨_, rfl⟩
  have hb0 : Below w.heap.size w w0 := by rw [← hw0]; exact (by repeat (first | exact Below.refl _ _ | assumption | refine Below.setCell ?_ (by first | omega | (simp <;> omega)) _ | refine Below.alloc ?_ (by first | omega | (simp <;> omega)) _ | refine Below.drew ?_))
  have hz0 : w0.heap.size = w.heap.size + 3 := by rw [← hw0]; simp
  have R0 : Hid (w0.heap[w.heap.size]? = some (.cells #[.int .i64 p.pts, .string p.names, .slice A p.moves.length c] 29 (0, 0))) := by rw [← hw0]; exact alloc3_0 _ _ _ _
  have R1 : Hid (w0.heap[w.heap.size + 1]? = some (.cells #[.slice A1 t.trk.length c1, .slice A2 t.pats.length c2, .slice A3 t.dist.length c3, .int .i64 nx, .string lg, .int .i64 sy] 45 (0, 0))) := by rw [← hw0]; exact alloc3_1 _ _ _ _
  have R2 : Hid (w0.heap[w.heap.size + 1 + 1]? = some (.cells #[.slice none 0 0, .slice none 0 0, .slice none 0 0] 34 (0, 0))) := by rw [← hw0]; exact alloc3_2r _ _ _ _
  obtain ⟨p0, p1, p2, -, -⟩ := row3 R0.out
  obtain ⟨j0, j1, j2, j3, j4, j5, -, jl⟩ := row6 R1.out
  have HB0 := Lib.hid hb0
  have HR := Lib.hid (implResume A c p A1 A2 A3 c1 c2 c3 t nx lg sy w0 (h.below hb0) (h1.below hb0) (h2.below hb0) (h3.below hb0) hs hnx hlg)
  obtain ⟨V, hV⟩ : ∃ V, validF p t nx lg sy = V := ⟨_, rfl⟩
  have HV := Lib.hid hV
  unfold ResPost at HR
  simp only [hV] at HR
  rw [hV] at HYY HNN
  unfold jobV at HR ⊢
  have HW0 := Lib.hid hw0
  clear h h1 h2 h3 hs hb0 hV hw0
  go_enter Try.func34, Try.ntmps34
  go_wp2_with fail
  rw [HW0.out]
  refine HR.out.mono ?_
  rintro e w1 ⟨⟨f, rfl, hok⟩, hb1⟩
  have HB1 := Lib.hid (belowStep hb1 HB0.out)
  have HRB := Lib.hid (rowB hb1 R2.out)
  have hz1 := hb1.size
  have HOK := Lib.hid hok
  clear hb1 hok HR j0 j1 j2 j3 j4 j5 jl p0 p1 p2 HW0
  obtain ⟨q0, q1, q2, qF, ql⟩ := row3 HRB.out
  cases V with
  | false =>
    have hno := Lib.hid (HNN.out (fun k => by cases k.1))
    clear HNN HYY HOK
    go_wp2_with fail
    obtain ⟨y0, y1, y2, -, -⟩ := row3 (row3S HRB.out (.slice none 0 0) (.slice none 0 0) (.slice none 0 0))
    refine bodyPost_ret (v := .tuple #[.agg #[.slice none 0 0, .slice none 0 0, .slice none 0 0], .bool false]) (by simp [results, Try.results34, go_sem, y0, y1, y2]) rfl ?_
    exact hno.out _ _ ⟨rfl, HB1.out.grown (row3S_grown _ _ _ _ _) HB1.out.size (fun b e => by injection e with e; omega)⟩
  | true =>
    obtain ⟨lo, f, bm, vt, vm, rfl, hlo, hlbm, hFs⟩ := HOK.out (by first | rfl | trivial)
    have hva := validF_iff.1 HV.out
    obtain ⟨N, hN20, hx0, hmv, hml, hx20, hch⟩ := ch_full hva.vbld
    have hgd := hch _ hva.vok
    have hD := implDone lo f bm vt vm t.trk (mvsOf p.moves) sy _ nx.toNat lg w1 hFs
    rw [hva.vls] at hD
    have hnxn : ((nx.toNat : Nat) : Int) = nx := by have := hva.vnx; omega
    obtain ⟨vl, vd, K, hFl, hKO⟩ := hFs
    rw [hnxn, hva.vls, hva.vds] at hFl
    have hrw := hgd.1.rows
    rw [hva.vls] at hrw
    have hnd := ch_nodup (mvs := mvsOf p.moves) (trk := t.trk) nx.toNat
    rw [hva.vls] at hnd
    obtain ⟨E1, e1, -, rfl, -⟩ := hFl.trk.capped
    obtain ⟨E2, e2, rfl, -, -⟩ := hFl.st.lists.shape
    obtain ⟨E3, e3, -, rfl, -⟩ := hFl.st.deps.capped
    have HFT := Lib.hid (hFl.fto hrw hx0 hnd)
    have HROW := Lib.hid hFl.row
    have hlf := hFl.lof
    have hfz := row_lt hFl.row
    obtain ⟨b, hb⟩ : ∃ b, decide (nx.toNat = t.pats.length) = b := ⟨_, rfl⟩
    rw [hb] at hD
    have HD := Lib.hid hD
    have HBB := Lib.hid hb
    have HNXN := Lib.hid hnxn
    clear hFl hKO hgd hch hmv hrw hnd hva hnxn hD hb HOK q0 q1 q2 qF ql
    go_wp2_with fail
    refine HD.out.mono ?_
    rintro e w2 ⟨rfl, nq, hw2⟩
    have hb2 : Below w1.heap.size w1 w2 := by rw [hw2]; exact belowDrewN (Below.refl _ _) nq
    have HB2 := Lib.hid (HB1.out.trans (hb2.mono HB1.out.size))
    have HRB2 := Lib.hid (rowB hb2 HRB.out)
    have HFT2 := Lib.hid (HFT.out.below hb2)
    have HROW2 := Lib.hid (rowB hb2 HROW.out)
    have hz2 := hb2.size
    clear hw2 hb2 HD HROW HFT HRB
    obtain ⟨q0, q1, q2, qF, ql⟩ := row3 HRB2.out
    obtain ⟨f0, f1, f2, f3, f4, f5, fF, fl⟩ := row8 HROW2.out
    cases b with
    | false =>
      have hne := of_decide_eq_false HBB.out
      have hno := Lib.hid (HNN.out (fun k => hne (by have := k.2; have := HNXN.out; omega)))
      clear HNN HYY hne
      go_wp2_with fail
      obtain ⟨y0, y1, y2, -, -⟩ := row3 (row3S HRB2.out (.slice none 0 0) (.slice none 0 0) (.slice none 0 0))
      refine bodyPost_ret (v := .tuple #[.agg #[.slice none 0 0, .slice none 0 0, .slice none 0 0], .bool false]) (by simp [results, Try.results34, go_sem, y0, y1, y2]) rfl ?_
      exact hno.out _ _ ⟨rfl, HB2.out.grown (row3S_grown _ _ _ _ _) HB2.out.size (fun b e => by injection e with e; omega)⟩
    | true =>
      have heq := of_decide_eq_true HBB.out
      have hyes := Lib.hid (HYY.out ⟨by first | rfl | trivial, by have := HNXN.out; omega⟩)
      clear HNN HYY heq
      go_wp2_with fail
      obtain ⟨y0, y1, y2, -, -⟩ := row3 (row3S HRB2.out (.slice E1 t.trk.length e1) (.slice E2 t.pats.length e2) (.slice E3 t.dist.length e3))
      refine bodyPost_ret (v := .tuple #[.agg #[.slice E1 t.trk.length e1, .slice E2 t.pats.length e2, .slice E3 t.dist.length e3], .bool true]) (by simp [results, Try.results34, go_sem, y0, y1, y2]) rfl ?_
      have hon := (OnlyIn.refl (w.heap.size + 1 + 1) (w.heap.size + 1 + 1 + 1) w2).grown (row3S_grown w2 (w.heap.size + 1 + 1) (.slice E1 t.trk.length e1) (.slice E2 t.pats.length e2) (.slice E3 t.dist.length e3)) (fun b e => by injection e with e; omega)
      exact hyes.out _ _ ⟨E1, e1, E2, e2, E3, e3, rfl, (HFT2.out.only hon (by omega)).less (by omega), hon.below HB2.out (by omega) HB2.out.size⟩
set_option maxRecDepth 100000 in
set_option maxHeartbeats 8000000 in
theorem implCrash (A : Option Addr) (c : Nat) (p : Pz) (A1 A2 A3 : Option Addr) (c1 c2 c3 : Nat) (t : Tb) (nx : Int) (lg : ByteArray) (sy : Int) (k : Nat) (w : World) (h : PzAt w A p) (h1 : IntsAt w A1 t.trk) (h2 : LAt w A2 t.pats) (h3 : IntsAt w A3 t.dist) (hs : ShortT t) (hnx : -9223372036854775808 ≤ nx ∧ nx ≤ 9223372036854775807) (hlg : lg.size ≤ 1048576) (hv : validF p t nx lg sy = true) (hk0 : sy ≤ (k : Int)) (hk1 : k ≤ lg.size) :
    Calls Try.prog 33 #[.agg #[.int .i64 p.pts, .string p.names, .slice A p.moves.length c], jobV A1 A2 A3 c1 c2 c3 t nx lg sy, .int .i64 (k : Int)] w (RecYes p t.trk (lg.extract 0 k) w) := by
  obtain ⟨w0, hw0⟩ : ∃ w0, ((w.alloc (.cells #[.int .i64 p.pts, .string p.names, .slice A p.moves.length c] 29)).alloc (.cells #[.slice A1 t.trk.length c1, .slice A2 t.pats.length c2, .slice A3 t.dist.length c3, .int .i64 nx, .string lg, .int .i64 sy] 45)).alloc (.cells #[.slice none 0 0, .slice none 0 0, .slice none 0 0, .int .i64 0, .string ⟨#[]⟩, .int .i64 0] 45) = w0 := ⟨_, rfl⟩
  have hb0 : Below w.heap.size w w0 := by rw [← hw0]; exact (by repeat (first | exact Below.refl _ _ | assumption | refine Below.setCell ?_ (by first | omega | (simp <;> omega)) _ | refine Below.alloc ?_ (by first | omega | (simp <;> omega)) _ | refine Below.drew ?_))
  have hz0 : w0.heap.size = w.heap.size + 3 := by rw [← hw0]; simp
  have R0 : Hid (w0.heap[w.heap.size]? = some (.cells #[.int .i64 p.pts, .string p.names, .slice A p.moves.length c] 29 (0, 0))) := by rw [← hw0]; exact alloc3_0 _ _ _ _
  have R1 : Hid (w0.heap[w.heap.size + 1]? = some (.cells #[.slice A1 t.trk.length c1, .slice A2 t.pats.length c2, .slice A3 t.dist.length c3, .int .i64 nx, .string lg, .int .i64 sy] 45 (0, 0))) := by rw [← hw0]; exact alloc3_1 _ _ _ _
  have R2 : Hid (w0.heap[w.heap.size + 1 + 1]? = some (.cells #[.slice none 0 0, .slice none 0 0, .slice none 0 0, .int .i64 0, .string ⟨#[]⟩, .int .i64 0] 45 (0, 0))) := by rw [← hw0]; exact alloc3_2r _ _ _ _
  obtain ⟨p0, p1, p2, -, -⟩ := row3 R0.out
  obtain ⟨j0, j1, j2, j3, j4, j5, -, jl⟩ := row6 R1.out
  have HB0 := Lib.hid hb0
  have hval := implValid A c p A1 A2 A3 c1 c2 c3 t nx lg sy w0 (h.below hb0) (h1.below hb0) (h2.below hb0) (h3.below hb0) hs hnx hlg
  rw [hv] at hval
  unfold jobV at hval ⊢
  have HVC := Lib.hid hval
  have hva := validF_iff.1 hv
  have hlg6 := hva.vlg
  have HBLD := Lib.hid hva.vbld
  have HW0 := Lib.hid hw0
  have HP := Lib.hid h
  have H1 := Lib.hid h1
  have hs1 := hs.trk
  have hin : inR (k : Int) sy (lg.size : Int) = true := inR_iff.2 ⟨hk0, by omega⟩
  clear h h1 h2 h3 hs hb0 hv hw0 hval hva
  go_enter Try.func33, Try.ntmps33
  go_wp2_with fail
  rw [HW0.out]
  refine HVC.out.mono ?_
  rintro e w1 ⟨rfl, hb1⟩
  have HB1 := Lib.hid (belowStep hb1 HB0.out)
  have HR0 := Lib.hid (rowB hb1 R0.out)
  have HR1 := Lib.hid (rowB hb1 R1.out)
  have HR2 := Lib.hid (rowB hb1 R2.out)
  have hz1 := hb1.size
  clear hb1 HVC p0 p1 p2 j0 j1 j2 j3 j4 j5 jl HW0
  obtain ⟨p0, p1, p2, -, pl⟩ := row3 HR0.out
  obtain ⟨j0, j1, j2, j3, j4, j5, -, jl⟩ := row6 HR1.out
  go_wp2_with fail
  refine (within_any _ _ _ _).mono ?_
  rintro e w2 ⟨rfl, rfl⟩
  rw [hin]
  have hk2 : (0 : Int) ≤ (k : Int) := by omega
  have hk3 : (k : Int) ≤ (lg.size : Int) := by omega
  go_wp2_with fail
  have hxsz : (lg.extract 0 k).size ≤ 60000 := by rw [ByteArray.size_extract]; omega
  have HREC : Hid (∀ wx, Below w1.heap.size w1 wx → Calls Try.prog 36 #[.agg #[.int .i64 p.pts, .string p.names, .slice A p.moves.length c], .slice A1 t.trk.length c1, .string (lg.extract 0 k)] wx (RecYes p t.trk (lg.extract 0 k) wx)) := fun wx hb => implRecover A c p A1 c1 t.trk (lg.extract 0 k) wx (HP.out.below (belowStep hb HB1.out)) (H1.out.below (belowStep hb HB1.out)) hs1 hxsz HBLD.out
  clear hxsz
  go_region_held3 (fun w' => w'.cell? ⟨w.heap.size, 0, none⟩ = some (.int .i64 p.pts) ∧ w'.cell? ⟨w.heap.size, 1, none⟩ = some (.string p.names) ∧ w'.cell? ⟨w.heap.size, 2, none⟩ = some (.slice A p.moves.length c) ∧ w'.cell? ⟨w.heap.size + 1, 0, none⟩ = some (.slice A1 t.trk.length c1) ∧ w'.cell? ⟨w.heap.size + 1, 4, none⟩ = some (.string lg)) (first | go_keep | exact ⟨u0, u1, u2, v0, v4⟩ | exact ⟨z0, z1, z2, z3, z4⟩) ((go_at_call 36; refine (HREC.out _ (by first | exact (Below.refl _ _).drew | exact Below.refl _ _)).mono ?_; rintro e w3 ⟨i, E1, e1, E2, e2, E3, e3, hrec, rfl, hFT, hb3⟩; unfold jobV; obtain ⟨T, hT⟩ : ∃ T, chT p t.trk i = T := ⟨_, rfl⟩; obtain ⟨lgi, hlgi⟩ : ∃ lgi, (chF (mvsOf p.moves) t.trk i).2 = lgi := ⟨_, rfl⟩; rw [hT] at hFT ⊢; rw [hlgi]; obtain ⟨l1, hl1⟩ : ∃ l1, T.trk.length = l1 := ⟨_, rfl⟩; obtain ⟨l2, hl2⟩ : ∃ l2, T.pats.length = l2 := ⟨_, rfl⟩; obtain ⟨l3, hl3⟩ : ∃ l3, T.dist.length = l3 := ⟨_, rfl⟩; rw [hl1, hl2, hl3]; have HT := Lib.hid hT; have HLGI := Lib.hid hlgi; have HL1 := Lib.hid hl1; have HL2 := Lib.hid hl2; have HL3 := Lib.hid hl3; clear hT hlgi hl1 hl2 hl3; have T3 : Below w1.heap.size w1 w3 := belowStep hb3 (by first | exact (Below.refl _ _).drew | exact Below.refl _ _); obtain ⟨u0, u1, u2, -, -⟩ := row3 (rowB T3 HR0.out); obtain ⟨v0, v1, v2, v3, v4, v5, -, -⟩ := row6 (rowB T3 HR1.out); obtain ⟨q0, q1, q2, q3, q4, q5, qF, ql⟩ := row6 (rowB T3 HR2.out); have hgr := grown6 w3 (w.heap.size + 1 + 1) (.slice E1 l1 e1) (.slice E2 l2 e2) (.slice E3 l3 e3) (.int .i64 (i : Int)) (.string lgi) (.int .i64 (lgi.size : Int)); obtain ⟨z0, z1, z2, -, -⟩ := row3 (rowR hgr (rowB T3 HR0.out) (fun e => by injection e with e; omega)); obtain ⟨z3, z5, z6, z7, z4, z8, -, -⟩ := row6 (rowR hgr (rowB T3 HR1.out) (fun e => by injection e with e; omega))))
  have HR23 := Lib.hid (rowB T3 HR2.out)
  have HB3 := Lib.hid (belowStep T3 HB1.out)
  clear u0 u1 u2 v0 v1 v2 v3 v4 v5 q0 q1 q2 q3 q4 q5 qF ql z0 z1 z2 z3 z4 z5 z6 z7 z8 hgr hb3 p0 p1 p2 pl j0 j1 j2 j3 j4 j5 jl
  go_wp2_with fail
  obtain ⟨y0, y1, y2, y3, y4, y5, -, -⟩ := row6 (row6S HR23.out (.slice E1 l1 e1) (.slice E2 l2 e2) (.slice E3 l3 e3) (.int .i64 (i : Int)) (.string lgi) (.int .i64 (lgi.size : Int)))
  refine bodyPost_ret (v := .tuple #[.agg #[.slice E1 l1 e1, .slice E2 l2 e2, .slice E3 l3 e3, .int .i64 (i : Int), .string lgi, .int .i64 (lgi.size : Int)], .bool true]) (by simp [results, Try.results33, go_sem, y0, y1, y2, y3, y4, y5]) rfl ?_
  have hon := (OnlyIn.refl (w.heap.size + 1 + 1) (w.heap.size + 1 + 1 + 1) w3).grown (grown6 w3 (w.heap.size + 1 + 1) (.slice E1 l1 e1) (.slice E2 l2 e2) (.slice E3 l3 e3) (.int .i64 (i : Int)) (.string lgi) (.int .i64 (lgi.size : Int))) (fun b e => by injection e with e; omega)
  have hFT2 := (FTo.less (lo' := w1.heap.size) hFT (by first | exact Nat.le_refl _ | omega)).only hon (by omega)
  refine ⟨i, E1, e1, E2, e2, E3, e3, hrec, ?_, ?_, hon.below HB3.out (by omega) HB3.out.size⟩
  · unfold jobV; rw [HT.out, HLGI.out, HL1.out, HL2.out, HL3.out]
  · rw [HT.out]; exact hFT2.less (by omega)
end Go.Proofs.Ytfhdnanbhigpmaa
