/- Jobs synced, crashed, finished, impl. Conditions: as each contract says. -/
import Derived.Test.YtfhdnanbhigpmaaGreatRv
import Derived.Deep.CutRange
import Derived.Deep.RegionHeld3
namespace Go.Proofs.YtfhdnanbhigpmaaGreat
open Go.RowKit Grp

theorem valid_chT {p : Pz} {t : Tb} {nx : Int} {lg : ByteArray} {sy : Int} (h : ValidF p t nx lg sy) : chT p t.trk nx.toNat = t := by
  unfold chT
  rw [h.vls, h.vds]
def SyncYes (t : Tb) (nx : Int) (lg : ByteArray) (w : World) (e : Ending) (w' : World) : Prop :=
  ∃ (A1 : Option Addr) (c1 : Nat) (A2 : Option Addr) (c2 : Nat) (A3 : Option Addr) (c3 : Nat), e = .returned (.tuple #[jobV A1 A2 A3 c1 c2 c3 t nx lg (lg.size : Int), .bool true]) ∧ FTo w.heap.size w' A1 c1 A2 A3 c3 t ∧ Below w.heap.size w w'
def FinYes (t : Tb) (w : World) (e : Ending) (w' : World) : Prop :=
  ∃ (A1 : Option Addr) (c1 : Nat) (A2 : Option Addr) (c2 : Nat) (A3 : Option Addr) (c3 : Nat), e = .returned (.tuple #[.agg #[.slice A1 t.trk.length c1, .slice A2 t.pats.length c2, .slice A3 t.dist.length c3], .bool true]) ∧ FTo w.heap.size w' A1 c1 A2 A3 c3 t ∧ Below w.heap.size w w'
def FinNo (w : World) (e : Ending) (w' : World) : Prop := e = .returned (.tuple #[.agg #[.slice none 0 0, .slice none 0 0, .slice none 0 0], .bool false]) ∧ Below w.heap.size w w'
theorem row3S_grown (w : World) (g : Nat) (x y z : Value) : w.grownBy (((w.setCell ⟨g, 0, none⟩ x).setCell ⟨g, 1, none⟩ y).setCell ⟨g, 2, none⟩ z) (some g) :=
  ((setGrown w g 0 x).trans (setGrown _ g 1 y)).trans (setGrown _ g 2 z)
set_option maxRecDepth 100000 in
set_option maxHeartbeats 8000000 in
theorem implFinQ (A : Option Addr) (c : Nat) (p : Pz) (A1 A2 A3 : Option Addr) (c1 c2 c3 : Nat) (t : Tb) (nx : Int) (lg : ByteArray) (sy : Int) (w : World) (h : PzAt w A p) (h1 : IntsAt w A1 t.trk) (h2 : LAt w A2 t.pats) (h3 : IntsAt w A3 t.dist) (hs : ShortT t) (hnx : -9223372036854775808 ≤ nx ∧ nx ≤ 9223372036854775807) (hlg : lg.size ≤ 1048576) (Q : Ending → World → Prop) (hy : validF p t nx lg sy = true ∧ nx = (t.pats.length : Int) → ∀ e w', FinYes t w e w' → Q e w') (hn : ¬ (validF p t nx lg sy = true ∧ nx = (t.pats.length : Int)) → ∀ e w', FinNo w e w' → Q e w') :
    Calls Tryz.prog 9 #[.agg #[.int .i64 p.pts, .string p.names, .slice A p.moves.length c], jobV A1 A2 A3 c1 c2 c3 t nx lg sy] w Q := by
  have HYY := Lib.hid hy
  have HNN := Lib.hid hn
  clear hy hn
  obtain ⟨w0, hw0⟩ : ∃ w0, ((w.alloc (.cells #[.int .i64 p.pts, .string p.names, .slice A p.moves.length c] 35)).alloc (.cells #[.slice A1 t.trk.length c1, .slice A2 t.pats.length c2, .slice A3 t.dist.length c3, .int .i64 nx, .string lg, .int .i64 sy] 38)).alloc (.cells #[.slice none 0 0, .slice none 0 0, .slice none 0 0] 32) = w0 := ⟨_, rfl⟩
  have hb0 : Below w.heap.size w w0 := by rw [← hw0]; exact (by repeat (first | exact Below.refl _ _ | assumption | refine Below.setCell ?_ (by first | omega | (simp <;> omega)) _ | refine Below.alloc ?_ (by first | omega | (simp <;> omega)) _ | refine Below.drew ?_))
  have hz0 : w0.heap.size = w.heap.size + 3 := by rw [← hw0]; simp
  have R0 : Hid (w0.heap[w.heap.size]? = some (.cells #[.int .i64 p.pts, .string p.names, .slice A p.moves.length c] 35 (0, 0))) := by rw [← hw0]; exact alloc3_0 _ _ _ _
  have R1 : Hid (w0.heap[w.heap.size + 1]? = some (.cells #[.slice A1 t.trk.length c1, .slice A2 t.pats.length c2, .slice A3 t.dist.length c3, .int .i64 nx, .string lg, .int .i64 sy] 38 (0, 0))) := by rw [← hw0]; exact alloc3_1 _ _ _ _
  have R2 : Hid (w0.heap[w.heap.size + 1 + 1]? = some (.cells #[.slice none 0 0, .slice none 0 0, .slice none 0 0] 32 (0, 0))) := by rw [← hw0]; exact alloc3_2r _ _ _ _
  obtain ⟨p0, p1, p2, -, -⟩ := row3 R0.out
  obtain ⟨j0, j1, j2, j3, j4, j5, -, jl⟩ := row6 R1.out
  have HB0 := Lib.hid hb0
  have HR := Lib.hid (implResume A c p A1 A2 A3 c1 c2 c3 t nx lg sy w0 (h.below hb0) (h1.below hb0) (h2.below hb0) (h3.below hb0) hs hnx hlg)
  obtain ⟨V, hV⟩ : ∃ V, validF p t nx lg sy = V := ⟨_, rfl⟩
  have HV := Lib.hid hV
  unfold ResPost at HR
  simp only [hV] at HR
  rw [hV] at HYY HNN
  unfold jobV at HR ⊢
  have HW0 := Lib.hid hw0
  clear h h1 h2 h3 hs hb0 hV hw0
  go_enter Tryz.func9, Tryz.ntmps9
  go_wp2_with fail
  rw [HW0.out]
  refine HR.out.mono ?_
  rintro e w1 ⟨⟨f, rfl, hok⟩, hb1⟩
  have HB1 := Lib.hid (belowStep hb1 HB0.out)
  have HRB := Lib.hid (rowB hb1 R2.out)
  have hz1 := hb1.size
  have HOK := Lib.hid hok
  clear hb1 hok HR j0 j1 j2 j3 j4 j5 jl p0 p1 p2 HW0
  obtain ⟨q0, q1, q2, qF, ql⟩ := row3 HRB.out
  cases V with
  | false =>
    have hno := Lib.hid (HNN.out (fun k => by cases k.1))
    clear HNN HYY HOK
    go_wp2_with fail
    obtain ⟨y0, y1, y2, -, -⟩ := row3 (row3S HRB.out (.slice none 0 0) (.slice none 0 0) (.slice none 0 0))
    refine bodyPost_ret (v := .tuple #[.agg #[.slice none 0 0, .slice none 0 0, .slice none 0 0], .bool false]) (by simp [results, Tryz.results9, go_sem, y0, y1, y2]) rfl ?_
    exact hno.out _ _ ⟨rfl, HB1.out.grown (row3S_grown _ _ _ _ _) HB1.out.size (fun b e => by injection e with e; omega)⟩
  | true =>
    obtain ⟨lo, f, bm, vt, vm, rfl, hlo, hlbm, hFs⟩ := HOK.out (by first | rfl | trivial)
    have hva := validF_iff.1 HV.out
    obtain ⟨N, hN20, hx0, hmv, hml, hx20, hch⟩ := ch_full hva.vbld
    have hgd := hch _ hva.vok
    have hD := implDone lo f bm vt vm t.trk (mvsOf p.moves) sy _ nx.toNat lg w1 hFs
    rw [hva.vls] at hD
    have hnxn : ((nx.toNat : Nat) : Int) = nx := by have := hva.vnx; omega
    obtain ⟨vl, vd, K, hFl, hKO⟩ := hFs
    rw [hnxn, hva.vls, hva.vds] at hFl
    have hrw := hgd.1.rows
    rw [hva.vls] at hrw
    have hnd := ch_nodup (mvs := mvsOf p.moves) (trk := t.trk) nx.toNat
    rw [hva.vls] at hnd
    obtain ⟨E1, e1, -, rfl, -⟩ := hFl.trk.capped
    obtain ⟨E2, e2, rfl, -, -⟩ := hFl.st.lists.shape
    obtain ⟨E3, e3, -, rfl, -⟩ := hFl.st.deps.capped
    have HFT := Lib.hid (hFl.fto hrw hx0 hnd)
    have HROW := Lib.hid hFl.row
    have hlf := hFl.lof
    have hfz := row_lt hFl.row
    obtain ⟨b, hb⟩ : ∃ b, decide (nx.toNat = t.pats.length) = b := ⟨_, rfl⟩
    rw [hb] at hD
    have HD := Lib.hid hD
    have HBB := Lib.hid hb
    have HNXN := Lib.hid hnxn
    clear hFl hKO hgd hch hmv hrw hnd hva hnxn hD hb HOK q0 q1 q2 qF ql
    go_wp2_with fail
    refine HD.out.mono ?_
    rintro e w2 ⟨rfl, nq, hw2⟩
    have hb2 : Below w1.heap.size w1 w2 := by rw [hw2]; exact belowDrewN (Below.refl _ _) nq
    have HB2 := Lib.hid (HB1.out.trans (hb2.mono HB1.out.size))
    have HRB2 := Lib.hid (rowB hb2 HRB.out)
    have HFT2 := Lib.hid (HFT.out.below hb2)
    have HROW2 := Lib.hid (rowB hb2 HROW.out)
    have hz2 := hb2.size
    clear hw2 hb2 HD HROW HFT HRB
    obtain ⟨q0, q1, q2, qF, ql⟩ := row3 HRB2.out
    obtain ⟨f0, f1, f2, f3, f4, f5, fF, fl⟩ := row8 HROW2.out
    cases b with
    | false =>
      have hne := of_decide_eq_false HBB.out
      have hno := Lib.hid (HNN.out (fun k => hne (by have := k.2; have := HNXN.out; omega)))
      clear HNN HYY hne
      go_wp2_with fail
      obtain ⟨y0, y1, y2, -, -⟩ := row3 (row3S HRB2.out (.slice none 0 0) (.slice none 0 0) (.slice none 0 0))
      refine bodyPost_ret (v := .tuple #[.agg #[.slice none 0 0, .slice none 0 0, .slice none 0 0], .bool false]) (by simp [results, Tryz.results9, go_sem, y0, y1, y2]) rfl ?_
      exact hno.out _ _ ⟨rfl, HB2.out.grown (row3S_grown _ _ _ _ _) HB2.out.size (fun b e => by injection e with e; omega)⟩
    | true =>
      have heq := of_decide_eq_true HBB.out
      have hyes := Lib.hid (HYY.out ⟨by first | rfl | trivial, by have := HNXN.out; omega⟩)
      clear HNN HYY heq
      go_wp2_with fail
      obtain ⟨y0, y1, y2, -, -⟩ := row3 (row3S HRB2.out (.slice E1 t.trk.length e1) (.slice E2 t.pats.length e2) (.slice E3 t.dist.length e3))
      refine bodyPost_ret (v := .tuple #[.agg #[.slice E1 t.trk.length e1, .slice E2 t.pats.length e2, .slice E3 t.dist.length e3], .bool true]) (by simp [results, Tryz.results9, go_sem, y0, y1, y2]) rfl ?_
      have hon := (OnlyIn.refl (w.heap.size + 1 + 1) (w.heap.size + 1 + 1 + 1) w2).grown (row3S_grown w2 (w.heap.size + 1 + 1) (.slice E1 t.trk.length e1) (.slice E2 t.pats.length e2) (.slice E3 t.dist.length e3)) (fun b e => by injection e with e; omega)
      exact hyes.out _ _ ⟨E1, e1, E2, e2, E3, e3, rfl, (HFT2.out.only hon (by omega)).less (by omega), hon.below HB2.out (by omega) HB2.out.size⟩
end Go.Proofs.YtfhdnanbhigpmaaGreat
