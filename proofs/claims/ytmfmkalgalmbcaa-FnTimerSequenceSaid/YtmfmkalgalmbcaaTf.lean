/- Any timer drawn from a source. Conditions: as each contract says. -/
import Derived.Test.YtmfmkalgalmbcaaTi
namespace Go.Proofs.Ytmfmkalgalmbcaa
open Go.RowKit

theorem DrawT.set {w wr : World} {g T H : Nat} {A : Option Addr} {c : Nat} {xs : List Int} {t u : Tm} (h : DrawT w wr g T H A c xs t) (hlow : ∀ b off, A = some ⟨b, off, none⟩ → 0 < xs.length → b < w.heap.size) (hg : g < w.heap.size) (p : Nat) (v : Value) (hr : (wr.setCell ⟨T, p, none⟩ v).heap[T]? = some (.cells #[.int .i64 u.ph, .int .i64 u.la, .int .i64 u.ins, .int .i64 u.dn, .int .i64 u.st, .int .i64 u.sp, .int .i64 u.pe, .bool u.fl] 26 (0, 0))) : DrawT w (wr.setCell ⟨T, p, none⟩ v) g T H A c xs u := by
  have hb : Below w.heap.size wr (wr.setCell ⟨T, p, none⟩ v) := (Below.refl _ _).setCell (p := ⟨T, p, none⟩) h.newT _
  exact ⟨h.src.keep hb hg hlow, grownThen h.grown hb, hr, rowS h.res (fun e => h.ne e.symm), h.neT, h.neH, h.ne, h.newT, h.newH⟩
theorem DrawT.s0 {w wr : World} {g T H : Nat} {A : Option Addr} {c : Nat} {xs : List Int} {t : Tm} (h : DrawT w wr g T H A c xs t) (hlow : ∀ b off, A = some ⟨b, off, none⟩ → 0 < xs.length → b < w.heap.size) (hg : g < w.heap.size) (x : Int) : DrawT w (wr.setCell ⟨T, 0, none⟩ (.int .i64 x)) g T H A c xs { t with ph := x } :=
  h.set hlow hg 0 _ (heap_setCell_same _ T 0 _ _ (.int .i64 x) h.row)
theorem DrawT.s1 {w wr : World} {g T H : Nat} {A : Option Addr} {c : Nat} {xs : List Int} {t : Tm} (h : DrawT w wr g T H A c xs t) (hlow : ∀ b off, A = some ⟨b, off, none⟩ → 0 < xs.length → b < w.heap.size) (hg : g < w.heap.size) (x : Int) : DrawT w (wr.setCell ⟨T, 1, none⟩ (.int .i64 x)) g T H A c xs { t with la := x } :=
  h.set hlow hg 1 _ (heap_setCell_same _ T 1 _ _ (.int .i64 x) h.row)
theorem DrawT.s2 {w wr : World} {g T H : Nat} {A : Option Addr} {c : Nat} {xs : List Int} {t : Tm} (h : DrawT w wr g T H A c xs t) (hlow : ∀ b off, A = some ⟨b, off, none⟩ → 0 < xs.length → b < w.heap.size) (hg : g < w.heap.size) (x : Int) : DrawT w (wr.setCell ⟨T, 2, none⟩ (.int .i64 x)) g T H A c xs { t with ins := x } :=
  h.set hlow hg 2 _ (heap_setCell_same _ T 2 _ _ (.int .i64 x) h.row)
theorem DrawT.s3 {w wr : World} {g T H : Nat} {A : Option Addr} {c : Nat} {xs : List Int} {t : Tm} (h : DrawT w wr g T H A c xs t) (hlow : ∀ b off, A = some ⟨b, off, none⟩ → 0 < xs.length → b < w.heap.size) (hg : g < w.heap.size) (x : Int) : DrawT w (wr.setCell ⟨T, 3, none⟩ (.int .i64 x)) g T H A c xs { t with dn := x } :=
  h.set hlow hg 3 _ (heap_setCell_same _ T 3 _ _ (.int .i64 x) h.row)
theorem DrawT.s4 {w wr : World} {g T H : Nat} {A : Option Addr} {c : Nat} {xs : List Int} {t : Tm} (h : DrawT w wr g T H A c xs t) (hlow : ∀ b off, A = some ⟨b, off, none⟩ → 0 < xs.length → b < w.heap.size) (hg : g < w.heap.size) (x : Int) : DrawT w (wr.setCell ⟨T, 4, none⟩ (.int .i64 x)) g T H A c xs { t with st := x } :=
  h.set hlow hg 4 _ (heap_setCell_same _ T 4 _ _ (.int .i64 x) h.row)
theorem DrawT.s5 {w wr : World} {g T H : Nat} {A : Option Addr} {c : Nat} {xs : List Int} {t : Tm} (h : DrawT w wr g T H A c xs t) (hlow : ∀ b off, A = some ⟨b, off, none⟩ → 0 < xs.length → b < w.heap.size) (hg : g < w.heap.size) (x : Int) : DrawT w (wr.setCell ⟨T, 5, none⟩ (.int .i64 x)) g T H A c xs { t with sp := x } :=
  h.set hlow hg 5 _ (heap_setCell_same _ T 5 _ _ (.int .i64 x) h.row)
theorem DrawT.s6 {w wr : World} {g T H : Nat} {A : Option Addr} {c : Nat} {xs : List Int} {t : Tm} (h : DrawT w wr g T H A c xs t) (hlow : ∀ b off, A = some ⟨b, off, none⟩ → 0 < xs.length → b < w.heap.size) (hg : g < w.heap.size) (x : Int) : DrawT w (wr.setCell ⟨T, 6, none⟩ (.int .i64 x)) g T H A c xs { t with pe := x } :=
  h.set hlow hg 6 _ (heap_setCell_same _ T 6 _ _ (.int .i64 x) h.row)
theorem DrawT.s7 {w wr : World} {g T H : Nat} {A : Option Addr} {c : Nat} {xs : List Int} {t : Tm} (h : DrawT w wr g T H A c xs t) (hlow : ∀ b off, A = some ⟨b, off, none⟩ → 0 < xs.length → b < w.heap.size) (hg : g < w.heap.size) (x : Bool) : DrawT w (wr.setCell ⟨T, 7, none⟩ (.bool x)) g T H A c xs { t with fl := x } :=
  h.set hlow hg 7 _ (heap_setCell_same _ T 7 _ _ (.bool x) h.row)
def DrawnA (g : Nat) (A : Option Addr) (c : Nat) (xs : List Int) (w : World) (e : Ending) (w' : World) : Prop :=
  ∃ (t : Tm) (a : Int), e = .returned (.tuple #[.agg #[.int .i64 t.ph, .int .i64 t.la, .int .i64 t.ins, .int .i64 t.dn, .int .i64 t.st, .int .i64 t.sp, .int .i64 t.pe, .bool t.fl], .int .i64 a]) ∧ SrcAt w' g A c xs ∧ w.grownBy w' (some g)
set_option maxRecDepth 100000 in
set_option maxHeartbeats 8000000 in
theorem srcAny (g : Nat) (A : Option Addr) (c : Nat) (xs : List Int) (w : World) (hd : SrcAt w g A c xs) (hl : xs.length ≤ 4096) :
    Calls Try.prog 23 #[.pointer (some ⟨g, 0, none⟩)] w (DrawnA g A c xs w) := by
  have hlow := Lib.hid hd.low
  have hgw := hd.lt
  obtain ⟨w0, hw0⟩ : ∃ w0, w.alloc (.cells #[.int .i64 0, .int .i64 0, .int .i64 0, .int .i64 0, .int .i64 0, .int .i64 0, .int .i64 0, .bool false] 26) = w0 := ⟨_, rfl⟩
  have hR0 : w0.heap[w.heap.size]? = some (.cells #[.int .i64 0, .int .i64 0, .int .i64 0, .int .i64 0, .int .i64 0, .int .i64 0, .int .i64 0, .bool false] 26 (0, 0)) := by rw [← hw0]; exact heap_alloc_new w _
  have hd0 : SrcAt w0 g A c xs := by rw [← hw0]; exact hd.below (by repeat (first | exact Below.refl _ _ | assumption | refine Below.setCell ?_ (by first | omega | (simp <;> omega)) _ | refine Below.alloc ?_ (by first | omega | (simp <;> omega)) _ | refine Below.drew ?_))
  have hG0 : w.grownBy w0 (some g) := by rw [← hw0]; exact World.grownBy_alloc _ _ _
  clear hd
  go_enter Try.func23, Try.ntmps23
  go_wp2_with fail
  clear hw0
  refine (srcTimer g A c xs _ hd0 hl).mono ?_
  rintro e w1 ⟨t, a, rfl, hv, hd1, hg1⟩
  have hR1 := rowG hg1 hR0 (by omega)
  have hG1 := grownTrans hG0 hg1
  have HLA := Lib.hid (lastT hv)
  clear hR0 hd0 hG0 hg1 hv
  obtain ⟨w2, hw2⟩ : ∃ w2, w1.alloc (.cells #[.int .i64 t.ph, .int .i64 t.la, .int .i64 t.ins, .int .i64 t.dn, .int .i64 t.st, .int .i64 t.sp, .int .i64 t.pe, .bool t.fl] 26) = w2 := ⟨_, rfl⟩
  have hb2 : Below w1.heap.size w1 w2 := by rw [← hw2]; exact (by repeat (first | exact Below.refl _ _ | assumption | refine Below.setCell ?_ (by first | omega | (simp <;> omega)) _ | refine Below.alloc ?_ (by first | omega | (simp <;> omega)) _ | refine Below.drew ?_))
  have hT2 : w2.heap[w1.heap.size]? = some (.cells #[.int .i64 t.ph, .int .i64 t.la, .int .i64 t.ins, .int .i64 t.dn, .int .i64 t.st, .int .i64 t.sp, .int .i64 t.pe, .bool t.fl] 26 (0, 0)) := by rw [← hw2]; exact heap_alloc_new w1 _
  have hD2 : DrawT w w2 g w1.heap.size w.heap.size A c xs t := DrawT.of hd1 hG1 hR1 hgw rfl hb2 hT2 (Nat.le_refl _)
  clear hb2 hT2 hd1 hG1 hR1
  go_wp2_with fail
  clear hw2
  obtain ⟨T, hTT⟩ : ∃ T, w1.heap.size = T := ⟨_, rfl⟩
  rw [hTT] at hD2 ⊢
  clear hTT
  refine (srcOneIn g A c xs 8 _ hD2.src hl (by omega) (by omega)).mono ?_
  rintro e w3 ⟨b3, rfl, hd3, hg3⟩
  have HD3 := Lib.hid (hD2.draw hd3 hg3)
  clear hD2 hd3 hg3
  go_upto_if 12 with fail
  go_cut [] from 6 to 68 (fun wx => ∃ u : Tm, DrawT w wx g T w.heap.size A c xs u)
  case first =>
    cases b3
    · go_wp2_with fail
      go_meet
      exact ⟨t, HD3.out⟩
    · go_wp2_with fail
      refine (srcBelow g A c xs 8 _ HD3.out.src hl (by omega) (by omega)).mono ?_
      rintro e w4 ⟨y, rfl, y0, y1, hd4, hg4⟩
      have hD4 := HD3.out.draw hd4 hg4
      obtain ⟨m, rfl⟩ := Int.eq_ofNat_of_zero_le y0
      have hm : m < 8 := by omega
      have k1 : w4.cell? ⟨T, 1, none⟩ = some (.int .i64 t.la) := cell_of_row _ _ 1 _ _ (0, 0) hD4.row
      have HD4 := Lib.hid hD4
      clear hd4 hg4 HD3 hD4
      match m, hm with
      | 0, _ =>
        clear k1
        go_wp2_with fail
        refine (srcBetween g A c xs (-1) 5 _ HD4.out.src hl (by omega) (by omega) (by omega) (by omega)).mono ?_
        rintro e w5 ⟨x, rfl, _, _, hd5, hg5⟩
        have hD5 := HD4.out.draw hd5 hg5
        have k0 : w5.cell? ⟨T, 0, none⟩ = some (.int .i64 t.ph) := cell_of_row _ _ 0 _ _ (0, 0) hD5.row
        have f0 : w5.frozen? ⟨T, 0, none⟩ = false := row_free hD5.row
        have HD6 := Lib.hid (hD5.s0 hlow.out hgw x)
        clear hd5 hg5 HD4 hD5
        go_wp2_with fail
        go_meet
        exact ⟨_, HD6.out⟩
      | 1, _ =>
        clear k1
        go_wp2_with fail
        refine (srcUpTo g A c xs 360000 _ HD4.out.src hl (by omega) (by omega)).mono ?_
        rintro e w5 ⟨x, rfl, hd5, hg5⟩
        have hD5 := HD4.out.draw hd5 hg5
        have k0 : w5.cell? ⟨T, 1, none⟩ = some (.int .i64 t.la) := cell_of_row _ _ 1 _ _ (0, 0) hD5.row
        have f0 : w5.frozen? ⟨T, 1, none⟩ = false := row_free hD5.row
        have HD6 := Lib.hid (hD5.s1 hlow.out hgw x)
        clear hd5 hg5 HD4 hD5
        go_wp2_with fail
        go_meet
        exact ⟨_, HD6.out⟩
      | 2, _ =>
        go_wp2_with fail
        refine (srcUpTo g A c xs t.la _ HD4.out.src hl HLA.out.1 HLA.out.2).mono ?_
        rintro e w5 ⟨x, rfl, hd5, hg5⟩
        have hD5 := HD4.out.draw hd5 hg5
        have k0 : w5.cell? ⟨T, 2, none⟩ = some (.int .i64 t.ins) := cell_of_row _ _ 2 _ _ (0, 0) hD5.row
        have f0 : w5.frozen? ⟨T, 2, none⟩ = false := row_free hD5.row
        have HD6 := Lib.hid (hD5.s2 hlow.out hgw x)
        clear hd5 hg5 HD4 hD5 k1
        go_wp2_with fail
        go_meet
        exact ⟨_, HD6.out⟩
      | 3, _ =>
        clear k1
        go_wp2_with fail
        refine (srcBelow g A c xs 2 _ HD4.out.src hl (by omega) (by omega)).mono ?_
        rintro e w5 ⟨x, rfl, _, _, hd5, hg5⟩
        have hD5 := HD4.out.draw hd5 hg5
        have k0 : w5.cell? ⟨T, 3, none⟩ = some (.int .i64 t.dn) := cell_of_row _ _ 3 _ _ (0, 0) hD5.row
        have f0 : w5.frozen? ⟨T, 3, none⟩ = false := row_free hD5.row
        have HD6 := Lib.hid (hD5.s3 hlow.out hgw x)
        clear hd5 hg5 HD4 hD5
        go_wp2_with fail
        go_meet
        exact ⟨_, HD6.out⟩
      | 4, _ =>
        have k0 : w4.cell? ⟨T, 4, none⟩ = some (.int .i64 t.st) := cell_of_row _ _ 4 _ _ (0, 0) HD4.out.row
        clear k1
        go_upto_region 13 with fail
        go_region_with (first | (go_at_call 38; refine (srcBetween g A c xs (-1) 1 _ (by exact HD4.out.src.below (by repeat (first | exact Below.refl _ _ | assumption | refine Below.setCell ?_ (by first | omega | (simp <;> omega)) _ | refine Below.alloc ?_ (by first | omega | (simp <;> omega)) _ | refine Below.drew ?_))) hl (by omega) (by omega) (by omega) (by omega)).mono ?_; rintro e w5 ⟨x, rfl, _, _, hd5, hg5⟩; have hg5 := unD hg5; have HD5 := Lib.hid ((HD4.out.below (by exact (by repeat (first | exact Below.refl _ _ | assumption | refine Below.setCell ?_ (by first | omega | (simp <;> omega)) _ | refine Below.alloc ?_ (by first | omega | (simp <;> omega)) _ | refine Below.drew ?_)))).draw hd5 hg5); have k0 : w5.cell? ⟨T, 4, none⟩ = some (.int .i64 t.st) := cell_of_row _ _ 4 _ _ (0, 0) HD5.out.row; have f0 : w5.frozen? ⟨T, 4, none⟩ = false := row_free HD5.out.row; clear hd5 hg5))
        all_goals
          go_wp2_with fail
          go_meet
          exact ⟨_, HD5.out.s4 hlow.out hgw _⟩
      | 5, _ =>
        have k0 : w4.cell? ⟨T, 5, none⟩ = some (.int .i64 t.sp) := cell_of_row _ _ 5 _ _ (0, 0) HD4.out.row
        clear k1
        go_upto_region 15 with fail
        go_region_with (first | (go_at_call 38; refine (srcBetween g A c xs (-1) 1 _ (by exact HD4.out.src.below (by repeat (first | exact Below.refl _ _ | assumption | refine Below.setCell ?_ (by first | omega | (simp <;> omega)) _ | refine Below.alloc ?_ (by first | omega | (simp <;> omega)) _ | refine Below.drew ?_))) hl (by omega) (by omega) (by omega) (by omega)).mono ?_; rintro e w5 ⟨x, rfl, _, _, hd5, hg5⟩; have hg5 := unD hg5; have HD5 := Lib.hid ((HD4.out.below (by exact (by repeat (first | exact Below.refl _ _ | assumption | refine Below.setCell ?_ (by first | omega | (simp <;> omega)) _ | refine Below.alloc ?_ (by first | omega | (simp <;> omega)) _ | refine Below.drew ?_)))).draw hd5 hg5); have k0 : w5.cell? ⟨T, 5, none⟩ = some (.int .i64 t.sp) := cell_of_row _ _ 5 _ _ (0, 0) HD5.out.row; have f0 : w5.frozen? ⟨T, 5, none⟩ = false := row_free HD5.out.row; clear hd5 hg5))
        all_goals
          go_wp2_with fail
          go_meet
          exact ⟨_, HD5.out.s5 hlow.out hgw _⟩
      | 6, _ =>
        clear k1
        obtain ⟨w5, hw5⟩ : ∃ w5, w4.alloc (.cells #[.int .i64 100, .int .i64 200, .int .i64 2000, .int .i64 2200, .int .i64 (-200)] 2) = w5 := ⟨_, rfl⟩
        have hb5 : Below w4.heap.size w4 w5 := by rw [← hw5]; exact (by repeat (first | exact Below.refl _ _ | assumption | refine Below.setCell ?_ (by first | omega | (simp <;> omega)) _ | refine Below.alloc ?_ (by first | omega | (simp <;> omega)) _ | refine Below.drew ?_))
        have hr5 : w5.heap[w4.heap.size]? = some (.cells (([100, 200, 2000, 2200, -200] : List Int).map (Value.int .i64)).toArray 2 (0, 0)) := by rw [← hw5]; exact heap_alloc_new w4 _
        have HD5 := Lib.hid (HD4.out.below hb5)
        have hgne : w4.heap.size ≠ g := by have := HD4.out.src.lt; omega
        clear hb5 HD4
        go_wp2_with fail
        clear hw5
        refine (srcBelow g A c xs 5 _ HD5.out.src hl (by omega) (by omega)).mono ?_
        rintro e w6 ⟨y, rfl, y0, y1, hd6, hg6⟩
        obtain ⟨m, rfl⟩ := Int.eq_ofNat_of_zero_le y0
        have hr6 := rowG hg6 hr5 hgne
        have hcc := pick_at (m := m) [100, 200, 2000, 2200, -200] hr6 rfl (by simp; omega)
        obtain ⟨z, hz⟩ : ∃ z, ([100, 200, 2000, 2200, -200] : List Int).getD m 0 = z := ⟨_, rfl⟩
        rw [hz] at hcc
        have hD6 := HD5.out.draw hd6 hg6
        have k0 : w6.cell? ⟨T, 6, none⟩ = some (.int .i64 t.pe) := cell_of_row _ _ 6 _ _ (0, 0) hD6.row
        have f0 : w6.frozen? ⟨T, 6, none⟩ = false := row_free hD6.row
        have HD7 := Lib.hid (hD6.s6 hlow.out hgw z)
        clear hz hr5 hr6 hd6 hg6 HD5 hD6
        go_wp2_with fail
        go_meet
        exact ⟨_, HD7.out⟩
      | 7, _ =>
        clear k1
        have k0 : w4.cell? ⟨T, 7, none⟩ = some (.bool t.fl) := cell_of_row _ _ 7 _ _ (0, 0) HD4.out.row
        have f0 : w4.frozen? ⟨T, 7, none⟩ = false := row_free HD4.out.row
        have HD7 := Lib.hid (HD4.out.s7 hlow.out hgw (!t.fl))
        clear HD4
        go_wp2_with fail
        go_meet
        exact ⟨_, HD7.out⟩
  case rest =>
    obtain ⟨u, hD⟩ := hcut
    clear HD3 HLA
    obtain ⟨⟨i0, i1, i2, i3, i4, i5, i6, i7⟩, -⟩ := zcells hD.row
    obtain ⟨⟨j0, j1, j2, j3, j4, j5, j6, j7⟩, f0, f1, f2, f3, f4, f5, f6, f7⟩ := zcells hD.res
    have HF := Lib.hid (hD.fin hlow.out hgw u)
    unfold Set8 at HF
    clear hD
    go_wp2_with fail
    obtain ⟨h1, h2, h3⟩ := HF.out
    obtain ⟨⟨k0, k1, k2, k3, k4, k5, k6, k7⟩, -⟩ := zcells h3
    exact bodyPost_ret (v := .tuple #[.agg #[.int .i64 u.ph, .int .i64 u.la, .int .i64 u.ins, .int .i64 u.dn, .int .i64 u.st, .int .i64 u.sp, .int .i64 u.pe, .bool u.fl], .int .i64 a]) (by simp only [results, Try.results23]; simp [go_sem, k0, k1, k2, k3, k4, k5, k6, k7]) rfl ⟨u, a, rfl, h1, h2⟩
end Go.Proofs.Ytmfmkalgalmbcaa
