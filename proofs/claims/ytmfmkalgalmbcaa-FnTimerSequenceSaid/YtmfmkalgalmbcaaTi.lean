/- A valid timer drawn from a source. Conditions: as the contract says. -/
import Derived.Test.YtmfmkalgalmbcaaTd
import Derived.Deep.CutRange
import Derived.Deep.RegionWith
namespace Go.Proofs.Ytmfmkalgalmbcaa
open Go.RowKit

/-- What the end wants of the world. -/
def FinT (w : World) (g H : Nat) (A : Option Addr) (c : Nat) (xs : List Int) (t : Tm) (wx : World) : Prop := SrcAt wx g A c xs ∧ w.grownBy wx (some g) ∧ wx.heap[H]? = some (.cells #[.int .i64 t.ph, .int .i64 t.la, .int .i64 t.ins, .int .i64 t.dn, .int .i64 t.st, .int .i64 t.sp, .int .i64 t.pe, .bool t.fl] 26 (0, 0))
theorem DrawT.fin8 {w w5 : World} {g T H : Nat} {A : Option Addr} {c : Nat} {xs : List Int} {t : Tm} (h : DrawT w w5 g T H A c xs t) (hlow : ∀ b off, A = some ⟨b, off, none⟩ → 0 < xs.length → b < w.heap.size) (hg : g < w.heap.size) :
    FinT w g H A c xs t ((((((((w5.setCell ⟨H, 0, none⟩ (.int .i64 t.ph)).setCell ⟨H, 1, none⟩ (.int .i64 t.la)).setCell ⟨H, 2, none⟩ (.int .i64 t.ins)).setCell ⟨H, 3, none⟩ (.int .i64 t.dn)).setCell ⟨H, 4, none⟩ (.int .i64 t.st)).setCell ⟨H, 5, none⟩ (.int .i64 t.sp)).setCell ⟨H, 6, none⟩ (.int .i64 t.pe)).setCell ⟨H, 7, none⟩ (.bool t.fl)) := h.fin hlow hg t
theorem DrawT.finA {w w5 : World} {g T H : Nat} {A : Option Addr} {c : Nat} {xs : List Int} {t : Tm} (o : Obj) (h : DrawT w w5 g T H A c xs t) (hlow : ∀ b off, A = some ⟨b, off, none⟩ → 0 < xs.length → b < w.heap.size) (hg : g < w.heap.size) :
    FinT w g H A c xs t (((((((((w5.setCell ⟨H, 0, none⟩ (.int .i64 t.ph)).setCell ⟨H, 1, none⟩ (.int .i64 t.la)).setCell ⟨H, 2, none⟩ (.int .i64 t.ins)).setCell ⟨H, 3, none⟩ (.int .i64 t.dn)).setCell ⟨H, 4, none⟩ (.int .i64 t.st)).setCell ⟨H, 5, none⟩ (.int .i64 t.sp)).setCell ⟨H, 6, none⟩ (.int .i64 t.pe)).setCell ⟨H, 7, none⟩ (.bool t.fl)).alloc o) := by
  obtain ⟨r1, r2, r3⟩ := h.fin8 hlow hg
  have hb : Below ((((((((w5.setCell ⟨H, 0, none⟩ (.int .i64 t.ph)).setCell ⟨H, 1, none⟩ (.int .i64 t.la)).setCell ⟨H, 2, none⟩ (.int .i64 t.ins)).setCell ⟨H, 3, none⟩ (.int .i64 t.dn)).setCell ⟨H, 4, none⟩ (.int .i64 t.st)).setCell ⟨H, 5, none⟩ (.int .i64 t.sp)).setCell ⟨H, 6, none⟩ (.int .i64 t.pe)).setCell ⟨H, 7, none⟩ (.bool t.fl)).heap.size ((((((((w5.setCell ⟨H, 0, none⟩ (.int .i64 t.ph)).setCell ⟨H, 1, none⟩ (.int .i64 t.la)).setCell ⟨H, 2, none⟩ (.int .i64 t.ins)).setCell ⟨H, 3, none⟩ (.int .i64 t.dn)).setCell ⟨H, 4, none⟩ (.int .i64 t.st)).setCell ⟨H, 5, none⟩ (.int .i64 t.sp)).setCell ⟨H, 6, none⟩ (.int .i64 t.pe)).setCell ⟨H, 7, none⟩ (.bool t.fl)) (((((((((w5.setCell ⟨H, 0, none⟩ (.int .i64 t.ph)).setCell ⟨H, 1, none⟩ (.int .i64 t.la)).setCell ⟨H, 2, none⟩ (.int .i64 t.ins)).setCell ⟨H, 3, none⟩ (.int .i64 t.dn)).setCell ⟨H, 4, none⟩ (.int .i64 t.st)).setCell ⟨H, 5, none⟩ (.int .i64 t.sp)).setCell ⟨H, 6, none⟩ (.int .i64 t.pe)).setCell ⟨H, 7, none⟩ (.bool t.fl)).alloc o) := (Below.refl _ _).alloc (Nat.le_refl _) _
  exact ⟨r1.below hb, grownB r2 hb, rowB hb r3⟩
theorem timer_retF {w wx : World} {g : Nat} {A : Option Addr} {c : Nat} {xs : List Int} {t : Tm} (h : FinT w g w.heap.size A c xs t wx) (hv : validT t = true) {a : Act} {x : Int}
    (h2 : a.tmps[2]? = some (.pointer (some ⟨w.heap.size, 0, none⟩))) (h3 : a.tmps[3]? = some (.int .i64 x)) (hd : a.defers = []) : bodyPost Try.prog Try.f35 (DrawnT g A c xs w) .ret a wx := by
  obtain ⟨r1, r2, r3⟩ := h
  obtain ⟨⟨k0, k1, k2, k3, k4, k5, k6, k7⟩, -⟩ := zcells r3
  refine bodyPost_ret (v := .tuple #[.agg #[.int .i64 t.ph, .int .i64 t.la, .int .i64 t.ins, .int .i64 t.dn, .int .i64 t.st, .int .i64 t.sp, .int .i64 t.pe, .bool t.fl], .int .i64 x]) ?_ hd ⟨t, x, rfl, hv, r1, r2⟩
  simp only [results, Try.results35]
  simp [go_sem, h2, h3, k0, k1, k2, k3, k4, k5, k6, k7]
def kindsL : List Int := [1, 2, 3, 4, 5, 7]
set_option maxRecDepth 100000 in
set_option maxHeartbeats 100000000 in
theorem srcTimer (g : Nat) (A : Option Addr) (c : Nat) (xs : List Int) (w : World) (hd : SrcAt w g A c xs) (hl : xs.length ≤ 4096) :
    Calls Try.prog 35 #[.pointer (some ⟨g, 0, none⟩)] w (DrawnT g A c xs w) := by
  have hlow := Lib.hid hd.low
  have hgw := hd.lt
  obtain ⟨w0, hw0⟩ : ∃ w0, w.alloc (.cells #[.int .i64 0, .int .i64 0, .int .i64 0, .int .i64 0, .int .i64 0, .int .i64 0, .int .i64 0, .bool false] 26) = w0 := ⟨_, rfl⟩
  have hR0 : w0.heap[w.heap.size]? = some (.cells #[.int .i64 0, .int .i64 0, .int .i64 0, .int .i64 0, .int .i64 0, .int .i64 0, .int .i64 0, .bool false] 26 (0, 0)) := by rw [← hw0]; exact heap_alloc_new w _
  have hd0 : SrcAt w0 g A c xs := by rw [← hw0]; exact hd.below (by repeat (first | exact Below.refl _ _ | assumption | refine Below.setCell ?_ (by first | omega | (simp <;> omega)) _ | refine Below.alloc ?_ (by first | omega | (simp <;> omega)) _ | refine Below.drew ?_))
  have hG0 : w.grownBy w0 (some g) := by rw [← hw0]; exact World.grownBy_alloc _ _ _
  clear hd
  go_enter Try.func35, Try.ntmps35
  go_wp2_with fail
  clear hw0
  refine (srcBelow g A c xs 100 _ hd0 hl (by omega) (by omega)).mono ?_
  rintro e w1 ⟨x, rfl, x0, x1, hd1, hg1⟩
  have hR1 := rowG hg1 hR0 (by omega)
  have hG1 := grownTrans hG0 hg1
  clear hR0 hd0 hG0 hg1
  obtain ⟨w2, hw2⟩ : ∃ w2, (w1.alloc (.cells #[.int .i64 0, .int .i64 x, .int .i64 0, .int .i64 0, .int .i64 0, .int .i64 0, .int .i64 0, .bool false] 26)).alloc (.cells #[.int .i64 1, .int .i64 2, .int .i64 3, .int .i64 4, .int .i64 5, .int .i64 7] 2) = w2 := ⟨_, rfl⟩
  have hb2 : Below w1.heap.size w1 w2 := by rw [← hw2]; exact (by repeat (first | exact Below.refl _ _ | assumption | refine Below.setCell ?_ (by first | omega | (simp <;> omega)) _ | refine Below.alloc ?_ (by first | omega | (simp <;> omega)) _ | refine Below.drew ?_))
  have hT2 : w2.heap[w1.heap.size]? = some (.cells #[.int .i64 0, .int .i64 x, .int .i64 0, .int .i64 0, .int .i64 0, .int .i64 0, .int .i64 0, .bool false] 26 (0, 0)) := by rw [← hw2]; exact alloc2_0 w1 _ _
  have hK2 : w2.heap[w1.heap.size + 1]? = some (.cells (kindsL.map (Value.int .i64)).toArray 2 (0, 0)) := by rw [← hw2]; exact alloc2_1 w1 _ _
  have hD2 : DrawT w w2 g w1.heap.size w.heap.size A c xs ⟨0, x, 0, 0, 0, 0, 0, false⟩ := DrawT.of hd1 hG1 hR1 hgw rfl hb2 hT2 (Nat.le_refl _)
  have hv2 := Lib.hid (valid_idle x0 x1)
  have hzz := hG1.size
  have hlt1 : w.heap.size < w1.heap.size := (Array.getElem?_eq_some_iff.1 hR1).1
  clear hb2 hT2 hd1 hG1 hR1
  go_wp2_with fail
  clear hw2
  obtain ⟨T, hTT⟩ : ∃ T, w1.heap.size = T := ⟨_, rfl⟩
  rw [hTT] at hD2 hK2 hlt1 ⊢
  clear hTT hzz
  refine (srcBelow g A c xs 7 _ hD2.src hl (by omega) (by omega)).mono ?_
  rintro e w3 ⟨y, rfl, y0, y1, hd3, hg3⟩
  obtain ⟨q0, rfl⟩ := Int.eq_ofNat_of_zero_le y0
  have hD3 := hD2.draw hd3 hg3
  have hK3 := rowG hg3 hK2 (by omega)
  have hq0 : q0 ≤ 6 := by omega
  clear hD2 hK2 hd3 hg3 y0 y1 x0 x1
  go_wp2_with fail
  go_loopw [6] (fun q wr => ∃ (k : Nat) (t : Tm), q = .int .i64 k ∧ k ≤ 6 ∧ DrawT w wr g T w.heap.size A c xs t ∧ Hid (validT t = true) ∧ wr.heap[T + 1]? = some (.cells (kindsL.map (Value.int .i64)).toArray 2 (0, 0))) (fun q _ => (intOf q).toNat)
  case atStart => exact ⟨q0, _, rfl, hq0, hD3, hv2, hK3⟩
  case round =>
    obtain ⟨k, t, rfl, hk, hD, HV, hK⟩ := hrel
    obtain ⟨wo, rfl⟩ : ∃ wo : World, wo = wr := ⟨_, rfl⟩
    clear hD3 hv2 hK3
    have hlt : (k : Int) ≤ 6 := by omega
    by_cases hpos : 0 < k
    · have pk : (0 : Int) < (k : Int) := by omega
      go_upto_region 6 with fail
      go_cut [7] from 17 to 58 (fun p wx => ∃ a : Int, p = .int .i64 a ∧ DrawT w wx g T w.heap.size A c xs t ∧ wx.heap[T + 1]? = some (.cells (kindsL.map (Value.int .i64)).toArray 2 (0, 0)))
      case first =>
        have c1 : wo.cell? ⟨T, 1, none⟩ = some (.int .i64 t.la) := cell_of_row _ _ 1 _ _ (0, 0) hD.row
        have cn := World.new_ne _ _ c1
        have cl := World.block_lt_of_cell? _ _ c1
        dsimp only at cn cl
        have HD := Lib.hid hD
        have HK := Lib.hid hK
        clear hD hK
        go_region_with (first
          | (go_at_call 37; refine (srcBelow g A c xs 10 _ (by exact HD.out.src.below (by repeat (first | exact Below.refl _ _ | assumption | refine Below.setCell ?_ (by first | omega | (simp <;> omega)) _ | refine Below.alloc ?_ (by first | omega | (simp <;> omega)) _ | refine Below.drew ?_))) hl (by omega) (by omega)).mono ?_; rintro e w4 ⟨y, rfl, y0, y1, hd4, hg4⟩
              ; obtain ⟨m, rfl⟩ := Int.eq_ofNat_of_zero_le y0
              ; have hm : m < 10 := (by omega)
              ; have hg4 := unD hg4
              ; have HD4 := Lib.hid ((HD.out.below (by exact (by repeat (first | exact Below.refl _ _ | assumption | refine Below.setCell ?_ (by first | omega | (simp <;> omega)) _ | refine Below.alloc ?_ (by first | omega | (simp <;> omega)) _ | refine Below.drew ?_)))).draw hd4 hg4)
              ; have HK4 := Lib.hid (rowG hg4 (rowB (by exact (by repeat (first | exact Below.refl _ _ | assumption | refine Below.setCell ?_ (by first | omega | (simp <;> omega)) _ | refine Below.alloc ?_ (by first | omega | (simp <;> omega)) _ | refine Below.drew ?_))) HK.out) (show T + 1 ≠ g by omega))
              ; have c1 : w4.cell? ⟨T, 1, none⟩ = some (.int .i64 t.la) := cell_of_row _ _ 1 _ _ (0, 0) HD4.out.row
              ; have cn4 := World.new_ne _ _ c1
              ; have cl4 := World.block_lt_of_cell? _ _ c1
              ; dsimp only at cn4 cl4
              ; obtain ⟨z, hz⟩ : ∃ z, ([0, 1, 54, 55, 300, 1500, 1501, 1700, 1800, 7000] : List Int).getD m 0 = z := ⟨_, rfl⟩
              ; have hq : ([.int .i64 0, .int .i64 1, .int .i64 54, .int .i64 55, .int .i64 300, .int .i64 1500, .int .i64 1501, .int .i64 1700, .int .i64 1800, .int .i64 7000] : List Value)[m]? = some (.int .i64 z) := pickL _ hm hz
              ; have hqa : (#[.int .i64 0, .int .i64 1, .int .i64 54, .int .i64 55, .int .i64 300, .int .i64 1500, .int .i64 1501, .int .i64 1700, .int .i64 1800, .int .i64 7000] : Array Value)[m]? = some (.int .i64 z) := pickA _ hm hz
              ; clear hz hm
              ; (try (have hS := rowG hg4 (by exact heap_alloc_new wo (.cells #[.int .i64 0, .int .i64 1, .int .i64 54, .int .i64 55, .int .i64 300, .int .i64 1500, .int .i64 1501, .int .i64 1700, .int .i64 1800, .int .i64 7000] 2)) (show wo.heap.size ≠ g by have := HD.out.src.lt; omega); have hp : w4.cell? ⟨wo.heap.size, m, none⟩ = some (.int .i64 z) := (by rw [cell_of_row _ _ m _ _ (0, 0) hS]; exact hqa); have hpn := World.new_ne _ _ hp; have hpl := World.block_lt_of_cell? _ _ hp; dsimp only at hpn hpl))
              ; clear hd4 hg4))
        all_goals
          go_wp2_with fail
          go_meet
          refine ⟨_, rfl, ?_, ?_⟩
          · first | exact HD4.out | exact HD4.out.below (by exact (by repeat (first | exact Below.refl _ _ | assumption | refine Below.setCell ?_ (by first | omega | (simp <;> omega)) _ | refine Below.alloc ?_ (by first | omega | (simp <;> omega)) _ | refine Below.drew ?_)))
          · first | exact HK4.out | exact rowB (by exact (by repeat (first | exact Below.refl _ _ | assumption | refine Below.setCell ?_ (by first | omega | (simp <;> omega)) _ | refine Below.alloc ?_ (by first | omega | (simp <;> omega)) _ | refine Below.drew ?_))) HK4.out
      case rest =>
        obtain ⟨a, rfl, hD4, hK4⟩ := hcut
        clear hD hK
        go_wp2_with fail
        refine (srcBelow g A c xs 6 _ hD4.src hl (by omega) (by omega)).mono ?_
        rintro e w5 ⟨y, rfl, y0, y1, hd5, hg5⟩
        obtain ⟨m, rfl⟩ := Int.eq_ofNat_of_zero_le y0
        have hD5 := hD4.draw hd5 hg5
        have hK5 := rowG hg5 hK4 (show T + 1 ≠ g by omega)
        have hcc := pick_at (m := m) kindsL hK5 rfl (by simp [kindsL]; omega)
        obtain ⟨z, hz⟩ : ∃ z, kindsL.getD m 0 = z := ⟨_, rfl⟩
        rw [hz] at hcc
        have HD5 := Lib.hid hD5
        have HK5 := Lib.hid hK5
        clear hz hd5 hg5 hD4 hK4 hD5 hK5
        go_upto_region 8 with fail
        clear hcc
        go_cut [41] from 17 to 58 (fun p wx => ∃ bb : Bool, p = .bool bb ∧ (bb = true → t.ph < 4) ∧ DrawT w wx g T w.heap.size A c xs t ∧ wx.heap[T + 1]? = some (.cells (kindsL.map (Value.int .i64)).toArray 2 (0, 0)))
        case first =>
          have c0 : w5.cell? ⟨T, 0, none⟩ = some (.int .i64 t.ph) := cell_of_row _ _ 0 _ _ (0, 0) HD5.out.row
          by_cases hph : t.ph < 4
          · have pa : decide (t.ph < 4) = true := decide_eq_true hph
            go_wp2_with fail
            refine (srcOneIn g A c xs 4 _ HD5.out.src hl (by omega) (by omega)).mono ?_
            rintro e w6 ⟨b, rfl, hd6, hg6⟩
            have HD6 := Lib.hid (HD5.out.draw hd6 hg6)
            have HK6 := Lib.hid (rowG hg6 HK5.out (show T + 1 ≠ g by omega))
            clear hd6 hg6 c0
            go_wp2_with fail
            go_meet
            exact ⟨_, rfl, fun _ => hph, HD6.out, HK6.out⟩
          · have pa : decide (t.ph < 4) = false := decide_eq_false hph
            go_wp2_with fail
            go_meet
            exact ⟨false, rfl, (fun h => by cases h), HD5.out, HK5.out⟩
        case rest =>
          obtain ⟨bb, rfl, hbb, hD6, hK6⟩ := hcut
          have HBB := Lib.hid hbb
          have HD6 := Lib.hid hD6
          have HK6 := Lib.hid hK6
          clear hbb hD6 hK6 HD5 HK5
          go_upto_if 41 with fail
          go_cut [8] from 17 to 58 (fun p wx => ∃ z : Int, p = .int .i64 z ∧ DrawT w wx g T w.heap.size A c xs t ∧ wx.heap[T + 1]? = some (.cells (kindsL.map (Value.int .i64)).toArray 2 (0, 0)))
          case first =>
            cases bb
            · go_wp2_with fail
              go_meet
              exact ⟨_, rfl, HD6.out, HK6.out⟩
            · have h4 := HBB.out rfl
              have c0 : wc.cell? ⟨T, 0, none⟩ = some (.int .i64 t.ph) := cell_of_row _ _ 0 _ _ (0, 0) HD6.out.row
              obtain ⟨q, hq⟩ := Int.eq_ofNat_of_zero_le (phaseT HV.out)
              rw [hq] at c0 h4
              have hcc := pick_at (m := q) kindsL HK6.out rfl (by simp [kindsL]; omega)
              obtain ⟨z2, hz⟩ : ∃ z, kindsL.getD q 0 = z := ⟨_, rfl⟩
              rw [hz] at hcc
              clear hz hq
              go_wp2_with fail
              go_meet
              exact ⟨_, rfl, HD6.out, HK6.out⟩
          case rest =>
            obtain ⟨z2, rfl, hD7, hK7⟩ := hcut
            clear HD6 HK6 HBB
            go_wp2_with fail
            refine (srcOneIn g A c xs 10 _ hD7.src hl (by omega) (by omega)).mono ?_
            rintro e w8 ⟨b, rfl, hd8, hg8⟩
            have HD8 := Lib.hid (hD7.draw hd8 hg8)
            have HK8 := Lib.hid (rowG hg8 hK7 (show T + 1 ≠ g by omega))
            clear hd8 hg8 hD7 hK7
            go_upto_if 48 with fail
            go_cut [8] from 17 to 58 (fun p wx => ∃ z : Int, p = .int .i64 z ∧ DrawT w wx g T w.heap.size A c xs t ∧ wx.heap[T + 1]? = some (.cells (kindsL.map (Value.int .i64)).toArray 2 (0, 0)))
            case first =>
              cases b
              · go_wp2_with fail
                go_meet
                exact ⟨_, rfl, HD8.out, HK8.out⟩
              · go_wp2_with fail
                go_meet
                exact ⟨_, rfl, HD8.out, HK8.out⟩
            case rest =>
              obtain ⟨z3, rfl, hD9, hK9⟩ := hcut
              clear HD8 HK8
              obtain ⟨⟨i0, i1, i2, i3, i4, i5, i6, i7⟩, -⟩ := zcells hD9.row
              have HVA := Lib.hid (valid_apply HV.out z3 a)
              have HT := Lib.hid (specApply t z3 a wc)
              obtain ⟨p, hp⟩ : ∃ p, applyT t z3 a = p := ⟨_, rfl⟩
              rw [hp] at HT HVA
              obtain ⟨u, ok⟩ := p
              dsimp only at HT HVA
              have HD9 := Lib.hid hD9
              have HK9 := Lib.hid hK9
              clear hp hD9 hK9
              go_wp2_with fail
              refine HT.out.mono ?_
              rintro e w10 ⟨rfl, hb10⟩
              have hD10 := HD9.out.below hb10
              have hK10 := rowB hb10 HK9.out
              obtain ⟨w11, hw11⟩ : ∃ w11, w10.alloc (.cells #[.int .i64 u.ph, .int .i64 u.la, .int .i64 u.ins, .int .i64 u.dn, .int .i64 u.st, .int .i64 u.sp, .int .i64 u.pe, .bool u.fl] 26) = w11 := ⟨_, rfl⟩
              have hb11 : Below w10.heap.size w10 w11 := by rw [← hw11]; exact (by repeat (first | exact Below.refl _ _ | assumption | refine Below.setCell ?_ (by first | omega | (simp <;> omega)) _ | refine Below.alloc ?_ (by first | omega | (simp <;> omega)) _ | refine Below.drew ?_))
              have hU11 : w11.heap[w10.heap.size]? = some (.cells #[.int .i64 u.ph, .int .i64 u.la, .int .i64 u.ins, .int .i64 u.dn, .int .i64 u.st, .int .i64 u.sp, .int .i64 u.pe, .bool u.fl] 26 (0, 0)) := by rw [← hw11]; exact heap_alloc_new w10 _
              have hD11 := hD10.below hb11
              have hK11 := rowB hb11 hK10
              obtain ⟨⟨u0, u1, u2, u3, u4, u5, u6, u7⟩, -⟩ := zcells hU11
              obtain ⟨⟨t0, t1, t2, t3, t4, t5, t6, t7⟩, f0, f1, f2, f3, f4, f5, f6, f7⟩ := zcells hD11.row
              have HD12 := Lib.hid (hD11.set8 hlow.out hgw u)
              have HK12 := Lib.hid (set8_other hK11 (show T + 1 ≠ T by omega) u)
              unfold Set8 at HD12 HK12
              have HD11 := Lib.hid hD11
              have HK11 := Lib.hid hK11
              clear i0 i1 i2 i3 i4 i5 i6 i7 hb10 hb11 hD10 hK10 hU11 hD11 hK11 HD9 HK9 HT
              cases ok
              · go_wp2_with fail
                go_roundw
                case rel => exact ⟨k - 1, t, by rw [show ((k - 1 : Nat) : Int) = (k : Int) - 1 from by omega], by omega, HD11.out, HV, HK11.out⟩
                case measure => simp [intOf]; omega
              · go_wp2_with fail
                go_roundw
                case rel => exact ⟨k - 1, u, by rw [show ((k - 1 : Nat) : Int) = (k : Int) - 1 from by omega], by omega, HD12.out, HVA.out.1, HK12.out⟩
                case measure => simp [intOf]; omega
    · obtain rfl : k = 0 := by omega
      have c1 : wo.cell? ⟨T, 1, none⟩ = some (.int .i64 t.la) := cell_of_row _ _ 1 _ _ (0, 0) hD.row
      obtain ⟨⟨i0, i1, i2, i3, i4, i5, i6, i7⟩, -⟩ := zcells hD.row
      have HD := Lib.hid hD
      have hTH : T ≠ w.heap.size := hD.ne
      have cn := World.new_ne _ _ c1
      have cl := World.block_lt_of_cell? _ _ c1
      dsimp only at cn cl
      clear hD hK
      go_upto_region 15 with fail
      refine wp_cut (fun a wx => ∃ (z : Int), a.tmps[2]? = some (.pointer (some ⟨w.heap.size, 0, none⟩)) ∧ a.tmps[3]? = some (.int .i64 z) ∧ a.defers = [] ∧ FinT w g w.heap.size A c xs t wx) ?_ ?_
      · rintro a wx ⟨z, h2, h3, hd, hD5⟩
        go_wp2_with fail
        exact timer_retF hD5 HV.out h2 h3 hd
      · intro J1 K1 HJ1 HK1
        go_region_with (first
          | (go_at_call 37; refine (srcBelow g A c xs 7 _ (by exact HD.out.src.below (by repeat (first | exact Below.refl _ _ | assumption | refine Below.setCell ?_ (by first | omega | (simp <;> omega)) _ | refine Below.alloc ?_ (by first | omega | (simp <;> omega)) _ | refine Below.drew ?_))) hl (by omega) (by omega)).mono ?_; rintro e w4 ⟨y, rfl, y0, y1, hd4, hg4⟩
              ; obtain ⟨m, rfl⟩ := Int.eq_ofNat_of_zero_le y0
              ; have hm : m < 7 := (by omega)
              ; have hg4 := unD hg4
              ; have HD4 := Lib.hid ((HD.out.below (by exact (by repeat (first | exact Below.refl _ _ | assumption | refine Below.setCell ?_ (by first | omega | (simp <;> omega)) _ | refine Below.alloc ?_ (by first | omega | (simp <;> omega)) _ | refine Below.drew ?_)))).draw hd4 hg4)
              ; obtain ⟨⟨m0, m1, m2, m3, m4, m5, m6, m7⟩, -⟩ := zcells HD4.out.row
              ; obtain ⟨⟨j0, j1, j2, j3, j4, j5, j6, j7⟩, f0, f1, f2, f3, f4, f5, f6, f7⟩ := zcells HD4.out.res
              ; have kn : w.heap.size ≠ w4.heap.size := (by have := (Array.getElem?_eq_some_iff.1 HD4.out.res).1; omega)
              ; have kl : w.heap.size < w4.heap.size := (Array.getElem?_eq_some_iff.1 HD4.out.res).1
              ; have tn : T ≠ w4.heap.size := (by have := (Array.getElem?_eq_some_iff.1 HD4.out.row).1; omega)
              ; have tl : T < w4.heap.size := (Array.getElem?_eq_some_iff.1 HD4.out.row).1
              ; obtain ⟨z, hz⟩ : ∃ z, ([0, 1, 54, 55, 1500, 1501, 1701] : List Int).getD m 0 = z := ⟨_, rfl⟩
              ; have hq : ([.int .i64 0, .int .i64 1, .int .i64 54, .int .i64 55, .int .i64 1500, .int .i64 1501, .int .i64 1701] : List Value)[m]? = some (.int .i64 z) := pickL _ hm hz
              ; have hqa : (#[.int .i64 0, .int .i64 1, .int .i64 54, .int .i64 55, .int .i64 1500, .int .i64 1501, .int .i64 1701] : Array Value)[m]? = some (.int .i64 z) := pickA _ hm hz
              ; clear hz hm
              ; (try (have hS := rowG hg4 (by exact heap_alloc_new wo (.cells #[.int .i64 0, .int .i64 1, .int .i64 54, .int .i64 55, .int .i64 1500, .int .i64 1501, .int .i64 1701] 2)) (show wo.heap.size ≠ g by have := HD.out.src.lt; omega); have hp : w4.cell? ⟨wo.heap.size, m, none⟩ = some (.int .i64 z) := (by rw [cell_of_row _ _ m _ _ (0, 0) hS]; exact hqa); have hpn := World.new_ne _ _ hp; have hpl := World.block_lt_of_cell? _ _ hp; dsimp only at hpn hpl))
              ; clear hd4 hg4))
        all_goals
          clear cn cl hTH i0 i1 i2 i3 i4 i5 i6 i7 c1 m0 m1 m2 m3 m4 m5 m6 m7 j0 j1 j2 j3 j4 j5 j6 j7 f0 f1 f2 f3 f4 f5 f6 f7 kn kl tn tl hq hqa
          (try clear hp hpn hpl hS)
          refine HK1 _ _ (HJ1 _ _ ?_)
          apply Exists.intro
          refine ⟨rfl, rfl, rfl, ?_⟩
          first
            | with_reducible exact HD4.out.fin8 hlow.out hgw
            | with_reducible exact HD4.out.finA _ hlow.out hgw
            | with_reducible exact (HD4.out.below (by exact (by repeat (first | exact Below.refl _ _ | assumption | refine Below.setCell ?_ (by first | omega | (simp <;> omega)) _ | refine Below.alloc ?_ (by first | omega | (simp <;> omega)) _ | refine Below.drew ?_)))).fin8 hlow.out hgw
end Go.Proofs.Ytmfmkalgalmbcaa
