/- Lists of entries drawn from a source, for ranks. Conditions: as each contract says. -/
import Derived.Test.YtejacbgogcjbnaaDg
import Derived.Deep.RegionLaw
namespace Go.Proofs.Ytejacbgogcjbnaa
open Go.RowKit

theorem row_cells2 {w : World} {T : Nat} {a b : Value} {t : TypeId} (h : w.heap[T]? = some (.cells #[a, b] t (0, 0))) : w.cell? ⟨T, 0, none⟩ = some a ∧ w.cell? ⟨T, 1, none⟩ = some b ∧ w.frozen? ⟨T, 0, none⟩ = false ∧ w.frozen? ⟨T, 1, none⟩ = false :=
  ⟨cell_of_row w _ 0 _ _ (0, 0) h, cell_of_row w _ 1 _ _ (0, 0) h, row_free h, row_free h⟩
theorem ents_cap {B : Nat} {w : World} {v : Value} {es : List Ent} (h : EntsB B w v es) : ∃ A c, v = .slice A es.length c ∧ EntsAt w A es := by
  obtain ⟨A, c, h1, _, h3⟩ := h.entsW.ents
  exact ⟨A, c, h1, h3⟩
theorem Fresh.lit {B : Nat} {w : World} (xs : List Int) (hB : B ≤ w.heap.size) (hx : xs.length ≤ 1048576) : Fresh B (w.alloc (.cells (xs.map (Value.int .i64)).toArray 2)) (.slice (some ⟨w.heap.size, 0, none⟩) xs.length xs.length) xs :=
  ⟨by simp, .inr ⟨w.heap.size, xs.length, (xs.map (Value.int .i64)).toArray, rfl, hB, heap_alloc_new _ _, Nat.le_refl _, by unfold maxLen; omega, by simp, by simp [List.take_of_length_le]⟩⟩
theorem al2 (w : World) (a b : Obj) : ((w.alloc a).alloc b).heap[w.heap.size + 1]? = some b := by
  have := heap_alloc_new (w.alloc a) b
  rwa [show (w.alloc a).heap.size = w.heap.size + 1 from by simp] at this
theorem unD {w w' : World} {row : Option Nat} (h : w.drew.grownBy w' row) : w.grownBy w' row := ⟨h.os, h.tape, h.output, h.size, h.block⟩
/-- What is known while an entry is made: block T, the source, what has grown since the world wr. -/
structure Mk (wr wx : World) (g T : Nat) (key : Int) (A : Option Addr) (c : Nat) (xs : List Int) (B : Nat) (v : Value) (ys : List Int) : Prop where
  ent : Making wx T key v B ys
  src : SrcAt wx g A c xs
  grown : wr.grownBy wx (some g)
set_option maxRecDepth 100000 in
set_option maxHeartbeats 8000000 in
theorem srcEntries (g : Nat) (A : Option Addr) (c : Nat) (xs : List Int) (w : World) (hd : SrcAt w g A c xs) (hl : xs.length ≤ 4096) :
    Calls Try.prog 40 #[.pointer (some ⟨g, 0, none⟩)] w (DrawnEnts g A c xs w) := by
  have hlow := Lib.hid hd.low
  have hgw := hd.lt
  obtain ⟨w0, hw0⟩ : ∃ w0, w.alloc (.cells #[.int .i64 5, .int .i64 5, .int .i64 3, .int .i64 1] 2) = w0 := ⟨_, rfl⟩
  have hr0 : w0.heap[w.heap.size]? = some (.cells (([5, 5, 3, 1] : List Int).map (Value.int .i64)).toArray 2 (0, 0)) := by rw [← hw0, heap_alloc_new]; rfl
  have hd0 : SrcAt w0 g A c xs := by rw [← hw0]; exact hd.below (by repeat (first | exact Below.refl _ _ | assumption | refine Below.setCell ?_ (by first | omega | (simp <;> omega)) _ | refine Below.alloc ?_ (by first | omega | (simp <;> omega)) _ | refine Below.drew ?_))
  have hg0 : w.grownBy w0 (some g) := by rw [← hw0]; exact World.grownBy_alloc _ _ _
  clear hd
  go_enter Try.func40, Try.ntmps40
  go_wp2_with fail
  refine (srcBelow g A c xs 4 _ hd0 hl (by omega) (by omega)).mono ?_
  rintro e w1 ⟨y, rfl, y0, y1, hd1, hg1⟩
  obtain ⟨m, rfl⟩ := Int.eq_ofNat_of_zero_le y0
  have hr1 := rowG hg1 hr0 (by omega)
  have hcc := pick_at (m := m) [5, 5, 3, 1] hr1 rfl (by simp; omega)
  have hbd : 0 ≤ ([5, 5, 3, 1] : List Int).getD m 0 ∧ ([5, 5, 3, 1] : List Int).getD m 0 ≤ 5 := by
    have : m < 4 := by omega
    match m, this with
    | 0, _ | 1, _ | 2, _ | 3, _ => simp
  obtain ⟨x, hx⟩ : ∃ x, ([5, 5, 3, 1] : List Int).getD m 0 = x := ⟨_, rfl⟩
  rw [hx] at hcc hbd
  obtain ⟨n, rfl⟩ := Int.eq_ofNat_of_zero_le hbd.1
  have hn5 : n ≤ 5 := by omega
  have hG1 := grownTrans hg0 hg1
  have hz1 := hG1.size
  have hE2 : EntsB w.heap.size (w1.alloc (.cells #[] 32)) (.slice (some ⟨w1.heap.size, 0, none⟩) 0 0) [] := EntsB.empty hz1
  have hb2 : Below w1.heap.size w1 (w1.alloc (.cells #[] 32)) := (by repeat (first | exact Below.refl _ _ | assumption | refine Below.setCell ?_ (by first | omega | (simp <;> omega)) _ | refine Below.alloc ?_ (by first | omega | (simp <;> omega)) _ | refine Below.drew ?_))
  have hd2 := hd1.below hb2
  have hG2 := grownB hG1 hb2
  clear hx hbd hr1 hr0 hg1 hg0 hd0 hd1 hb2 hw0
  go_wp2_with fail
  clear hcc
  refine (srcBelow g A c xs 7 _ hd2 hl (by omega) (by omega)).mono ?_
  rintro e w3 ⟨y, rfl, y0, y1, hd3, hg3⟩
  obtain ⟨q0, rfl⟩ := Int.eq_ofNat_of_zero_le y0
  have hG3 := grownTrans hG2 hg3
  have hE3 := hE2.grown hg3 hgw
  have hq0 : q0 ≤ 6 := by omega
  clear hE2 hg3 hG2 hd2 y0 y1 hG1 hz1
  go_wp2_with fail
  go_loopw [4, 5] (fun v q wr => ∃ (es : List Ent) (k : Nat), q = .int .i64 k ∧ es.length + k ≤ 6 ∧ EntsB w.heap.size wr v es ∧ Tiny es ∧ SrcAt wr g A c xs ∧ w.grownBy wr (some g)) (fun _ q _ => (intOf q).toNat)
  case atStart => exact ⟨[], q0, rfl, by simpa using hq0, hE3, Tiny.nil, hd3, hG3⟩
  case round =>
    obtain ⟨es, k, rfl, hk, hE, hT, hD, hG⟩ := hrel
    obtain ⟨wo, rfl⟩ : ∃ wo : World, wo = wr := ⟨_, rfl⟩
    clear hE3 hd3 hG3
    obtain ⟨Ae, ce, rfl, -⟩ := ents_cap hE
    by_cases hpos : 0 < k
    · have pk : (0 : Int) < (k : Int) := by omega
      have hzr := hG.size
      have hgr : g < wo.heap.size := by omega
      obtain ⟨key, hkey⟩ : ∃ key : Int, 3 + ((es.length : Int) * 7) % 20 = key := ⟨_, rfl⟩
      obtain ⟨we, hwe⟩ : ∃ we, (wo.alloc (.cells #[] 2)).alloc (.cells #[.int .i64 key, .slice (some ⟨wo.heap.size, 0, none⟩) 0 0] 32) = we := ⟨_, rfl⟩
      have hbe : Below wo.heap.size wo we := by rw [← hwe]; exact (by repeat (first | exact Below.refl _ _ | assumption | refine Below.setCell ?_ (by first | omega | (simp <;> omega)) _ | refine Below.alloc ?_ (by first | omega | (simp <;> omega)) _ | refine Below.drew ?_))
      have hMk : Mk wo we g (wo.heap.size + 1) key A c xs wo.heap.size (.slice (some ⟨wo.heap.size, 0, none⟩) 0 0) [] := by
        refine ⟨⟨?_, ?_⟩, hD.below hbe, grownThen (gRefl _ _) hbe⟩
        · rw [← hwe]
          have := heap_alloc_new (wo.alloc (.cells #[] 2)) (.cells #[.int .i64 key, .slice (some ⟨wo.heap.size, 0, none⟩) 0 0] 32)
          rwa [show (wo.alloc (.cells #[] 2)).heap.size = wo.heap.size + 1 from by simp] at this
        · rw [← hwe]; exact (Fresh.empty (Nat.le_refl _)).al _
      have hxr : wo.heap.size + 1 ≠ g := by omega
      have HG := Lib.hid hG
      have HE := Lib.hid hE
      clear hbe hD hG hE
      go_wp2_with fail
      clear hkey hwe
      obtain ⟨T, hTT⟩ : ∃ T, wo.heap.size + 1 = T := ⟨_, rfl⟩
      rw [hTT] at hMk hxr ⊢
      have hTge : wo.heap.size ≤ T := by omega
      clear hTT
      go_loopg [] n (fun q wx => ∃ (A2 : Option Addr) (c2 : Nat) (ys : List Int), ys.length + q = n ∧ Mk wo wx g T key A c xs wo.heap.size (.slice A2 ys.length c2) ys)
      case atStart => exact ⟨_, _, [], by simp, hMk⟩
      case round =>
        obtain ⟨A2, c2, ys, hq, hM⟩ := hrel
        clear hMk
        obtain ⟨t0, t1, ft0, ft1⟩ := row_cells2 hM.ent.row
        by_cases hlt : ys.length < n
        · have plt : (ys.length : Int) < (n : Int) := by omega
          have hyl : ys.length ≤ 1048576 := by omega
          have HM := Lib.hid hM
          clear hM
          go_wp2_with fail
          go_region_law (first
            | (refine step_append_at (by rfl) _ _ (by rfl) wo.heap.size _ ys y2 (by rfl) (hM2.ent.own.al _) w2.heap.size (by rfl) (by simp) hyl (by simp; omega) ?_; intro A3 c3 w3 hF3 hg3 hb3; have hr3 := (hM2.ent.own.al _).unlike (rowB (by exact (by repeat (first | exact Below.refl _ _ | assumption | refine Below.setCell ?_ (by first | omega | (simp <;> omega)) _ | refine Below.alloc ?_ (by first | omega | (simp <;> omega)) _ | refine Below.drew ?_))) hM2.ent.row) (by decide) hg3; obtain ⟨-, v1, -, fv1⟩ := row_cells2 hr3; have hbw3 : Below wo.heap.size w2 w3 := ((Below.refl _ _).alloc hM2.grown.size _).trans hb3)
            | (go_simp; go_at_call 51; refine (srcTime g A c xs _ (by exact HM.out.src.below (by repeat (first | exact Below.refl _ _ | assumption | refine Below.setCell ?_ (by first | omega | (simp <;> omega)) _ | refine Below.alloc ?_ (by first | omega | (simp <;> omega)) _ | refine Below.drew ?_))) hl).mono ?_; rintro e w2 ⟨y2, rfl, hd2, hg2⟩; replace hg2 := unD hg2; have hM2 : Mk wo w2 g T key A c xs wo.heap.size (.slice A2 ys.length c2) ys := ⟨HM.out.ent.grown hg2 hxr hgr, hd2, grownTrans HM.out.grown hg2⟩; obtain ⟨u0, u1, fu0, fu1⟩ := row_cells2 hM2.ent.row; have hz2 := hM2.grown.size; have hn2 := World.new_ne w2 _ u1; have hTl2 := hM2.ent.lt))
          all_goals
            have hM3 : Mk wo (w3.setCell ⟨T, 1, none⟩ (.slice A3 (ys.length + 1) c3)) g T key A c xs wo.heap.size (.slice A3 (ys.length + 1) c3) (ys ++ [y2]) := ⟨Making.store hr3 hF3 (Nat.le_refl _), hM2.src.keep (hbw3.setCell (p := ⟨T, 1, none⟩) hTge _) hgr (fun b off e1 e2 => Nat.lt_of_lt_of_le (hlow.out b off e1 e2) hzr), grownThen hM2.grown (hbw3.setCell (p := ⟨T, 1, none⟩) hTge _)⟩
            have HM3 := Lib.hid hM3
            clear hM3 hr3 hF3 hg3 hb3 hbw3 hM2
            go_wp2_with fail
            go_roundg (gk - 1)
            case measure => omega
            case rel => exact ⟨A3, c3, ys ++ [y2], by simp; omega, by simpa using HM3.out⟩
        · have pge : ¬ (ys.length : Int) < (n : Int) := by omega
          have hy5 : ys.length ≤ 5 := by omega
          clear hq hlt
          go_upto_region 9 with fail
          go_cut [44] from 15 to 54 (fun p wx => ∃ (bb : Bool) (A2 : Option Addr) (c2 n2 : Nat) (zs : List Int), p = .bool bb ∧ (bb = true → 0 < es.length) ∧ zs.length = n2 ∧ n2 ≤ 200 ∧ Mk wo wx g T key A c xs wo.heap.size (.slice A2 n2 c2) zs)
          case first =>
            by_cases hz : 0 < es.length
            · have pz : decide (0 < es.length) = true := decide_eq_true hz
              have pz2 : (0 : Int) < (es.length : Int) := by omega
              have HM := Lib.hid hM
              clear hM t0 t1 ft0 ft1
              go_wp2_with fail
              refine (srcOneIn g A c xs 4 _ HM.out.src hl (by omega) (by omega)).mono ?_
              rintro e w2 ⟨b2, rfl, hd2, hg2⟩
              have hM2 : Mk wo w2 g T key A c xs wo.heap.size (.slice A2 ys.length c2) ys := ⟨HM.out.ent.grown hg2 hxr hgr, hd2, grownTrans HM.out.grown hg2⟩
              have HM2 := Lib.hid hM2
              clear hd2 hg2 HM hM2
              go_wp2_with fail
              go_meet
              exact ⟨b2, A2, c2, _, ys, rfl, fun _ => hz, rfl, by omega, HM2.out⟩
            · have pz : decide (0 < es.length) = false := decide_eq_false hz
              have pz2 : ¬ (0 : Int) < (es.length : Int) := by omega
              clear t0 t1 ft0 ft1
              go_wp2_with fail
              go_meet
              exact ⟨false, A2, c2, _, ys, rfl, (fun h => by cases h), rfl, by omega, hM⟩
          case rest =>
            clear hM t0 t1 ft0 ft1
            obtain ⟨bb, A2, c2, n2, zs, rfl, hbb, hzn, hn2, hM⟩ := hcut
            have HBB := Lib.hid hbb
            have HZN := Lib.hid hzn
            clear hbb hzn
            go_upto_if 44 with fail
            go_cut [] from 15 to 54 (fun wx => ∃ (A2 : Option Addr) (c2 n2 : Nat) (zs : List Int), zs.length = n2 ∧ n2 ≤ 200 ∧ Mk wo wx g T key A c xs wo.heap.size (.slice A2 n2 c2) zs)
            case first =>
              cases bb
              · go_wp2_with fail
                go_meet
                exact ⟨A2, c2, n2, zs, HZN.out, hn2, hM⟩
              · have hz := HBB.out rfl
                have pz0 : (0 : Int) < (es.length : Int) := by omega
                have hE2 := (HE.out.grown hM.grown hgw)
                obtain ⟨A5, c5, e5, hEA⟩ := ents_cap hE2
                simp only [Value.slice.injEq] at e5
                obtain ⟨e5, -, e7⟩ := e5
                subst e5 e7
                obtain ⟨b, off, k0, Ai, ci, xs0, rfl, hb, hc0, hc1, hI0, -, HX⟩ := hEA.at_ hz
                have hx0 : xs0.length ≤ 200 := by
                  have := hT _ (by rw [egetD_at _ _ hz]; exact List.getElem_mem hz : es.getD 0 (0, []) ∈ es)
                  rw [HX.out] at this; exact this
                have hc1' : wc.cell? ⟨b, off + 1, none⟩ = some (.slice Ai xs0.length ci) := by simpa using hc1
                obtain ⟨u0, u1, fu0, fu1⟩ := row_cells2 hM.ent.row
                have HM2 := Lib.hid hM
                have HI0 := Lib.hid hI0
                clear hE2 hEA hM hc0 hc1 hI0
                go_wp2_with fail
                refine (srcCopy Ai ci xs0 _ HI0.out (by omega)).mono ?_
                rintro e w4 ⟨v4, rfl, hF4, hb4⟩
                obtain ⟨A4, c4, rfl, -, -⟩ := hF4.ints
                have hr4 := rowB hb4 HM2.out.ent.row
                obtain ⟨-, x1, -, fx1⟩ := row_cells2 hr4
                have hz2 := HM2.out.grown.size
                have hM4 : Mk wo (w4.setCell ⟨T, 1, none⟩ (.slice A4 xs0.length c4)) g T key A c xs wo.heap.size (.slice A4 xs0.length c4) xs0 :=
                  ⟨Making.store hr4 hF4 hz2, (HM2.out.src.below hb4).keep ((Below.refl _ _).setCell (p := ⟨T, 1, none⟩) hTge _) hgr (fun b off e1 e2 => Nat.lt_of_lt_of_le (hlow.out b off e1 e2) hzr), grownThen (grownB HM2.out.grown hb4) ((Below.refl _ _).setCell (p := ⟨T, 1, none⟩) hTge _)⟩
                have HM4 := Lib.hid hM4
                clear hM4 hr4 hF4 hb4 HM2 HI0 hc1' u0 u1 fu0 fu1
                go_wp2_with fail
                go_meet
                exact ⟨A4, c4, _, xs0, rfl, hx0, HM4.out⟩
            case rest =>
              clear hM HZN
              obtain ⟨A3, c3, n3, ys3, hyn, hn3, hM⟩ := hcut
              have HYN := Lib.hid hyn
              obtain ⟨t0, t1, ft0, ft1⟩ := row_cells2 hM.ent.row
              have hE3 := HE.out.grown hM.grown hgw
              have hG3 := grownTrans HG.out hM.grown
              have hF3 : Fresh w.heap.size wc (.slice A3 n3 c3) ys3 := hM.ent.own.mono hzr
              have hD3 := hM.src
              have hz3 := hG3.size
              have hl3 : es.length ≤ 1048576 := by omega
              clear hM hyn
              go_wp2_with (first | (at_builtin; refine append_entB rfl _ _ rfl w.heap.size _ es key A3 c3 ys3 n3 HYN.out rfl (by exact hE3.below (by repeat (first | exact Below.refl _ _ | assumption | refine Below.setCell ?_ (by first | omega | (simp <;> omega)) _ | refine Below.alloc ?_ (by first | omega | (simp <;> omega)) _ | refine Below.drew ?_))) wc.heap.size rfl (by simp) (by simp) (by exact hF3.below (by repeat (first | exact Below.refl _ _ | assumption | refine Below.setCell ?_ (by first | omega | (simp <;> omega)) _ | refine Below.alloc ?_ (by first | omega | (simp <;> omega)) _ | refine Below.drew ?_))) hl3 (by simp; omega) ?_; intro v4 w4 hE4 hg4 hb4))
              have hb5 : Below w.heap.size wc w4 := ((Below.refl _ _).alloc hz3 _).trans hb4
              have hD5 := hD3.keep hb5 hgw hlow.out
              have hG5 := grownThen hG3 hb5
              clear hE3 hG3 hF3 hD3 hb4 hg4 hb5
              go_roundw
              case rel => exact ⟨es ++ [(key, ys3)], k - 1, by rw [show ((k - 1 : Nat) : Int) = (k : Int) - 1 from by omega], by simp; omega, hE4, hT.more (by rw [HYN.out]; exact hn3), hD5, hG5⟩
              case measure => simp [intOf]; omega
    · have p0 : ¬ (0 : Int) < (k : Int) := by omega
      have hl6 : es.length ≤ 6 := by omega
      clear hk hpos
      go_wp2_with fail
      refine (srcOneIn g A c xs 10 _ hD hl (by omega) (by omega)).mono ?_
      rintro e w2 ⟨b2, rfl, hd2, hg2⟩
      have hE2 := hE.grown hg2 hgw
      have hG2 := grownTrans hG hg2
      clear hD hG hE hg2
      go_upto_if 56 with fail
      go_cut [4] from 55 to 66 (fun v wx => ∃ (es : List Ent), EntsB w.heap.size wx v es ∧ Tiny es ∧ es.length ≤ 7 ∧ SrcAt wx g A c xs ∧ w.grownBy wx (some g))
      case first =>
        cases b2
        · go_wp2_with fail
          go_meet
          exact ⟨es, hE2, hT, by omega, hd2, hG2⟩
        · go_wp2_with fail
          refine (srcBelow g A c xs 9 _ hd2 hl (by omega) (by omega)).mono ?_
          rintro e w4 ⟨y, rfl, y0, y1, hd4, hg4⟩
          have hE4 := hE2.grown hg4 hgw
          have hG4 := grownTrans hG2 hg4
          clear hE2 hG2 hd2 hg4
          go_wp2_with fail
          refine (srcEntry g A c xs y n _ hd4 hl (by omega)).mono ?_
          rintro e w5 ⟨key, v5, ys, rfl, hF5, hyl, hd5, hg5⟩
          have hE5 := hE4.grown hg5 hgw
          have hG5 := grownTrans hG4 hg5
          have hz4 := hG4.size
          have hz5 := hG5.size
          obtain ⟨A5, c5, rfl, -, -⟩ := hF5.ints
          have hF6 : Fresh w.heap.size w5 (.slice A5 ys.length c5) ys := hF5.mono hz4
          obtain ⟨n5, hn5'⟩ : ∃ n5, ys.length = n5 := ⟨_, rfl⟩
          rw [hn5'] at hF6 hyl ⊢
          have HN5 := Lib.hid hn5'
          have hl3 : es.length ≤ 1048576 := by omega
          clear hE4 hG4 hd4 hg5 hF5 hn5'
          go_wp2_with (first | (at_builtin; refine append_entB rfl _ _ rfl w.heap.size _ es key A5 c5 ys n5 HN5.out rfl (by exact hE5.below (by repeat (first | exact Below.refl _ _ | assumption | refine Below.setCell ?_ (by first | omega | (simp <;> omega)) _ | refine Below.alloc ?_ (by first | omega | (simp <;> omega)) _ | refine Below.drew ?_))) w5.heap.size rfl (by simp) (by simp) (by exact hF6.below (by repeat (first | exact Below.refl _ _ | assumption | refine Below.setCell ?_ (by first | omega | (simp <;> omega)) _ | refine Below.alloc ?_ (by first | omega | (simp <;> omega)) _ | refine Below.drew ?_))) hl3 (by simp; omega) ?_; intro v7 w7 hE7 hg7 hb7))
          have hb8 : Below w.heap.size w5 w7 := ((Below.refl _ _).alloc hz5 _).trans hb7
          have hD8 := hd5.keep hb8 hgw hlow.out
          have hG8 := grownThen hG5 hb8
          clear hE5 hG5 hF6 hd5 hb7 hg7 hb8
          go_meet
          exact ⟨es ++ [(key, ys)], hE7, hT.more (by rw [HN5.out]; omega), by simp; omega, hD8, hG8⟩
      case rest =>
        clear hE2 hG2 hd2 hT hl6
        obtain ⟨es2, hE3, hT3, hl3, hd3, hG3⟩ := hcut
        go_wp2_with fail
        refine (srcOneIn g A c xs 25 _ hd3 hl (by omega) (by omega)).mono ?_
        rintro e w4 ⟨b4, rfl, hd4, hg4⟩
        have hE4 := hE3.grown hg4 hgw
        have hG4 := grownTrans hG3 hg4
        clear hE3 hd3 hG3 hg4
        cases b4
        · go_wp2_with fail
          go_ret
          exact ⟨_, es2, rfl, hE4, hT3, by omega, hd4, hG4⟩
        · go_wp2_with fail
          go_loopg [4] (14 - es2.length) (fun q v wx => ∃ es : List Ent, es.length + q = 14 ∧ EntsB w.heap.size wx v es ∧ Tiny es ∧ SrcAt wx g A c xs ∧ w.grownBy wx (some g))
          case atStart => exact ⟨es2, by omega, hE4, hT3, hd4, hG4⟩
          case round =>
            obtain ⟨es3, hq3, hE5, hT5, hd5, hG5⟩ := hrel
            clear hE4 hT3 hd4 hG4 hl3
            obtain ⟨A5, c5, rfl, -⟩ := ents_cap hE5
            go_wp2_with fail
            refine (srcBelow g A c xs 2 _ hd5 hl (by omega) (by omega)).mono ?_
            rintro e w6 ⟨y, rfl, y0, y1, hd6, hg6⟩
            have hE6 := hE5.grown hg6 hgw
            have hG6 := grownTrans hG5 hg6
            have hz6 := hG6.size
            have hl6 : es3.length ≤ 14 := by omega
            clear hE5 hd5 hG5 hg6
            by_cases hlt : (es3.length : Int) < 12 + y
            · have hl13 : es3.length ≤ 13 := by omega
              have HQ := Lib.hid hq3
              clear hq3
              have hFn : Fresh w.heap.size (w6.alloc (.cells #[.int .i64 5] 2)) (.slice (some ⟨w6.heap.size, 0, none⟩) 1 1) [5] := Fresh.lit [5] hz6 (by simp)
              go_wp2_with (first | (at_builtin; refine append_entB rfl _ _ rfl w.heap.size _ es3 (100 + (es3.length : Int)) (some ⟨w6.heap.size, 0, none⟩) 1 [5] 1 rfl rfl (by exact hE6.below (by repeat (first | exact Below.refl _ _ | assumption | refine Below.setCell ?_ (by first | omega | (simp <;> omega)) _ | refine Below.alloc ?_ (by first | omega | (simp <;> omega)) _ | refine Below.drew ?_))) (w6.heap.size + 1) rfl (by exact cell_of_row _ _ 0 _ _ (0, 0) (al2 w6 _ _)) (by exact cell_of_row _ _ 1 _ _ (0, 0) (al2 w6 _ _)) (by exact hFn.below (by repeat (first | exact Below.refl _ _ | assumption | refine Below.setCell ?_ (by first | omega | (simp <;> omega)) _ | refine Below.alloc ?_ (by first | omega | (simp <;> omega)) _ | refine Below.drew ?_))) (by omega) (by simp; omega) ?_; intro v7 w7 hE7 hg7 hb7))
              have hb8 : Below w.heap.size w6 w7 := (((Below.refl _ _).alloc hz6 _).alloc (by simp; omega) _).trans hb7
              have hD8 := hd6.keep hb8 hgw hlow.out
              have hG8 := grownThen hG6 hb8
              clear hE6 hG6 hd6 hb7 hg7 hb8 hFn
              go_roundg (gk - 1)
              case measure => have := HQ.out; omega
              case rel => exact ⟨es3 ++ [(100 + (es3.length : Int), [5])], by have := HQ.out; simp; omega, hE7, hT5.more (by simp), hD8, hG8⟩
            · go_wp2_with fail
              go_ret
              exact ⟨_, es3, rfl, hE6, hT5, by omega, hd6, hG6⟩
end Go.Proofs.Ytejacbgogcjbnaa
