/- Rules and a list of entries of a round drawn from a source. Conditions: as each contract says. -/
import Derived.Test.YtejacbgogcjbnaaDk
import Derived.Test.YtejacbgogcjbnaaDi
namespace Go.Proofs.Ytejacbgogcjbnaa
open Go.RowKit

theorem EntsB.unlike {B : Nat} {w w' : World} {v : Value} {es : List Ent} {T : Nat} {cs : Array Value} {t : TypeId} {z : Nat × Nat} (h : EntsB B w v es) (hr : w.heap[T]? = some (.cells cs t z)) (ht : t ≠ 32) (hg : w.grownBy w' v.ownBlock) : w'.heap[T]? = some (.cells cs t z) := by
  refine (hg.block T (Array.getElem?_eq_some_iff.1 hr).1 (fun e => ?_)).trans hr
  obtain ⟨ds, h1, _⟩ := h
  rcases h1.2 with ⟨rfl, _⟩ | ⟨g, cap, cur, rfl, _, hgg, _⟩
  · simp [Value.ownBlock] at e
  · have e2 : g = T := by simpa [Value.ownBlock] using e.symm
    rw [← e2, hgg] at hr
    simp at hr
    exact ht hr.2.1.symm
theorem EntsB.mono {B B' : Nat} {w : World} {v : Value} {es : List Ent} (h : EntsB B w v es) (hB : B' ≤ B) : EntsB B' w v es := by
  obtain ⟨cs, h1, h2⟩ := h
  refine ⟨cs, ⟨h1.1, ?_⟩, fun i hi => ?_⟩
  · rcases h1.2 with hn | ⟨g, cap, cur, rfl, hbg, rest⟩
    · exact .inl hn
    · exact .inr ⟨g, cap, cur, rfl, Nat.le_trans hB hbg, rest⟩
  · obtain ⟨Ai, ci, a, b, c, d, e⟩ := h2 i hi
    exact ⟨Ai, ci, a, b, c, d, fun hp => ⟨(e hp).1, fun b off h3 => Nat.le_trans hB ((e hp).2 b off h3)⟩⟩
theorem set5_grown (w : World) (H : Nat) (r : RR) : w.grownBy (Set5 w H r) (some H) :=
  grownTrans (grownTrans (grownTrans (grownTrans (grownSet w ⟨H, 0, none⟩ _) (grownSet _ ⟨H, 1, none⟩ _)) (grownSet _ ⟨H, 2, none⟩ _)) (grownSet _ ⟨H, 3, none⟩ _)) (grownSet _ ⟨H, 4, none⟩ _)
def DrawnRound (g : Nat) (A : Option Addr) (c : Nat) (xs : List Int) (w : World) (e : Ending) (w' : World) : Prop :=
  ∃ (r : RR) (v : Value) (es : List Ent), e = .returned (.tuple #[.agg #[.int .i64 r.att, .int .i64 r.lim, .int .i64 r.catt, .int .i64 r.cut, .int .i64 r.adv], v]) ∧ EntsB w.heap.size w' v es ∧ Tiny es ∧ es.length ≤ 40 ∧ SrcAt w' g A c xs ∧ w.grownBy w' (some g)
set_option maxRecDepth 100000 in
set_option maxHeartbeats 16000000 in
theorem srcRound (g : Nat) (A : Option Addr) (c : Nat) (xs : List Int) (w : World) (hd : SrcAt w g A c xs) (hl : xs.length ≤ 4096) :
    Calls Try.prog 21 #[.pointer (some ⟨g, 0, none⟩)] w (DrawnRound g A c xs w) := by
  have hlow := Lib.hid hd.low
  have hgw := hd.lt
  obtain ⟨w0, hw0⟩ : ∃ w0, w.alloc (.cells #[.int .i64 0, .int .i64 0, .int .i64 0, .int .i64 0, .int .i64 0] 25) = w0 := ⟨_, rfl⟩
  have hH0 : RRow w0 w.heap.size .zero := by rw [← hw0]; exact heap_alloc_new w _
  have hd0 : SrcAt w0 g A c xs := by rw [← hw0]; exact hd.below (by repeat (first | exact Below.refl _ _ | assumption | refine Below.setCell ?_ (by first | omega | (simp <;> omega)) _ | refine Below.alloc ?_ (by first | omega | (simp <;> omega)) _ | refine Below.drew ?_))
  have hG0 : w.grownBy w0 (some g) := by rw [← hw0]; exact World.grownBy_alloc _ _ _
  have hz0 : w.heap.size < w0.heap.size := (Array.getElem?_eq_some_iff.1 hH0).1
  have hgne : w.heap.size ≠ g := by omega
  clear hd
  go_enter Try.func21, Try.ntmps21
  go_wp2_with fail
  refine (srcRules g A c xs _ hd0 hl).mono ?_
  rintro e w1 ⟨r, rfl, hd1, hg1⟩
  have hH1 : RRow w1 w.heap.size .zero := rowG hg1 hH0 hgne
  have hG1 := grownTrans hG0 hg1
  have hz1 := hg1.size
  obtain ⟨w2, hw2⟩ : ∃ w2, w1.alloc (.cells #[.int .i64 r.att, .int .i64 r.lim, .int .i64 r.catt, .int .i64 r.cut, .int .i64 r.adv] 25) = w2 := ⟨_, rfl⟩
  have hT2 : RRow w2 w1.heap.size r := by rw [← hw2]; exact heap_alloc_new w1 _
  have hb2 : Below w1.heap.size w1 w2 := by rw [← hw2]; exact (by repeat (first | exact Below.refl _ _ | assumption | refine Below.setCell ?_ (by first | omega | (simp <;> omega)) _ | refine Below.alloc ?_ (by first | omega | (simp <;> omega)) _ | refine Below.drew ?_))
  have hH2 : RRow w2 w.heap.size .zero := rowB hb2 hH1
  have hd2 := hd1.below hb2
  have hG2 := grownB hG1 hb2
  have hz2 : w1.heap.size < w2.heap.size := (Array.getElem?_eq_some_iff.1 hT2).1
  have hTne : w1.heap.size ≠ g := by omega
  have hzw2 : w.heap.size + 1 ≤ w2.heap.size := by omega
  obtain ⟨w3, hw3⟩ : ∃ w3, w2.alloc (.cells #[] 32) = w3 := ⟨_, rfl⟩
  have hb3 : Below w2.heap.size w2 w3 := by rw [← hw3]; exact (by repeat (first | exact Below.refl _ _ | assumption | refine Below.setCell ?_ (by first | omega | (simp <;> omega)) _ | refine Below.alloc ?_ (by first | omega | (simp <;> omega)) _ | refine Below.drew ?_))
  have hE3 : EntsB (w.heap.size + 1) w3 (.slice (some ⟨w2.heap.size, 0, none⟩) 0 0) [] := by rw [← hw3]; exact EntsB.empty hzw2
  have hT3 : RRow w3 w1.heap.size r := rowB hb3 hT2
  have hH3 : RRow w3 w.heap.size .zero := rowB hb3 hH2
  have hd3 := hd2.below hb3
  have hG3 := grownB hG2 hb3
  have HT3 := Lib.hid hT3
  have HH3 := Lib.hid hH3
  clear hH0 hd0 hG0 hd1 hg1 hH1 hG1 hT2 hH2 hd2 hG2 hb2 hb3 hT3 hH3
  go_wp2_with fail
  refine (srcBelow g A c xs 6 _ hd3 hl (by omega) (by omega)).mono ?_
  rintro e w4 ⟨y, rfl, y0, y1, hd4, hg4⟩
  obtain ⟨q0, rfl⟩ := Int.eq_ofNat_of_zero_le y0
  have hG4 := grownTrans hG3 hg4
  have hE4 := hE3.grown hg4 (by omega)
  have HT4 : Hid (RRow w4 w1.heap.size r) := rowG hg4 HT3.out hTne
  have HH4 : Hid (RRow w4 w.heap.size .zero) := rowG hg4 HH3.out hgne
  have hq0 : q0 ≤ 5 := by omega
  have hzT : w.heap.size < w1.heap.size := by omega
  have hz14 : w1.heap.size < w4.heap.size := (Array.getElem?_eq_some_iff.1 HT4.out).1
  clear hE3 hd3 hG3 hg4 HT3 HH3 y0 y1 hw0 hw2 hw3 hz0 hz1 hz2 hzw2
  go_wp2_with fail
  go_loopw [5, 6] (fun v q wr => ∃ (es : List Ent) (k : Nat), q = .int .i64 k ∧ es.length + k ≤ 6 ∧ EntsB (w.heap.size + 1) wr v es ∧ Tiny es ∧ SrcAt wr g A c xs ∧ w.grownBy wr (some g) ∧ Hid (RRow wr w1.heap.size r) ∧ Hid (RRow wr w.heap.size .zero)) (fun _ q _ => (intOf q).toNat)
  case atStart => exact ⟨[], q0, rfl, by simp; omega, hE4, Tiny.nil, hd4, hG4, HT4, HH4⟩
  case round =>
    obtain ⟨es, k, rfl, hk, hE, hT, hD, hG, HT, HH⟩ := hrel
    obtain ⟨wo, rfl⟩ : ∃ wo : World, wo = wr := ⟨_, rfl⟩
    clear hE4 hd4 hG4 HT4 HH4
    obtain ⟨Ae, ce, rfl, -⟩ := ents_cap hE
    by_cases hpos : 0 < k
    · have pk : (0 : Int) < (k : Int) := by omega
      have hzr := hG.size
      have hgr : g < wo.heap.size := by omega
      have hzr1 : w.heap.size + 1 ≤ wo.heap.size := by have := (Array.getElem?_eq_some_iff.1 HT.out).1; omega
      obtain ⟨key, hkey⟩ : ∃ key : Int, 3 + ((es.length : Int) * 7) % 20 = key := ⟨_, rfl⟩
      obtain ⟨we, hwe⟩ : ∃ we, wo.alloc (.cells #[.int .i64 key, .slice none 0 0] 32) = we := ⟨_, rfl⟩
      have hbe : Below wo.heap.size wo we := by rw [← hwe]; exact (by repeat (first | exact Below.refl _ _ | assumption | refine Below.setCell ?_ (by first | omega | (simp <;> omega)) _ | refine Below.alloc ?_ (by first | omega | (simp <;> omega)) _ | refine Below.drew ?_))
      have hMk : Mk wo we g wo.heap.size key A c xs wo.heap.size (.slice none 0 0) [] := by
        refine ⟨⟨?_, Fresh.nil _ _⟩, hD.below hbe, grownThen (gRefl _ _) hbe⟩
        rw [← hwe]; exact heap_alloc_new wo _
      have hxr : wo.heap.size ≠ g := by omega
      have HG := Lib.hid hG
      have HE := Lib.hid hE
      clear hbe hD hG hE
      subst hwe
      have HMk := Lib.hid hMk
      clear hMk
      go_wp2_with fail
      have hMk := HMk.out
      clear hkey HMk
      generalize wo.alloc (.cells #[.int .i64 key, .slice none 0 0] 32) = we at *
      refine (srcBelow g A c xs 5 _ hMk.src hl (by omega) (by omega)).mono ?_
      rintro e w5 ⟨y, rfl, y0, y1, hd5, hg5⟩
      obtain ⟨n, rfl⟩ := Int.eq_ofNat_of_zero_le y0
      have hM5 : Mk wo w5 g wo.heap.size key A c xs wo.heap.size (.slice none 0 0) [] := ⟨hMk.ent.grown hg5 hxr hgr, hd5, grownTrans hMk.grown hg5⟩
      have hn4 : n ≤ 4 := by omega
      clear hMk hd5 hg5 y0 y1
      go_wp2_with fail
      go_loopw [8] (fun q wx => ∃ (A2 : Option Addr) (c2 m : Nat) (ys : List Int), q = .int .i64 m ∧ ys.length + m ≤ 5 ∧ Mk wo wx g wo.heap.size key A c xs wo.heap.size (.slice A2 ys.length c2) ys) (fun q _ => (intOf q).toNat)
      case atStart => exact ⟨none, 0, n + 1, [], by go_num, by simp; omega, hM5⟩
      case round =>
        obtain ⟨A2, c2, m, ys, rfl, hq, hM⟩ := hrel
        clear hM5
        obtain ⟨t0, t1, ft0, ft1⟩ := row_cells2 hM.ent.row
        by_cases hlt : 0 < m
        · have plt : (0 : Int) < (m : Int) := by omega
          have hyl : ys.length ≤ 1048576 := by omega
          have HM := Lib.hid hM
          clear hM
          go_wp2_with fail
          go_region_law (first
            | (refine step_append_at (by rfl) _ _ (by rfl) wo.heap.size _ ys y2 (by rfl) (hM2.ent.own.al _) w2.heap.size (by rfl) (by simp) hyl (by simp; omega) ?_; intro A3 c3 w3 hF3 hg3 hb3; have hr3 := (hM2.ent.own.al _).unlike (rowB (by exact (by repeat (first | exact Below.refl _ _ | assumption | refine Below.setCell ?_ (by first | omega | (simp <;> omega)) _ | refine Below.alloc ?_ (by first | omega | (simp <;> omega)) _ | refine Below.drew ?_))) hM2.ent.row) (by decide) hg3; obtain ⟨-, v1, -, fv1⟩ := row_cells2 hr3; have hbw3 : Below wo.heap.size w2 w3 := ((Below.refl _ _).alloc hM2.grown.size _).trans hb3)
            | (go_simp; go_at_call 51; refine (srcTime g A c xs _ (by exact HM.out.src.below (by repeat (first | exact Below.refl _ _ | assumption | refine Below.setCell ?_ (by first | omega | (simp <;> omega)) _ | refine Below.alloc ?_ (by first | omega | (simp <;> omega)) _ | refine Below.drew ?_))) hl).mono ?_; rintro e w2 ⟨y2, rfl, hd2, hg2⟩; replace hg2 := unD hg2; have hM2 : Mk wo w2 g wo.heap.size key A c xs wo.heap.size (.slice A2 ys.length c2) ys := ⟨HM.out.ent.grown hg2 hxr hgr, hd2, grownTrans HM.out.grown hg2⟩; obtain ⟨u0, u1, fu0, fu1⟩ := row_cells2 hM2.ent.row; have hz2 := hM2.grown.size; have hn2 := World.new_ne w2 _ u1; have hTl2 := hM2.ent.lt))
          all_goals
            have hM3 : Mk wo (w3.setCell ⟨wo.heap.size, 1, none⟩ (.slice A3 (ys.length + 1) c3)) g wo.heap.size key A c xs wo.heap.size (.slice A3 (ys.length + 1) c3) (ys ++ [y2]) := ⟨Making.store hr3 hF3 (Nat.le_refl _), hM2.src.keep (hbw3.setCell (p := ⟨wo.heap.size, 1, none⟩) (Nat.le_refl _) _) hgr (fun b off e1 e2 => Nat.lt_of_lt_of_le (hlow.out b off e1 e2) hzr), grownThen hM2.grown (hbw3.setCell (p := ⟨wo.heap.size, 1, none⟩) (Nat.le_refl _) _)⟩
            have HM3 := Lib.hid hM3
            clear hM3 hr3 hF3 hg3 hb3 hbw3 hM2
            go_wp2_with fail
            go_roundw
            case rel => exact ⟨A3, c3, m - 1, ys ++ [y2], by rw [show ((m - 1 : Nat) : Int) = (m : Int) - 1 from by omega], by simp; omega, by simpa using HM3.out⟩
            case measure => simp [intOf]; omega
        · have pge : ¬ (0 : Int) < (m : Int) := by omega
          have hy5 : ys.length ≤ 5 := by omega
          clear hq hlt
          go_upto_region 11 with fail
          go_cut [44] from 14 to 54 (fun p wx => ∃ (bb : Bool) (A2 : Option Addr) (c2 n2 : Nat) (zs : List Int), p = .bool bb ∧ (bb = true → 0 < es.length) ∧ zs.length = n2 ∧ n2 ≤ 200 ∧ Mk wo wx g wo.heap.size key A c xs wo.heap.size (.slice A2 n2 c2) zs)
          case first =>
            by_cases hz : 0 < es.length
            · have pz : decide (0 < es.length) = true := decide_eq_true hz
              have pz2 : (0 : Int) < (es.length : Int) := by omega
              have HM := Lib.hid hM
              clear hM t0 t1 ft0 ft1
              go_wp2_with fail
              refine (srcOneIn g A c xs 4 _ HM.out.src hl (by omega) (by omega)).mono ?_
              rintro e w2 ⟨b2, rfl, hd2, hg2⟩
              have hM2 : Mk wo w2 g wo.heap.size key A c xs wo.heap.size (.slice A2 ys.length c2) ys := ⟨HM.out.ent.grown hg2 hxr hgr, hd2, grownTrans HM.out.grown hg2⟩
              have HM2 := Lib.hid hM2
              clear hd2 hg2 HM hM2
              go_wp2_with fail
              go_meet
              exact ⟨b2, A2, c2, _, ys, rfl, fun _ => hz, rfl, by omega, HM2.out⟩
            · have pz : decide (0 < es.length) = false := decide_eq_false hz
              have pz2 : ¬ (0 : Int) < (es.length : Int) := by omega
              clear t0 t1 ft0 ft1
              go_wp2_with fail
              go_meet
              exact ⟨false, A2, c2, _, ys, rfl, (fun h => by cases h), rfl, by omega, hM⟩
          case rest =>
            clear hM t0 t1 ft0 ft1
            obtain ⟨bb, A2, c2, n2, zs, rfl, hbb, hzn, hn2, hM⟩ := hcut
            have HBB := Lib.hid hbb
            have HZN := Lib.hid hzn
            clear hbb hzn
            go_upto_if 44 with fail
            go_cut [] from 14 to 54 (fun wx => ∃ (A2 : Option Addr) (c2 n2 : Nat) (zs : List Int), zs.length = n2 ∧ n2 ≤ 200 ∧ Mk wo wx g wo.heap.size key A c xs wo.heap.size (.slice A2 n2 c2) zs)
            case first =>
              cases bb
              · go_wp2_with fail
                go_meet
                exact ⟨A2, c2, n2, zs, HZN.out, hn2, hM⟩
              · have hz := HBB.out rfl
                have pz0 : (0 : Int) < (es.length : Int) := by omega
                have hE2 := (HE.out.grown hM.grown (by omega))
                obtain ⟨A5, c5, e5, hEA⟩ := ents_cap hE2
                simp only [Value.slice.injEq] at e5
                obtain ⟨e5, -, e7⟩ := e5
                subst e5 e7
                obtain ⟨b, off, k0, Ai, ci, xs0, rfl, hb, hc0, hc1, hI0, -, HX⟩ := hEA.at_ hz
                have hx0 : xs0.length ≤ 200 := by
                  have := hT _ (by rw [egetD_at _ _ hz]; exact List.getElem_mem hz : es.getD 0 (0, []) ∈ es)
                  rw [HX.out] at this; exact this
                have hc1' : wc.cell? ⟨b, off + 1, none⟩ = some (.slice Ai xs0.length ci) := by simpa using hc1
                obtain ⟨u0, u1, fu0, fu1⟩ := row_cells2 hM.ent.row
                have HM2 := Lib.hid hM
                have HI0 := Lib.hid hI0
                clear hE2 hEA hM hc0 hc1 hI0
                go_wp2_with fail
                refine (srcCopy Ai ci xs0 _ HI0.out (by omega)).mono ?_
                rintro e w4 ⟨v4, rfl, hF4, hb4⟩
                obtain ⟨A4, c4, rfl, -, -⟩ := hF4.ints
                have hr4 := rowB hb4 HM2.out.ent.row
                obtain ⟨-, x1, -, fx1⟩ := row_cells2 hr4
                have hz2 := HM2.out.grown.size
                have hM4 : Mk wo (w4.setCell ⟨wo.heap.size, 1, none⟩ (.slice A4 xs0.length c4)) g wo.heap.size key A c xs wo.heap.size (.slice A4 xs0.length c4) xs0 :=
                  ⟨Making.store hr4 hF4 hz2, (HM2.out.src.below hb4).keep ((Below.refl _ _).setCell (p := ⟨wo.heap.size, 1, none⟩) (Nat.le_refl _) _) hgr (fun b off e1 e2 => Nat.lt_of_lt_of_le (hlow.out b off e1 e2) hzr), grownThen (grownB HM2.out.grown hb4) ((Below.refl _ _).setCell (p := ⟨wo.heap.size, 1, none⟩) (Nat.le_refl _) _)⟩
                have HM4 := Lib.hid hM4
                clear hM4 hr4 hF4 hb4 HM2 HI0 hc1' u0 u1 fu0 fu1
                go_wp2_with fail
                go_meet
                exact ⟨A4, c4, _, xs0, rfl, hx0, HM4.out⟩
            case rest =>
              clear hM HZN
              obtain ⟨A3, c3, n3, ys3, hyn, hn3, hM⟩ := hcut
              have HYN := Lib.hid hyn
              obtain ⟨t0, t1, ft0, ft1⟩ := row_cells2 hM.ent.row
              have hE3 := HE.out.grown hM.grown (by omega)
              have hG3 := grownTrans HG.out hM.grown
              have hF3 : Fresh (w.heap.size + 1) wc (.slice A3 n3 c3) ys3 := hM.ent.own.mono hzr1
              have hz31 : w.heap.size + 1 ≤ wc.heap.size := Nat.le_trans hzr1 hM.grown.size
              have hD3 := hM.src
              have hz3 := hG3.size
              have hl3 : es.length ≤ 1048576 := by omega
              have HT3 : Hid (RRow wc w1.heap.size r) := rowG hM.grown HT.out hTne
              have HH3 : Hid (RRow wc w.heap.size .zero) := rowG hM.grown HH.out hgne
              clear hM hyn HT HH
              go_wp2_with (first | (at_builtin; refine append_entB rfl _ _ rfl (w.heap.size + 1) _ es key A3 c3 ys3 n3 HYN.out rfl (by exact hE3.below (by repeat (first | exact Below.refl _ _ | assumption | refine Below.setCell ?_ (by first | omega | (simp <;> omega)) _ | refine Below.alloc ?_ (by first | omega | (simp <;> omega)) _ | refine Below.drew ?_))) wc.heap.size rfl (by simp) (by simp) (by exact hF3.below (by repeat (first | exact Below.refl _ _ | assumption | refine Below.setCell ?_ (by first | omega | (simp <;> omega)) _ | refine Below.alloc ?_ (by first | omega | (simp <;> omega)) _ | refine Below.drew ?_))) hl3 (by simp; omega) ?_; intro v4 w4 hE4 hg4 hb4))
              have hb5 : Below w.heap.size wc w4 := ((Below.refl _ _).alloc hz3 _).trans (hb4.mono (Nat.le_succ _))
              have hD5 := hD3.keep hb5 hgw hlow.out
              have hG5 := grownThen hG3 hb5
              have HT5 : Hid (RRow w4 w1.heap.size r) := (hE3.below (by exact (by repeat (first | exact Below.refl _ _ | assumption | refine Below.setCell ?_ (by first | omega | (simp <;> omega)) _ | refine Below.alloc ?_ (by first | omega | (simp <;> omega)) _ | refine Below.drew ?_)))).unlike (rowB (by exact (by repeat (first | exact Below.refl _ _ | assumption | refine Below.setCell ?_ (by first | omega | (simp <;> omega)) _ | refine Below.alloc ?_ (by first | omega | (simp <;> omega)) _ | refine Below.drew ?_))) HT3.out) (by decide) hg4
              have HH5 : Hid (RRow w4 w.heap.size .zero) := (hE3.below (by exact (by repeat (first | exact Below.refl _ _ | assumption | refine Below.setCell ?_ (by first | omega | (simp <;> omega)) _ | refine Below.alloc ?_ (by first | omega | (simp <;> omega)) _ | refine Below.drew ?_)))).unlike (rowB (by exact (by repeat (first | exact Below.refl _ _ | assumption | refine Below.setCell ?_ (by first | omega | (simp <;> omega)) _ | refine Below.alloc ?_ (by first | omega | (simp <;> omega)) _ | refine Below.drew ?_))) HH3.out) (by decide) hg4
              clear hE3 hG3 hF3 hD3 hb4 hg4 hb5 HT3 HH3
              go_roundw
              case rel => exact ⟨es ++ [(key, ys3)], k - 1, by rw [show ((k - 1 : Nat) : Int) = (k : Int) - 1 from by omega], by simp; omega, hE4, hT.more (by rw [HYN.out]; exact hn3), hD5, hG5, HT5, HH5⟩
              case measure => simp [intOf]; omega
    · have p0 : ¬ (0 : Int) < (k : Int) := by omega
      have hl6 : es.length ≤ 6 := by omega
      clear hk hpos
      go_wp2_with fail
      refine (srcOneIn g A c xs 12 _ hD hl (by omega) (by omega)).mono ?_
      rintro e w2 ⟨b2, rfl, hd2, hg2⟩
      have hE2 := hE.grown hg2 (by omega)
      have hG2 := grownTrans hG hg2
      have HT2 : Hid (RRow w2 w1.heap.size r) := rowG hg2 HT.out hTne
      have HH2 : Hid (RRow w2 w.heap.size .zero) := rowG hg2 HH.out hgne
      clear hD hG hE hg2 HT HH
      go_upto_if 56 with fail
      go_cut [5] from 55 to 63 (fun v wx => ∃ (es : List Ent), EntsB (w.heap.size + 1) wx v es ∧ Tiny es ∧ es.length ≤ 7 ∧ SrcAt wx g A c xs ∧ w.grownBy wx (some g) ∧ Hid (RRow wx w1.heap.size r) ∧ Hid (RRow wx w.heap.size .zero))
      case first =>
        cases b2
        · go_wp2_with fail
          go_meet
          exact ⟨es, hE2, hT, by omega, hd2, hG2, HT2, HH2⟩
        · have hent := srcEntry g A c xs 3 2 w2 hd2 hl (by omega)
          rw [show ((2 : Nat) : Int) = 2 from rfl] at hent
          have HENT := Lib.hid hent
          clear hent
          go_wp2_with fail
          refine HENT.out.mono ?_
          rintro e w5 ⟨key, v5, ys, rfl, hF5, hyl, hd5, hg5⟩
          have hE5 := hE2.grown hg5 (by omega)
          have hG5 := grownTrans hG2 hg5
          have HT5 : Hid (RRow w5 w1.heap.size r) := rowG hg5 HT2.out hTne
          have HH5 : Hid (RRow w5 w.heap.size .zero) := rowG hg5 HH2.out hgne
          have hz4 := hG2.size
          have hz5 := hG5.size
          obtain ⟨A5, c5, rfl, -, -⟩ := hF5.ints
          have hz41 : w.heap.size + 1 ≤ w2.heap.size := (Array.getElem?_eq_some_iff.1 HH2.out).1
          have hz51 : w.heap.size + 1 ≤ w5.heap.size := (Array.getElem?_eq_some_iff.1 HH5.out).1
          have hF6 : Fresh (w.heap.size + 1) w5 (.slice A5 ys.length c5) ys := hF5.mono hz41
          obtain ⟨n5, hn5'⟩ : ∃ n5, ys.length = n5 := ⟨_, rfl⟩
          rw [hn5'] at hF6 hyl ⊢
          have HN5 := Lib.hid hn5'
          have hl3 : es.length ≤ 1048576 := by omega
          clear hE2 hG2 hd2 hg5 hF5 hn5' HT2 HH2
          go_wp2_with (first | (at_builtin; refine append_entB rfl _ _ rfl (w.heap.size + 1) _ es key A5 c5 ys n5 HN5.out rfl (by exact hE5.below (by repeat (first | exact Below.refl _ _ | assumption | refine Below.setCell ?_ (by first | omega | (simp <;> omega)) _ | refine Below.alloc ?_ (by first | omega | (simp <;> omega)) _ | refine Below.drew ?_))) w5.heap.size rfl (by simp) (by simp) (by exact hF6.below (by repeat (first | exact Below.refl _ _ | assumption | refine Below.setCell ?_ (by first | omega | (simp <;> omega)) _ | refine Below.alloc ?_ (by first | omega | (simp <;> omega)) _ | refine Below.drew ?_))) hl3 (by simp; omega) ?_; intro v7 w7 hE7 hg7 hb7))
          have hb8 : Below w.heap.size w5 w7 := ((Below.refl _ _).alloc hz5 _).trans (hb7.mono (Nat.le_succ _))
          have hD8 := hd5.keep hb8 hgw hlow.out
          have hG8 := grownThen hG5 hb8
          have HT8 : Hid (RRow w7 w1.heap.size r) := (hE5.below (by exact (by repeat (first | exact Below.refl _ _ | assumption | refine Below.setCell ?_ (by first | omega | (simp <;> omega)) _ | refine Below.alloc ?_ (by first | omega | (simp <;> omega)) _ | refine Below.drew ?_)))).unlike (rowB (by exact (by repeat (first | exact Below.refl _ _ | assumption | refine Below.setCell ?_ (by first | omega | (simp <;> omega)) _ | refine Below.alloc ?_ (by first | omega | (simp <;> omega)) _ | refine Below.drew ?_))) HT5.out) (by decide) hg7
          have HH8 : Hid (RRow w7 w.heap.size .zero) := (hE5.below (by exact (by repeat (first | exact Below.refl _ _ | assumption | refine Below.setCell ?_ (by first | omega | (simp <;> omega)) _ | refine Below.alloc ?_ (by first | omega | (simp <;> omega)) _ | refine Below.drew ?_)))).unlike (rowB (by exact (by repeat (first | exact Below.refl _ _ | assumption | refine Below.setCell ?_ (by first | omega | (simp <;> omega)) _ | refine Below.alloc ?_ (by first | omega | (simp <;> omega)) _ | refine Below.drew ?_))) HH5.out) (by decide) hg7
          clear hE5 hG5 hF6 hd5 hb7 hg7 hb8
          go_meet
          exact ⟨es ++ [(key, ys)], hE7, hT.more (by rw [HN5.out]; omega), by simp; omega, hD8, hG8, HT8, HH8⟩
      case rest =>
        clear hE2 hG2 hd2 hT hl6 HT2 HH2
        obtain ⟨es2, hE3, hT3, hl3, hd3, hG3, HT3, HH3⟩ := hcut
        obtain ⟨Az, cz, rfl, -⟩ := ents_cap hE3
        obtain ⟨k0, k1, k2, k3, k4⟩ := rcells HT3.out
        obtain ⟨j0, j1, j2, j3, j4⟩ := rcells HH3.out
        have f0 : wc.frozen? ⟨w.heap.size, 0, none⟩ = false := row_free HH3.out
        have f1 : wc.frozen? ⟨w.heap.size, 1, none⟩ = false := row_free HH3.out
        have f2 : wc.frozen? ⟨w.heap.size, 2, none⟩ = false := row_free HH3.out
        have f3 : wc.frozen? ⟨w.heap.size, 3, none⟩ = false := row_free HH3.out
        have f4 : wc.frozen? ⟨w.heap.size, 4, none⟩ = false := row_free HH3.out
        have HR := Lib.hid (rcells (set5_row HH3.out r))
        have hbb : Below w.heap.size wc (Set5 wc w.heap.size r) := set5_below (Below.refl _ _) (Nat.le_refl _) r
        have HEE := Lib.hid ((hE3.grown (set5_grown wc w.heap.size r) (Nat.lt_succ_self _)).mono (Nat.le_succ _))
        have HSS := Lib.hid (hd3.keep hbb hgw hlow.out)
        have HGG := Lib.hid (grownThen hG3 hbb)
        unfold Set5 at HR HEE HSS HGG
        clear hE3 hd3 hG3 HT3 HH3 hbb
        go_wp2_with fail
        obtain ⟨q0, q1, q2, q3, q4⟩ := HR.out
        exact bodyPost_ret (v := .tuple #[.agg #[.int .i64 r.att, .int .i64 r.lim, .int .i64 r.catt, .int .i64 r.cut, .int .i64 r.adv], .slice Az es2.length cz]) (by simp only [results, Try.results21]; simp [go_sem, q0, q1, q2, q3, q4]) rfl ⟨r, _, es2, rfl, HEE.out, hT3, by omega, HSS.out, HGG.out⟩
end Go.Proofs.Ytejacbgogcjbnaa
