/- A way down a chain, at the program: a value taken. Conditions: as the contract says. -/
import Derived.Test.YtpcnbjfkobeibaaWb
namespace Go.Proofs.Ytpcnbjfkobeibaa
open Go.RowKit Grp Go.Maps

/-- A way down whose permutation lies in memory of the call's own. -/
def WalkF (B : Nat) (w : World) (W C n i : Nat) (u : List Nat) : Prop := ∃ A c, w.heap[W]? = some (.cells #[.pointer (some ⟨C, 0, none⟩), .int .i64 (i : Int), .slice A n c] 72 (0, 0)) ∧ Fresh B w (.slice A n c) (natI u)
theorem WalkF.walk {B : Nat} {w : World} {W C n i : Nat} {u : List Nat} (h : WalkF B w W C n i u) (hu : u.length = n) (hn : 0 < n) : WalkAt w W C n i u := by
  obtain ⟨A, c, h1, h2⟩ := h
  exact ⟨A, c, h1, h2.perm hu hn (fun _ _ _ => trivial)⟩
theorem WalkF.mono {B B' : Nat} {w : World} {W C n i : Nat} {u : List Nat} (h : WalkF B w W C n i u) (hB : B' ≤ B) : WalkF B' w W C n i u := by
  obtain ⟨A, c, h1, h2⟩ := h
  exact ⟨A, c, h1, h2.mono hB⟩
def TakePost (n : Nat) (T : Tab) (C W i : Nat) (u : List Nat) (x : Int) (w : World) (e : Ending) (w' : World) : Prop := Below W w w' ∧
  ((∃ v : Nat, x = (v : Int) ∧ v ∈ vals n T i u ∧ e = .returned (.bool true) ∧ WalkF w.heap.size w' W C n (i + 1) (Grp.step T i u v)) ∨ ((∀ v : Nat, x = (v : Int) → v ∉ vals n T i u) ∧ e = .returned (.bool false) ∧ WalkAt w' W C n i u))
theorem walk_fin {B : Nat} {w : World} {W C n i : Nat} {A : Option Addr} {c : Nat} {u : List Nat} (h : w.heap[W]? = some (.cells #[.pointer (some ⟨C, 0, none⟩), .int .i64 (i : Int), .slice A n c] 72 (0, 0))) (hp : Fresh B w (.slice A n c) (natI u)) (hW : W < B) :
    WalkF B (w.setCell ⟨W, 1, none⟩ (.int .i64 ((i : Int) + 1))) W C n (i + 1) u := by
  refine ⟨A, c, ?_, hp.setCell (a := ⟨W, 1, none⟩) hW _⟩
  rw [heap_setCell_same w W 1 _ _ _ h]
  have e : ((i : Int) + 1) = ((i + 1 : Nat) : Int) := by omega
  rw [e]
  rfl
set_option maxRecDepth 100000 in
set_option maxHeartbeats 4000000 in
theorem implTake {ok : Nat → Prop} (B n C W i : Nat) (s : Sh) (T : Tab) (Gs : Nat → List (List Nat)) (u : List Nat) (x : Int) (w : World) (ht : TopI w C n s) (hb : Body ok B n w s T Gs) (hw : WalkAt w W C n i u) (hu : IsP n u) (hTP : ∀ y t, T i y = some t → IsP n t) (hi : i < n) (hnl : n ≤ 20)
    (hx0 : -9223372036854775808 ≤ x) (hx1 : x ≤ 9223372036854775807) :
    Calls Try.prog 85 #[.pointer (some ⟨W, 0, none⟩), .int .i64 x] w (TakePost n T C W i u x w) := by
  have hn : 0 < n := by omega
  have HWFX : Hid ((Lit.int .i64 x).wf = true) := by
    simp [Hid, Lit.wf, IntKind.min, IntKind.max, IntKind.signed, IntKind.bits]; omega
  have HT := Lib.hid ht
  have HBD := Lib.hid hb
  have HW := Lib.hid hw
  have HU := Lib.hid hu
  have HTP := Lib.hid hTP
  have hWl := hw.lt
  by_cases hin : ∃ v : Nat, x = (v : Int) ∧ v ∈ vals n T i u
  · obtain ⟨v, rfl, hv⟩ := hin
    clear ht hb hw hu hTP
    go_enter Try.func85, Try.ntmps85
    go_wp2_with fail
    refine (implValues B n C W i s T Gs u _ HT.out HBD.out HW.out HU.out hi hnl).mono ?_
    rintro e w1 ⟨M, D, rfl, hown, hM, hB1⟩
    have hhas : Maps.has D (.int .i64 (v : Int)) = true := (hM.has_vals HU.out v).2 hv
    have hvn : v < n := (mem_vals.1 hv).1
    have hyn := HU.out.inv_lt hvn
    obtain ⟨t, hTy, hst⟩ := step_some hv
    obtain ⟨y, hy⟩ : ∃ y, app (inv u) v = y := ⟨_, rfl⟩
    rw [hy] at hyn hTy
    have hyo : y ∈ orb n T i := by simp only [orb, List.mem_filter, List.mem_range]; exact ⟨hyn, by rw [hTy]; rfl⟩
    have hAT : ∀ z, D.atKey (.int .i64 (v : Int)) z = .lit (.int .i64 (y : Int)) := fun z => by
      have := hM.2.2 y hyo z
      rwa [← hy, HU.out.app_inv_self hvn, hy] at this
    have HAT := Lib.hid hAT
    have HV := Lib.hid hv
    have HST := Lib.hid hst
    have hIt := HTP.out y t hTy
    obtain ⟨u1, hu1, hrep, -⟩ := (HBD.out.below hB1).readRow hi hyn
    rw [hTy] at hrep
    have hrep : PermV ok w1 u1 n t := hrep
    obtain ⟨gt, ct, rfl, hIt2, htl⟩ := hrep.ints
    obtain ⟨g, c, hWr, hPV, hI, x0, x1, x2⟩ := (HW.out.below hB1).cells
    have t2 : w1.cell? ⟨C, 2, none⟩ = some (.slice (some ⟨s.Rb, 0, none⟩) n s.cr) := cell_of_row _ C 2 _ _ (0, 0) (rowB hB1 HT.out)
    have hrb := (HBD.out.below hB1).readRb hi
    have HIT := Lib.hid hIt
    have HIT2 := Lib.hid hIt2
    have HI := Lib.hid hI
    have HR := Lib.hid hWr
    have p0 : (0 : Int) ≤ (i : Int) := by omega
    have p1 : (i : Int) < (n : Int) := by omega
    have p2 : (0 : Int) ≤ (y : Int) := by omega
    have p3 : (y : Int) < (n : Int) := by omega
    have p4 : (i : Int) < 20 := by omega
    have hB1z : w.heap.size ≤ w1.heap.size := hB1.size
    clear hM hv hy hTy hst hyo hAT hIt hrep hIt2 htl hWr hPV hI
    go_wp2_with (first | (at_lookup; refine wpList_lookup_own_ok_int _ rfl _ _ 113 rfl 2 2 .i64 lawK Try.underlying113 Try.underlying2 (zeroK _) M 20 D rfl hown _ _ rfl (keyOf_int_mk Try.underlying2 HWFX.out) ?_; intro cc hat hwc; rw [HAT.out] at hat; simp only [DataW.lit.injEq, Lit.int.injEq, true_and] at hat; subst hat; rw [hhas]; clear hwc))
    clear hhas hown HAT
    go_upto_region 3 with fail
    go_cut [] from 16 to 46 (fun wx => ∃ (A2 : Option Addr) (c2 : Nat), wx.heap[W]? = some (.cells #[.pointer (some ⟨C, 0, none⟩), .int .i64 (i : Int), .slice A2 n c2] 72 (0, 0)) ∧ Fresh w.heap.size wx (.slice A2 n c2) (natI (comp t u)) ∧ Below W w wx)
    case first =>
      go_region_with (first
        | (go_at_call 103; refine (implCompose _ _ ct c n t u _ (by exact HIT2.out.below (by exact (by repeat (first | exact Below.refl _ _ | assumption | refine Below.setCell ?_ (by first | omega | (simp <;> omega)) _ | refine Below.alloc ?_ (by first | omega | (simp <;> omega)) _ | refine Below.drew ?_)))) (by exact HI.out.below (by exact (by repeat (first | exact Below.refl _ _ | assumption | refine Below.setCell ?_ (by first | omega | (simp <;> omega)) _ | refine Below.alloc ?_ (by first | omega | (simp <;> omega)) _ | refine Below.drew ?_)))) HIT.out.len HU.out.len (by omega) (fun i hi => HIT.out.lt hi)).mono ?_; rintro e w2 ⟨v2, rfl, hF2, hb2⟩
            ; have hB2 : Below w1.heap.size w1 w2 := (by first | exact hb2 | exact ((Below.refl _ _).drew).trans hb2)
            ; have hPV2 := hF2.perm (ok := fun _ => True) (n := n) (by rw [comp_len, HIT.out.len]) hn (fun _ _ _ => trivial)
            ; obtain ⟨g2, c2, rfl, -, -⟩ := hPV2.ints
            ; have hr2 := rowB hB2 HR.out
            ; have x22 : w2.cell? ⟨W, 2, none⟩ = some (.slice (some ⟨g, 0, none⟩) n c) := cell_of_row _ W 2 _ _ (0, 0) hr2
            ; have f22 : w2.frozen? ⟨W, 2, none⟩ = false := row_free hr2
            ; have HR2 := Lib.hid hr2
            ; have HF2 := Lib.hid (hF2.mono hB1z)
            ; clear hF2 hb2 hr2 hPV2))
      all_goals
        go_wp2_with fail
        go_meet
        refine ⟨some ⟨g2, 0, none⟩, c2, ?_, HF2.out.setCell (a := ⟨W, 2, none⟩) hWl _, ((hB1.mono (Nat.le_of_lt hWl)).trans (hB2.mono (by have := hB1.size; omega))).setCell (p := ⟨W, 2, none⟩) (Nat.le_refl _) _⟩
        rw [heap_setCell_same w2 W 2 _ _ _ HR2.out]
        rfl
    case rest =>
      obtain ⟨A2, c2, hrow, hPV, hBc⟩ := hcut
      have x13 : wc.cell? ⟨W, 1, none⟩ = some (.int .i64 (i : Int)) := cell_of_row _ W 1 _ _ (0, 0) hrow
      have f13 : wc.frozen? ⟨W, 1, none⟩ = false := row_free hrow
      have HFIN := Lib.hid (walk_fin hrow hPV hWl)
      clear x0 x1 x2 t2 hrb hu1 hrow hPV
      go_wp2_with fail
      go_ret
      exact ⟨hBc.setCell (p := ⟨W, 1, none⟩) (Nat.le_refl _) _, .inl ⟨v, rfl, HV.out, rfl, by rw [HST.out]; exact HFIN.out⟩⟩
  · have hhas : ∀ D : MD, MapsTo D u (orb n T i) → Maps.has D (.int .i64 x) = false := fun D hM => by
      cases hh : Maps.has D (.int .i64 x) with
      | false => rfl
      | true =>
        obtain ⟨y, hy, e⟩ := (hM.2.1 _).1 hh
        simp only [kI, Lit.int.injEq, true_and] at e
        exact absurd ⟨app u y, e, (vals_of_orb hu).2 ⟨y, hy, rfl⟩⟩ hin
    have HIN : Hid (∀ v : Nat, x = (v : Int) → v ∉ vals n T i u) := fun v e hv => hin ⟨v, e, hv⟩
    have HHAS := Lib.hid hhas
    clear ht hb hw hu hTP hin hhas
    go_enter Try.func85, Try.ntmps85
    go_wp2_with fail
    refine (implValues B n C W i s T Gs u _ HT.out HBD.out HW.out HU.out hi hnl).mono ?_
    rintro e w1 ⟨M, D, rfl, hown, hM, hB1⟩
    have hh := HHAS.out D hM
    clear hM HHAS
    go_wp2_with (first | (at_lookup; refine wpList_lookup_own_ok_int _ rfl _ _ 113 rfl 2 2 .i64 lawK Try.underlying113 Try.underlying2 (zeroK _) M 20 D rfl hown _ _ rfl (keyOf_int_mk Try.underlying2 HWFX.out) ?_; intro cc hat hwc; rw [hh]; clear hwc hat))
    go_ret
    exact ⟨hB1.mono (Nat.le_of_lt hWl), .inr ⟨HIN.out, rfl, HW.out.below hB1⟩⟩
end Go.Proofs.Ytpcnbjfkobeibaa
