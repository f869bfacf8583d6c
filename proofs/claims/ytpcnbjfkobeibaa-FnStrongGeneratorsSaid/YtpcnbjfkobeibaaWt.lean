/- A way down a chain, at the program: begun; how many values lie below a number, and the least above it. Conditions: as each contract says. A way down a chain, at the program: a value taken. Conditions: as the contract says. -/
import Derived.Test.YtpcnbjfkobeibaaWv
namespace Go.Proofs.Ytpcnbjfkobeibaa
section
open Go.RowKit Grp Go.Maps

def FromPost (C n : Nat) (u : List Nat) (w : World) (e : Ending) (w' : World) : Prop := e = .returned (.pointer (some ⟨w.heap.size, 0, none⟩)) ∧ WalkAt w' w.heap.size C n 0 u ∧ Below w.heap.size w w'
set_option maxHeartbeats 1000000 in
theorem implFrom (C n : Nat) (v : Value) (u : List Nat) (w : World) (hv : PermV (fun _ => True) w v n u) :
    Calls Try.prog 83 #[.pointer (some ⟨C, 0, none⟩), v] w (FromPost C n u w) := by
  obtain ⟨g, c, rfl, -, -⟩ := hv.ints
  go_enter Try.func83, Try.ntmps83
  go_wp2_with fail
  go_ret
  refine ⟨rfl, ⟨some ⟨g, 0, none⟩, c, heap_alloc_new _ _, hv.below (by repeat (first | exact Below.refl _ _ | assumption | refine Below.setCell ?_ (by first | omega | (simp <;> omega)) _ | refine Below.alloc ?_ (by first | omega | (simp <;> omega)) _ | refine Below.drew ?_))⟩, (by repeat (first | exact Below.refl _ _ | assumption | refine Below.setCell ?_ (by first | omega | (simp <;> omega)) _ | refine Below.alloc ?_ (by first | omega | (simp <;> omega)) _ | refine Below.drew ?_))⟩
/-- What is no longer to come. -/
def dnOf (left : Lit → Bool) (v : Nat) : Bool := !left (kI v)
def BelowPost (n : Nat) (T : Tab) (i : Nat) (u : List Nat) (x : Int) (w : World) (e : Ending) (w' : World) : Prop :=
  e = .returned (.tuple #[.int .i64 (cntB (vals n T i u) x : Int), .int .i64 (nxtI (vals n T i u) x)]) ∧ Below w.heap.size w w'
theorem vals_of_orb {n : Nat} {T : Tab} {i : Nat} {u : List Nat} (hu : IsP n u) {v : Nat} : v ∈ vals n T i u ↔ ∃ y, y ∈ orb n T i ∧ v = app u y := by
  rw [mem_vals]
  constructor
  · rintro ⟨h1, h2⟩
    refine ⟨app (inv u) v, ?_, (hu.app_inv_self h1).symm⟩
    simp only [orb, List.mem_filter, List.mem_range]
    exact ⟨hu.inv_lt h1, h2⟩
  · rintro ⟨y, hy, rfl⟩
    simp only [orb, List.mem_filter, List.mem_range] at hy
    exact ⟨hu.lt hy.1, by rw [hu.inv_app_self hy.1]; exact hy.2⟩
theorem MapsTo.has_vals {D : MD} {n : Nat} {T : Tab} {i : Nat} {u : List Nat} (h : MapsTo D u (orb n T i)) (hu : IsP n u) (v : Nat) : Maps.has D (kI v) = true ↔ v ∈ vals n T i u := by
  rw [h.2.1, vals_of_orb hu]
  constructor
  · rintro ⟨y, hy, e⟩; exact ⟨y, hy, kI_inj e⟩
  · rintro ⟨y, hy, rfl⟩; exact ⟨y, hy, rfl⟩
set_option maxRecDepth 100000 in
set_option maxHeartbeats 4000000 in
theorem implBelow {ok : Nat → Prop} (B n C W i : Nat) (s : Sh) (T : Tab) (Gs : Nat → List (List Nat)) (u : List Nat) (x : Int) (w : World) (ht : TopI w C n s) (hb : Body ok B n w s T Gs) (hw : WalkAt w W C n i u) (hu : IsP n u) (hi : i < n) (hnl : n ≤ 20) :
    Calls Try.prog 133 #[.pointer (some ⟨W, 0, none⟩), .int .i64 x] w (BelowPost n T i u x w) := by
  obtain ⟨vs, hvs⟩ : ∃ vs, vals n T i u = vs := ⟨_, rfl⟩
  have HASC : Hid (Asc vs) := by rw [← hvs]; exact asc_vals
  have hvl : vs.length ≤ 20 := by rw [← hvs, vals_length hu]; exact Nat.le_trans (orbTo_len T i n) hnl
  have HU := Lib.hid hu
  unfold BelowPost
  rw [hvs]
  have HVS := Lib.hid hvs
  clear hvs hu
  go_enter Try.func133, Try.ntmps133
  go_wp2_with fail
  refine (implValues B n C W i s T Gs u _ ht hb hw HU.out hi hnl).mono ?_
  rintro e w1 ⟨M, D, rfl, hown, hM, hB1⟩
  have HH : Hid (∀ v, Maps.has D (kI v) = true ↔ v ∈ vs) := fun v => by rw [hM.has_vals HU.out, HVS.out]
  have HK : Hid (∀ kl, Maps.has D kl = true → ∃ v, v ∈ vs ∧ kl = kI v) := fun kl h => by
    obtain ⟨y, hy, e⟩ := (hM.2.1 kl).1 h
    exact ⟨app u y, by rw [← HVS.out, vals_of_orb HU.out]; exact ⟨y, hy, rfl⟩, e⟩
  clear hM ht hb hw
  go_wp2_with (first | (at_range; refine wpList_range_own _ rfl _ 113 rfl 2 2 lawK Try.underlying113 _ M 20 _ rfl hown ?_; intro w0 hrg0 hg0 hs0))
  go_frame
  have hB0 : Below w.heap.size w w0 := hB1.trans ((Below.refl _ _).grown hg0 hB1.size (fun j hj => by cases hj))
  have hd0 : ∀ v, v ∈ vs → dnOf (Maps.has D) v = false := fun v hv => by unfold dnOf; rw [(HH.out v).2 hv]; rfl
  have hC0 : Hid (CntIs vs (dnOf (Maps.has D)) x 0) := CntIs.start vs x hd0
  have hN0 : Hid (NxtIs vs (dnOf (Maps.has D)) x (-1)) := NxtIs.start vs x hd0
  have hK0 : Hid (∀ kl, (Maps.has D) kl = true → ∃ v, v ∈ vs ∧ kl = kI v) := HK
  have hr0 : w.heap.size ≤ w1.heap.size := hB1.size
  clear hd0 hown
  go_loopw [6, 7] (fun cv nv wr => ∃ (left : Lit → Bool) (cnt c : Nat) (nx : Int), cv = .int .i64 (c : Int) ∧ nv = .int .i64 nx ∧ wr.ranges Try.prog 2 (plainElem (H := Unit) Try.prog 2) M w1.heap.size 20 D left cnt ∧ Hid (CntIs vs (dnOf left) x c) ∧ Hid (NxtIs vs (dnOf left) x nx) ∧ Hid (∀ kl, left kl = true → ∃ v, v ∈ vs ∧ kl = kI v) ∧ Below w.heap.size w wr)
    (fun _ _ wr => wr.rangeLeft M w1.heap.size)
  case atStart => exact ⟨_, _, 0, -1, rfl, rfl, hrg0, hC0, hN0, hK0, hB0⟩
  case round =>
    obtain ⟨left, cnt, c, nx, rfl, rfl, hrg, HC, HN, HL, hB⟩ := hrel
    clear hrg0 hC0 hN0 hK0 hB0 hg0 hs0
    have hcl : c ≤ 20 := Nat.le_trans HC.out.le hvl
    go_wp2_with (first | (at_next; refine wpList_next_ranges_ii _ rfl _ rfl 2 2 .i64 .i64 lawK Try.underlying2 Try.underlying2 M w1.heap.size 20 _ _ _ rfl hrg ?_ ?_))
    · intro _ hl0
      have hd : ∀ v, v ∈ vs → dnOf left v = true := fun v _ => by unfold dnOf; rw [hl0]; rfl
      have hc := HC.out.fin hd
      have hn := HN.out.fin HASC.out hd
      subst hc hn
      go_wp2_with fail
      exact bodyPost_ret (v := .tuple #[.int .i64 (cntB vs x : Int), .int .i64 (nxtI vs x)]) (by simp [results, Try.results133, go_sem]) rfl ⟨rfl, hB⟩
    · intro a y w2 cnt2 hwa hwy hla hat hrg2 hlt hg2 hs2 hen
      obtain ⟨v, hv, ev⟩ := HL.out _ hla
      simp only [kI, Lit.int.injEq, true_and] at ev
      subst ev
      have hd : dnOf left v = false := by unfold dnOf kI; rw [hla]; rfl
      have he : ∀ z, dnOf (fun z => left z && !z.sameKey (.int .i64 (v : Int))) z = (dnOf left z || z == v) := fun z => by
        unfold dnOf kI
        dsimp only
        have : Lit.sameKey (.int .i64 (z : Int)) (.int .i64 (v : Int)) = (z == v) := by
          by_cases e : z = v
          · subst e; simp [Lit.sameKey]
          · have : (z == v) = false := by simpa using e
            rw [this]
            simp [Lit.sameKey]
            omega
        rw [this]
        cases left (.int .i64 (z : Int)) <;> simp
      have hC2 := HC.out.step HASC.out.nodup hv hd he
      have HE := Lib.hid he
      have HL2 : Hid (∀ kl, (left kl && !kl.sameKey (.int .i64 (v : Int))) = true → ∃ v, v ∈ vs ∧ kl = kI v) := fun kl h => HL.out kl (by rw [Bool.and_eq_true] at h; exact h.1)
      have hB2 : Below w.heap.size w w2 := hB.grown hg2 hB.size (fun j hj => by injection hj with hj; omega)
      clear hd he hat hwy hwa hla hs2
      by_cases hvx : (v : Int) < x
      · rw [if_pos hvx] at hC2
        have HC2 := Lib.hid hC2
        have HN2 := Lib.hid (HN.out.skip HE.out (.inl (by omega)))
        clear hC2
        go_wp2_with fail
        go_roundw
        case rel => exact ⟨_, cnt2, c + 1, nx, by go_num, rfl, hrg2, HC2, HN2, HL2, hB2⟩
        case measure => rw [hrg2.left_eq, hrg.left_eq]; exact hlt
      · rw [if_neg hvx] at hC2
        have HC2 := Lib.hid hC2
        clear hC2
        by_cases hxv : x < (v : Int)
        · by_cases hn0 : nx < 0
          · have HN2 := Lib.hid (HN.out.take hv HE.out hxv (.inl hn0))
            go_wp2_with fail
            go_roundw
            case rel => exact ⟨_, cnt2, c, (v : Int), rfl, rfl, hrg2, HC2, HN2, HL2, hB2⟩
            case measure => rw [hrg2.left_eq, hrg.left_eq]; exact hlt
          · by_cases hn1 : (v : Int) < nx
            · have HN2 := Lib.hid (HN.out.take hv HE.out hxv (.inr hn1))
              go_wp2_with fail
              go_roundw
              case rel => exact ⟨_, cnt2, c, (v : Int), rfl, rfl, hrg2, HC2, HN2, HL2, hB2⟩
              case measure => rw [hrg2.left_eq, hrg.left_eq]; exact hlt
            · have HN2 := Lib.hid (HN.out.skip HE.out (.inr ⟨by omega, by omega⟩))
              go_wp2_with fail
              go_roundw
              case rel => exact ⟨_, cnt2, c, nx, rfl, rfl, hrg2, HC2, HN2, HL2, hB2⟩
              case measure => rw [hrg2.left_eq, hrg.left_eq]; exact hlt
        · have HN2 := Lib.hid (HN.out.skip HE.out (.inl hxv))
          go_wp2_with fail
          go_roundw
          case rel => exact ⟨_, cnt2, c, nx, rfl, rfl, hrg2, HC2, HN2, HL2, hB2⟩
          case measure => rw [hrg2.left_eq, hrg.left_eq]; exact hlt
end
section
open Go.RowKit Grp Go.Maps

/-- A way down whose permutation lies in memory of the call's own. -/
def WalkF (B : Nat) (w : World) (W C n i : Nat) (u : List Nat) : Prop := ∃ A c, w.heap[W]? = some (.cells #[.pointer (some ⟨C, 0, none⟩), .int .i64 (i : Int), .slice A n c] 72 (0, 0)) ∧ Fresh B w (.slice A n c) (natI u)
theorem WalkF.walk {B : Nat} {w : World} {W C n i : Nat} {u : List Nat} (h : WalkF B w W C n i u) (hu : u.length = n) (hn : 0 < n) : WalkAt w W C n i u := by
  obtain ⟨A, c, h1, h2⟩ := h
  exact ⟨A, c, h1, h2.perm hu hn (fun _ _ _ => trivial)⟩
theorem WalkF.mono {B B' : Nat} {w : World} {W C n i : Nat} {u : List Nat} (h : WalkF B w W C n i u) (hB : B' ≤ B) : WalkF B' w W C n i u := by
  obtain ⟨A, c, h1, h2⟩ := h
  exact ⟨A, c, h1, h2.mono hB⟩
def TakePost (n : Nat) (T : Tab) (C W i : Nat) (u : List Nat) (x : Int) (w : World) (e : Ending) (w' : World) : Prop := Below W w w' ∧
  ((∃ v : Nat, x = (v : Int) ∧ v ∈ vals n T i u ∧ e = .returned (.bool true) ∧ WalkF w.heap.size w' W C n (i + 1) (Grp.step T i u v)) ∨ ((∀ v : Nat, x = (v : Int) → v ∉ vals n T i u) ∧ e = .returned (.bool false) ∧ WalkAt w' W C n i u))
theorem walk_fin {B : Nat} {w : World} {W C n i : Nat} {A : Option Addr} {c : Nat} {u : List Nat} (h : w.heap[W]? = some (.cells #[.pointer (some ⟨C, 0, none⟩), .int .i64 (i : Int), .slice A n c] 72 (0, 0))) (hp : Fresh B w (.slice A n c) (natI u)) (hW : W < B) :
    WalkF B (w.setCell ⟨W, 1, none⟩ (.int .i64 ((i : Int) + 1))) W C n (i + 1) u := by
  refine ⟨A, c, ?_, hp.setCell (a := ⟨W, 1, none⟩) hW _⟩
  rw [heap_setCell_same w W 1 _ _ _ h]
  have e : ((i : Int) + 1) = ((i + 1 : Nat) : Int) := by omega
  rw [e]
  rfl
set_option maxRecDepth 100000 in
set_option maxHeartbeats 4000000 in
theorem implTake {ok : Nat → Prop} (B n C W i : Nat) (s : Sh) (T : Tab) (Gs : Nat → List (List Nat)) (u : List Nat) (x : Int) (w : World) (ht : TopI w C n s) (hb : Body ok B n w s T Gs) (hw : WalkAt w W C n i u) (hu : IsP n u) (hTP : ∀ y t, T i y = some t → IsP n t) (hi : i < n) (hnl : n ≤ 20)
    (hx0 : -9223372036854775808 ≤ x) (hx1 : x ≤ 9223372036854775807) :
    Calls Try.prog 85 #[.pointer (some ⟨W, 0, none⟩), .int .i64 x] w (TakePost n T C W i u x w) := by
  have hn : 0 < n := by omega
  have HWFX : Hid ((Lit.int .i64 x).wf = true) := by
    simp [Hid, Lit.wf, IntKind.min, IntKind.max, IntKind.signed, IntKind.bits]; omega
  have HT := Lib.hid ht
  have HBD := Lib.hid hb
  have HW := Lib.hid hw
  have HU := Lib.hid hu
  have HTP := Lib.hid hTP
  have hWl := hw.lt
  by_cases hin : ∃ v : Nat, x = (v : Int) ∧ v ∈ vals n T i u
  · obtain ⟨v, rfl, hv⟩ := hin
    clear ht hb hw hu hTP
    go_enter Try.func85, Try.ntmps85
    go_wp2_with fail
    refine (implValues B n C W i s T Gs u _ HT.out HBD.out HW.out HU.out hi hnl).mono ?_
    rintro e w1 ⟨M, D, rfl, hown, hM, hB1⟩
    have hhas : Maps.has D (.int .i64 (v : Int)) = true := (hM.has_vals HU.out v).2 hv
    have hvn : v < n := (mem_vals.1 hv).1
    have hyn := HU.out.inv_lt hvn
    obtain ⟨t, hTy, hst⟩ := step_some hv
    obtain ⟨y, hy⟩ : ∃ y, app (inv u) v = y := ⟨_, rfl⟩
    rw [hy] at hyn hTy
    have hyo : y ∈ orb n T i := by simp only [orb, List.mem_filter, List.mem_range]; exact ⟨hyn, by rw [hTy]; rfl⟩
    have hAT : ∀ z, D.atKey (.int .i64 (v : Int)) z = .lit (.int .i64 (y : Int)) := fun z => by
      have := hM.2.2 y hyo z
      rwa [← hy, HU.out.app_inv_self hvn, hy] at this
    have HAT := Lib.hid hAT
    have HV := Lib.hid hv
    have HST := Lib.hid hst
    have hIt := HTP.out y t hTy
    obtain ⟨u1, hu1, hrep, -⟩ := (HBD.out.below hB1).readRow hi hyn
    rw [hTy] at hrep
    have hrep : PermV ok w1 u1 n t := hrep
    obtain ⟨gt, ct, rfl, hIt2, htl⟩ := hrep.ints
    obtain ⟨g, c, hWr, hPV, hI, x0, x1, x2⟩ := (HW.out.below hB1).cells
    have t2 : w1.cell? ⟨C, 2, none⟩ = some (.slice (some ⟨s.Rb, 0, none⟩) n s.cr) := cell_of_row _ C 2 _ _ (0, 0) (rowB hB1 HT.out)
    have hrb := (HBD.out.below hB1).readRb hi
    have HIT := Lib.hid hIt
    have HIT2 := Lib.hid hIt2
    have HI := Lib.hid hI
    have HR := Lib.hid hWr
    have p0 : (0 : Int) ≤ (i : Int) := by omega
    have p1 : (i : Int) < (n : Int) := by omega
    have p2 : (0 : Int) ≤ (y : Int) := by omega
    have p3 : (y : Int) < (n : Int) := by omega
    have p4 : (i : Int) < 20 := by omega
    have hB1z : w.heap.size ≤ w1.heap.size := hB1.size
    clear hM hv hy hTy hst hyo hAT hIt hrep hIt2 htl hWr hPV hI
    go_wp2_with (first | (at_lookup; refine wpList_lookup_own_ok_int _ rfl _ _ 113 rfl 2 2 .i64 lawK Try.underlying113 Try.underlying2 (zeroK _) M 20 D rfl hown _ _ rfl (keyOf_int_mk Try.underlying2 HWFX.out) ?_; intro cc hat hwc; rw [HAT.out] at hat; simp only [DataW.lit.injEq, Lit.int.injEq, true_and] at hat; subst hat; rw [hhas]; clear hwc))
    clear hhas hown HAT
    go_upto_region 3 with fail
    go_cut [] from 16 to 46 (fun wx => ∃ (A2 : Option Addr) (c2 : Nat), wx.heap[W]? = some (.cells #[.pointer (some ⟨C, 0, none⟩), .int .i64 (i : Int), .slice A2 n c2] 72 (0, 0)) ∧ Fresh w.heap.size wx (.slice A2 n c2) (natI (comp t u)) ∧ Below W w wx)
    case first =>
      go_region_with (first
        | (go_at_call 103; refine (implCompose _ _ ct c n t u _ (by exact HIT2.out.below (by exact (by repeat (first | exact Below.refl _ _ | assumption | refine Below.setCell ?_ (by first | omega | (simp <;> omega)) _ | refine Below.alloc ?_ (by first | omega | (simp <;> omega)) _ | refine Below.drew ?_)))) (by exact HI.out.below (by exact (by repeat (first | exact Below.refl _ _ | assumption | refine Below.setCell ?_ (by first | omega | (simp <;> omega)) _ | refine Below.alloc ?_ (by first | omega | (simp <;> omega)) _ | refine Below.drew ?_)))) HIT.out.len HU.out.len (by omega) (fun i hi => HIT.out.lt hi)).mono ?_; rintro e w2 ⟨v2, rfl, hF2, hb2⟩
            ; have hB2 : Below w1.heap.size w1 w2 := (by first | exact hb2 | exact ((Below.refl _ _).drew).trans hb2)
            ; have hPV2 := hF2.perm (ok := fun _ => True) (n := n) (by rw [comp_len, HIT.out.len]) hn (fun _ _ _ => trivial)
            ; obtain ⟨g2, c2, rfl, -, -⟩ := hPV2.ints
            ; have hr2 := rowB hB2 HR.out
            ; have x22 : w2.cell? ⟨W, 2, none⟩ = some (.slice (some ⟨g, 0, none⟩) n c) := cell_of_row _ W 2 _ _ (0, 0) hr2
            ; have f22 : w2.frozen? ⟨W, 2, none⟩ = false := row_free hr2
            ; have HR2 := Lib.hid hr2
            ; have HF2 := Lib.hid (hF2.mono hB1z)
            ; clear hF2 hb2 hr2 hPV2))
      all_goals
        go_wp2_with fail
        go_meet
        refine ⟨some ⟨g2, 0, none⟩, c2, ?_, HF2.out.setCell (a := ⟨W, 2, none⟩) hWl _, ((hB1.mono (Nat.le_of_lt hWl)).trans (hB2.mono (by have := hB1.size; omega))).setCell (p := ⟨W, 2, none⟩) (Nat.le_refl _) _⟩
        rw [heap_setCell_same w2 W 2 _ _ _ HR2.out]
        rfl
    case rest =>
      obtain ⟨A2, c2, hrow, hPV, hBc⟩ := hcut
      have x13 : wc.cell? ⟨W, 1, none⟩ = some (.int .i64 (i : Int)) := cell_of_row _ W 1 _ _ (0, 0) hrow
      have f13 : wc.frozen? ⟨W, 1, none⟩ = false := row_free hrow
      have HFIN := Lib.hid (walk_fin hrow hPV hWl)
      clear x0 x1 x2 t2 hrb hu1 hrow hPV
      go_wp2_with fail
      go_ret
      exact ⟨hBc.setCell (p := ⟨W, 1, none⟩) (Nat.le_refl _) _, .inl ⟨v, rfl, HV.out, rfl, by rw [HST.out]; exact HFIN.out⟩⟩
  · have hhas : ∀ D : MD, MapsTo D u (orb n T i) → Maps.has D (.int .i64 x) = false := fun D hM => by
      cases hh : Maps.has D (.int .i64 x) with
      | false => rfl
      | true =>
        obtain ⟨y, hy, e⟩ := (hM.2.1 _).1 hh
        simp only [kI, Lit.int.injEq, true_and] at e
        exact absurd ⟨app u y, e, (vals_of_orb hu).2 ⟨y, hy, rfl⟩⟩ hin
    have HIN : Hid (∀ v : Nat, x = (v : Int) → v ∉ vals n T i u) := fun v e hv => hin ⟨v, e, hv⟩
    have HHAS := Lib.hid hhas
    clear ht hb hw hu hTP hin hhas
    go_enter Try.func85, Try.ntmps85
    go_wp2_with fail
    refine (implValues B n C W i s T Gs u _ HT.out HBD.out HW.out HU.out hi hnl).mono ?_
    rintro e w1 ⟨M, D, rfl, hown, hM, hB1⟩
    have hh := HHAS.out D hM
    clear hM HHAS
    go_wp2_with (first | (at_lookup; refine wpList_lookup_own_ok_int _ rfl _ _ 113 rfl 2 2 .i64 lawK Try.underlying113 Try.underlying2 (zeroK _) M 20 D rfl hown _ _ rfl (keyOf_int_mk Try.underlying2 HWFX.out) ?_; intro cc hat hwc; rw [hh]; clear hwc hat))
    go_ret
    exact ⟨hB1.mono (Nat.le_of_lt hWl), .inr ⟨HIN.out, rfl, HW.out.below hB1⟩⟩
end
end Go.Proofs.Ytpcnbjfkobeibaa
