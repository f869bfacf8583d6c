/- A way down a chain, at the program: its three cells; the values of its level, as a map. Conditions: as each contract says. -/
import Derived.Test.YtpcnbjfkobeibaaOrb
import Derived.Test.YtpcnbjfkobeibaaSt
import Derived.Test.YtpcnbjfkobeibaaWm
import Derived.Maps.RangeWalk
import Derived.Maps.OwnSet
import Derived.Deep.RegionWith
import Derived.Deep.RegionHeld3
import Derived.Deep.CutRange
namespace Go.Proofs.Ytpcnbjfkobeibaa
open Go.RowKit Grp Go.Maps

/-- Block W is a way down the chain C: at level i, with the permutation u chosen so far. -/
def WalkAt (w : World) (W C n i : Nat) (u : List Nat) : Prop := ∃ A c, w.heap[W]? = some (.cells #[.pointer (some ⟨C, 0, none⟩), .int .i64 (i : Int), .slice A n c] 72 (0, 0)) ∧ PermV (fun _ => True) w (.slice A n c) n u
theorem WalkAt.below {w w' : World} {W C n i : Nat} {u : List Nat} (h : WalkAt w W C n i u) (hb : Below w.heap.size w w') : WalkAt w' W C n i u := by
  obtain ⟨A, c, h1, h2⟩ := h
  exact ⟨A, c, rowB hb h1, h2.below hb⟩
theorem WalkAt.lt {w : World} {W C n i : Nat} {u : List Nat} (h : WalkAt w W C n i u) : W < w.heap.size := by
  obtain ⟨A, c, h1, h2⟩ := h
  exact row_lt h1
theorem WalkAt.cells {w : World} {W C n i : Nat} {u : List Nat} (h : WalkAt w W C n i u) : ∃ g c, w.heap[W]? = some (.cells #[.pointer (some ⟨C, 0, none⟩), .int .i64 (i : Int), .slice (some ⟨g, 0, none⟩) n c] 72 (0, 0)) ∧ PermV (fun _ => True) w (.slice (some ⟨g, 0, none⟩) n c) n u ∧ IntsAt w (some ⟨g, 0, none⟩) (natI u) ∧
    w.cell? ⟨W, 0, none⟩ = some (.pointer (some ⟨C, 0, none⟩)) ∧ w.cell? ⟨W, 1, none⟩ = some (.int .i64 (i : Int)) ∧ w.cell? ⟨W, 2, none⟩ = some (.slice (some ⟨g, 0, none⟩) n c) := by
  obtain ⟨A, c, h1, h2⟩ := h
  obtain ⟨g, c', e, h3, -⟩ := h2.ints
  simp only [Value.slice.injEq, true_and] at e
  obtain ⟨rfl, rfl⟩ := e
  exact ⟨g, c, h1, h2, h3, cell_of_row w W 0 _ _ (0, 0) h1, cell_of_row w W 1 _ _ (0, 0) h1, cell_of_row w W 2 _ _ (0, 0) h1⟩
abbrev MD := DataW Unit
def kI (v : Nat) : Lit := .int .i64 (v : Int)
/-- The map D holds, for each point of L, the point at its value. -/
def MapsTo (D : MD) (u L : List Nat) : Prop := IsMap D ∧ (∀ kl, Maps.has D kl = true ↔ ∃ y, y ∈ L ∧ kl = kI (app u y)) ∧ ∀ y, y ∈ L → ∀ z, D.atKey (kI (app u y)) z = .lit (kI y)
theorem MapsTo.start (u : List Nat) : MapsTo (.map []) u [] := ⟨⟨_, rfl⟩, fun kl => by simp [Maps.has], fun y hy => by simp at hy⟩
theorem kI_inj {a b : Nat} (h : kI a = kI b) : a = b := by
  simp only [kI, Lit.int.injEq, true_and] at h
  omega
theorem MapsTo.step {D : MD} {n : Nat} {u L : List Nat} (h : MapsTo D u L) (hu : IsP n u) (hL : ∀ y, y ∈ L → y < n) {y : Nat} (hy : y < n) (hyL : y ∉ L) : MapsTo (D.put (kI (app u y)) (.lit (kI y))) u (L ++ [y]) := by
  obtain ⟨h1, h2, h3⟩ := h
  have hk : WideAt.IsKeyLit (kI (app u y)) := trivial
  have hne : ∀ y', y' ∈ L → kI (app u y') ≠ kI (app u y) := fun y' hy' e => by
    have := hu.inj (hL y' hy') hy (kI_inj e)
    exact hyL (this ▸ hy')
  refine ⟨?_, fun kl => ?_, fun y' hy' z => ?_⟩
  · obtain ⟨es, rfl⟩ := h1
    exact ⟨_, rfl⟩
  · by_cases e : kl = kI (app u y)
    · subst e
      rw [has_put_same h1 hk]
      simp
    · rw [has_put_other e, h2]
      constructor
      · rintro ⟨y', a, b⟩
        exact ⟨y', by simp [a], b⟩
      · rintro ⟨y', a, b⟩
        rcases List.mem_append.1 a with a | a
        · exact ⟨y', a, b⟩
        · rw [List.mem_singleton.1 a] at b
          exact absurd b e
  · rcases List.mem_append.1 hy' with a | a
    · rw [atKey_put_other (hne y' a)]
      exact h3 y' a z
    · rw [List.mem_singleton.1 a]
      exact atKey_put_same h1 hk _ _
theorem lawK : Keyed Try.prog 2 := int_keyed Try.underlying2
theorem zeroK (w : World) : (zeroValue 2).run Try.prog w = .ok (.int .i64 0) w := by kernel_rfl
theorem wfNat {x : Nat} (h : x < 20) : (Lit.int .i64 (x : Int)).wf = true := by
  simp [Lit.wf, IntKind.min, IntKind.max, IntKind.signed, IntKind.bits]
  omega
def ValsPost (n : Nat) (T : Tab) (i : Nat) (u : List Nat) (w : World) (e : Ending) (w' : World) : Prop :=
  ∃ (M : Nat) (D : MD), e = .returned (.map (some M)) ∧ w'.ownsMap Try.prog 2 (plainElem (H := Unit) Try.prog 2) M 20 D ∧ MapsTo D u (orb n T i) ∧ Below w.heap.size w w'
theorem orb_nodup {n : Nat} {T : Tab} {i : Nat} : (orb n T i).Nodup := nodup_filter_range _ _
theorem take_nat (l : List Nat) (k : Nat) (h : k < l.length) : l.take (k + 1) = l.take k ++ [app l k] := by
  rw [List.take_add_one, List.getElem?_eq_getElem h]
  unfold app
  rw [List.getD_eq_getElem?_getD, List.getElem?_eq_getElem h]
  rfl
set_option maxRecDepth 100000 in
set_option maxHeartbeats 4000000 in
theorem implValues {ok : Nat → Prop} (B n C W i : Nat) (s : Sh) (T : Tab) (Gs : Nat → List (List Nat)) (u : List Nat) (w : World) (ht : TopI w C n s) (hb : Body ok B n w s T Gs) (hw : WalkAt w W C n i u) (hu : IsP n u) (hi : i < n) (hnl : n ≤ 20) :
    Calls Try.prog 135 #[.pointer (some ⟨W, 0, none⟩)] w (ValsPost n T i u w) := by
  have hmm := @run_makeMap Try.prog
  have hM0 := World.ownsMap_made w Try.prog 2 (plainElem (H := Unit) Try.prog 2)
  have hWl := hw.lt
  obtain ⟨ys, hys⟩ : ∃ ys, orb n T i = ys := ⟨_, rfl⟩
  have hyl : ys.length ≤ n := by rw [← hys]; exact orbTo_len T i n
  have HYD : Hid ys.Nodup := by rw [← hys]; exact orb_nodup
  have HYN : Hid (∀ y, y ∈ ys → y < n) := fun y hy => by rw [← hys] at hy; simp only [orb, List.mem_filter, List.mem_range] at hy; exact hy.1
  have HYS := Lib.hid hys
  clear hys
  have HT := Lib.hid ht
  have HBD := Lib.hid hb
  have HU := Lib.hid hu
  obtain ⟨g, c, -, hPV, hI, z0, z1, z2⟩ := hw.cells
  have hB0 : Below w.heap.size w (w.alloc (.map #[] 0)) := (by repeat (first | exact Below.refl _ _ | assumption | refine Below.setCell ?_ (by first | omega | (simp <;> omega)) _ | refine Below.alloc ?_ (by first | omega | (simp <;> omega)) _ | refine Below.drew ?_))
  have x0 : (w.alloc (.map #[] 0)).cell? ⟨W, 0, none⟩ = some (.pointer (some ⟨C, 0, none⟩)) := (hB0.cell (p := ⟨W, 0, none⟩) hWl).trans z0
  have x1 : (w.alloc (.map #[] 0)).cell? ⟨W, 1, none⟩ = some (.int .i64 (i : Int)) := (hB0.cell (p := ⟨W, 1, none⟩) hWl).trans z1
  have t2 : (w.alloc (.map #[] 0)).cell? ⟨C, 2, none⟩ = some (.slice (some ⟨s.Rb, 0, none⟩) n s.cr) := cell_of_row _ C 2 _ _ (0, 0) (rowB hB0 HT.out)
  have hrb := (HBD.out.below hB0).readRb hi
  have p0 : (0 : Int) ≤ (i : Int) := by omega
  have p1 : (i : Int) < (n : Int) := by omega
  have HI := Lib.hid hI
  have HZ2 := Lib.hid z2
  have HUL : Hid (u.length = n) := hu.len
  clear hPV hI z0 z1 z2 ht hb hw hu
  go_enter Try.func135, Try.ntmps135
  go_wp2_with fail
  have dW := World.new_ne _ _ x0
  dsimp only at dW
  go_upto_region 2 with fail
  go_cut [3, 20, 21, 22] from 4 to 36 (fun m v l i0 wx => m = .map (some w.heap.size) ∧ i0 = .int .i64 0 ∧ ∃ (A5 : Option Addr) (c5 : Nat), v = .slice A5 ys.length c5 ∧ l = .int .i64 (ys.length : Int) ∧ Hid (Fresh (w.heap.size + 1) wx (.slice A5 ys.length c5) (natI ys)) ∧ Hid (Below (w.heap.size + 1) (w.alloc (.map #[] 0)) wx))
  case first =>
    go_region_with (first | (go_at_call 91; refine (implOrbit B n i s T Gs _ (HBD.out.below (by exact (by repeat (first | exact Below.refl _ _ | assumption | refine Below.setCell ?_ (by first | omega | (simp <;> omega)) _ | refine Below.alloc ?_ (by first | omega | (simp <;> omega)) _ | refine Below.drew ?_)))) hi hnl).mono ?_; rintro e w5 ⟨v5, rfl, hF5, hb5⟩; rw [HYS.out] at hF5; have hFm := hF5.mono (B' := w.heap.size + 1) (by simp); obtain ⟨A5, c5, rfl, -, -⟩ := hF5.ints; rw [natI_len] at hFm; rw [natI_len]; have HB5 : Hid (Below (w.heap.size + 1) (w.alloc (.map #[] 0)) w5) := (Below.refl _ _).drew.trans (hb5.mono (by simp)); have HF5 := Lib.hid hFm; clear hF5 hb5 hFm))
    all_goals
      go_wp2_with fail
      go_meet
      exact ⟨rfl, rfl, A5, c5, rfl, rfl, HF5, HB5⟩
  case rest =>
    obtain ⟨rfl, rfl, A5, c5, rfl, rfl, HF5, HB5⟩ := hcut
    have hB1 : Below w.heap.size w wc := hB0.trans (HB5.out.mono (by omega))
    have hMc : wc.ownsMap Try.prog 2 (plainElem (H := Unit) Try.prog 2) w.heap.size 0 (.map []) := hM0.kept (row := none) ⟨HB5.out.os, HB5.out.tape, HB5.out.output, HB5.out.size, fun k hk _ => HB5.out.block k (by simpa using hk)⟩ (by simp)
    clear x0 x1 t2 hrb dW hB0 hM0
    go_wp2_with fail
    go_loopw [22] (fun j wr => ∃ (k : Nat) (D : MD), k ≤ ys.length ∧ j = .int .i64 (k : Int) ∧ wr.ownsMap Try.prog 2 (plainElem (H := Unit) Try.prog 2) w.heap.size k D ∧ Hid (MapsTo D u (ys.take k)) ∧ Hid (Fresh (w.heap.size + 1) wr (.slice A5 ys.length c5) (natI ys)) ∧ Below w.heap.size w wr) (fun j _ => ys.length - (intOf j).toNat)
    case atStart => exact ⟨0, _, Nat.zero_le _, rfl, hMc, MapsTo.start u, HF5, hB1⟩
    case round =>
      obtain ⟨k, D, hk, rfl, hown, HM, HF, hB⟩ := hrel
      clear hMc HB5 hB1
      by_cases hlt : k < ys.length
      · have hyy : app ys k ∈ ys := by
          unfold app
          rw [List.getD_eq_getElem?_getD, List.getElem?_eq_getElem hlt]
          exact List.getElem_mem _
        have hnew : app ys k ∉ ys.take k := fun h => by
          have hd := HYD.out
          rw [← List.take_append_drop k ys, List.nodup_append] at hd
          refine hd.2.2 _ h (app ys k) ?_ rfl
          have e1 : app ys k = ys[k] := by unfold app; rw [List.getD_eq_getElem?_getD, List.getElem?_eq_getElem hlt]; rfl
          rw [e1, List.drop_eq_getElem_cons hlt]
          exact List.mem_cons_self
        have hsn : ys.take (k + 1) = ys.take k ++ [app ys k] := take_nat ys k hlt
        have hyn := HYN.out _ hyy
        obtain ⟨b, off, rfl, hb5, hc5⟩ := perm_at HF.out.intsAt hlt
        obtain ⟨y, hye⟩ : ∃ y, app ys k = y := ⟨_, rfl⟩
        rw [hye] at hc5 hyn hnew hsn
        have hvn := HU.out.lt hyn
        obtain ⟨b2, off2, e2, hb2, hc2⟩ := perm_at (HI.out.below hB) (i := y) (by rw [HUL.out]; exact hyn)
        injection e2 with e2
        injection e2 with e3 e4
        subst e3 e4
        rw [Nat.zero_add] at hc2
        have hst := HM.out.step HU.out (fun y hy => HYN.out y (List.mem_of_mem_take hy)) hyn hnew
        rw [← hsn] at hst
        obtain ⟨v, hve⟩ : ∃ v, app u y = v := ⟨_, rfl⟩
        rw [hve] at hc2 hvn hst
        have HST := Lib.hid hst
        have x2 : wr.cell? ⟨W, 2, none⟩ = some (.slice (some ⟨g, 0, none⟩) n c) := (hB.cell (p := ⟨W, 2, none⟩) hWl).trans HZ2.out
        have q0 : (0 : Int) ≤ (k : Int) := by omega
        have q1 : (k : Int) < (ys.length : Int) := by omega
        have q2 : (0 : Int) ≤ (y : Int) := by omega
        have q3 : (y : Int) < (n : Int) := by omega
        have wfv := wfNat (x := v) (by omega)
        have wfy := wfNat (x := y) (by omega)
        clear hyy hnew hsn hye hve hst
        go_wp2_with (first | (at_mapUpdate; refine wpList_mapUpdate_own _ rfl _ _ _ 113 rfl 2 2 lawK Try.underlying113 _ w.heap.size k _ rfl hown (by unfold maxLen; omega) _ _ _ rfl rfl (keyOf_int_mk Try.underlying2 wfv) _ [] (plainElem_int Try.underlying2 wfy) ?_; intro w1 hown1 hgrow1))
        have hF1 := HF.out.grownNew hgrow1 (fun g hg => by injection hg with hg; omega)
        have hB1 : Below w.heap.size w w1 := hB.grown hgrow1 hB.size (fun j hj => by injection hj with hj; omega)
        go_roundw
        case rel => exact ⟨k + 1, _, by omega, by go_num, hown1, HST, hF1, hB1⟩
        case measure => simp [intOf]; omega
      · obtain rfl : k = ys.length := by omega
        have hm := HM.out
        rw [List.take_of_length_le (Nat.le_refl _), ← HYS.out] at hm
        have HME := Lib.hid hm
        clear hm
        go_wp2_with fail
        go_ret
        exact ⟨w.heap.size, D, rfl, hown.mono (by omega), HME.out, hB⟩
end Go.Proofs.Ytpcnbjfkobeibaa
