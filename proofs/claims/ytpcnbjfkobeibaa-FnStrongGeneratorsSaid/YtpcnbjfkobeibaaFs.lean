/- The least values taken to the end; the least member with given first entries, at both packages. Conditions: as each contract says. The least member with given first entries; the least permutation of a coset, at the reference. Conditions: as each contract says. -/
import Derived.Test.YtpcnbjfkobeibaaQ
import Derived.Deep.RegionHeld3
namespace Go.Proofs.Ytpcnbjfkobeibaa
section
open Go.RowKit Grp

def FinPost (B n W : Nat) (R : Unit × Option (List Nat)) (w : World) (e : Ending) (w' : World) : Prop := ∃ u v, R = ((), some u) ∧ e = .returned v ∧ Fresh B w' v (natI u) ∧ IsP n u ∧ Below W w w'
set_option maxRecDepth 100000 in
set_option maxHeartbeats 4000000 in
theorem implFinish {G : List Nat → Prop} (B C n W i0 : Nat) (T : Tab) (u0 : List Nat) (R : Unit × Option (List Nat)) (w0 w : World) (hC : CI w0 C n T) (hc : Chain n T 0 G) (hn : n ≤ 20) (h0 : 0 < n) (hW0 : w0.heap.size ≤ W) (hb0 : Below w0.heap.size w0 w) (hw : WalkAt w W C n i0 u0) (hu : IsP n u0) (hi : i0 ≤ n)
    (hR : Wk n T actMin i0 u0 () R) (hF : i0 = n → WalkF B w W C n i0 u0) (hB : B ≤ w.heap.size) :
    Calls Try.prog 88 #[.pointer (some ⟨W, 0, none⟩)] w (FinPost B n W R w) := by
  have HC := Lib.hid hC
  have HCH := Lib.hid hc
  have HW0 := Lib.hid hw
  have HU0 := Lib.hid hu
  have HR0 := Lib.hid hR
  have HF0 := Lib.hid hF
  clear hC hc hw hu hR hF
  go_enter Try.func88, Try.ntmps88
  go_wp2_with fail
  go_loopw [] (fun wr => ∃ (i : Nat) (u : List Nat), i ≤ n ∧ Hid (WalkAt wr W C n i u) ∧ Hid (IsP n u) ∧ Hid (Wk n T actMin i u () R) ∧ Below W w wr ∧ Hid (i = n → WalkF B wr W C n i u)) (fun wr => n - lvlOf wr W)
  case atStart => exact ⟨i0, u0, hi, HW0, HU0, HR0, Below.refl _ _, HF0⟩
  case round =>
    obtain ⟨i, u, hi, HW, HU, HWK, hBr, HF⟩ := hrel
    clear HW0 HU0 HR0 HF0
    have HCr := Lib.hid (HC.out.below (hb0.trans (hBr.mono hW0)))
    obtain ⟨s, t0, -, -, -⟩ := HCr.out.cells
    obtain ⟨gw, cw, -, -, -, x0, x1, -⟩ := HW.out.cells
    have hWl := HW.out.lt
    by_cases hlt : i < n
    · obtain ⟨v, -, hv, hnx, -⟩ := vals_head HCH.out hlt HU.out
      have hund : ∀ wx : World, Below wr.heap.size wr wx → Calls Try.prog 133 #[.pointer (some ⟨W, 0, none⟩), .int .i64 (-1)] wx fun e w' => ∃ z : Int, e = .returned (.tuple #[.int .i64 z, .int .i64 (v : Int)]) ∧ Below wx.heap.size wx w' := fun wx hb => by
        refine (implUnder (HCr.out.below hb) hn (HW.out.below hb) HU.out hlt (-1)).mono ?_
        rintro e w' ⟨he, hb'⟩
        rw [hnx] at he
        exact ⟨_, he, hb'⟩
      have htk := fun (wx : World) (hb : Below wr.heap.size wr wx) => takeYes (HCr.out.below hb) HCH.out hn (HW.out.below hb) HU.out hlt hv
      have HUND := Lib.hid hund
      have HTK := Lib.hid htk
      have HWK5 : Hid (Wk n T actMin (i + 1) (Grp.step T i u v) () R) := HWK.out.go hlt (by
        unfold actMin
        obtain ⟨v', h1, -, h3, -⟩ := vals_head HCH.out hlt HU.out
        rw [h1]
        have : v' = v := by rw [hnx] at h3; omega
        rw [this]) hv
      have HU5 : Hid (IsP n (Grp.step T i u v)) := step_isP HCH.out hlt HU.out hv
      have HL0 := Lib.hid HW.out.lvl
      clear hund htk hv hnx
      go_wp2_with fail
      go_quiet (fail)
      go_wp2_with (first
        | (go_at_call 133; refine (HUND.out _ (by exact belowDrewN (Below.refl _ _) _)).mono ?_; rintro e w4 ⟨z, rfl, hb4⟩; have hB4 : Below wr.heap.size wr w4 := belowStep hb4 (belowDrewN (Below.refl _ _) _))
        | (go_at_call 85; refine (HTK.out _ (by exact hB4)).mono ?_; rintro e w5 ⟨rfl, hw5, hb5⟩))
      have hB4z := hB4.size
      have hBz := hBr.size
      have HF5 := Lib.hid (hw5.mono (B' := B) (by omega))
      have hw5 := hw5.walk HU5.out.len h0
      have HW5 := Lib.hid hw5
      have HL5 := Lib.hid hw5.lvl
      have hB5 : Below W w w5 := (hBr.trans (hB4.mono (Nat.le_of_lt hWl))).trans hb5
      clear hw5
      go_roundw
      case rel => exact ⟨i + 1, _, by omega, HW5, HU5, HWK5, hB5, fun _ => HF5.out⟩
      case measure => rw [HL0.out, HL5.out]; omega
    · obtain rfl : i = n := by omega
      obtain ⟨A, c, hrow, hfr⟩ := HF.out rfl
      have y2 : wr.cell? ⟨W, 2, none⟩ = some (.slice A i c) := cell_of_row _ W 2 _ _ (0, 0) hrow
      have hend := HWK.out.end_
      have HFR := Lib.hid hfr
      have HEND := Lib.hid hend
      clear hrow hfr hend
      go_wp2_with fail
      go_quiet (fail)
      go_wp2_with fail
      go_ret
      exact ⟨u, _, HEND.out, rfl, HFR.out.below (belowDrewN (Below.refl _ _) _), HU.out, belowDrewN hBr _⟩
def PreI (n : Nat) (o : Option (List Nat)) (w : World) (e : Ending) (w' : World) : Prop :=
  ((∃ u v, o = some u ∧ e = .returned (.tuple #[v, .bool true]) ∧ Fresh w.heap.size w' v (natI u) ∧ IsP n u) ∨ (∃ v, o = none ∧ e = .returned (.tuple #[v, .bool false]) ∧ Fresh w.heap.size w' v [])) ∧ Below w.heap.size w w'
/-- A number is one of the values, or is not. -/
theorem valOr (x : Int) (V : List Nat) : (∃ v : Nat, x = (v : Int) ∧ v ∈ V) ∨ ∀ v : Nat, x = (v : Int) → v ∉ V := by
  rcases Classical.em (∃ v : Nat, x = (v : Int) ∧ v ∈ V) with h | h
  · exact .inl h
  · exact .inr fun v e hv => h ⟨v, e, hv⟩
set_option maxRecDepth 100000 in
set_option maxHeartbeats 4000000 in
theorem implWithPrefix {G : List Nat → Prop} (C n : Nat) (T : Tab) (A : Option Addr) (c' m : Nat) (ps : List Int) (w : World) (hC : CI w C n T) (hc : Chain n T 0 G) (hn : n ≤ 20) (h0 : 0 < n) (hx : IntsAt w A ps) (hf : Fits ps) (hm : ps.length = m) (hpl : ps.length ≤ n) :
    Calls Try.prog 90 #[.pointer (some ⟨C, 0, none⟩), .slice A m c'] w (PreI n (preR n T ps) w) := by
  subst hm
  obtain ⟨R, hR⟩ : ∃ R, walkG n T (actPre ps) n 0 (idp n) () = R := ⟨_, rfl⟩
  have hRR : preR n T ps = R.2 := by unfold preR; rw [hR]
  rw [hRR]
  have HWK0 : Hid (Wk n T (actPre ps) 0 (idp n) () R) := hR
  obtain ⟨s, t0, -, -, -⟩ := hC.cells
  have HC := Lib.hid hC
  have HCH := Lib.hid hc
  have HX := Lib.hid hx
  have HFI := Lib.hid hf
  clear hC hc hx hf hR hRR
  go_enter Try.func90, Try.ntmps90
  go_wp2_with (first
    | (go_at_call 84; refine (implIdentity n _ (by omega)).mono ?_; rintro e w3 ⟨v3, rfl, hF3, hb3⟩; have HF3 := Lib.hid hF3; clear hF3)
    | (go_at_call 83; refine (implFrom C n v3 (idp n) _ (HF3.out.perm idp_len h0 (fun _ _ _ => trivial))).mono ?_; rintro e w4 ⟨rfl, hW, hb4⟩; have HW0 := Lib.hid hW; have HC3 := Lib.hid (HC.out.below hb3); have HX3 := Lib.hid (HX.out.below hb3); clear hW))
  go_loopw [18] (fun z wr => ∃ (k : Nat) (u : List Nat), k ≤ ps.length ∧ z = .int .i64 (k : Int) ∧ Hid (WalkAt wr w3.heap.size C n k u) ∧ Hid (IsP n u) ∧ Hid (Wk n T (actPre ps) k u () R) ∧ Below w3.heap.size w3 wr ∧ Hid (0 < k → WalkF w.heap.size wr w3.heap.size C n k u)) (fun z _ => ps.length - (intOf z).toNat)
  case atStart => exact ⟨0, idp n, Nat.zero_le _, rfl, HW0, IsP.idp, HWK0, hb4, fun h => absurd h (Nat.lt_irrefl _)⟩
  case round =>
    obtain ⟨k, u, hk, rfl, HW, HU, HWK, hB, HF⟩ := hrel
    clear HW0 HWK0 hb4
    have HCr := Lib.hid (HC3.out.below hB)
    have hb3z := hb3.size
    have hBz := hB.size
    by_cases hlt : k < ps.length
    · obtain ⟨b, off, x, rfl, hbl, hc0, HXX⟩ := (HX3.out.below hB).at_ hlt
      have hfx := HFI.out.at_ k
      rw [HXX.out] at hfx
      have p0 : (0 : Int) ≤ (k : Int) := by omega
      have p1 : (k : Int) < (ps.length : Int) := by omega
      have hkn : k < n := by omega
      rcases valOr x (vals n T k u) with ⟨v, rfl, hv⟩ | hno
      · have HTK := Lib.hid (takeYes HCr.out HCH.out hn HW.out HU.out hkn hv)
        have HWK5 : Hid (Wk n T (actPre ps) (k + 1) (Grp.step T k u v) () R) := HWK.out.go hkn (actPre_yes hlt HXX.out hv) hv
        have HU5 : Hid (IsP n (Grp.step T k u v)) := step_isP HCH.out hkn HU.out hv
        clear hv hfx
        go_wp2_with (first | (go_at_call 85; refine HTK.out.mono ?_; rintro e w5 ⟨rfl, hw5, hb5⟩))
        have HF5 := Lib.hid (hw5.mono (B' := w.heap.size) (by omega))
        have HW5 := Lib.hid (hw5.walk HU5.out.len h0)
        clear hw5
        go_roundw
        case rel => exact ⟨k + 1, _, by omega, by go_num, HW5, HU5, HWK5, hB.trans hb5, fun _ => HF5.out⟩
        case measure => simp [intOf]; omega
      · have HTK := Lib.hid (takeNo HCr.out HCH.out hn HW.out HU.out hkn hfx.1 hfx.2 hno)
        have HE : Hid (R.2 = none) := by
          unfold Hid
          rw [HWK.out.stop hkn (actPre_no hlt (fun v hv => hno v (by rw [← HXX.out]; exact hv)))]
        clear hno hfx
        go_wp2_with (first | (go_at_call 85; refine HTK.out.mono ?_; rintro e w5 ⟨rfl, hw5, hb5⟩))
        exact bodyPost_ret (v := .tuple #[.slice none 0 0, .bool false]) (by simp [results, Try.results90, go_sem]) rfl ⟨.inr ⟨_, HE.out, rfl, Fresh.nil _ _⟩, hb3.trans ((hB.trans hb5).mono hb3z)⟩
    · obtain rfl : k = ps.length := by omega
      have hwm : Wk n T actMin ps.length u () R := HWK.out.congr fun j vs a hj => actPre_late hj vs a
      have HFN := Lib.hid (implFinish w.heap.size C n w3.heap.size ps.length T u R w3 wr HC3.out HCH.out hn h0 (Nat.le_refl _) hB HW.out HU.out hpl hwm (fun e => HF.out (by omega)) (by omega))
      clear hwm
      go_wp2_with (first | (go_at_call 88; refine HFN.out.mono ?_; rintro e w5 ⟨u5, v5, hR5, rfl, hF5, hP5, hb5⟩))
      exact bodyPost_ret (v := .tuple #[v5, .bool true]) (by simp [results, Try.results90, go_sem]) rfl ⟨.inl ⟨u5, v5, by rw [hR5], rfl, hF5, hP5⟩, hb3.trans ((hB.trans hb5).mono hb3z)⟩
end
section
open Go.RowKit Grp

theorem hasNo (V : List Nat) (hV : V.length ≤ 20) (x : Int) (h : ∀ v : Nat, x = (v : Int) → v ∉ V) (wx : World) (gg cc : Nat) (hI : IntsAt wx (some ⟨gg, 0, none⟩) (natI V)) :
    Calls Try.prog 80 #[.slice (some ⟨gg, 0, none⟩) V.length cc, .int .i64 x] wx fun e w' => e = .returned (.bool false) ∧ wx = w' := by
  have := specHasInt (some ⟨gg, 0, none⟩) cc (natI V) x wx hI (by rw [natI_len]; omega)
  rw [natI_len] at this
  have e : decide (x ∈ natI V) = false := decide_eq_false fun hx => by
    unfold natI at hx
    rw [List.mem_map] at hx
    obtain ⟨v, hv, e⟩ := hx
    exact h v e.symm hv
  rwa [e] at this
set_option maxRecDepth 100000 in
set_option maxHeartbeats 4000000 in
theorem specPre {G : List Nat → Prop} (C n : Nat) (T : Tab) (A : Option Addr) (c' m : Nat) (ps : List Int) (w : World) (hC : CS w C n T) (hc : Chain n T 0 G) (hn : n ≤ 20) (h0 : 0 < n) (hx : IntsAt w A ps) (hm : ps.length = m) (hml : m ≤ 1048576) :
    Calls Try.prog 89 #[.pointer (some ⟨C, 0, none⟩), .slice A m c'] w (PreI n (preR n T ps) w) := by
  subst hm
  obtain ⟨R, hR⟩ : ∃ R, walkG n T (actPre ps) n 0 (idp n) () = R := ⟨_, rfl⟩
  have hRR : preR n T ps = R.2 := by unfold preR; rw [hR]
  rw [hRR]
  have HWK0 : Hid (Wk n T (actPre ps) 0 (idp n) () R) := hR
  obtain ⟨s, t0, -, -, -⟩ := hC.cells
  have HC := Lib.hid hC
  have HCH := Lib.hid hc
  have HX := Lib.hid hx
  clear hC hc hx hR hRR
  go_enter Try.func89, Try.ntmps89
  go_wp2_with (first
    | (go_at_call 79; refine (specIdentity n _ (by omega)).mono ?_; rintro e w3 ⟨v3, rfl, hF3, hb3⟩; have HV3 := Lib.hid (hF3.perm (ok := fun _ => True) idp_len h0 (fun _ _ _ => trivial)); have HC3 := Lib.hid (HC.out.below hb3); have HX3 := Lib.hid (HX.out.below hb3); have HF3 : Hid (0 < 0 → Fresh w.heap.size w3 v3 (natI (idp n))) := (fun h => absurd h (Nat.lt_irrefl _)); clear hF3))
  clear t0
  go_loopw [6, 7] (fun z j wr => ∃ (k : Nat) (u : List Nat), k ≤ n ∧ j = .int .i64 (k : Int) ∧ Hid (PermV (fun _ => True) wr z n u) ∧ Hid (IsP n u) ∧ Hid (Wk n T (actPre ps) k u () R) ∧ Below w3.heap.size w3 wr ∧ Hid (0 < k → Fresh w.heap.size wr z (natI u))) (fun _ j _ => n - (intOf j).toNat)
  case atStart => exact ⟨0, idp n, Nat.zero_le _, rfl, HV3, IsP.idp, HWK0, Below.refl _ _, HF3⟩
  case round =>
    obtain ⟨k, u, hk, rfl, HV, HU, HWK, hB, HF⟩ := hrel
    clear HV3 HWK0 HF3
    have HCr := Lib.hid (HC3.out.below hB)
    obtain ⟨s, t0, -, -, -⟩ := HCr.out.cells
    have hb3z := hb3.size
    have hBz := hB.size
    by_cases hlt : k < n
    · obtain ⟨gu, cu, rfl, -, -⟩ := HV.out.ints
      obtain ⟨v0, hv0, hv0m, -, hv0a⟩ := vals_head HCH.out hlt HU.out
      have hvp := vals_pos HCH.out hlt HU.out
      obtain ⟨V, hV⟩ : ∃ V, vals n T k u = V := ⟨_, rfl⟩
      have hcv := specVals HCr.out hn HV.out HU.out hlt
      have hvl : V.length ≤ 20 := by rw [← hV, vals_length HU.out]; have := orb_le HCH.out hlt; omega
      rw [hV] at hv0 hv0m hv0a hcv hvp
      have HCV := Lib.hid hcv
      have HV0 := Lib.hid hv0
      have HV0M := Lib.hid hv0m
      have HV0A := Lib.hid hv0a
      have HHV := Lib.hid (hasVal V hvl)
      have HHN := Lib.hid (hasNo V hvl)
      have HVV := Lib.hid hV
      have hst := fun (wx : World) (x : Nat) (hx : x ∈ V) (hb : Below wr.heap.size wr wx) => specStep (HCr.out.below hb) HCH.out hn (HV.out.below hb) HU.out hlt (x := x) (by rw [hV]; exact hx)
      have HST := Lib.hid hst
      have HWKN : Hid (∀ x, x ∈ V → actPre ps k V () = ((), some x) → Wk n T (actPre ps) (k + 1) (Grp.step T k u x) () R) := fun x hx ha => HWK.out.go hlt (by rw [HVV.out]; exact ha) (by rw [HVV.out]; exact hx)
      have HUN : Hid (∀ x, x ∈ V → IsP n (Grp.step T k u x)) := fun x hx => step_isP HCH.out hlt HU.out (by rw [HVV.out]; exact hx)
      have p0 : (0 : Int) ≤ (k : Int) := by omega
      have p1 : (k : Int) < (n : Int) := by omega
      have p2 : (0 : Int) < (V.length : Int) := by omega
      clear hV hcv hv0 hv0m hv0a hst
      by_cases hkl : k < ps.length
      · obtain ⟨b, off, x, rfl, hbl, hc0, HXX⟩ := (HX3.out.below hB).at_ hkl
        have p3 : (k : Int) < (ps.length : Int) := by omega
        rcases valOr x V with ⟨v, rfl, hv⟩ | hno
        · have HIN := Lib.hid hv
          have HD : Hid (decide (v ∈ V) = true) := decide_eq_true hv
          have HWK5 := Lib.hid (HWKN.out v hv (actPre_yes hkl HXX.out hv))
          have HU5 := Lib.hid (HUN.out v hv)
          clear hv
          go_wp2_with (first
            | (go_at_call 81; refine HCV.out.mono ?_; rintro e w5 ⟨v5, rfl, ⟨g5, c5, rfl, hlc5, -, -, hI5⟩, hb5⟩
                ; obtain ⟨b5, off5, e5, hbl5, hc5⟩ := perm_at hI5 (i := 0) hvp
                ; injection e5 with e5
                ; injection e5 with e6 e7
                ; subst e6 e7
                ; rw [HV0A.out] at hc5
                ; have hc6 : w5.cell? ⟨b, off + k, none⟩ = some (.int .i64 (v : Int)) := (hb5.cell (p := ⟨b, off + k, none⟩) hbl).trans hc0
                ; have HI5 := Lib.hid hI5; clear hI5)
            | (go_at_call 80; refine (HHV.out v true HD.out _ g5 c5 (by exact HI5.out)).mono ?_; rintro e w6 ⟨rfl, rfl⟩)
            | (go_at_call 82; refine (HST.out _ v HIN.out (by exact hb5)).mono ?_; rintro e w7 ⟨v7, rfl, hF7, hb7⟩
                ; have HV7 := Lib.hid (hF7.perm (ok := fun _ => True) HU5.out.len h0 (fun _ _ _ => trivial))
                ; have hb5z := hb5.size
                ; have HF7 := Lib.hid (hF7.mono (B' := w.heap.size) (by omega))
                ; have hB7 : Below w3.heap.size w3 w7 := belowStep hb7 (belowStep hb5 hB); clear hF7 hb7))
          go_roundw
          case rel => exact ⟨k + 1, _, by omega, by go_num, HV7, HU5, HWK5, hB7, fun _ => HF7.out⟩
          case measure => simp [intOf]; omega
        · have HNO := Lib.hid hno
          have HE : Hid (R.2 = none) := by
            unfold Hid
            rw [HWK.out.stop hlt (actPre_no hkl (fun v hv => by rw [HVV.out]; exact hno v (by rw [← HXX.out]; exact hv)))]
          clear hno
          go_wp2_with (first
            | (go_at_call 81; refine HCV.out.mono ?_; rintro e w5 ⟨v5, rfl, ⟨g5, c5, rfl, hlc5, -, -, hI5⟩, hb5⟩
                ; obtain ⟨b5, off5, e5, hbl5, hc5⟩ := perm_at hI5 (i := 0) hvp
                ; injection e5 with e5
                ; injection e5 with e6 e7
                ; subst e6 e7
                ; rw [HV0A.out] at hc5
                ; have hc6 : w5.cell? ⟨b, off + k, none⟩ = some (.int .i64 x) := (hb5.cell (p := ⟨b, off + k, none⟩) hbl).trans hc0
                ; have HI5 := Lib.hid hI5; clear hI5)
            | (go_at_call 80; refine (HHN.out x HNO.out _ g5 c5 (by exact HI5.out)).mono ?_; rintro e w6 ⟨rfl, rfl⟩))
          have hb5z := hb5.size
          exact bodyPost_ret (v := .tuple #[.slice (some ⟨w5.heap.size, 0, none⟩) 0 0, .bool false]) (by simp [results, Try.results89, go_sem]) rfl ⟨.inr ⟨_, HE.out, rfl, (Fresh.empty (Nat.le_refl w5.heap.size)).mono (by omega)⟩, (belowStep hb5 (belowStep hB hb3)).alloc (by omega) _⟩
      · have p3 : ¬ (k : Int) < (ps.length : Int) := by omega
        have hv := HV0M.out
        have HD : Hid (decide (v0 ∈ V) = true) := decide_eq_true hv
        have HWK5 := Lib.hid (HWKN.out v0 hv (by rw [actPre_late (by omega)]; unfold actMin; rw [HV0.out]))
        have HU5 := Lib.hid (HUN.out v0 hv)
        clear hv
        go_wp2_with (first
          | (go_at_call 81; refine HCV.out.mono ?_; rintro e w5 ⟨v5, rfl, ⟨g5, c5, rfl, hlc5, -, -, hI5⟩, hb5⟩
              ; obtain ⟨b5, off5, e5, hbl5, hc5⟩ := perm_at hI5 (i := 0) hvp
              ; injection e5 with e5
              ; injection e5 with e6 e7
              ; subst e6 e7
              ; rw [HV0A.out] at hc5
              ; have HI5 := Lib.hid hI5; clear hI5)
          | (go_at_call 80; refine (HHV.out v0 true HD.out _ g5 c5 (by exact HI5.out)).mono ?_; rintro e w6 ⟨rfl, rfl⟩)
          | (go_at_call 82; refine (HST.out _ v0 HV0M.out (by exact hb5)).mono ?_; rintro e w7 ⟨v7, rfl, hF7, hb7⟩
              ; have HV7 := Lib.hid (hF7.perm (ok := fun _ => True) HU5.out.len h0 (fun _ _ _ => trivial))
              ; have hb5z := hb5.size
              ; have HF7 := Lib.hid (hF7.mono (B' := w.heap.size) (by omega))
              ; have hB7 : Below w3.heap.size w3 w7 := belowStep hb7 (belowStep hb5 hB); clear hF7 hb7))
        go_roundw
        case rel => exact ⟨k + 1, _, by omega, by go_num, HV7, HU5, HWK5, hB7, fun _ => HF7.out⟩
        case measure => simp [intOf]; omega
    · obtain rfl : k = n := by omega
      have HE : Hid (R.2 = some u) := by unfold Hid; rw [HWK.out.end_]
      obtain ⟨gu, cu, rfl, -, -⟩ := HV.out.ints
      go_wp2_with fail
      exact bodyPost_ret (v := .tuple #[.slice (some ⟨gu, 0, none⟩) k cu, .bool true]) (by simp [results, Try.results89, go_sem]) rfl ⟨.inl ⟨u, _, HE.out, rfl, HF.out h0, HU.out⟩, belowStep hB hb3⟩
def MinPost (n : Nat) (o : Option (List Nat)) (w : World) (e : Ending) (w' : World) : Prop := ∃ u v, o = some u ∧ e = .returned v ∧ Fresh w.heap.size w' v (natI u) ∧ IsP n u ∧ Below w.heap.size w w'
set_option maxRecDepth 100000 in
set_option maxHeartbeats 4000000 in
theorem specCosetMin {G : List Nat → Prop} (C n : Nat) (T : Tab) (A : Option Addr) (c' : Nat) (p : List Nat) (w : World) (hC : CS w C n T) (hc : Chain n T 0 G) (hn : n ≤ 20) (h0 : 0 < n) (hx : IntsAt w A (natI p)) (hp : IsP n p) :
    Calls Try.prog 86 #[.pointer (some ⟨C, 0, none⟩), .slice A n c'] w (MinPost n (minR n T p) w) := by
  obtain ⟨R, hR⟩ : ∃ R, walkG n T actMin n 0 p () = R := ⟨_, rfl⟩
  have hRR : minR n T p = R.2 := by unfold minR; rw [hR]
  rw [hRR]
  have HWK0 : Hid (Wk n T actMin 0 p () R) := hR
  have HC := Lib.hid hC
  have HCH := Lib.hid hc
  have HX := Lib.hid hx
  have HU0 := Lib.hid hp
  clear hC hc hx hR hRR hp
  go_enter Try.func86, Try.ntmps86
  go_wp2_with (first
    | (go_at_call 129; refine (specCopy A c' n (natI p) _ HX.out (by rw [natI_len]; exact HU0.out.len) (by omega)).mono ?_; rintro e w3 ⟨v3, rfl, hF3, hb3⟩; have HV3 := Lib.hid (hF3.perm (ok := fun _ => True) HU0.out.len h0 (fun _ _ _ => trivial)); have HC3 := Lib.hid (HC.out.below hb3); have HF3 := Lib.hid hF3; clear hF3))
  go_loopw [5, 6] (fun z j wr => ∃ (k : Nat) (u : List Nat), k ≤ n ∧ j = .int .i64 (k : Int) ∧ Hid (PermV (fun _ => True) wr z n u) ∧ Hid (IsP n u) ∧ Hid (Wk n T actMin k u () R) ∧ Below w3.heap.size w3 wr ∧ Hid (Fresh w.heap.size wr z (natI u))) (fun _ j _ => n - (intOf j).toNat)
  case atStart => exact ⟨0, p, Nat.zero_le _, rfl, HV3, HU0, HWK0, Below.refl _ _, HF3⟩
  case round =>
    obtain ⟨k, u, hk, rfl, HV, HU, HWK, hB, HF⟩ := hrel
    clear HV3 HWK0 HF3
    have HCr := Lib.hid (HC3.out.below hB)
    obtain ⟨s, t0, -, -, -⟩ := HCr.out.cells
    have hb3z := hb3.size
    have hBz := hB.size
    by_cases hlt : k < n
    · obtain ⟨gu, cu, rfl, -, -⟩ := HV.out.ints
      obtain ⟨v0, hv0, hv0m, -, hv0a⟩ := vals_head HCH.out hlt HU.out
      have hvp := vals_pos HCH.out hlt HU.out
      have HWK5 : Hid (Wk n T actMin (k + 1) (Grp.step T k u v0) () R) := HWK.out.go hlt (by unfold actMin; rw [hv0]) hv0m
      have HU5 : Hid (IsP n (Grp.step T k u v0)) := step_isP HCH.out hlt HU.out hv0m
      have hst := fun (wx : World) (hb : Below wr.heap.size wr wx) => specStep (HCr.out.below hb) HCH.out hn (HV.out.below hb) HU.out hlt hv0m
      have HST := Lib.hid hst
      obtain ⟨V, hV⟩ : ∃ V, vals n T k u = V := ⟨_, rfl⟩
      have hcv := specVals HCr.out hn HV.out HU.out hlt
      rw [hV] at hv0a hcv hvp
      have HCV := Lib.hid hcv
      have HV0A := Lib.hid hv0a
      have p0 : (0 : Int) ≤ (k : Int) := by omega
      have p1 : (k : Int) < (n : Int) := by omega
      have p2 : (0 : Int) < (V.length : Int) := by omega
      clear hV hcv hv0 hv0m hv0a hst
      go_wp2_with (first
        | (go_at_call 81; refine HCV.out.mono ?_; rintro e w5 ⟨v5, rfl, ⟨g5, c5, rfl, hlc5, -, -, hI5⟩, hb5⟩
            ; obtain ⟨b5, off5, e5, hbl5, hc5⟩ := perm_at hI5 (i := 0) hvp
            ; injection e5 with e5
            ; injection e5 with e6 e7
            ; subst e6 e7
            ; rw [HV0A.out] at hc5
            ; clear hI5)
        | (go_at_call 82; refine (HST.out _ (by exact hb5)).mono ?_; rintro e w7 ⟨v7, rfl, hF7, hb7⟩
            ; have HV7 := Lib.hid (hF7.perm (ok := fun _ => True) HU5.out.len h0 (fun _ _ _ => trivial))
            ; have hb5z := hb5.size
            ; have HF7 := Lib.hid (hF7.mono (B' := w.heap.size) (by omega))
            ; have hB7 : Below w3.heap.size w3 w7 := belowStep hb7 (belowStep hb5 hB); clear hF7 hb7))
      go_roundw
      case rel => exact ⟨k + 1, _, by omega, by go_num, HV7, HU5, HWK5, hB7, HF7⟩
      case measure => simp [intOf]; omega
    · obtain rfl : k = n := by omega
      have HE : Hid (R.2 = some u) := by unfold Hid; rw [HWK.out.end_]
      go_wp2_with fail
      go_ret
      exact ⟨u, _, HE.out, rfl, HF.out, HU.out, belowStep hB hb3⟩
end
end Go.Proofs.Ytpcnbjfkobeibaa
