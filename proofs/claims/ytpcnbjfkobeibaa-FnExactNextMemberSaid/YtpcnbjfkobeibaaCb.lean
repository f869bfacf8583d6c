/- How many members precede a permutation, at both packages. Conditions: as each contract says. -/
import Derived.Test.YtpcnbjfkobeibaaSo
import Derived.Test.YtpcnbjfkobeibaaWn
import Derived.Deep.RegionHeld3
namespace Go.Proofs.Ytpcnbjfkobeibaa
open Go.RowKit Grp

theorem wrap64Nat {m : Nat} (h : m ≤ 2432902008176640000) : wrap64 (m : Int) = (m : Int) := by unfold wrap64; omega
def CntPost (R : Nat × Option (List Nat)) (w : World) (e : Ending) (w' : World) : Prop := e = .returned (.tuple #[.int .i64 (R.1 : Int), .bool R.2.isSome]) ∧ Below w.heap.size w w'
set_option maxRecDepth 100000 in
set_option maxHeartbeats 4000000 in
theorem implCount {G : List Nat → Prop} (C n : Nat) (T : Tab) (A : Option Addr) (c' : Nat) (p : List Nat) (w : World) (hC : CI w C n T) (hc : Chain n T 0 G) (hn : n ≤ 20) (h0 : 0 < n) (hx : IntsAt w A (natI p)) (hp : IsP n p) :
    Calls Try.prog 77 #[.pointer (some ⟨C, 0, none⟩), .slice A n c'] w (CntPost (cntR n T p) w) := by
  obtain ⟨R, hR⟩ : ∃ R, cntR n T p = R := ⟨_, rfl⟩
  rw [hR]
  have HWK0 : Hid (Wk n T (actCnt n T p) 0 (idp n) 0 R) := hR
  have HOB := Lib.hid (ordG_bound hc hn (Nat.zero_le _)).2
  obtain ⟨s, t0, -, -, -⟩ := hC.cells
  have HC := Lib.hid hC
  have HCH := Lib.hid hc
  have HX := Lib.hid hx
  have HIP := Lib.hid hp
  clear hC hc hx hR hp
  go_enter Try.func77, Try.ntmps77
  go_wp2_with (first
    | (go_at_call 84; refine (implIdentity n _ (by omega)).mono ?_; rintro e w3 ⟨v3, rfl, hF3, hb3⟩; have HF3 := Lib.hid hF3; clear hF3)
    | (go_at_call 83; refine (implFrom C n v3 (idp n) _ (HF3.out.perm idp_len h0 (fun _ _ _ => trivial))).mono ?_; rintro e w4 ⟨rfl, hW, hb4⟩; have HW0 := Lib.hid hW; have HC3 := Lib.hid (HC.out.below hb3); have HX3 := Lib.hid (HX.out.below hb3); clear hW))
  clear t0
  go_loopw [7] (fun z wr => ∃ (i a : Nat) (u : List Nat), i ≤ n ∧ z = .int .i64 (a : Int) ∧ Hid (WalkAt wr w3.heap.size C n i u) ∧ Hid (IsP n u) ∧ Hid (Wk n T (actCnt n T p) i u a R) ∧ Hid (a + ordG n T i ≤ ordG n T 0) ∧ Below w3.heap.size w3 wr) (fun _ wr => n - lvlOf wr w3.heap.size)
  case atStart => exact ⟨0, 0, idp n, Nat.zero_le _, rfl, HW0, IsP.idp, HWK0, by unfold Hid; omega, hb4⟩
  case round =>
    obtain ⟨i, a, u, hi, rfl, HW, HU, HWK, HA, hB⟩ := hrel
    clear HW0 HWK0 hb4
    have HCr := Lib.hid (HC3.out.below hB)
    obtain ⟨s, t0, -, -, -⟩ := HCr.out.cells
    obtain ⟨gw, cw, -, -, -, -, x1, -⟩ := HW.out.cells
    have hWl := HW.out.lt
    by_cases hlt : i < n
    · obtain ⟨b, off, rfl, hbl, hc0⟩ := perm_at (HX3.out.below hB) (i := i) (by rw [HIP.out.len]; exact hlt)
      obtain ⟨x, hx⟩ : ∃ x, app p i = x := ⟨_, rfl⟩
      rw [hx] at hc0
      have hxn : x < n := by rw [← hx]; exact HIP.out.lt hlt
      obtain ⟨V, hV⟩ : ∃ V, vals n T i u = V := ⟨_, rfl⟩
      obtain ⟨cn, hcn⟩ : ∃ cn, cntB V (x : Int) = cn := ⟨_, rfl⟩
      obtain ⟨O, hO⟩ : ∃ O, ordG n T (i + 1) = O := ⟨_, rfl⟩
      have hvl : V.length = (orb n T i).length := by rw [← hV, vals_length HU.out]
      have hcl : cn ≤ (orb n T i).length := by rw [← hvl, ← hcn]; exact cntB_le _ _
      have hrm := cnt_room hlt hcl HA.out
      rw [hO] at hrm
      have hOB := HOB.out
      have hb1 : a + cn * O ≤ 2432902008176640000 := Nat.le_trans hrm.1 hOB
      have hb2 : cn * O ≤ 2432902008176640000 := Nat.le_trans (Nat.le_add_left _ _) hb1
      have q4 : wrap64 ((a : Int) + (cn : Int) * (O : Int)) = ((a + cn * O : Nat) : Int) := by rw [← Int.natCast_mul, ← Int.natCast_add]; exact wrap64Nat hb1
      have q5 : wrap64 ((cn : Int) * (O : Int)) = (cn : Int) * (O : Int) := by rw [← Int.natCast_mul]; exact wrap64Nat hb2
      have q3 : IntKind.i64.wrap ((i : Int) + 1) = ((i + 1 : Nat) : Int) := by rw [show (i : Int) + 1 = ((i + 1 : Nat) : Int) by omega]; exact wrapNat (by omega)
      have hund : ∀ wx : World, Below wr.heap.size wr wx → Calls Try.prog 133 #[.pointer (some ⟨w3.heap.size, 0, none⟩), .int .i64 (x : Int)] wx fun e w' => ∃ z : Int, e = .returned (.tuple #[.int .i64 (cn : Int), .int .i64 z]) ∧ Below wx.heap.size wx w' := fun wx hb => by
        refine (implUnder (HCr.out.below hb) hn (HW.out.below hb) HU.out hlt (x : Int)).mono ?_
        rintro e w' ⟨he, hb'⟩
        rw [hV, hcn] at he
        exact ⟨_, he, hb'⟩
      have hord : ∀ wx : World, Below wr.heap.size wr wx → Calls Try.prog 113 #[.pointer (some ⟨C, 0, none⟩), .int .i64 ((i + 1 : Nat) : Int)] wx (ReadsNat O wx) := fun wx hb => by
        have := implOrder C n (i + 1) T wx (HCr.out.below hb) HCH.out (by omega) hn
        rwa [hO] at this
      have HUND := Lib.hid hund
      have HORD := Lib.hid hord
      have p0 : (0 : Int) ≤ (i : Int) := by omega
      have p1 : (i : Int) < (n : Int) := by omega
      have hact : actCnt n T p i (vals n T i u) a = (a + cn * O, some x) := by unfold actCnt; rw [hV, hx, hcn, hO]
      have HL0 := Lib.hid HW.out.lvl
      by_cases hin : x ∈ vals n T i u
      · have htk := fun (wx : World) (hb : Below wr.heap.size wr wx) => takeYes (HCr.out.below hb) HCH.out hn (HW.out.below hb) HU.out hlt hin
        have HTK := Lib.hid htk
        have HWK5 : Hid (Wk n T (actCnt n T p) (i + 1) (Grp.step T i u x) (a + cn * O) R) := HWK.out.go hlt hact hin
        have HU5 : Hid (IsP n (Grp.step T i u x)) := step_isP HCH.out hlt HU.out hin
        have HA5 : Hid (a + cn * O + ordG n T (i + 1) ≤ ordG n T 0) := by
          unfold Hid
          rw [hO]
          exact hrm.2 (by rw [← hvl, ← hcn]; exact cnt_lt (by rw [← hV]; exact hin))
        clear hund hord htk hact hV hcn hO hvl hcl hrm hOB hb1 hb2 hx hin
        go_wp2_with fail
        go_quiet (fail)
        go_wp2_with (first
          | (go_at_call 133; refine (HUND.out _ (by exact belowDrewN (Below.refl _ _) _)).mono ?_; rintro e w5 ⟨z, rfl, hb5⟩
              ; have hB5 : Below wr.heap.size wr w5 := belowStep hb5 (belowDrewN (Below.refl _ _) _)
              ; have x15 : w5.cell? ⟨w3.heap.size, 1, none⟩ = some (.int .i64 (i : Int)) := (hB5.cell (p := ⟨w3.heap.size, 1, none⟩) hWl).trans x1)
          | (go_at_call 113; refine (HORD.out _ (by exact hB5)).mono ?_; rintro e w6 ⟨rfl, hb6⟩; have hB6 := belowStep hb6 hB5)
          | (go_at_call 85; refine (HTK.out _ (by exact hB6)).mono ?_; rintro e w7 ⟨rfl, hw7, hb7⟩))
        have hw7 := hw7.walk HU5.out.len h0
        have HW7 := Lib.hid hw7
        have HL7 := Lib.hid hw7.lvl
        have hB7 : Below w3.heap.size w3 w7 := (hB.trans (hB6.mono (Nat.le_of_lt hWl))).trans hb7
        clear hw7
        go_roundw
        case rel => exact ⟨i + 1, a + cn * O, _, by omega, by first | rfl | rw [q5, q4] | simp, HW7, HU5, HWK5, HA5, hB7⟩
        case measure => rw [HL0.out, HL7.out]; omega
      · have htk := fun (wx : World) (hb : Below wr.heap.size wr wx) => takeNo (HCr.out.below hb) HCH.out hn (HW.out.below hb) HU.out hlt (x := (x : Int)) (by omega) (by omega) (notIn hin)
        have HTK := Lib.hid htk
        have HRE := Lib.hid (HWK.out.off hlt hact hin)
        clear hund hord htk hact hV hcn hO hvl hcl hrm hOB hb1 hb2 hx hin
        go_wp2_with fail
        go_quiet (fail)
        go_wp2_with (first
          | (go_at_call 133; refine (HUND.out _ (by exact belowDrewN (Below.refl _ _) _)).mono ?_; rintro e w5 ⟨z, rfl, hb5⟩
              ; have hB5 : Below wr.heap.size wr w5 := belowStep hb5 (belowDrewN (Below.refl _ _) _)
              ; have x15 : w5.cell? ⟨w3.heap.size, 1, none⟩ = some (.int .i64 (i : Int)) := (hB5.cell (p := ⟨w3.heap.size, 1, none⟩) hWl).trans x1)
          | (go_at_call 113; refine (HORD.out _ (by exact hB5)).mono ?_; rintro e w6 ⟨rfl, hb6⟩; have hB6 := belowStep hb6 hB5)
          | (go_at_call 85; refine (HTK.out _ (by exact hB6)).mono ?_; rintro e w7 ⟨rfl, -, hb7⟩))
        have hB7 : Below w3.heap.size w3 w7 := (hB.trans (hB6.mono (Nat.le_of_lt hWl))).trans hb7
        refine bodyPost_ret (v := .tuple #[.int .i64 ((a + cn * O : Nat) : Int), .bool false]) (by simp [results, Try.results77, go_sem]) rfl ?_
        rw [HRE.out]
        exact ⟨rfl, belowStep hB7 hb3⟩
    · obtain rfl : i = n := by omega
      have HRE := Lib.hid HWK.out.end_
      go_wp2_with fail
      go_quiet (fail)
      go_wp2_with fail
      refine bodyPost_ret (v := .tuple #[.int .i64 (a : Int), .bool true]) (by simp [results, Try.results77, go_sem]) rfl ?_
      rw [HRE.out]
      exact ⟨rfl, belowDrewN (belowStep hB hb3) _⟩
set_option maxRecDepth 100000 in
set_option maxHeartbeats 4000000 in
theorem specCount {G : List Nat → Prop} (C n : Nat) (T : Tab) (A : Option Addr) (c' : Nat) (p : List Nat) (w : World) (hC : CS w C n T) (hc : Chain n T 0 G) (hn : n ≤ 20) (h0 : 0 < n) (hx : IntsAt w A (natI p)) (hp : IsP n p) :
    Calls Try.prog 70 #[.pointer (some ⟨C, 0, none⟩), .slice A n c'] w (CntPost (cntR n T p) w) := by
  obtain ⟨R, hR⟩ : ∃ R, cntR n T p = R := ⟨_, rfl⟩
  rw [hR]
  have HWK0 : Hid (Wk n T (actCnt n T p) 0 (idp n) 0 R) := hR
  have HOB := Lib.hid (ordG_bound hc hn (Nat.zero_le _)).2
  have HC := Lib.hid hC
  have HCH := Lib.hid hc
  have HX := Lib.hid hx
  have HIP := Lib.hid hp
  clear hC hc hx hR hp
  go_enter Try.func70, Try.ntmps70
  go_wp2_with (first
    | (go_at_call 120; refine (specPer C n T _ HC.out HCH.out hn).mono ?_; rintro e w2 ⟨g2, ys, rfl, hg2, hg2l, hI2, hl2, hPF, hB2⟩
        ; obtain ⟨s, t0, -, -, -⟩ := (HC.out.below hB2).cells; have HI2 := Lib.hid hI2; have HL2 := Lib.hid hl2; have HPF := Lib.hid hPF; clear hI2 hl2 hPF)
    | (go_at_call 79; refine (specIdentity n _ (by omega)).mono ?_; rintro e w3 ⟨v3, rfl, hF3, hb3⟩; have HV3 := Lib.hid (hF3.perm (ok := fun _ => True) idp_len h0 (fun _ _ _ => trivial)); have hB3 := belowStep hb3 hB2; have HC3 := Lib.hid (HC.out.below hB3); have HX3 := Lib.hid (HX.out.below hB3); have HI3 := Lib.hid (HI2.out.below hb3); clear hF3))
  clear t0
  go_loopw [7, 8, 9] (fun y z j wr => ∃ (i a : Nat) (u : List Nat), i ≤ n ∧ j = .int .i64 (i : Int) ∧ z = .int .i64 (a : Int) ∧ Hid (PermV (fun _ => True) wr y n u) ∧ Hid (IsP n u) ∧ Hid (Wk n T (actCnt n T p) i u a R) ∧ Hid (a + ordG n T i ≤ ordG n T 0) ∧ Below w3.heap.size w3 wr) (fun _ _ j _ => n - (intOf j).toNat)
  case atStart => exact ⟨0, 0, idp n, Nat.zero_le _, rfl, rfl, HV3, IsP.idp, HWK0, by unfold Hid; omega, Below.refl _ _⟩
  case round =>
    obtain ⟨i, a, u, hi, rfl, rfl, HV, HU, HWK, HA, hB⟩ := hrel
    clear HV3 HWK0
    have HCr := Lib.hid (HC3.out.below hB)
    obtain ⟨s, t0, -, -, -⟩ := HCr.out.cells
    by_cases hlt : i < n
    · obtain ⟨b, off, rfl, hbl, hc0⟩ := perm_at (HX3.out.below hB) (i := i) (by rw [HIP.out.len]; exact hlt)
      obtain ⟨b2, off2, e2, hbl2, hc2⟩ := (HI3.out.below hB) i (by rw [HL2.out]; exact hlt)
      injection e2 with e2
      injection e2 with e3 e4
      subst e3 e4
      rw [HPF.out i (Nat.zero_le _) hlt, Nat.zero_add] at hc2
      obtain ⟨x, hx⟩ : ∃ x, app p i = x := ⟨_, rfl⟩
      rw [hx] at hc0
      have hxn : x < n := by rw [← hx]; exact HIP.out.lt hlt
      obtain ⟨gu, cu, rfl, -, -⟩ := HV.out.ints
      obtain ⟨V, hV⟩ : ∃ V, vals n T i u = V := ⟨_, rfl⟩
      obtain ⟨cn, hcn⟩ : ∃ cn, cntB V (x : Int) = cn := ⟨_, rfl⟩
      obtain ⟨O, hO⟩ : ∃ O, ordG n T (i + 1) = O := ⟨_, rfl⟩
      rw [hO] at hc2
      have hvl : V.length = (orb n T i).length := by rw [← hV, vals_length HU.out]
      have hvl20 : V.length ≤ 20 := by rw [hvl]; have := orb_le HCH.out hlt; omega
      have hcl : cn ≤ (orb n T i).length := by rw [← hvl, ← hcn]; exact cntB_le _ _
      have hcV : cn ≤ V.length := by rw [hvl]; exact hcl
      have hrm := cnt_room hlt hcl HA.out
      rw [hO] at hrm
      have hasc : Asc V := by rw [← hV]; exact asc_vals
      have HACN : Hid (∀ k, k < V.length → (app V k < x ↔ k < cn)) := fun k hk => by rw [← hcn]; exact asc_cnt x V hasc k hk
      have hcv := specVals HCr.out hn HV.out HU.out hlt
      rw [hV] at hcv
      have HCV := Lib.hid hcv
      have HHV := Lib.hid (hasVal V hvl20 x)
      have HVV := Lib.hid hV
      have HXX := Lib.hid hx
      have HRM := Lib.hid hrm.1
      have HRM2 : Hid (x ∈ V → a + cn * O + ordG n T (i + 1) ≤ ordG n T 0) := fun hv => by
        rw [hO]
        exact hrm.2 (by rw [← hvl, ← hcn]; exact cnt_lt hv)
      have HACT : Hid (actCnt n T p i (vals n T i u) a = (a + cn * O, some x)) := by unfold Hid actCnt; rw [hV, hx, hcn, hO]
      have HOPOS : Hid (0 < O) := by unfold Hid; rw [← hO]; exact (ordG_bound HCH.out hn (show i + 1 ≤ n by omega)).1
      have hst := fun (wx : World) (hv : x ∈ V) (hb : Below wr.heap.size wr wx) => specStep (HCr.out.below hb) HCH.out hn (HV.out.below hb) HU.out hlt (x := x) (by rw [hV]; exact hv)
      have HST := Lib.hid hst
      have p0 : (0 : Int) ≤ (i : Int) := by omega
      have p1 : (i : Int) < (n : Int) := by omega
      clear hV hcn hO hvl hcl hrm hasc hcv hst hx
      go_wp2_with (first
        | (go_at_call 81; refine HCV.out.mono ?_; rintro e w5 ⟨v5, rfl, ⟨g5, c5, rfl, hlc5, -, -, hI5⟩, hb5⟩
            ; have hc05 : w5.cell? ⟨b, off + i, none⟩ = some (.int .i64 (x : Int)) := (hb5.cell (p := ⟨b, off + i, none⟩) hbl).trans hc0
            ; have hc25 : w5.cell? ⟨g2, i, none⟩ = some (.int .i64 (O : Int)) := (hb5.cell (p := ⟨g2, i, none⟩) hbl2).trans hc2
            ; have HI5 := Lib.hid hI5; clear hI5))
      clear t0 hc0 hc2 HCV
      go_loopw [8, 11] (fun z k wr => ∃ (j nd : Nat), j ≤ cn ∧ k = .int .i64 (j : Int) ∧ z = .int .i64 ((a + j * O : Nat) : Int) ∧ wr = w5.drewN nd) (fun _ k _ => cn - (intOf k).toNat)
      case atStart => exact ⟨0, 0, Nat.zero_le _, rfl, by rw [Nat.zero_mul, Nat.add_zero], rfl⟩
      case round =>
        obtain ⟨j, nd, hj, rfl, rfl, hwi⟩ := hrel
        have hOB := HOB.out
        have hRM := HRM.out
        have hjO : j * O ≤ cn * O := Nat.mul_le_mul_right _ hj
        have hcx : wr.cell? ⟨b, off + i, none⟩ = some (.int .i64 (x : Int)) := by rw [hwi]; exact hc05
        have hcO : wr.cell? ⟨g2, i, none⟩ = some (.int .i64 (O : Int)) := by rw [hwi]; exact hc25
        have HIr : Hid (∀ m, IntsAt (wr.drewN m) (some ⟨g5, 0, none⟩) (natI V)) := fun m => by rw [hwi]; exact HI5.out
        have HBr : Hid (∀ m, Below w5.heap.size w5 (wr.drewN m)) := fun m => by rw [hwi]; exact belowDrewN (belowDrewN (Below.refl _ _) _) _
        have HDr : Hid (∀ m, ∃ l, wr.drewN m = w5.drewN l) := fun m => ⟨nd + m, by rw [hwi, World.drewN_drewN]⟩
        clear hwi
        by_cases hjc : j < cn
        · have hjl : j < V.length := by omega
          have hlt2 := (HACN.out j hjl).2 hjc
          obtain ⟨b5, off5, e5, hbl5, hc5⟩ := perm_at (HIr.out 0) (i := j) hjl
          injection e5 with e5
          injection e5 with e6 e7
          subst e6 e7
          rw [World.drewN_zero, Nat.zero_add] at hc5
          obtain ⟨y, hy⟩ : ∃ y, app V j = y := ⟨_, rfl⟩
          rw [hy] at hc5 hlt2
          have hjO2 : j * O + O ≤ cn * O := by rw [← Nat.succ_mul]; exact Nat.mul_le_mul_right _ hjc
          have k0 : (0 : Int) ≤ (j : Int) := by omega
          have k1 : (j : Int) < (V.length : Int) := by omega
          have k2 : (y : Int) < (x : Int) := by omega
          obtain ⟨tt, htt⟩ : ∃ tt, a + j * O = tt := ⟨_, rfl⟩
          rw [htt]
          have HTT : Hid (a + (j + 1) * O = tt + O) := by unfold Hid; rw [Nat.succ_mul]; omega
          have q1 : IntKind.i64.wrap ((tt : Int) + (O : Int)) = ((tt + O : Nat) : Int) := by rw [← Int.natCast_add]; exact wrapNat (by omega)
          clear hy htt hjO hjO2
          go_wp2_with fail
          go_quiet (fail)
          go_wp2_with fail
          go_roundw
          case rel => exact ⟨j + 1, (HDr.out _).choose, by omega, by go_num, by rw [HTT.out]; first | rfl | rw [q1] | go_num, (HDr.out _).choose_spec⟩
          case measure => simp [intOf]; omega
        · obtain rfl : j = cn := by omega
          obtain ⟨tt, htt⟩ : ∃ tt, a + j * O = tt := ⟨_, rfl⟩
          rw [htt]
          have HTT := Lib.hid htt
          clear htt
          have hend : (∃ y : Nat, j < V.length ∧ wr.cell? ⟨g5, j, none⟩ = some (.int .i64 (y : Int)) ∧ ¬ y < x) ∨ ¬ j < V.length := by
            by_cases hjl : j < V.length
            · refine .inl ⟨app V j, hjl, ?_, fun h => absurd ((HACN.out j hjl).1 h) (by omega)⟩
              obtain ⟨b5, off5, e5, hbl5, hc5⟩ := perm_at (HIr.out 0) (i := j) hjl
              injection e5 with e5
              injection e5 with e6 e7
              subst e6 e7
              rwa [World.drewN_zero, Nat.zero_add] at hc5
            · exact .inr hjl
          have k0 : (0 : Int) ≤ (j : Int) := by omega
          by_cases hin : x ∈ V
          · have HIN := Lib.hid hin
            have HD : Hid (decide (x ∈ V) = true) := decide_eq_true hin
            have HVI : Hid (x ∈ vals n T i u) := by unfold Hid; rw [HVV.out]; exact hin
            have HWK5 : Hid (Wk n T (actCnt n T p) (i + 1) (Grp.step T i u x) tt R) := HWK.out.go hlt (by rw [HACT.out, HTT.out]) HVI.out
            have HU5 : Hid (IsP n (Grp.step T i u x)) := step_isP HCH.out hlt HU.out HVI.out
            have HA5 : Hid (tt + ordG n T (i + 1) ≤ ordG n T 0) := by unfold Hid; rw [← HTT.out]; exact HRM2.out hin
            clear hin
            rcases hend with ⟨y, hjl, hcy, hyx⟩ | hjl
            · have k1 : (j : Int) < (V.length : Int) := by omega
              have k2 : ¬ (y : Int) < (x : Int) := by omega
              go_wp2_with fail
              go_quiet (fail)
              go_wp2_with (first
                | (go_at_call 80; refine (HHV.out true HD.out _ g5 c5 (by exact HIr.out _)).mono ?_; rintro e w6 ⟨rfl, rfl⟩)
                | (go_at_call 82; refine (HST.out _ HIN.out (by exact belowStep (HBr.out _) hb5)).mono ?_; rintro e w7 ⟨v7, rfl, hF7, hb7⟩
                    ; have HV7 := Lib.hid (hF7.perm (ok := fun _ => True) HU5.out.len h0 (fun _ _ _ => trivial))
                    ; have hB7 : Below w3.heap.size w3 w7 := belowStep hb7 (belowStep (HBr.out _) (belowStep hb5 hB)); clear hF7 hb7))
              go_roundw
              case rel => exact ⟨i + 1, tt, _, by omega, by go_num, rfl, HV7, HU5, HWK5, HA5, hB7⟩
              case measure => simp [intOf]; omega
            · have k1 : ¬ (j : Int) < (V.length : Int) := by omega
              go_wp2_with fail
              go_quiet (fail)
              go_wp2_with (first
                | (go_at_call 80; refine (HHV.out true HD.out _ g5 c5 (by exact HIr.out _)).mono ?_; rintro e w6 ⟨rfl, rfl⟩)
                | (go_at_call 82; refine (HST.out _ HIN.out (by exact belowStep (HBr.out _) hb5)).mono ?_; rintro e w7 ⟨v7, rfl, hF7, hb7⟩
                    ; have HV7 := Lib.hid (hF7.perm (ok := fun _ => True) HU5.out.len h0 (fun _ _ _ => trivial))
                    ; have hB7 : Below w3.heap.size w3 w7 := belowStep hb7 (belowStep (HBr.out _) (belowStep hb5 hB)); clear hF7 hb7))
              go_roundw
              case rel => exact ⟨i + 1, tt, _, by omega, by go_num, rfl, HV7, HU5, HWK5, HA5, hB7⟩
              case measure => simp [intOf]; omega
          · have HD : Hid (decide (x ∈ V) = false) := decide_eq_false hin
            have HRE := Lib.hid (HWK.out.off hlt HACT.out (by rw [HVV.out]; exact hin))
            clear hin
            rcases hend with ⟨y, hjl, hcy, hyx⟩ | hjl
            · have k1 : (j : Int) < (V.length : Int) := by omega
              have k2 : ¬ (y : Int) < (x : Int) := by omega
              go_wp2_with fail
              go_quiet (fail)
              go_wp2_with (first
                | (go_at_call 80; refine (HHV.out false HD.out _ g5 c5 (by exact HIr.out _)).mono ?_; rintro e w6 ⟨rfl, rfl⟩))
              refine bodyPost_ret (v := .tuple #[.int .i64 (tt : Int), .bool false]) (by simp [results, Try.results70, go_sem]) rfl ?_
              rw [HRE.out, HTT.out]
              exact ⟨rfl, belowStep (belowStep (HBr.out _) (belowStep hb5 hB)) hB3⟩
            · have k1 : ¬ (j : Int) < (V.length : Int) := by omega
              go_wp2_with fail
              go_quiet (fail)
              go_wp2_with (first
                | (go_at_call 80; refine (HHV.out false HD.out _ g5 c5 (by exact HIr.out _)).mono ?_; rintro e w6 ⟨rfl, rfl⟩))
              refine bodyPost_ret (v := .tuple #[.int .i64 (tt : Int), .bool false]) (by simp [results, Try.results70, go_sem]) rfl ?_
              rw [HRE.out, HTT.out]
              exact ⟨rfl, belowStep (belowStep (HBr.out _) (belowStep hb5 hB)) hB3⟩
    · obtain rfl : i = n := by omega
      have HRE := Lib.hid HWK.out.end_
      go_wp2_with fail
      refine bodyPost_ret (v := .tuple #[.int .i64 (a : Int), .bool true]) (by simp [results, Try.results70, go_sem]) rfl ?_
      rw [HRE.out]
      exact ⟨rfl, belowStep hB hB3⟩
end Go.Proofs.Ytpcnbjfkobeibaa
