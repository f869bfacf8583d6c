/- LongestMemberPrefix at both packages. Conditions: as each contract says. -/
import Derived.Test.YtpcnbjfkobeibaaQ
import Derived.Deep.RegionHeld3
namespace Go.Proofs.Ytpcnbjfkobeibaa
open Go.RowKit Grp

set_option maxRecDepth 100000 in
set_option maxHeartbeats 4000000 in
theorem implLmp (n : Int) (g c : Nat) (ls : List (List Int)) (A : Option Addr) (c' : Nat) (xs : List Int) (w : World) (h : LOwn w g ls) (hl : ls.length ≤ 1048576) (hs : ShortL ls) (hx : IntsAt w A xs) (hxl : xs.length ≤ 1048576) :
    Calls Try.prog 29 #[.int .i64 n, .slice (some ⟨g, 0, none⟩) ls.length c, .slice A xs.length c'] w (ReadsInt (lmpQ n ls xs) w) := by
  cases hok : okQ n ls xs with
  | false => rw [lmpQ_no hok]; exact implLmpNo n g c ls A c' xs w h.at_ hl hs hx hxl hok
  | true =>
    obtain ⟨N, ps, p, rfl, h0, hN, rfl, h8, hP, rfl, hp, hgs, hbad⟩ := okQ_open hok
    rw [lmpQ_yes hok]
    obtain ⟨R, hR⟩ : ∃ R, walkG N (gT N ps) (actLmp p) N 0 (idp N) 0 = R := ⟨_, rfl⟩
    rw [hR]
    have hpm := okQ_perm hp hbad
    have hg0 := implGs (some ⟨g, 0, none⟩) c (N : Int) (ps.map natI) w h.at_ hl hs
    rw [hgs] at hg0
    have hm : (ps.map natI).length = ps.length := List.length_map ..
    have hpl : (natI p).length = N := by rw [natI_len, hp.len]
    have hpp := fun (wx : World) (hx : IntsAt wx A (natI p)) => implPerm A c' (natI p) wx hx hxl
    rw [hpm] at hpp
    rw [hpl] at hpp
    rw [hm] at hg0
    rw [hm, hpl]
    have HG0 := Lib.hid hg0
    have HPP := Lib.hid hpp
    have HL := Lib.hid h
    have HX := Lib.hid hx
    have HP := Lib.hid hP
    have HIP := Lib.hid hp
    have HR := Lib.hid hR
    clear hok hbad hgs hpm hg0 hpp h hs hx hP hR hl hxl hm hpl
    go_enter Try.func29, Try.ntmps29
    go_wp2_with (first
      | (go_at_call 73; refine HG0.out.mono ?_; rintro e w1 ⟨rfl, hB1⟩)
      | (go_at_call 74; refine (implLength _ _ _ _).mono ?_; rintro e w' ⟨rfl, rfl⟩)
      | (go_at_call 75; refine (HPP.out _ (by exact HX.out.below hB1)).mono ?_; rintro e w' ⟨rfl, rfl⟩)
      | (go_at_call 76; refine (newI N ps g ps.length c _ (by exact HL.out.below hB1) rfl HP.out h0 hN h8).mono ?_; rintro e w2 ⟨C, T, rfl, hC, hc, hone, hb2⟩
          ; have HC := Lib.hid hC; have HCH := Lib.hid hc; have hB2 := belowStep hb2 hB1; clear hC hc hone hb2)
      | (go_at_call 84; refine (implIdentity N _ (by omega)).mono ?_; rintro e w3 ⟨v3, rfl, hF3, hb3⟩; have HF3 := Lib.hid hF3; have HB3 := Lib.hid hb3; have hB3 := belowStep hb3 hB2; clear hF3 hb3)
      | (go_at_call 83; refine (implFrom C N v3 (idp N) _ (HF3.out.perm idp_len h0 (fun _ _ _ => trivial))).mono ?_; rintro e w4 ⟨rfl, hW, hb4⟩; have HW0 := Lib.hid hW; have HC3 := Lib.hid (HC.out.below HB3.out); have HX3 := Lib.hid (HX.out.below hB3); clear hW))
    have HWK0 := Lib.hid (Wk.start HCH.out (actLmp p) IsP.idp 0)
    have hRR : walkG N (tabOf (GenL N ps)) (actLmp p) N 0 (idp N) 0 = R := HR.out
    rw [hRR] at HWK0
    clear hRR HG0 HPP HL HP HC HB3 HF3 HR
    go_loopw [] (fun wr => ∃ (i : Nat) (u : List Nat), i ≤ N ∧ Hid (WalkAt wr w3.heap.size C N i u) ∧ Hid (IsP N u) ∧ Hid (Wk N T (actLmp p) i u i R) ∧ Below w3.heap.size w3 wr) (fun wr => N - lvlOf wr w3.heap.size)
    case atStart => exact ⟨0, idp N, Nat.zero_le _, HW0, IsP.idp, HWK0, hb4⟩
    case round =>
      obtain ⟨i, u, hi, HW, HU, HWK, hB⟩ := hrel
      clear HW0 HWK0 hb4
      obtain ⟨gw, cw, -, -, -, -, x1, -⟩ := HW.out.cells
      by_cases hlt : i < N
      · obtain ⟨b, off, rfl, hbl, hc0⟩ := perm_at (HX3.out.below hB) (i := i) (by rw [HIP.out.len]; exact hlt)
        have hbd := appBound HIP.out hN hlt
        obtain ⟨x, hx⟩ : ∃ x, app p i = x := ⟨_, rfl⟩
        rw [hx] at hc0 hbd
        have HXX := Lib.hid hx
        have p0 : (0 : Int) ≤ (i : Int) := by omega
        have p1 : (i : Int) < (N : Int) := by omega
        by_cases hin : x ∈ vals N T i u
        · have HT := Lib.hid (takeYes (HC3.out.below hB) HCH.out hN HW.out HU.out hlt hin)
          have HWK5 : Hid (Wk N T (actLmp p) (i + 1) (Grp.step T i u x) (i + 1) R) := HWK.out.go hlt (by unfold actLmp; rw [hx, if_pos hin]) hin
          have HU5 : Hid (IsP N (Grp.step T i u x)) := step_isP HCH.out hlt HU.out hin
          have HL0 := Lib.hid HW.out.lvl
          clear hx hin
          go_wp2_with (first | (go_at_call 85; refine HT.out.mono ?_; rintro e w5 ⟨rfl, hw5, hb5⟩))
          have hw5 := hw5.walk HU5.out.len h0
          have HW5 := Lib.hid hw5
          have HL5 := Lib.hid hw5.lvl
          clear hw5
          go_roundw
          case rel => exact ⟨i + 1, _, by omega, HW5, HU5, HWK5, hB.trans hb5⟩
          case measure => rw [HL0.out, HL5.out]; omega
        · have HT := Lib.hid (takeNo (HC3.out.below hB) HCH.out hN HW.out HU.out hlt hbd.1 hbd.2 (notIn hin))
          have HRE : Hid ((i : Int) = ((R.1 : Nat) : Int)) := by
            unfold Hid
            rw [HWK.out.off hlt (a' := i) (v := x) (by unfold actLmp; rw [hx, if_neg hin]) hin]
          clear hx hin
          go_wp2_with (first | (go_at_call 85; refine HT.out.mono ?_; rintro e w5 ⟨rfl, hw5, hb5⟩
                                  ; obtain ⟨gz, cz, -, -, -, -, z1, -⟩ := hw5.cells; clear hw5))
          go_ret
          exact ⟨ret_int HRE.out, belowStep (hB.trans hb5) hB3⟩
      · obtain rfl : i = N := by omega
        have HRE : Hid ((i : Int) = ((R.1 : Nat) : Int)) := by unfold Hid; rw [HWK.out.end_]
        go_wp2_with fail
        go_ret
        exact ⟨ret_int HRE.out, belowStep hB hB3⟩
set_option maxRecDepth 100000 in
set_option maxHeartbeats 4000000 in
theorem specLmp (n : Int) (g c : Nat) (ls : List (List Int)) (A : Option Addr) (c' : Nat) (xs : List Int) (w : World) (h : LOwn w g ls) (hl : ls.length ≤ 1048576) (hs : ShortL ls) (hx : IntsAt w A xs) (hxl : xs.length ≤ 1048576) (hxc : xs.length ≤ c') :
    Calls Try.prog 28 #[.int .i64 n, .slice (some ⟨g, 0, none⟩) ls.length c, .slice A xs.length c'] w (ReadsInt (lmpQ n ls xs) w) := by
  cases hok : okQ n ls xs with
  | false => rw [lmpQ_no hok]; exact specLmpNo n g c ls A c' xs w h.at_ hl hs hx hxl hxc hok
  | true =>
    obtain ⟨N, ps, p, rfl, h0, hN, rfl, h8, hP, rfl, hp, hgs, hbad⟩ := okQ_open hok
    rw [lmpQ_yes hok]
    obtain ⟨R, hR⟩ : ∃ R, walkG N (gT N ps) (actLmp p) N 0 (idp N) 0 = R := ⟨_, rfl⟩
    rw [hR]
    have hg0 := specGs (some ⟨g, 0, none⟩) c (N : Int) (ps.map natI) w h.at_ hl hs
    rw [hgs] at hg0
    have hm : (ps.map natI).length = ps.length := List.length_map ..
    have hpl : (natI p).length = N := by rw [natI_len, hp.len]
    have hpp := fun (wx : World) (hx : IntsAt wx A (natI p)) => specPermOf A c' (N : Int) (natI p) wx hx hxl hxc
    rw [hbad] at hpp
    rw [hpl] at hpp
    rw [hm] at hg0
    rw [hm, hpl]
    have HG0 := Lib.hid hg0
    have HPP := Lib.hid hpp
    have HL := Lib.hid h
    have HX := Lib.hid hx
    have HP := Lib.hid hP
    have HIP := Lib.hid hp
    have HR := Lib.hid hR
    clear hok hbad hgs hg0 hpp h hs hx hP hR hl hxl hm hpl hxc
    go_enter Try.func28, Try.ntmps28
    go_wp2_with (first
      | (go_at_call 53; refine HG0.out.mono ?_; rintro e w0 ⟨rfl, n0, rfl⟩)
      | (go_at_call 69; refine (HPP.out _ (by exact HX.out)).mono ?_; rintro e w1 ⟨rfl, n1, rfl⟩)
      | (go_at_call 71; refine (newS N ps g ps.length c _ (by exact HL.out.below (belowDrewN (Below.refl _ _) _)) rfl HP.out h0 hN h8).mono ?_; rintro e w2 ⟨C, T, rfl, hC, hc, hone, hb2⟩
          ; have HC := Lib.hid hC; have HCH := Lib.hid hc; have hB2 := belowStep hb2 (belowDrewN (Below.refl w.heap.size w) _); clear hC hc hone hb2)
      | (go_at_call 79; refine (specIdentity N _ (by omega)).mono ?_; rintro e w3 ⟨v3, rfl, hF3, hb3⟩; have HV3 := Lib.hid (hF3.perm (ok := fun _ => True) idp_len h0 (fun _ _ _ => trivial)); have HC3 := Lib.hid (HC.out.below hb3); have hB3 := belowStep hb3 hB2; clear hF3 hb3))
    have HX3 := Lib.hid (HX.out.below hB3)
    have HWK0 := Lib.hid (Wk.start HCH.out (actLmp p) IsP.idp 0)
    have hRR : walkG N (tabOf (GenL N ps)) (actLmp p) N 0 (idp N) 0 = R := HR.out
    rw [hRR] at HWK0
    clear hRR HG0 HPP HL HP HC HR
    go_loopw [8, 9] (fun z j wr => ∃ (i : Nat) (u : List Nat), i ≤ N ∧ j = .int .i64 (i : Int) ∧ Hid (PermV (fun _ => True) wr z N u) ∧ Hid (IsP N u) ∧ Hid (Wk N T (actLmp p) i u i R) ∧ Below w3.heap.size w3 wr) (fun _ j _ => N - (intOf j).toNat)
    case atStart => exact ⟨0, idp N, Nat.zero_le _, rfl, HV3, IsP.idp, HWK0, Below.refl _ _⟩
    case round =>
      obtain ⟨i, u, hi, rfl, HV, HU, HWK, hB⟩ := hrel
      clear HV3 HWK0
      by_cases hlt : i < N
      · obtain ⟨b, off, rfl, hbl, hc0⟩ := perm_at (HX3.out.below hB) (i := i) (by rw [HIP.out.len]; exact hlt)
        have hbd := appBound HIP.out hN hlt
        obtain ⟨x, hx⟩ : ∃ x, app p i = x := ⟨_, rfl⟩
        rw [hx] at hc0 hbd
        have HXX := Lib.hid hx
        have p0 : (0 : Int) ≤ (i : Int) := by omega
        have p1 : (i : Int) < (N : Int) := by omega
        obtain ⟨gu, cu, rfl, -, -⟩ := HV.out.ints
        obtain ⟨V, hV⟩ : ∃ V, vals N T i u = V := ⟨_, rfl⟩
        have hcv := fun (wx : World) (hb : Below wr.heap.size wr wx) => specVals ((HC3.out.below hB).below hb) hN (HV.out.below hb) HU.out hlt
        rw [hV] at hcv
        have HCV := Lib.hid hcv
        have hvl : V.length ≤ 20 := by rw [← hV, vals_length HU.out]; have := orb_le HCH.out hlt; omega
        have HHV := Lib.hid (hasVal V hvl x)
        have HVV := Lib.hid hV
        clear hx hV hcv
        by_cases hin : x ∈ V
        · have hd : decide (x ∈ V) = true := decide_eq_true hin
          have HD := Lib.hid hd
          have HIN : Hid (x ∈ vals N T i u) := by unfold Hid; rw [HVV.out]; exact hin
          have hst := fun (wx : World) (hb : Below wr.heap.size wr wx) => specStep ((HC3.out.below hB).below hb) HCH.out hN (HV.out.below hb) HU.out hlt HIN.out
          have HST := Lib.hid hst
          have HWK5 : Hid (Wk N T (actLmp p) (i + 1) (Grp.step T i u x) (i + 1) R) := HWK.out.go hlt (by unfold actLmp; rw [HXX.out, if_pos HIN.out]) HIN.out
          have HU5 : Hid (IsP N (Grp.step T i u x)) := step_isP HCH.out hlt HU.out HIN.out
          clear hd hin hst
          go_wp2_with fail
          go_region_with (first
            | (go_at_call 81; refine (HCV.out _ (by exact (by repeat (first | exact Below.refl _ _ | assumption | refine Below.setCell ?_ (by first | omega | (simp <;> omega)) _ | refine Below.alloc ?_ (by first | omega | (simp <;> omega)) _ | refine Below.drew ?_)))).mono ?_; rintro e w5 ⟨v5, rfl, ⟨g5, c5, rfl, hlc5, -, -, hI5⟩, hb5⟩
                ; have hB5 : Below wr.heap.size wr w5 := (by first | exact hb5 | exact ((Below.refl _ _).drew).trans hb5)
                ; have hc5 : w5.cell? ⟨b, off + i, none⟩ = some (.int .i64 (x : Int)) := (hB5.cell (p := ⟨b, off + i, none⟩) hbl).trans hc0
                ; have HI5 := Lib.hid hI5; clear hI5 hb5)
            | (go_at_call 80; refine (HHV.out true HD.out _ g5 c5 (by exact HI5.out.below (by exact (by repeat (first | exact Below.refl _ _ | assumption | refine Below.setCell ?_ (by first | omega | (simp <;> omega)) _ | refine Below.alloc ?_ (by first | omega | (simp <;> omega)) _ | refine Below.drew ?_))))).mono ?_; rintro e w6 ⟨rfl, rfl⟩))
          all_goals
            go_wp2_with (first
              | (go_at_call 82; refine (HST.out _ (by first | exact hB5 | exact hB5.drew)).mono ?_; rintro e w7 ⟨v7, rfl, hF7, hb7⟩
                ; have HV7 := Lib.hid (hF7.perm (ok := fun _ => True) HU5.out.len h0 (fun _ _ _ => trivial))
                ; have hB7 : Below w3.heap.size w3 w7 := (by first | exact belowStep hb7 (belowStep hB5 hB) | exact belowStep hb7 (belowStep hB5.drew hB)); clear hF7 hb7))
            go_roundw
            case rel => exact ⟨i + 1, _, by omega, by go_num, HV7, HU5, HWK5, hB7⟩
            case measure => simp [intOf]; omega
        · have hd : decide (x ∈ V) = false := decide_eq_false hin
          have HD := Lib.hid hd
          have HRE : Hid ((i : Int) = ((R.1 : Nat) : Int)) := by
            unfold Hid
            rw [HWK.out.off hlt (a' := i) (v := x) (by unfold actLmp; rw [HXX.out, if_neg (by rw [HVV.out]; exact hin)]) (by rw [HVV.out]; exact hin)]
          clear hd hin
          go_wp2_with fail
          go_region_with (first
            | (go_at_call 81; refine (HCV.out _ (by exact (by repeat (first | exact Below.refl _ _ | assumption | refine Below.setCell ?_ (by first | omega | (simp <;> omega)) _ | refine Below.alloc ?_ (by first | omega | (simp <;> omega)) _ | refine Below.drew ?_)))).mono ?_; rintro e w5 ⟨v5, rfl, ⟨g5, c5, rfl, hlc5, -, -, hI5⟩, hb5⟩
                ; have hB5 : Below wr.heap.size wr w5 := (by first | exact hb5 | exact ((Below.refl _ _).drew).trans hb5)
                ; have hc5 : w5.cell? ⟨b, off + i, none⟩ = some (.int .i64 (x : Int)) := (hB5.cell (p := ⟨b, off + i, none⟩) hbl).trans hc0
                ; have HI5 := Lib.hid hI5; clear hI5 hb5)
            | (go_at_call 80; refine (HHV.out false HD.out _ g5 c5 (by exact HI5.out.below (by exact (by repeat (first | exact Below.refl _ _ | assumption | refine Below.setCell ?_ (by first | omega | (simp <;> omega)) _ | refine Below.alloc ?_ (by first | omega | (simp <;> omega)) _ | refine Below.drew ?_))))).mono ?_; rintro e w6 ⟨rfl, rfl⟩))
          all_goals
            go_wp2_with fail
            go_ret
            exact ⟨ret_int HRE.out, by first | exact belowStep (belowStep hB5 hB) hB3 | exact belowStep (belowStep hB5.drew hB) hB3⟩
      · obtain rfl : i = N := by omega
        have HRE : Hid ((i : Int) = ((R.1 : Nat) : Int)) := by unfold Hid; rw [HWK.out.end_]
        go_wp2_with fail
        go_ret
        exact ⟨ret_int HRE.out, belowStep hB hB3⟩
end Go.Proofs.Ytpcnbjfkobeibaa
