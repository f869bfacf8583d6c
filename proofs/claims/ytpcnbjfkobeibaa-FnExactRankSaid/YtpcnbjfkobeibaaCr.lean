/- CountMembersBelow and Rank at both packages. Conditions: as each contract says. -/
import Derived.Test.YtpcnbjfkobeibaaCb
import Derived.Test.YtpcnbjfkobeibaaMw
namespace Go.Proofs.Ytpcnbjfkobeibaa
open Go.RowKit Grp

noncomputable def cmbQ (n : Int) (ls : List (List Int)) (xs : List Int) : Int := if okQ n ls xs then ((cntR n.toNat (tQ n ls) (toN xs)).1 : Int) else -1
theorem cmbQ_no {n : Int} {ls : List (List Int)} {xs : List Int} (h : okQ n ls xs = false) : cmbQ n ls xs = -1 := by unfold cmbQ; rw [h]; rfl
theorem cmbQ_yes {N : Nat} {ps : List (List Nat)} {p : List Nat} (h : okQ (N : Int) (ps.map natI) (natI p) = true) : cmbQ (N : Int) (ps.map natI) (natI p) = ((cntR N (gT N ps) p).1 : Int) := by
  unfold cmbQ
  rw [h, tQ_eq, toN_natI]
  rfl
noncomputable def rankQ (n : Int) (ls : List (List Int)) (xs : List Int) : Int := if okQ n ls xs then (if (cntR n.toNat (tQ n ls) (toN xs)).2.isSome then ((cntR n.toNat (tQ n ls) (toN xs)).1 : Int) else -1) else -1
theorem rankQ_no {n : Int} {ls : List (List Int)} {xs : List Int} (h : okQ n ls xs = false) : rankQ n ls xs = -1 := by unfold rankQ; rw [h]; rfl
theorem rankQ_yes {N : Nat} {ps : List (List Nat)} {p : List Nat} (h : okQ (N : Int) (ps.map natI) (natI p) = true) : rankQ (N : Int) (ps.map natI) (natI p) = if (cntR N (gT N ps) p).2.isSome then ((cntR N (gT N ps) p).1 : Int) else -1 := by
  unfold rankQ
  rw [h, tQ_eq, toN_natI]
  rfl
set_option maxRecDepth 100000 in
set_option maxHeartbeats 4000000 in
theorem implCmb (n : Int) (g c : Nat) (ls : List (List Int)) (A : Option Addr) (c' : Nat) (xs : List Int) (w : World) (h : LOwn w g ls) (hl : ls.length ≤ 1048576) (hs : ShortL ls) (hx : IntsAt w A xs) (hxl : xs.length ≤ 1048576) :
    Calls Try.prog 35 #[.int .i64 n, .slice (some ⟨g, 0, none⟩) ls.length c, .slice A xs.length c'] w (ReadsInt (cmbQ n ls xs) w) := by
  cases hok : okQ n ls xs with
  | false => rw [cmbQ_no hok]; exact implCmbNo n g c ls A c' xs w h hl hs hx hxl hok
  | true =>
    obtain ⟨N, ps, p, rfl, h0, hN, rfl, h8, hP, rfl, hp, hgs, hbad⟩ := okQ_open hok
    rw [cmbQ_yes hok]
    obtain ⟨R, hR⟩ : ∃ R, cntR N (gT N ps) p = R := ⟨_, rfl⟩
    rw [hR]
    have hpm := okQ_perm hp hbad
    have hg0 := implGs (some ⟨g, 0, none⟩) c (N : Int) (ps.map natI) w h.at_ hl hs
    rw [hgs] at hg0
    have hm : (ps.map natI).length = ps.length := List.length_map ..
    have hpl : (natI p).length = N := by rw [natI_len, hp.len]
    have hpp := fun (wx : World) (hx : IntsAt wx A (natI p)) => implPerm A c' (natI p) wx hx hxl
    rw [hpm] at hpp
    rw [hpl] at hpp
    rw [hm] at hg0
    rw [hm, hpl]
    have HG0 := Lib.hid hg0
    have HPP := Lib.hid hpp
    have HL := Lib.hid h
    have HX := Lib.hid hx
    have HP := Lib.hid hP
    have HIP := Lib.hid hp
    have HR := Lib.hid hR
    clear hok hbad hgs hpm hg0 hpp h hs hx hP hR hl hxl hm hpl
    go_enter Try.func35, Try.ntmps35
    go_wp2_with (first
      | (go_at_call 73; refine HG0.out.mono ?_; rintro e w1 ⟨rfl, hB1⟩)
      | (go_at_call 74; refine (implLength _ _ _ _).mono ?_; rintro e w' ⟨rfl, rfl⟩)
      | (go_at_call 75; refine (HPP.out _ (by exact HX.out.below hB1)).mono ?_; rintro e w' ⟨rfl, rfl⟩)
      | (go_at_call 76; refine (newI N ps g ps.length c _ (by exact HL.out.below hB1) rfl HP.out h0 hN h8).mono ?_; rintro e w2 ⟨C, T, rfl, hC, hc, hone, hb2⟩
          ; have HC := Lib.hid hC; have HCH := Lib.hid hc; have hB2 := belowStep hb2 hB1; clear hC hc hone hb2
          ; have HRR : Hid (cntR N T p = R) := (by unfold Hid; rw [cntR_eq HCH.out (gT_chain HP.out), HR.out]))
      | (go_at_call 77; refine (implCount C N T A c' p _ HC.out HCH.out hN h0 (by exact HX.out.below hB2) HIP.out).mono ?_; rw [HRR.out]; rintro e w3 ⟨rfl, hb3⟩; have hB3 := belowStep hb3 hB2; obtain ⟨a, o⟩ := R; cases o))
    all_goals
      try dsimp only
      first | go_ret | (go_wp2_with fail; go_ret)
      exact ⟨rfl, hB3⟩
set_option maxRecDepth 100000 in
set_option maxHeartbeats 4000000 in
theorem implRank (n : Int) (g c : Nat) (ls : List (List Int)) (A : Option Addr) (c' : Nat) (xs : List Int) (w : World) (h : LOwn w g ls) (hl : ls.length ≤ 1048576) (hs : ShortL ls) (hx : IntsAt w A xs) (hxl : xs.length ≤ 1048576) :
    Calls Try.prog 37 #[.int .i64 n, .slice (some ⟨g, 0, none⟩) ls.length c, .slice A xs.length c'] w (ReadsInt (rankQ n ls xs) w) := by
  cases hok : okQ n ls xs with
  | false => rw [rankQ_no hok]; exact implRankNo n g c ls A c' xs w h hl hs hx hxl hok
  | true =>
    obtain ⟨N, ps, p, rfl, h0, hN, rfl, h8, hP, rfl, hp, hgs, hbad⟩ := okQ_open hok
    rw [rankQ_yes hok]
    obtain ⟨R, hR⟩ : ∃ R, cntR N (gT N ps) p = R := ⟨_, rfl⟩
    rw [hR]
    have hpm := okQ_perm hp hbad
    have hg0 := implGs (some ⟨g, 0, none⟩) c (N : Int) (ps.map natI) w h.at_ hl hs
    rw [hgs] at hg0
    have hm : (ps.map natI).length = ps.length := List.length_map ..
    have hpl : (natI p).length = N := by rw [natI_len, hp.len]
    have hpp := fun (wx : World) (hx : IntsAt wx A (natI p)) => implPerm A c' (natI p) wx hx hxl
    rw [hpm] at hpp
    rw [hpl] at hpp
    rw [hm] at hg0
    rw [hm, hpl]
    have HG0 := Lib.hid hg0
    have HPP := Lib.hid hpp
    have HL := Lib.hid h
    have HX := Lib.hid hx
    have HP := Lib.hid hP
    have HIP := Lib.hid hp
    have HR := Lib.hid hR
    clear hok hbad hgs hpm hg0 hpp h hs hx hP hR hl hxl hm hpl
    go_enter Try.func37, Try.ntmps37
    go_wp2_with (first
      | (go_at_call 73; refine HG0.out.mono ?_; rintro e w1 ⟨rfl, hB1⟩)
      | (go_at_call 74; refine (implLength _ _ _ _).mono ?_; rintro e w' ⟨rfl, rfl⟩)
      | (go_at_call 75; refine (HPP.out _ (by exact HX.out.below hB1)).mono ?_; rintro e w' ⟨rfl, rfl⟩)
      | (go_at_call 76; refine (newI N ps g ps.length c _ (by exact HL.out.below hB1) rfl HP.out h0 hN h8).mono ?_; rintro e w2 ⟨C, T, rfl, hC, hc, hone, hb2⟩
          ; have HC := Lib.hid hC; have HCH := Lib.hid hc; have hB2 := belowStep hb2 hB1; clear hC hc hone hb2
          ; have HRR : Hid (cntR N T p = R) := (by unfold Hid; rw [cntR_eq HCH.out (gT_chain HP.out), HR.out]))
      | (go_at_call 77; refine (implCount C N T A c' p _ HC.out HCH.out hN h0 (by exact HX.out.below hB2) HIP.out).mono ?_; rw [HRR.out]; rintro e w3 ⟨rfl, hb3⟩; have hB3 := belowStep hb3 hB2; obtain ⟨a, o⟩ := R; cases o))
    all_goals
      try dsimp only
      first | go_ret | (go_wp2_with fail; go_ret)
      exact ⟨rfl, hB3⟩
set_option maxRecDepth 100000 in
set_option maxHeartbeats 4000000 in
theorem specCmb (n : Int) (g c : Nat) (ls : List (List Int)) (A : Option Addr) (c' : Nat) (xs : List Int) (w : World) (h : LOwn w g ls) (hl : ls.length ≤ 1048576) (hs : ShortL ls) (hx : IntsAt w A xs) (hxl : xs.length ≤ 1048576) (hxc : xs.length ≤ c') :
    Calls Try.prog 34 #[.int .i64 n, .slice (some ⟨g, 0, none⟩) ls.length c, .slice A xs.length c'] w (ReadsInt (cmbQ n ls xs) w) := by
  cases hok : okQ n ls xs with
  | false => rw [cmbQ_no hok]; exact specCmbNo n g c ls A c' xs w h hl hs hx hxl hxc hok
  | true =>
    obtain ⟨N, ps, p, rfl, h0, hN, rfl, h8, hP, rfl, hp, hgs, hbad⟩ := okQ_open hok
    rw [cmbQ_yes hok]
    obtain ⟨R, hR⟩ : ∃ R, cntR N (gT N ps) p = R := ⟨_, rfl⟩
    rw [hR]
    have hg0 := specGs (some ⟨g, 0, none⟩) c (N : Int) (ps.map natI) w h.at_ hl hs
    rw [hgs] at hg0
    have hm : (ps.map natI).length = ps.length := List.length_map ..
    have hpl : (natI p).length = N := by rw [natI_len, hp.len]
    have hpp := fun (wx : World) (hx : IntsAt wx A (natI p)) => specPermOf A c' (N : Int) (natI p) wx hx hxl hxc
    rw [hbad] at hpp
    rw [hpl] at hpp
    rw [hm] at hg0
    rw [hm, hpl]
    have HG0 := Lib.hid hg0
    have HPP := Lib.hid hpp
    have HL := Lib.hid h
    have HX := Lib.hid hx
    have HP := Lib.hid hP
    have HIP := Lib.hid hp
    have HR := Lib.hid hR
    clear hok hbad hgs hg0 hpp h hs hx hP hR hl hxl hm hpl hxc
    go_enter Try.func34, Try.ntmps34
    go_wp2_with (first
      | (go_at_call 53; refine HG0.out.mono ?_; rintro e w0 ⟨rfl, n0, rfl⟩)
      | (go_at_call 69; refine (HPP.out _ (by exact HX.out)).mono ?_; rintro e w1 ⟨rfl, n1, rfl⟩)
      | (go_at_call 71; refine (newS N ps g ps.length c _ (by exact HL.out.below (belowDrewN (Below.refl _ _) _)) rfl HP.out h0 hN h8).mono ?_; rintro e w2 ⟨C, T, rfl, hC, hc, hone, hb2⟩
          ; have HC := Lib.hid hC; have HCH := Lib.hid hc; have hB2 := belowStep hb2 (belowDrewN (Below.refl w.heap.size w) _); clear hC hc hone hb2
          ; have HRR : Hid (cntR N T p = R) := (by unfold Hid; rw [cntR_eq HCH.out (gT_chain HP.out), HR.out]))
      | (go_at_call 70; refine (specCount C N T A c' p _ HC.out HCH.out hN h0 (by exact HX.out.below hB2) HIP.out).mono ?_; rw [HRR.out]; rintro e w3 ⟨rfl, hb3⟩; have hB3 := belowStep hb3 hB2; obtain ⟨a, o⟩ := R; cases o))
    all_goals
      try dsimp only
      first | go_ret | (go_wp2_with fail; go_ret)
      exact ⟨rfl, hB3⟩
set_option maxRecDepth 100000 in
set_option maxHeartbeats 4000000 in
theorem specRank (n : Int) (g c : Nat) (ls : List (List Int)) (A : Option Addr) (c' : Nat) (xs : List Int) (w : World) (h : LOwn w g ls) (hl : ls.length ≤ 1048576) (hs : ShortL ls) (hx : IntsAt w A xs) (hxl : xs.length ≤ 1048576) (hxc : xs.length ≤ c') :
    Calls Try.prog 36 #[.int .i64 n, .slice (some ⟨g, 0, none⟩) ls.length c, .slice A xs.length c'] w (ReadsInt (rankQ n ls xs) w) := by
  cases hok : okQ n ls xs with
  | false => rw [rankQ_no hok]; exact specRankNo n g c ls A c' xs w h hl hs hx hxl hxc hok
  | true =>
    obtain ⟨N, ps, p, rfl, h0, hN, rfl, h8, hP, rfl, hp, hgs, hbad⟩ := okQ_open hok
    rw [rankQ_yes hok]
    obtain ⟨R, hR⟩ : ∃ R, cntR N (gT N ps) p = R := ⟨_, rfl⟩
    rw [hR]
    have hg0 := specGs (some ⟨g, 0, none⟩) c (N : Int) (ps.map natI) w h.at_ hl hs
    rw [hgs] at hg0
    have hm : (ps.map natI).length = ps.length := List.length_map ..
    have hpl : (natI p).length = N := by rw [natI_len, hp.len]
    have hpp := fun (wx : World) (hx : IntsAt wx A (natI p)) => specPermOf A c' (N : Int) (natI p) wx hx hxl hxc
    rw [hbad] at hpp
    rw [hpl] at hpp
    rw [hm] at hg0
    rw [hm, hpl]
    have HG0 := Lib.hid hg0
    have HPP := Lib.hid hpp
    have HL := Lib.hid h
    have HX := Lib.hid hx
    have HP := Lib.hid hP
    have HIP := Lib.hid hp
    have HR := Lib.hid hR
    clear hok hbad hgs hg0 hpp h hs hx hP hR hl hxl hm hpl hxc
    go_enter Try.func36, Try.ntmps36
    go_wp2_with (first
      | (go_at_call 53; refine HG0.out.mono ?_; rintro e w0 ⟨rfl, n0, rfl⟩)
      | (go_at_call 69; refine (HPP.out _ (by exact HX.out)).mono ?_; rintro e w1 ⟨rfl, n1, rfl⟩)
      | (go_at_call 71; refine (newS N ps g ps.length c _ (by exact HL.out.below (belowDrewN (Below.refl _ _) _)) rfl HP.out h0 hN h8).mono ?_; rintro e w2 ⟨C, T, rfl, hC, hc, hone, hb2⟩
          ; have HC := Lib.hid hC; have HCH := Lib.hid hc; have hB2 := belowStep hb2 (belowDrewN (Below.refl w.heap.size w) _); clear hC hc hone hb2
          ; have HRR : Hid (cntR N T p = R) := (by unfold Hid; rw [cntR_eq HCH.out (gT_chain HP.out), HR.out]))
      | (go_at_call 70; refine (specCount C N T A c' p _ HC.out HCH.out hN h0 (by exact HX.out.below hB2) HIP.out).mono ?_; rw [HRR.out]; rintro e w3 ⟨rfl, hb3⟩; have hB3 := belowStep hb3 hB2; obtain ⟨a, o⟩ := R; cases o))
    all_goals
      try dsimp only
      first | go_ret | (go_wp2_with fail; go_ret)
      exact ⟨rfl, hB3⟩
end Go.Proofs.Ytpcnbjfkobeibaa
