/- NextMember at both packages. Conditions: as each contract says. -/
import Derived.Test.YtpcnbjfkobeibaaAi
import Derived.Test.YtpcnbjfkobeibaaCb
namespace Go.Proofs.Ytpcnbjfkobeibaa
open Go.RowKit Grp

/-- The rank of the next member. -/
def nxtK (R : Nat × Option (List Nat)) : Int := (R.1 : Int) + if R.2.isSome then 1 else 0
noncomputable def nxtQ (n : Int) (ls : List (List Int)) (xs : List Int) : Option (List Nat) := if okQ n ls xs then atO n.toNat (tQ n ls) (nxtK (cntR n.toNat (tQ n ls) (toN xs))) else none
theorem nxtQ_no {n : Int} {ls : List (List Int)} {xs : List Int} (h : okQ n ls xs = false) : nxtQ n ls xs = none := by unfold nxtQ; rw [h]; rfl
theorem nxtQ_yes {N : Nat} {ps : List (List Nat)} {p : List Nat} (h : okQ (N : Int) (ps.map natI) (natI p) = true) : nxtQ (N : Int) (ps.map natI) (natI p) = atO N (gT N ps) (nxtK (cntR N (gT N ps) p)) := by
  unfold nxtQ
  rw [h, tQ_eq, toN_natI]
  rfl
theorem nxtQ_len (n : Int) (ls : List (List Int)) (xs : List Int) : ((nxtQ n ls xs).getD []).length ≤ 20 := by
  cases h : okQ n ls xs with
  | false => rw [nxtQ_no h]; exact Nat.zero_le _
  | true =>
    obtain ⟨N, ps, p, rfl, h0, hN, rfl, -, hP, rfl, hp, -, -⟩ := okQ_open h
    rw [nxtQ_yes h]
    exact atO_len (gT_chain hP) hN _
set_option maxRecDepth 100000 in
set_option maxHeartbeats 4000000 in
theorem implNext (n : Int) (g c : Nat) (ls : List (List Int)) (A : Option Addr) (c' : Nat) (xs : List Int) (w : World) (h : LOwn w g ls) (hl : ls.length ≤ 1048576) (hs : ShortL ls) (hx : IntsAt w A xs) (hxl : xs.length ≤ 1048576) :
    Calls Try.prog 22 #[.int .i64 n, .slice (some ⟨g, 0, none⟩) ls.length c, .slice A xs.length c'] w (ReadsOpt (nxtQ n ls xs) w) := by
  cases hok : okQ n ls xs with
  | false =>
    rw [nxtQ_no hok]
    refine (implNextNo n g c ls A c' xs w h hl hs hx hxl hok).mono ?_
    rintro e w' ⟨rfl, hB⟩
    exact ⟨_, rfl, Fresh.nil _ _, hB⟩
  | true =>
    obtain ⟨N, ps, p, rfl, h0, hN, rfl, h8, hP, rfl, hp, hgs, hbad⟩ := okQ_open hok
    rw [nxtQ_yes hok]
    obtain ⟨R, hR⟩ : ∃ R, cntR N (gT N ps) p = R := ⟨_, rfl⟩
    have hRl := cntR_le (gT_chain hP) p
    have hob := (ordG_bound (gT_chain hP) hN (Nat.zero_le _)).2
    rw [hR] at hRl
    rw [hR]
    have hRb : R.1 ≤ 2432902008176640000 := Nat.le_trans hRl hob
    obtain ⟨o, ho⟩ : ∃ o, atO N (gT N ps) (nxtK R) = o := ⟨_, rfl⟩
    rw [ho]
    have hpm := okQ_perm hp hbad
    have hg0 := implGs (some ⟨g, 0, none⟩) c (N : Int) (ps.map natI) w h.at_ hl hs
    rw [hgs] at hg0
    have hm : (ps.map natI).length = ps.length := List.length_map ..
    have hpl : (natI p).length = N := by rw [natI_len, hp.len]
    have hpp := fun (wx : World) (hx : IntsAt wx A (natI p)) => implPerm A c' (natI p) wx hx hxl
    rw [hpm] at hpp
    rw [hpl] at hpp
    rw [hm] at hg0
    rw [hm, hpl]
    have HO := Lib.hid ho
    have HG0 := Lib.hid hg0
    have HPP := Lib.hid hpp
    have HL := Lib.hid h
    have HX := Lib.hid hx
    have HP := Lib.hid hP
    have HIP := Lib.hid hp
    have HR := Lib.hid hR
    have q1 : wrap64 ((R.1 : Int) + 1) = (R.1 : Int) + 1 := by unfold wrap64; omega
    have q2 : IntKind.i64.wrap ((R.1 : Int) + 1) = (R.1 : Int) + 1 := IntWalk.i64_in _ (by omega)
    clear hok hbad hgs hpm hg0 hpp h hs hx hP hR hl hxl hm hpl ho hRl hob
    have hRc : (∃ u, R.2 = some u) ∨ R.2 = none := by cases R.2 with
      | none => exact .inr rfl
      | some u => exact .inl ⟨u, rfl⟩
    rcases hRc with ⟨u, hu⟩ | hu
    all_goals
      obtain ⟨ra, rb⟩ := R
      dsimp only at hu hRb q1 q2
      subst hu
      have HOK := HO.out
      simp only [nxtK, Option.isSome_some, Option.isSome_none, if_true, if_false, Bool.false_eq_true, Int.add_zero] at HOK
      have HOK := Lib.hid HOK
      go_enter Try.func22, Try.ntmps22
      go_wp2_with (first
        | (go_at_call 73; refine HG0.out.mono ?_; rintro e w1 ⟨rfl, hB1⟩)
        | (go_at_call 74; refine (implLength _ _ _ _).mono ?_; rintro e w' ⟨rfl, rfl⟩)
        | (go_at_call 75; refine (HPP.out _ (by exact HX.out.below hB1)).mono ?_; rintro e w' ⟨rfl, rfl⟩)
        | (go_at_call 76; refine (newI N ps g ps.length c _ (by exact HL.out.below hB1) rfl HP.out h0 hN h8).mono ?_; rintro e w2 ⟨C, T, rfl, hC, hc, hone, hb2⟩
            ; have HC := Lib.hid hC; have HCH := Lib.hid hc; have hB2 := belowStep hb2 hB1; clear hC hc hone hb2
            ; have HRR := Lib.hid ((cntR_eq HCH.out (gT_chain HP.out) p).trans HR.out)
            ; have HOO := Lib.hid ((atO_eq HCH.out (gT_chain HP.out) _).trans HOK.out))
        | (go_at_call 77; refine (implCount C N T A c' p _ HC.out HCH.out hN h0 (by exact HX.out.below hB2) HIP.out).mono ?_; rw [HRR.out]; rintro e w3 ⟨rfl, hb3⟩; have hB3 := belowStep hb3 hB2; have HC3 := Lib.hid (HC.out.below hb3))
        | (go_at_call 78; refine (implChainAt C N T _ _ HC3.out HCH.out hN h0).mono ?_; rw [HOO.out]; rintro e w4 ⟨v4, rfl, hF4, hb4⟩))
      have hB4 := belowStep hb4 hB3
      have hz3 := hB3.size
      exact bodyPost_ret (v := .tuple #[v4, .bool o.isSome]) (by simp [results, Try.results22, go_sem]) rfl ⟨_, rfl, hF4.mono hz3, hB4⟩
set_option maxRecDepth 100000 in
set_option maxHeartbeats 4000000 in
theorem specNext (n : Int) (g c : Nat) (ls : List (List Int)) (A : Option Addr) (c' : Nat) (xs : List Int) (w : World) (h : LOwn w g ls) (hl : ls.length ≤ 1048576) (hs : ShortL ls) (hx : IntsAt w A xs) (hxl : xs.length ≤ 1048576) (hxc : xs.length ≤ c') :
    Calls Try.prog 19 #[.int .i64 n, .slice (some ⟨g, 0, none⟩) ls.length c, .slice A xs.length c'] w (ReadsOpt (nxtQ n ls xs) w) := by
  cases hok : okQ n ls xs with
  | false =>
    rw [nxtQ_no hok]
    refine (specNextNo n g c ls A c' xs w h hl hs hx hxl hxc hok).mono ?_
    rintro e w' ⟨v, rfl, hF, hB⟩
    exact ⟨_, rfl, hF, hB⟩
  | true =>
    obtain ⟨N, ps, p, rfl, h0, hN, rfl, h8, hP, rfl, hp, hgs, hbad⟩ := okQ_open hok
    rw [nxtQ_yes hok]
    obtain ⟨R, hR⟩ : ∃ R, cntR N (gT N ps) p = R := ⟨_, rfl⟩
    have hRl := cntR_le (gT_chain hP) p
    have hob := (ordG_bound (gT_chain hP) hN (Nat.zero_le _)).2
    rw [hR] at hRl
    rw [hR]
    have hRb : R.1 ≤ 2432902008176640000 := Nat.le_trans hRl hob
    rw [← atQ_yes hgs]
    obtain ⟨o, ho⟩ : ∃ o, atQ (N : Int) (ps.map natI) (nxtK R) = o := ⟨_, rfl⟩
    have hat := fun (wx : World) (hb : Below w.heap.size w wx) => specAt (N : Int) g c (ps.map natI) (nxtK R) wx (h.below hb) hl hs
    rw [ho] at hat
    rw [ho]
    have hg0 := specGs (some ⟨g, 0, none⟩) c (N : Int) (ps.map natI) w h.at_ hl hs
    rw [hgs] at hg0
    have hm : (ps.map natI).length = ps.length := List.length_map ..
    have hpl : (natI p).length = N := by rw [natI_len, hp.len]
    have hpp := fun (wx : World) (hx : IntsAt wx A (natI p)) => specPermOf A c' (N : Int) (natI p) wx hx hxl hxc
    rw [hbad] at hpp
    rw [hpl] at hpp
    rw [hm] at hg0 hat
    rw [hm, hpl]
    have HG0 := Lib.hid hg0
    have HPP := Lib.hid hpp
    have HL := Lib.hid h
    have HX := Lib.hid hx
    have HP := Lib.hid hP
    have HIP := Lib.hid hp
    have HR := Lib.hid hR
    have q1 : wrap64 ((R.1 : Int) + 1) = (R.1 : Int) + 1 := by unfold wrap64; omega
    have q2 : IntKind.i64.wrap ((R.1 : Int) + 1) = (R.1 : Int) + 1 := IntWalk.i64_in _ (by omega)
    have q3 : wrap64 (R.1 : Int) = (R.1 : Int) := by unfold wrap64; omega
    have q4 : IntKind.i64.wrap (R.1 : Int) = (R.1 : Int) := IntWalk.i64_in _ (by omega)
    have HAT0 := Lib.hid hat
    clear hok hbad hgs hg0 hpp h hs hx hP hR hl hxl hm hpl hxc ho hRl hob hat
    have hRc : (∃ u, R.2 = some u) ∨ R.2 = none := by cases R.2 with
      | none => exact .inr rfl
      | some u => exact .inl ⟨u, rfl⟩
    rcases hRc with ⟨u, hu⟩ | hu
    all_goals
      obtain ⟨ra, rb⟩ := R
      dsimp only at hu hRb q1 q2 q3 q4
      subst hu
      have HATT := HAT0.out
      simp only [nxtK, Option.isSome_some, Option.isSome_none, if_true, if_false, Bool.false_eq_true, Int.add_zero] at HATT
      have HAT := Lib.hid HATT
      clear HATT HAT0
      go_enter Try.func19, Try.ntmps19
      go_wp2_with (first
        | (go_at_call 53; refine HG0.out.mono ?_; rintro e w0 ⟨rfl, n0, rfl⟩)
        | (go_at_call 69; refine (HPP.out _ (by exact HX.out)).mono ?_; rintro e w1 ⟨rfl, n1, rfl⟩)
        | (go_at_call 71; refine (newS N ps g ps.length c _ (by exact HL.out.below (belowDrewN (Below.refl _ _) _)) rfl HP.out h0 hN h8).mono ?_; rintro e w2 ⟨C, T, rfl, hC, hc, hone, hb2⟩
            ; have HC := Lib.hid hC; have HCH := Lib.hid hc; have hB2 := belowStep hb2 (belowDrewN (Below.refl w.heap.size w) _); clear hC hc hone hb2
            ; have HRR := Lib.hid ((cntR_eq HCH.out (gT_chain HP.out) p).trans HR.out))
        | (go_at_call 70; refine (specCount C N T A c' p _ HC.out HCH.out hN h0 (by exact HX.out.below hB2) HIP.out).mono ?_; rw [HRR.out]; rintro e w3 ⟨rfl, hb3⟩; have hB3 := belowStep hb3 hB2)
        | (go_at_call 72; refine (boolInt _ _).mono ?_; rintro e w' ⟨rfl, rfl⟩)
        | (go_at_call 60; refine (HAT.out _ (by exact hB3)).mono ?_; rintro e w4 ⟨v4, rfl, hF4, hb4⟩))
      have hB4 := belowStep hb4 hB3
      have hz3 := hB3.size
      exact bodyPost_ret (v := .tuple #[v4, .bool o.isSome]) (by simp [results, Try.results19, go_sem]) rfl ⟨_, rfl, hF4.mono hz3, hB4⟩
end Go.Proofs.Ytpcnbjfkobeibaa
