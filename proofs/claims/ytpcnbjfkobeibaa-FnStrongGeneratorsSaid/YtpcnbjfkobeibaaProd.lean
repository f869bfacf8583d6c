/- A product added to a chain, at the reference. Conditions: as the contract says. -/
import Derived.Test.YtpcnbjfkobeibaaSp
import Derived.Test.YtpcnbjfkobeibaaSift
import Derived.Deep.RegionLaw
import Derived.Deep.RegionHeld3
import Derived.Deep.CutRange
namespace Go.Proofs.Ytpcnbjfkobeibaa
open Go.RowKit Grp

theorem genP {n k : Nat} {L : List (List Nat)} (hL : ∀ s, s ∈ L → IsP n s ∧ Fix k s) (hk : k ≤ n) {p : List Nat} (hp : GenL n L p) : IsP n p ∧ Fix k p :=
  hp (Stab (IsP n) k) (Stab.sub (Sub.all n) hk) fun s hs => hL s hs
set_option maxRecDepth 100000 in
set_option maxHeartbeats 16000000 in
theorem specProd (B n C k : Nat) (s : Sh) (hn : 0 < n) (hnl : n ≤ 20) (hkn : k < n) (hG : GenAt B n (k + 1) C s) : ∀ (r : Nat) (pr : Nat → Prop) (L : List (List Nat)) (T : Tab) (Gs : Nat → List (List Nat)) (v : Value) (p : List Nat) (w : World), n - (orb n T k).length < r →
    w.heap[C]? = some (.cells (tcS n s) 106 (0, 0)) → Body (fun _ => True) B n w s T Gs → Away pr n w s → PermV (fun _ => True) w v n p → Rowed n k L T Gs → (∀ s, s ∈ L → IsP n s ∧ Fix k s) → L.length ≤ 1048576 → GenL n L p →
    Calls Try.prog 146 #[.pointer (some ⟨C, 0, none⟩), .int .i64 (k : Int), v] w (ProdPost pr B n k C s L T Gs p w) := by
  intro r
  induction r with
  | zero =>
    intro pr L T Gs v p w hr
    omega
  | succ r ih =>
    intro pr L T Gs v p w hr hC hb ha hv hR hL hLl hp
    have HIH := Lib.hid ih
    clear ih
    obtain ⟨hpP, hpF⟩ := genP hL (by omega) hp
    have hxn := hpP.lt hkn
    obtain ⟨x, hx⟩ : ∃ x, app p k = x := ⟨_, rfl⟩
    obtain ⟨gp, cp, rfl, hIp, hpl⟩ := hv.ints
    obtain ⟨b, o1, e1, hbp, hcp⟩ := perm_at hIp (i := k) (by rw [hpl]; exact hkn)
    injection e1 with e1
    injection e1 with e2 e3
    subst e2 e3
    rw [Nat.zero_add] at hcp
    rw [hx] at hcp hxn
    obtain ⟨u, hu, hrep, hfr⟩ := hb.readRow hkn hxn
    have hrb := hb.readRb hkn
    have t1 : w.cell? ⟨C, 1, none⟩ = some (.slice (some ⟨s.Rb, 0, none⟩) n s.cr) := cell_of_row w C 1 _ _ (0, 0) hC
    have p0 : (0 : Int) ≤ (k : Int) := by omega
    have p1 : (k : Int) < (n : Int) := by omega
    have p2 : (0 : Int) ≤ (x : Int) := by omega
    have p3 : (x : Int) < (n : Int) := by omega
    have p4 : (k : Int) < 20 := by omega
    have HSP := Lib.hid (Sp.start hC hb ha)
    have HV := Lib.hid hv
    have HRD := Lib.hid hR
    have HL := Lib.hid hL
    have HP := Lib.hid hp
    have HPP := Lib.hid hpP
    have HX := Lib.hid hx
    have HIP := Lib.hid hIp
    have hG1 : ∀ (T : Tab) (Gs : Nat → List (List Nat)) (v : Value) (p : List Nat) (w : World), w.heap[C]? = some (.cells (tcS n s) 106 (0, 0)) → Body (fun _ => True) B n w s T Gs → Away pr n w s →
        PermV (fun _ => True) w v n p → IsP n p → Fix (k + 1) p → Full n T Gs (k + 1) → (∀ j, k + 1 ≤ j → j ≤ n → (Gs j).length ≤ orbSum n T j (n - j)) → Calls Try.prog 128 #[.pointer (some ⟨C, 0, none⟩), .int .i64 ((k : Int) + 1), v] w (GenPost pr B n (k + 1) C s T Gs p w) := by
      intro T Gs v p w h1 h2 h3 h4 h5 h6 h7 h8
      have := hG pr T Gs v p w h1 h2 h3 h4 h5 h6 h7 h8
      rwa [show ((k + 1 : Nat) : Int) = (k : Int) + 1 from by omega] at this
    have HG := Lib.hid hG1
    clear hG1
    cases hT : T k x with
    | some t =>
      rw [hT] at hrep
      obtain ⟨gt, ct, rfl, hIt, htl⟩ := PermV.ints hrep
      have htM := hR.row.mem x t hT
      have htP := GenL.isP (fun s hs => (hL s hs).1) htM.2.1
      have HTT := Lib.hid hT
      have HIT := Lib.hid hIt
      have HTP := Lib.hid htP
      have hsub := GenL.sub (n := n) (fun s hs => (hL s hs).1)
      have hq : GenL n L (comp p (inv t)) := hsub.2.2.1 _ _ hp (hsub.2.2.2 _ htM.2.1)
      have hqF : Fix (k + 1) (comp p (inv t)) := by
        have hfix := (genP hL (by omega) hq).2
        intro i hi
        rcases Nat.lt_or_ge i k with h1 | h1
        · exact hfix i h1
        · obtain rfl : i = k := by omega
          rw [hpP.appc hkn, hx]
          have := htP.inv_app_self hkn
          rwa [htM.2.2] at this
      have HQF := Lib.hid hqF
      clear hC hb ha hv hR hL hp hpP hpF hx hIp hpl hT hrep hIt htl htM htP hsub hq hqF HIH
      go_enter Try.func146, Try.ntmps146
      go_wp2_with fail
      go_quiet (fail)
      go_wp2_with fail
      refine (specInverse _ ct n t _ (by exact HIT.out) HTP.out (by omega)).mono ?_
      rintro e w1 ⟨v1, rfl, hF1, hb1⟩
      have hbw1 : Below w.heap.size w w1 := belowStep hb1 (belowDrewN (Below.refl _ _) nq)
      obtain ⟨A1, c1, e1, hI1, -⟩ := hF1.ints
      rw [natI_len, HTP.out.inv.len] at e1
      subst e1
      have HI1 := Lib.hid hI1
      clear hF1 hb1 hI1
      go_wp2_with fail
      refine (specCompose _ _ cp c1 n p (inv t) _ (by exact HIP.out.below hbw1) (by exact HI1.out) HPP.out.len HTP.out.inv.len (by omega) (fun i hi => HPP.out.lt hi)).mono ?_
      rintro e w2 ⟨v2, rfl, hF2, hb2⟩
      have hbw2 : Below w.heap.size w w2 := belowStep hb2 hbw1
      have HPV2 := Lib.hid (hF2.perm (ok := fun _ => True) (n := n) (by rw [comp_len, HPP.out.len]) hn (fun _ _ _ => trivial))
      have HS2 := Lib.hid (HSP.out.more hbw2)
      clear hF2 hb2
      go_wp2_with fail
      refine (HG.out T Gs v2 (comp p (inv t)) w2 HS2.out.top HS2.out.body HS2.out.away HPV2.out (HPP.out.comp HTP.out.inv) HQF.out HRD.out.full HRD.out.cnt).mono ?_
      rintro e w3 ⟨rfl, T', Gs', hS3, hadd⟩
      have HS3 := Lib.hid (HS2.out.trans hS3 (fun _ h => h))
      have HADD := Lib.hid hadd
      clear hS3 hadd
      go_wp2_with fail
      exact bodyPost_ret (results_none rfl _ _ _) rfl ⟨rfl, T', Gs', HS3.out, Prodded.deep HRD.out (fun s hs => (HL.out s hs).1) HP.out (by rw [HX.out]; exact HTT.out) HADD.out⟩
    | none =>
      rw [hT] at hrep
      obtain rfl : u = .slice none 0 0 := hrep
      have HTT := Lib.hid hT
      have hM0 := Mid.start hR hkn (fun s hs => (hL s hs).1) hp (by rw [hx]; exact hT)
      rw [hx] at hM0
      have HM0 := Lib.hid hM0
      have hor1 := orb_upd (t := p) hxn hT
      have hor2 := orb_len_le n (updT T k x p) k
      clear hC hb ha hv hR hL hp hpP hpF hx hIp hpl hT hM0
      go_enter Try.func146, Try.ntmps146
      go_wp2_with fail
      go_quiet (fail)
      go_upto_region 3 with fail
      go_cut [] from 8 to 71 (fun wx => Hid (Sp pr (tcS n s) B n C s w wx (updT T k x p) Gs))
      case first =>
        go_region
        all_goals
          go_wp2_with fail
          go_meet
          exact Sp.row (HSP.out.more (belowDrewN (Below.refl _ _) (nq + 1))) hkn hxn (HV.out.below (belowDrewN (Below.refl _ _) (nq + 1)))
      case rest =>
        have HS := hcut
        clear hcut HSP hu hrb t1 hcp hfr
        go_wp2_with fail
        go_loopw [7] (fun j wr => ∃ (i : Nat) (T1 : Tab) (Gs1 : Nat → List (List Nat)), j = .int .i64 i ∧ i ≤ L.length ∧ Hid (Sp pr (tcS n s) B n C s w wr T1 Gs1) ∧ Hid (Mid n k L T Gs p i T1 Gs1)) (fun j _ => L.length - (intOf j).toNat)
        case atStart => exact ⟨0, _, Gs, rfl, Nat.zero_le _, HS, HM0⟩
        case round =>
          obtain ⟨i, T1, Gs1, rfl, hi, HS1, HM1⟩ := hrel
          clear HS HM0
          have t2 : wr.cell? ⟨C, 2, none⟩ = some (.slice (some ⟨s.Gb, 0, none⟩) n s.cg) := cell_of_row wr C 2 _ _ (0, 0) HS1.out.top
          obtain ⟨vg, hvg, hgen, -⟩ := HS1.out.body.readGb hkn
          rw [HM1.out.st.gens] at hgen
          obtain ⟨Ag, cg0, rfl, -⟩ := hgen.shape
          by_cases hlt : i < L.length
          · obtain ⟨ga, ug, rfl, hga, hcu, hpg, -⟩ := hgen.at_ hlt
            have hmem := getD_mem hlt
            obtain ⟨gp1, hgp1⟩ : ∃ gp1, L.getD i [] = gp1 := ⟨_, rfl⟩
            rw [hgp1] at hpg hmem
            obtain ⟨gg, cg, rfl, hIg, hgl⟩ := hpg.ints
            have hIH1 := HIH.out pr L T1 Gs1
            have hpq : GenL n L (comp p gp1) := (GenL.sub (fun s hs => (HL.out s hs).1)).2.2.1 _ _ HP.out (GenL.of hmem)
            have hor3 := orb_ext (n := n) (k := k) HM1.out.later.ext
            rw [HX.out] at hor3
            have hm1 : n - (orb n T1 k).length < r := by omega
            have q0 : (0 : Int) ≤ (i : Int) := by omega
            have q1 : (i : Int) < (L.length : Int) := by omega
            have HIG := Lib.hid hIg
            have HGL := Lib.hid hgl
            have HGP := Lib.hid hgp1
            have HPQ := Lib.hid hpq
            have HIH1 := Lib.hid hIH1
            have HVR := Lib.hid (HV.out.keep HS1.out.keep)
            obtain ⟨gp', cp', e5, hIp', -⟩ := HVR.out.ints
            simp only [Value.slice.injEq, Option.some.injEq, Addr.mk.injEq, and_true, true_and] at e5
            obtain ⟨rfl, rfl⟩ := e5
            have HIPR := Lib.hid hIp'
            clear hgen hpg hmem hgp1 hIg hgl hIH1 hpq hor3 hIp'
            go_wp2_with fail
            refine (specCompose _ _ cp cg n p gp1 _ (by exact HIPR.out) (by exact HIG.out) HPP.out.len HGL.out (by omega) (fun i hi => HPP.out.lt hi)).mono ?_
            rintro e w4 ⟨v4, rfl, hF4, hb4⟩
            have HPV4 := Lib.hid (hF4.perm (ok := fun _ => True) (n := n) (by rw [comp_len, HPP.out.len]) hn (fun _ _ _ => trivial))
            have HS4 := Lib.hid (HS1.out.more hb4)
            clear hF4 hb4 t2 hvg hcu
            go_wp2_with fail
            refine (HIH1.out v4 (comp p gp1) w4 hm1 HS4.out.top HS4.out.body HS4.out.away HPV4.out HM1.out.st HL.out hLl HPQ.out).mono ?_
            rintro e w5 ⟨rfl, T2, Gs2, hS5, hpd⟩
            have HS5 := Lib.hid (HS4.out.trans hS5 (fun _ h => h))
            have HM2 := Lib.hid (Mid.step HM1.out hkn HPP.out (by rw [HGP.out]; exact hpd))
            clear hS5 hpd
            go_wp2_with fail
            go_roundw
            case rel => exact ⟨i + 1, T2, Gs2, by go_num, by omega, HS5, HM2⟩
            case measure => simp [intOf]; omega
          · obtain rfl : i = L.length := by omega
            have HPD := Lib.hid (Mid.end_ HM1.out hkn HPP.out (by rw [HX.out]; exact HTT.out))
            clear hgen
            go_wp2_with fail
            exact bodyPost_ret (results_none rfl _ _ _) rfl ⟨rfl, T1, Gs1, HS1.out, HPD.out⟩
end Go.Proofs.Ytpcnbjfkobeibaa
