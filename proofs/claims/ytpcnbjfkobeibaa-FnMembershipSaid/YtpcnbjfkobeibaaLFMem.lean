/- FnMembership: for every code the law returns true. No conditions. -/
import Derived.Test.YtpcnbjfkobeibaaLt
import Derived.Test.YtpcnbjfkobeibaaDe
import Derived.Test.YtpcnbjfkobeibaaOpen
namespace Go.Proofs.Ytpcnbjfkobeibaa.lawFMem
open Go.RowKit Go.ChangeShapes Go.WideShapes Go.ChangeAt Grp
set_option maxRecDepth 100000

theorem natI_take (p : List Nat) (k : Nat) : (natI p).take k = natI (p.take k) := by simp [natI, List.map_take]
theorem pre_take (p : List Nat) (k : Nat) : PreOf ((natI p).take k) p := fun j hj => by
  rw [List.length_take] at hj
  rw [List.getD_eq_getElem?_getD, List.getElem?_take, if_pos (by omega), ← List.getD_eq_getElem?_getD, natI_getD]
theorem fits_natI {N : Nat} {p : List Nat} (hp : IsP N p) (hN : N ≤ 20) (k : Nat) : Fits ((natI p).take k) := fun x hx => by
  have hx2 := List.mem_of_mem_take hx
  unfold natI at hx2
  rw [List.mem_map] at hx2
  obtain ⟨a, ha, rfl⟩ := hx2
  obtain ⟨i, hi, rfl⟩ := List.getElem_of_mem ha
  have := hp.lt (i := i) (by rw [← hp.len]; exact hi)
  unfold app at this
  rw [List.getD_eq_getElem?_getD, List.getElem?_eq_getElem hi] at this
  simp only [Option.getD_some] at this
  omega
theorem lmpQ_val {N : Nat} {ps : List (List Nat)} {p : List Nat} (h : okQ (N : Int) (ps.map natI) (natI p) = true) : lmpQ (N : Int) (ps.map natI) (natI p) = ((lmpR N (gT N ps) p : Nat) : Int) := lmpQ_yes h
set_option maxHeartbeats 8000000 in
theorem walk (A : Option Addr) (c : Nat) (xs : List Int) (w : World) (hx : BytesAt w A xs) (_hm : xs.length ≤ maxLen) :
    Calls Try.prog 10 #[.slice A xs.length c] w fun e w' => e = .returned (.bool true) ∧ Below w.heap.size w w' := by
  by_cases hl : 4096 < xs.length
  · have hd : decide (4096 < xs.length) = true := by simpa using hl
    go_enter Try.func10, Try.ntmps10
    go_wp2_with (first | (go_at_call 41; refine (big_any _ _ _ _).mono ?_; rintro e w' ⟨rfl, rfl⟩))
    go_ret
    exact ⟨rfl, Below.refl _ _⟩
  have hd : decide (4096 < xs.length) = false := by simpa using hl
  go_enter Try.func10, Try.ntmps10
  go_wp2_with (first | (go_at_call 41; refine (big_any _ _ _ _).mono ?_; rintro e w' ⟨rfl, rfl⟩))
  refine (drewGM A c xs _ hx (by omega)).mono ?_
  rintro e w1 ⟨n, ga, ca, la, Ap, cp, xp, rfl, hL, hP, hB1⟩
  have hll : la.length ≤ 1048576 := by have := hL.2.1; omega
  have hpl : xp.length ≤ 1048576 := by have := hP.2; omega
  have HS := Lib.hid hL.short
  have HL := Lib.hid hL.may
  have HP := Lib.hid hP.may
  obtain ⟨is, his⟩ : ∃ is, ismQ n la xp = is := ⟨_, rfl⟩
  obtain ⟨k, hk⟩ : ∃ k, lmpQ n la xp = k := ⟨_, rfl⟩
  have HIS := Lib.hid his
  have HK := Lib.hid hk
  obtain ⟨lp, hlp⟩ : ∃ lp, xp.length = lp := ⟨_, rfl⟩
  have C1 : Hid (∀ wx : World, Below w1.heap.size w1 wx → Calls Try.prog 43 #[.int .i64 n, .slice (some ⟨ga, 0, none⟩) la.length ca, .slice Ap lp cp] wx (ReadsBool is wx)) := fun wx hb => by
    have := implIsm n ga ca la Ap cp xp wx (HL.out.below hb) hll HS.out (HP.out.below hb) hpl
    rwa [hlp, his] at this
  have C2 : Hid (∀ wx : World, Below w1.heap.size w1 wx → Calls Try.prog 44 #[.int .i64 n, .slice (some ⟨ga, 0, none⟩) la.length ca, .slice Ap lp cp] wx (ReadsBool is wx)) := fun wx hb => by
    have := specIsm n ga ca la Ap cp xp wx (HL.out.below hb) hll HS.out (HP.out.below hb) hpl
    rwa [hlp, his] at this
  have C3 : Hid (∀ wx : World, Below w1.heap.size w1 wx → Calls Try.prog 29 #[.int .i64 n, .slice (some ⟨ga, 0, none⟩) la.length ca, .slice Ap lp cp] wx (ReadsInt k wx)) := fun wx hb => by
    have := implLmpM n ga ca la Ap cp xp wx (HL.out.below hb) hll HS.out (HP.out.below hb) hpl
    rwa [hlp, hk] at this
  have C4 : Hid (∀ wx : World, Below w1.heap.size w1 wx → Calls Try.prog 28 #[.int .i64 n, .slice (some ⟨ga, 0, none⟩) la.length ca, .slice Ap lp cp] wx (ReadsInt k wx)) := fun wx hb => by
    have := specLmpM n ga ca la Ap cp xp wx (HL.out.below hb) hll HS.out (HP.out.below hb) hpl
    rwa [hlp, hk] at this
  rw [hlp]
  have HLP := Lib.hid hlp
  clear hL hP his hk hlp hd hpl
  go_wp2_with fail
  refine (C1.out _ (Below.refl _ _)).mono ?_
  rintro e w2 ⟨rfl, hb2⟩
  go_wp2_with fail
  refine (C3.out _ hb2).mono ?_
  rintro e w3 ⟨rfl, hb3⟩
  have hB3 := belowStep hb3 hb2
  go_wp2_with fail
  refine (C2.out _ hB3).mono ?_
  rintro e w4 ⟨rfl, hb4⟩
  have hB4 := belowStep hb4 hB3
  have hss : (is != is) = false := by cases is <;> rfl
  have hkk : (k != k) = false := by simp
  go_wp2_with fail
  refine (C4.out _ hB4).mono ?_
  rintro e w5 ⟨rfl, hb5⟩
  have hB5 := belowStep hb5 hB4
  clear C1 C2 C3 C4 hb2 hb3 hb4 hb5 hB3 hB4
  cases hok : okQ n la xp with
  | false =>
    have hk1 : k = -1 := by rw [← HK.out]; exact lmpQ_no hok
    have hi1 : is = false := by rw [← HIS.out]; exact ismQ_no hok
    subst hk1
    subst hi1
    clear hok
    go_wp2_with fail
    go_ret
    exact ⟨rfl, belowStep hB5 hB1⟩
  | true =>
    have hLO := HL.out.2 (okQ_gs hok).1
    have hFX := HP.out.2.2 (okQ_gs hok).1 (okQ_gs hok).2
    obtain ⟨N, ps, p, rfl, h0, hN, rfl, h8, hPs, rfl, hip, hgs, hbad⟩ := okQ_open hok
    have hlm : (ps.map natI).length = ps.length := List.length_map ..
    have hlN : lp = N := by rw [← HLP.out, natI_len, hip.len]
    subst hlN
    have hch := gT_chain hPs
    obtain ⟨K, hK⟩ : ∃ K, lmpR lp (gT lp ps) p = K := ⟨_, rfl⟩
    have hKN : K ≤ lp := by rw [← hK]; exact lmpR_le
    have hkK : k = (K : Int) := by rw [← HK.out, lmpQ_val hok, hK]
    have hisK : is = decide (K = lp) := by rw [← HIS.out, ismQ_yes hok, hK]
    subst hkK
    subst hisK
    obtain ⟨gp, cp', hpv, hcp, hIp, -, -⟩ := hFX.addr (by rw [HLP.out]; exact h0)
    injection hpv with e1 e2 e3
    subst e1 e3
    rw [HLP.out] at hcp
    clear e2
    obtain ⟨u, hu, hGu⟩ := lmp_pre_some hch (pre_take p K) (by rw [List.length_take, natI_len, hip.len, hK]; omega)
    have hiu := hch.1.1 u hGu
    have htk : ((natI p).take K).length = K := by rw [List.length_take, natI_len, hip.len]; omega
    have hmq : mwpQ (lp : Int) (ps.map natI) ((natI p).take K) = some u := by rw [mwpQ_yes hgs (by rw [htk]; omega)]; exact hu
    have M1 : Hid (∀ wx : World, Below w5.heap.size w5 wx → Calls Try.prog 33 #[.int .i64 (lp : Int), .slice (some ⟨ga, 0, none⟩) ps.length ca, .slice (some ⟨gp, 0, none⟩) K cp] wx (ReadsOpt (some u) wx)) := fun wx hb => by
      have := implMwp (lp : Int) ga ca (ps.map natI) (some ⟨gp, 0, none⟩) cp ((natI p).take K) wx (hLO.below (belowStep hb hB5)) hll HS.out ((hIp.take K).below (belowStep hb hB5)) (by rw [htk]; omega) (fits_natI hip hN K)
      rwa [hmq, htk, hlm] at this
    have hsm : ismQ (lp : Int) (ps.map natI) (natI u) = true := (ismQ_iff hPs hiu (okQ_natI hgs hiu h0 hN)).2 hGu
    have hul : (natI u).length = lp := by rw [natI_len, hiu.len]
    have M2 : Hid (∀ (wx : World) (Au : Option Addr) (cu : Nat), Below w5.heap.size w5 wx → Fresh w5.heap.size wx (.slice Au lp cu) (natI u) → lp ≤ cu → IntsAt wx Au (natI u) → Calls Try.prog 44 #[.int .i64 (lp : Int), .slice (some ⟨ga, 0, none⟩) ps.length ca, .slice Au lp cu] wx (ReadsBool true wx)) := fun wx Au cu hb hF hc hI => by
      have := specIsm (lp : Int) ga ca (ps.map natI) Au cu (natI u) wx (HL.out.below (belowStep hb hB5)) hll HS.out ⟨hI, by rw [hul]; exact hc, fun _ _ => by rw [hul]; exact hF.mono (Nat.zero_le _)⟩ (by rw [hul]; omega)
      rwa [hsm, hul, hlm] at this
    have HUL := Lib.hid hul
    have q0 : (0 : Int) ≤ (K : Int) := by omega
    have q1 : (K : Int) ≤ (lp : Int) := by omega
    have q2 : (K : Int) ≤ (cp : Int) := by omega
    have q3 : K ≤ cp := by omega
    have q4 : ¬ (K : Int) < 0 := by omega
    have q5 : ¬ lp < K := by omega
    rw [hlm]
    by_cases hKl : K = lp
    · subst hKl
      have hd1 : decide (K = K) = true := decide_eq_true rfl
      have hd2 : ((K : Int) == (K : Int)) = true := by simp
      have hltn : ¬ (K : Int) < (K : Int) := by omega
      rw [hd1]
      have hGp : GenL K ps p := (lmpR_full hch hip).1 hK
      have hup : u = p := by
        have h1 := lmp_pre_full hch hip (pre_take p K) htk hK
        rw [hu] at h1
        exact Option.some.inj h1
      subst hup
      have M4 : Hid (∀ (wx : World) (Aq : Option Addr) (cq : Nat) (q : List Nat), Below w5.heap.size w5 wx → Fresh w5.heap.size wx (.slice Aq K cq) (natI (comp u q)) → K ≤ cq → IntsAt wx Aq (natI (comp u q)) → q ∈ ps → Calls Try.prog 43 #[.int .i64 (K : Int), .slice (some ⟨ga, 0, none⟩) ps.length ca, .slice Aq K cq] wx (ReadsBool true wx)) := fun wx Aq cq q hb hF hc hI hq => by
        have hGq := hch.1.2.2.1 u q hGp (GenL.of hq)
        have hiq := hch.1.1 _ hGq
        have hql : (natI (comp u q)).length = K := by rw [natI_len, hiq.len]
        have := implIsm (K : Int) ga ca (ps.map natI) Aq cq (natI (comp u q)) wx (HL.out.below (belowStep hb hB5)) hll HS.out ⟨hI, by rw [hql]; exact hc, fun _ _ => by rw [hql]; exact hF.mono (Nat.zero_le _)⟩ (by rw [hql]; omega)
        rwa [(ismQ_iff hPs hiq (okQ_natI hgs hiq h0 hN)).2 hGq, hql, hlm] at this
      have HIU := Lib.hid hiu
      have HIP := Lib.hid hIp
      have HPS := Lib.hid hPs
      have HLAT := Lib.hid HL.out.1
      clear hok hLO hFX hbad hgs hch hK hIp hu hGu hiu htk hmq hsm hul hd1 hip hPs hll hlm hGp
      go_wp2_with fail
      refine (M1.out _ (Below.refl _ _)).mono ?_
      rintro e w6 ⟨v6, rfl, hF6, hb6⟩
      obtain ⟨A6, c6, hc6, rfl, hI6⟩ := hF6.capped
      simp only [Option.getD_some] at hF6 hc6 hI6
      rw [show (natI ((some u).getD [])).length = K from HUL.out]
      rw [HUL.out] at hc6
      have hF6' : Fresh w5.heap.size w6 (.slice A6 K c6) (natI u) := by rw [← HUL.out]; exact hF6
      have HM2 := Lib.hid (M2.out w6 A6 c6 hb6 hF6' hc6 hI6)
      have HI6 := Lib.hid hI6
      clear hF6 hF6' hc6 hI6 M1 M2
      go_wp2_with fail
      refine HM2.out.mono ?_
      rintro e w7 ⟨rfl, hb7⟩
      have hB7 := belowStep hb7 hb6
      have HI7 := Lib.hid (HI6.out.below hb7)
      clear HI6 HM2
      go_wp2_with fail
      go_loopw [12] (fun z wr => ∃ (i : Nat), i ≤ ps.length ∧ z = .int .i64 (i : Int) ∧ Below w7.heap.size w7 wr) (fun z _ => ps.length - (intOf z).toNat)
      case atStart => exact ⟨0, Nat.zero_le _, rfl, Below.refl _ _⟩
      case round =>
        obtain ⟨i, hi, rfl, hB⟩ := hrel
        by_cases hlt : i < ps.length
        · have hBw1 := belowStep (belowStep hB hB7) hB5
          obtain ⟨bq, offq, Aq, cq, q, e1, hbq, hcq, hIq, hPq, hmem, hcap⟩ := (HLAT.out.below hBw1).permD HPS.out hlt
          injection e1 with e1
          injection e1 with e2 e3
          subst e2 e3
          rw [Nat.zero_add] at hcq
          have hbelow : Below w5.heap.size w5 wr := belowStep hB hB7
          have HCP := Lib.hid (specComposeP (some ⟨gp, 0, none⟩) Aq cp cq K u q wr (HIP.out.below (belowStep hbelow hB5)) hIq HIU.out hPq h0 hN hcp hcap)
          have HMEM := Lib.hid hmem
          have HPQ := Lib.hid hPq
          have p0 : (0 : Int) ≤ (i : Int) := by omega
          have p1 : (i : Int) < (ps.length : Int) := by omega
          clear hIq hPq hmem hcap
          go_wp2_with fail
          refine HCP.out.mono ?_
          rintro e w8 ⟨v8, rfl, hF8, hb8⟩
          obtain ⟨A8, c8, hc8, rfl, hI8⟩ := hF8.capped
          have hql : (natI (comp u q)).length = K := by rw [natI_len, comp_len, HIU.out.len]
          rw [hql] at hc8 ⊢
          have hF8' : Fresh w5.heap.size w8 (.slice A8 K c8) (natI (comp u q)) := by rw [← hql]; exact hF8.mono hbelow.size
          have HM4 := Lib.hid (M4.out w8 A8 c8 q (belowStep hb8 hbelow) hF8' hc8 hI8 HMEM.out)
          clear hF8 hF8' hc8 hI8 hql
          go_wp2_with fail
          refine HM4.out.mono ?_
          rintro e w9 ⟨rfl, hb9⟩
          go_wp2_with fail
          go_roundw
          case rel => exact ⟨i + 1, by omega, by go_num, belowStep hb9 (belowStep hb8 hB)⟩
          case measure => simp [intOf]; omega
        · obtain rfl : i = ps.length := by omega
          have hlk := likeI A6 (some ⟨gp, 0, none⟩) c6 cp K K (natI u) (natI u) wr (HI7.out.below hB) (HIP.out.below (belowStep (belowStep hB hB7) hB5)) HUL.out HUL.out (by omega)
          rw [decide_eq_true (rfl : natI u = natI u)] at hlk
          have HLK := Lib.hid hlk
          clear hlk
          go_wp2_with fail
          refine HLK.out.mono ?_
          rintro e w9 ⟨rfl, n9, rfl⟩
          go_wp2_with fail
          go_ret
          exact ⟨rfl, belowStep (belowStep (belowStep (belowDrewN (Below.refl _ _) n9) (belowStep hB hB7)) hB5) hB1⟩
    · have hd1 : decide (K = lp) = false := decide_eq_false hKl
      have hd2 : ((K : Int) == (lp : Int)) = false := by simp; omega
      have hlt : (K : Int) < (lp : Int) := by omega
      rw [hd1]
      have htk2 : ((natI p).take (K + 1)).length = K + 1 := by rw [List.length_take, natI_len, hip.len]; omega
      have hmq2 : mwpQ (lp : Int) (ps.map natI) ((natI p).take (K + 1)) = none := by
        rw [mwpQ_yes hgs (by rw [htk2]; omega)]
        exact lmp_pre_none hch (pre_take p (K + 1)) (by rw [htk2, hK]) (by rw [hK]; omega)
      have hw1 : IntKind.i64.wrap ((K : Int) + 1) = (K : Int) + 1 := IntWalk.i64_in _ (by omega)
      have M3 : Hid (∀ wx : World, Below w5.heap.size w5 wx → Calls Try.prog 33 #[.int .i64 (lp : Int), .slice (some ⟨ga, 0, none⟩) ps.length ca, .slice (some ⟨gp, 0, none⟩) (K + 1) cp] wx (ReadsOpt none wx)) := fun wx hb => by
        have := implMwp (lp : Int) ga ca (ps.map natI) (some ⟨gp, 0, none⟩) cp ((natI p).take (K + 1)) wx (hLO.below (belowStep hb hB5)) hll HS.out ((hIp.take (K + 1)).below (belowStep hb hB5)) (by rw [htk2]; omega) (fits_natI hip hN (K + 1))
        rwa [hmq2, htk2, hlm] at this
      have r0 : (0 : Int) ≤ (K : Int) + 1 := by omega
      have r1 : (K : Int) + 1 ≤ (lp : Int) := by omega
      have r2 : (K : Int) + 1 ≤ (cp : Int) := by omega
      have r3 : K + 1 ≤ cp := by omega
      have r5 : ¬ lp < K + 1 := by omega
      have r6 : ((K : Int) + 1).toNat = K + 1 := by omega
      clear hok hLO hFX hbad hgs hch hK hIp hu hGu hiu htk hmq hsm hul hKl hd1 htk2 hmq2 hip hPs hll hlm
      go_wp2_with fail
      refine (M1.out _ (Below.refl _ _)).mono ?_
      rintro e w6 ⟨v6, rfl, hF6, hb6⟩
      obtain ⟨A6, c6, hc6, rfl, hI6⟩ := hF6.capped
      simp only [Option.getD_some] at hF6 hc6 hI6
      rw [show (natI ((some u).getD [])).length = lp from HUL.out]
      rw [HUL.out] at hc6
      have hF6' : Fresh w5.heap.size w6 (.slice A6 lp c6) (natI u) := by rw [← HUL.out]; exact hF6
      have HM2 := Lib.hid (M2.out w6 A6 c6 hb6 hF6' hc6 hI6)
      clear hF6 hF6' hc6 hI6 M1 M2
      go_wp2_with fail
      refine HM2.out.mono ?_
      rintro e w7 ⟨rfl, hb7⟩
      have hB7 := belowStep hb7 hb6
      go_wp2_with fail
      refine (M3.out _ hB7).mono ?_
      rintro e w8 ⟨v8, rfl, hF8, hb8⟩
      obtain ⟨A8, c8, hc8, rfl, -⟩ := hF8.capped
      clear hF8 hc8
      go_wp2_with fail
      go_ret
      exact ⟨rfl, belowStep (belowStep (belowStep hb8 hB7) hB5) hB1⟩
theorem own : ownKnob Try.prog.godebug = none := by kernel_rfl
theorem laidOut : laidOutB Try.prog = true := by kernel_rfl
set_option maxRecDepth 100000 in
theorem lifted (os : Os) (started : os.Started) (H : Type) (enc : TypeId × Value → H) :
    ReturnsInHanded {} Try.checked os 10 .any (Rows.fnMembershipSpec.pre6 enc Try.prog Try.f10 Rows.fnMembershipRow.domain false) (Rows.fnMembershipSpec.post enc Try.prog Try.f10 false true false false) := by
  refine returnsInHanded_of_change (C := Try.checked) own started (by kernel_rfl) Try.func10
    (ChangeSpec.witness6 (enc := enc) (C := Try.checked) false ⟨#[], #[.slice none 0 0], []⟩ 8 (by kernel_rfl) (by kernel_rfl) (by kernel_rfl) (by kernel_rfl)) ?_
  intro W base args ds gs before hval0 hW hcnd _
  have hval : ∀ (j : Nat) t v, Try.f10.params[j]? = some t → args[j]? = some v → Value.okWide Try.prog W .any base t v := hval0
  have hW' := hW
  obtain ⟨p, q, hA0, hV, rfl, hfz, hnd⟩ := hW
  have hA : DataW.TrodAll enc Try.prog W 0 (fun _ => true) true Try.f10.params.toList args.toList ds p := hA0
  rw [Try.params10] at hA hval
  obtain ⟨v0, vs0, d0, ds0, p0, q0, hargs, rfl, rfl, h0, r0⟩ := trodAll_cons hA
  obtain ⟨rfl, rfl, rfl⟩ := trodAll_nil r0
  obtain rfl : args = #[v0] := by cases args; simp_all
  obtain ⟨rfl, rfl⟩ := trodVars_none hV
  have lt0 : ∀ x ∈ p0, x.block < W.heap.size := by obtain ⟨m, hm⟩ := h0; exact DataW.trod_lt m _ _ _ hm
  obtain ⟨A0, c0, x0, rfl, i0, m0⟩ := arg_bytes (hval 0 37 v0 rfl rfl) h0
  clear hA0 hval0
  refine (walk A0 c0 x0 W i0 m0).mono fun e W' ⟨he, bel⟩ => ?_
  subst he
  exact ⟨_, rfl, _, _, _, [], _, [], hW', trodAll_mk1 (shut_bool Try.underlying4 _), (trodAll_cons_mk (Below.trod laidOut (by kernel_rfl) (of_decide_eq_true (by kernel_rfl)) h0 bel lt0) trodAll_mk0), rfl, bel.frame _, fun h => by cases h⟩
theorem fact_wf : Rows.fnMembershipRow.wf (OpenSpec.ofChange Rows.fnMembershipSpec) = true := by kernel_rfl
theorem fact_pars : Try.f10.params.all (Try.prog.readableRec ·) = true := by kernel_rfl
theorem fact_tie : namedTie Try.prog Rows.fnMembershipRow.named Rows.fnMembershipSpec.vars = true := by kernel_rfl
theorem fact_st : (Rows.fnMembershipRow.stops == []) = true := by kernel_rfl
theorem fact_kn : (Rows.fnMembershipRow.knobs == []) = true := by kernel_rfl
theorem fact_inp : (Rows.fnMembershipRow.inPlace == Try.prog.inPlace 10) = true := by kernel_rfl
theorem fact_unf : (Rows.fnMembershipRow.unfollowed == Try.prog.unfollowed 10) = true := by kernel_rfl
theorem fact_rec : (Rows.fnMembershipRow.recurses == Try.prog.recurses 10) = true := by kernel_rfl
theorem fact_nam : (Rows.fnMembershipRow.named == Try.prog.varsNamed 10) = true := by kernel_rfl
theorem fact_mp : (Rows.fnMembershipRow.maps == (Try.f10.params.toList ++ Rows.fnMembershipSpec.plain.varTypes Try.prog).any (Try.prog.mapsRec ·)) = true := by kernel_rfl
theorem fact_ifc : (Rows.fnMembershipRow.ifaces == (Try.f10.params.toList ++ Rows.fnMembershipSpec.plain.varTypes Try.prog).any (Try.prog.ifacesRec ·)) = true := by kernel_rfl
theorem fact_mo : (Rows.fnMembershipRow.mapsOut == Try.prog.mapsAmong Try.f10.resultTypes.toList) = true := by kernel_rfl
theorem fact_lo : (Rows.fnMembershipRow.loops == (Try.f10.params.toList ++ Rows.fnMembershipSpec.plain.varTypes Try.prog).any (Try.prog.loopsFrom ·)) = true := by kernel_rfl
theorem fact_wk : (Rows.fnMembershipRow.wideKeys == (Try.f10.params.toList ++ Rows.fnMembershipSpec.plain.varTypes Try.prog ++ Try.f10.resultTypes.toList).any (Try.prog.wideKeysFrom ·)) = true := by kernel_rfl
theorem fact_vs : Rows.fnMembershipSpec.vars.all (Try.prog.varReadable ·) = true := by kernel_rfl
theorem fact_res : Try.f10.resultTypes.all (fun t => Try.prog.readableRec t && decide (t < Try.prog.types.size)) = true := by kernel_rfl
theorem fact_io : (Rows.fnMembershipRow.ifacesOut == Try.f10.resultTypes.toList.any (Try.prog.ifacesRec ·)) = true := by kernel_rfl
theorem fact_loo : (Rows.fnMembershipRow.loopsOut == Try.f10.resultTypes.toList.any (Try.prog.loopsFrom ·)) = true := by kernel_rfl
theorem fact_pk : (Rows.fnMembershipRow.plainKeys == Try.prog.plainKeys) = true := by kernel_rfl
theorem fact_sh : Rows.fnMembershipRow.shortTexts.isNone = true := by kernel_rfl
theorem fact_li : (Rows.fnMembershipRow.lifted == Try.prog.liftsFinal) = true := by rw [fact_finals]; rfl
theorem fact_mk : (Try.prog.make == some Rows.fnMembershipRow.make) = true := by rw [fact_make]; rfl
theorem fact_kd : (Rows.fnMembershipRow.kinds == (if Rows.fnMembershipRow.domain.isEmpty then [] else Try.f10.params.toList.map fun t => match Try.prog.underlying t with | some (.int k) => some k | _ => none)) = true := by kernel_rfl
theorem fact_pi : (Rows.fnMembershipRow.pinned == Rows.fnMembershipRow.pinnedBy) = true := by kernel_rfl
theorem fact_ve : (Rows.fnMembershipRow.veiled == (Try.f10.params.toList ++ Rows.fnMembershipSpec.plain.varTypes Try.prog ++ Try.f10.resultTypes.toList).any (Try.prog.veiledRec ·)) = true := by kernel_rfl
theorem fact_vf : Rows.fnMembershipRow.veiledFits Try.prog Try.f10.params.toList (Try.f10.params.toList ++ Rows.fnMembershipSpec.plain.varTypes Try.prog ++ Try.f10.resultTypes.toList) = true := by kernel_rfl
set_option maxRecDepth 100000 in
theorem facts : joinedFacts Try.prog 10 Try.f10 Rows.fnMembershipSpec Rows.fnMembershipRow = true := facts_of fact_wf fact_laid fact_rowed fact_pars fact_tie fact_st fact_pst fact_kn fact_pkn fact_inp fact_unf fact_rec fact_nam fact_mp fact_ifc fact_mo fact_lo fact_wk fact_vs fact_res fact_io fact_loo fact_pk fact_sh fact_hd fact_me fact_li fact_mk fact_kd fact_pi fact_ve fact_vf
theorem fact_fn : Try.prog.funcNamed Rows.fnMembershipRow.func = some 10 := by kernel_rfl
theorem fact_inst : Try.f10.isInstance Try.prog Rows.fnMembershipRow.origin Rows.fnMembershipRow.targs := of_decide_eq_true (by kernel_rfl)
theorem fact_wrap : Try.f10.isWrapper Try.prog Rows.fnMembershipRow.wrapper Rows.fnMembershipRow.mainSum := by unfold Func.isWrapper; first | (rw [if_pos (by decide +kernel)]; kernel_rfl) | (rw [if_neg (by decide +kernel)]; exact ⟨rfl, rfl⟩)
theorem over : Rows.fnMembershipRow.holds Try.pinned (OpenSpec.ofChange Rows.fnMembershipSpec) :=
  OpenClaim.holds_of_wide 10 Try.f10 rfl rfl rfl rfl rfl rfl rfl ⟨rfl, rfl, rfl, rfl, rfl⟩ rfl rfl rfl rfl rfl fact_fn Try.func10 facts fact_inst fact_wrap
    (fun os started H enc _ => lifted os started H enc)
theorem proved : Rows.FnMembershipSaid := over
#print axioms proved
end Go.Proofs.Ytpcnbjfkobeibaa.lawFMem
