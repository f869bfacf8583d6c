/- FnCosets: for every code the law returns true. No conditions. -/
import Derived.Test.YtpcnbjfkobeibaaLt
import Derived.Test.YtpcnbjfkobeibaaDe
import Derived.Test.YtpcnbjfkobeibaaOpen
namespace Go.Proofs.Ytpcnbjfkobeibaa.lawFCos
open Go.RowKit Go.ChangeShapes Go.WideShapes Go.ChangeAt Grp
set_option maxRecDepth 100000

theorem bne_same (b : Bool) : (b != b) = false := by cases b <;> rfl
set_option maxHeartbeats 8000000 in
theorem walk (A : Option Addr) (c : Nat) (xs : List Int) (w : World) (hx : BytesAt w A xs) (_hm : xs.length ≤ maxLen) :
    Calls Try.prog 11 #[.slice A xs.length c] w fun e w' => e = .returned (.bool true) ∧ Below w.heap.size w w' := by
  by_cases hl : 4096 < xs.length
  · have hd : decide (4096 < xs.length) = true := by simpa using hl
    go_enter Try.func11, Try.ntmps11
    go_wp2_with (first | (go_at_call 41; refine (big_any _ _ _ _).mono ?_; rintro e w' ⟨rfl, rfl⟩))
    go_ret
    exact ⟨rfl, Below.refl _ _⟩
  have hd : decide (4096 < xs.length) = false := by simpa using hl
  go_enter Try.func11, Try.ntmps11
  go_wp2_with (first | (go_at_call 41; refine (big_any _ _ _ _).mono ?_; rintro e w' ⟨rfl, rfl⟩))
  refine (drewSC A c xs _ hx (by omega)).mono ?_
  rintro e w1 ⟨n, ga, ca, la, Ap, cp, ps, Aq, cq, qs, rfl, hL, hP, hQ, hB1⟩
  have hll : la.length ≤ 1048576 := by have := hL.2.1; omega
  have hpl : ps.length ≤ 1048576 := by have := hP.2; omega
  have hql : qs.length ≤ 1048576 := by have := hQ.2; omega
  have HS := Lib.hid hL.short
  have HL := Lib.hid hL.may
  have HP := Lib.hid hP.may
  have HQ := Lib.hid hQ.may
  obtain ⟨sc, hsc⟩ : ∃ sc, scQ n la ps qs = sc := ⟨_, rfl⟩
  obtain ⟨x, hxx⟩ : ∃ x, cosQ n la ps = x := ⟨_, rfl⟩
  obtain ⟨y, hyy⟩ : ∃ y, cosQ n la qs = y := ⟨_, rfl⟩
  have HSC := Lib.hid hsc
  have HXX := Lib.hid hxx
  have HYY := Lib.hid hyy
  have hxlen := cosQ_len n la ps
  have hylen := cosQ_len n la qs
  rw [hxx] at hxlen
  rw [hyy] at hylen
  have HXN := Lib.hid hxlen
  have HYN := Lib.hid hylen
  obtain ⟨lp, hlp⟩ : ∃ lp, ps.length = lp := ⟨_, rfl⟩
  obtain ⟨lq, hlq⟩ : ∃ lq, qs.length = lq := ⟨_, rfl⟩
  -- the calls, at any later world
  have C1 : Hid (∀ wx : World, Below w1.heap.size w1 wx → Calls Try.prog 48 #[.int .i64 n, .slice (some ⟨ga, 0, none⟩) la.length ca, .slice Ap lp cp, .slice Aq lq cq] wx (ReadsBool sc wx)) := fun wx hb => by
    have := implSc n ga ca la Ap Aq cp cq ps qs wx (HL.out.below hb) hll HS.out (HP.out.below hb) (HQ.out.below hb) hpl hql
    rwa [hlp, hlq, hsc] at this
  have C2 : Hid (∀ wx : World, Below w1.heap.size w1 wx → Calls Try.prog 49 #[.int .i64 n, .slice (some ⟨ga, 0, none⟩) la.length ca, .slice Ap lp cp, .slice Aq lq cq] wx (ReadsBool sc wx)) := fun wx hb => by
    have := specSc n ga ca la Ap Aq cp cq ps qs wx (HL.out.below hb) hll HS.out (HP.out.below hb) (HQ.out.below hb) hpl hql
    rwa [hlp, hlq, hsc] at this
  have C3 : Hid (∀ wx : World, Below w1.heap.size w1 wx → Calls Try.prog 31 #[.int .i64 n, .slice (some ⟨ga, 0, none⟩) la.length ca, .slice Ap lp cp] wx (ReadsPerm x wx)) := fun wx hb => by
    have := implCosM n ga ca la Ap cp ps wx (HL.out.below hb) hll HS.out (HP.out.below hb) hpl
    rwa [hlp, hxx] at this
  have C4 : Hid (∀ wx : World, Below w1.heap.size w1 wx → Calls Try.prog 31 #[.int .i64 n, .slice (some ⟨ga, 0, none⟩) la.length ca, .slice Aq lq cq] wx (ReadsPerm y wx)) := fun wx hb => by
    have := implCosM n ga ca la Aq cq qs wx (HL.out.below hb) hll HS.out (HQ.out.below hb) hql
    rwa [hlq, hyy] at this
  have C5 : Hid (∀ wx : World, Below w1.heap.size w1 wx → Calls Try.prog 30 #[.int .i64 n, .slice (some ⟨ga, 0, none⟩) la.length ca, .slice Ap lp cp] wx (ReadsPerm x wx)) := fun wx hb => by
    have := specCosM n ga ca la Ap cp ps wx (HL.out.below hb) hll HS.out (HP.out.below hb) hpl
    rwa [hlp, hxx] at this
  rw [hlp, hlq]
  have HLP := Lib.hid hlp
  have HLQ := Lib.hid hlq
  clear hL hP hQ hsc hxx hyy hlp hlq hd hpl hql hxlen hylen
  go_wp2_with fail
  refine (C1.out _ (Below.refl _ _)).mono ?_
  rintro e w2 ⟨rfl, hb2⟩
  go_wp2_with fail
  refine (C3.out _ hb2).mono ?_
  rintro e w3 ⟨v3, rfl, hF3, hb3⟩
  have hB3 := belowStep hb3 hb2
  obtain ⟨A3, c3, hc3, rfl, hI3⟩ := hF3.capped
  have hz13 : w1.heap.size ≤ w2.heap.size := hb2.size
  have HF3 := Lib.hid (hF3.mono hz13)
  have hnx : (natI x).length = x.length := natI_len x
  obtain ⟨lx, hlx⟩ : ∃ lx, (natI x).length = lx := ⟨_, rfl⟩
  rw [hlx] at hc3 HF3 ⊢
  have HLX := Lib.hid hlx
  have hI3 := Lib.hid hI3
  clear hF3 hlx hnx
  go_wp2_with fail
  refine (C4.out _ hB3).mono ?_
  rintro e w4 ⟨v4, rfl, hF4, hb4⟩
  have hB4 := belowStep hb4 hB3
  obtain ⟨A4, c4, hc4, rfl, hI4⟩ := hF4.capped
  obtain ⟨ly, hly⟩ : ∃ ly, (natI y).length = ly := ⟨_, rfl⟩
  rw [hly] at hc4 ⊢
  have HLY := Lib.hid hly
  have HI4 := Lib.hid hI4
  have HI3 := Lib.hid (hI3.out.below hb4)
  have HF3 := Lib.hid (HF3.out.below hb4)
  clear hF4 hly hI4 hI3
  go_wp2_with fail
  refine (C2.out _ hB4).mono ?_
  rintro e w5 ⟨rfl, hb5⟩
  have hB5 := belowStep hb5 hB4
  have HI4 := Lib.hid (HI4.out.below hb5)
  have HI3 := Lib.hid (HI3.out.below hb5)
  have HF3 := Lib.hid (HF3.out.below hb5)
  have hss := bne_same sc
  go_wp2_with fail
  refine (C5.out _ hB5).mono ?_
  rintro e w6 ⟨v6, rfl, hF6, hb6⟩
  have hB6 := belowStep hb6 hB5
  obtain ⟨A6, c6, hc6, rfl, hI6⟩ := hF6.capped
  have HI6 := Lib.hid hI6
  have HI4 := Lib.hid (HI4.out.below hb6)
  have HI3 := Lib.hid (HI3.out.below hb6)
  have HF3 := Lib.hid (HF3.out.below hb6)
  rw [HLX.out]
  have hlk := likeI A3 A6 c3 c6 lx lx (natI x) (natI x) w6 HI3.out HI6.out HLX.out HLX.out (by rw [← HLX.out, natI_len]; have := HXN.out; omega)
  rw [decide_eq_true (rfl : natI x = natI x)] at hlk
  have HLK := Lib.hid hlk
  clear hF6 hI6 hlk
  go_wp2_with fail
  refine HLK.out.mono ?_
  rintro e w7 ⟨rfl, n7, rfl⟩
  have hb7 := belowDrewN (Below.refl w6.heap.size w6) n7
  have hB7 := belowStep hb7 hB6
  obtain ⟨w7, hw7⟩ : ∃ w7, w6.drewN n7 = w7 := ⟨_, rfl⟩
  rw [hw7] at hb7 hB7 ⊢
  have HI4 := Lib.hid (HI4.out.below hb7)
  have HI3 := Lib.hid (HI3.out.below hb7)
  have HF3 := Lib.hid (HF3.out.below hb7)
  clear HLK HI6 hw7
  by_cases h0 : lx = 0 ∨ ly = 0
  · have hno : sc = false := by
      have := cosets_no (n := n) (ls := la) (ps := ps) (qs := qs) (by rw [HXX.out, HYY.out, ← natI_len x, ← natI_len y, HLX.out, HLY.out]; exact h0)
      rw [← HSC.out]; exact this
    subst hno
    rcases Nat.eq_zero_or_pos lx with hx0 | hx0
    · have hx0' : ((lx : Int) == 0) = true := by simp; omega
      clear h0 hx0
      go_wp2_with fail
      go_ret
      exact ⟨rfl, belowStep hB7 hB1⟩
    · have hx0' : ((lx : Int) == 0) = false := by simp; omega
      have hy0' : ((ly : Int) == 0) = true := by simp; omega
      clear h0 hx0
      go_wp2_with fail
      go_ret
      exact ⟨rfl, belowStep hB7 hB1⟩
  · have hx0' : ((lx : Int) == 0) = false := by simp; omega
    have hy0' : ((ly : Int) == 0) = false := by simp; omega
    obtain ⟨N, l, p, x', rfl, rfl, rfl, hcx, hN0, hN, hip, hix, hscq, hself, hleast⟩ := cosets_yes (n := n) (ls := la) (ps := ps) (qs := qs) (by rw [HXX.out, ← natI_len x, HLX.out]; omega) (by rw [HYY.out, ← natI_len y, HLY.out]; omega)
    have hxe : x' = x := by rw [← hcx, HXX.out]
    subst hxe
    have hlx : lx = N := by rw [← HLX.out, natI_len, hix.len]
    have hlp : lp = N := by rw [← HLP.out, natI_len, hip.len]
    subst hlx
    subst hlp
    rw [HXX.out, HYY.out, HSC.out] at hscq
    have hlk := likeI A3 A4 c3 c4 lp ly (natI x') (natI y) w7 HI3.out HI4.out HLX.out HLY.out (by omega)
    have hnn : decide (natI x' = natI y) = decide (x' = y) := decide_eq_decide.2 ⟨fun h => by rw [← toN_natI x', h, toN_natI], fun h => by rw [h]⟩
    rw [hnn, ← hscq] at hlk
    have hmay : IMay (lp : Int) (l.map natI) w7 A3 c3 (natI x') := ⟨HI3.out, by rw [HLX.out]; exact hc3, fun _ _ => by rw [HLX.out]; exact HF3.out.mono (Nat.zero_le _)⟩
    have hc2 : ∀ wx : World, Below w7.heap.size w7 wx → Calls Try.prog 48 #[.int .i64 (lp : Int), .slice (some ⟨ga, 0, none⟩) l.length ca, .slice A3 lp c3, .slice Ap lp cp] wx (ReadsBool true wx) := fun wx hb => by
      have := implSc (lp : Int) ga ca (l.map natI) A3 Ap c3 cp (natI x') (natI p) wx (HL.out.below (belowStep hb hB7)) hll HS.out (hmay.below hb) (HP.out.below (belowStep hb hB7)) (by rw [HLX.out]; omega) (by rw [HLP.out]; omega)
      rwa [HLX.out, HLP.out, hself, List.length_map] at this
    have hc3' : ∀ wx : World, Below w7.heap.size w7 wx → Calls Try.prog 50 #[.slice Ap lp cp, .slice A3 lp c3] wx (Quiet (.bool false) wx) := fun wx hb =>
      specLessNo Ap A3 cp c3 lp p x' wx (HP.out.below (belowStep hb hB7)).1 (HI3.out.below hb) hip hix hN0 hN (by have := HP.out.2.1; rw [HLP.out] at this; exact this) hc3 hleast
    have HLK := Lib.hid hlk
    have HC2 := Lib.hid hc2
    have HC3 := Lib.hid hc3'
    have hbs : (sc == sc) = true := by simp
    clear hlk hc2 hc3' hnn hscq hself hleast hip hix hcx h0 hmay
    go_wp2_with fail
    refine HLK.out.mono ?_
    rintro e w8 ⟨rfl, n8, rfl⟩
    have hb8 := belowDrewN (Below.refl w7.heap.size w7) n8
    go_wp2_with fail
    refine (HC2.out _ hb8).mono ?_
    rintro e w9 ⟨rfl, hb9⟩
    have hB9 := belowStep hb9 hb8
    go_wp2_with fail
    refine (HC3.out _ hB9).mono ?_
    rintro e w10 ⟨rfl, n10, rfl⟩
    go_wp2_with fail
    go_ret
    exact ⟨rfl, belowStep (belowStep (belowStep (belowDrewN (Below.refl _ _) n10) hB9) hB7) hB1⟩
theorem own : ownKnob Try.prog.godebug = none := by kernel_rfl
theorem laidOut : laidOutB Try.prog = true := by kernel_rfl
set_option maxRecDepth 100000 in
theorem lifted (os : Os) (started : os.Started) (H : Type) (enc : TypeId × Value → H) :
    ReturnsInHanded {} Try.checked os 11 .any (Rows.fnCosetsSpec.pre6 enc Try.prog Try.f11 Rows.fnCosetsRow.domain false) (Rows.fnCosetsSpec.post enc Try.prog Try.f11 false true false false) := by
  refine returnsInHanded_of_change (C := Try.checked) own started (by kernel_rfl) Try.func11
    (ChangeSpec.witness6 (enc := enc) (C := Try.checked) false ⟨#[], #[.slice none 0 0], []⟩ 8 (by kernel_rfl) (by kernel_rfl) (by kernel_rfl) (by kernel_rfl)) ?_
  intro W base args ds gs before hval0 hW hcnd _
  have hval : ∀ (j : Nat) t v, Try.f11.params[j]? = some t → args[j]? = some v → Value.okWide Try.prog W .any base t v := hval0
  have hW' := hW
  obtain ⟨p, q, hA0, hV, rfl, hfz, hnd⟩ := hW
  have hA : DataW.TrodAll enc Try.prog W 0 (fun _ => true) true Try.f11.params.toList args.toList ds p := hA0
  rw [Try.params11] at hA hval
  obtain ⟨v0, vs0, d0, ds0, p0, q0, hargs, rfl, rfl, h0, r0⟩ := trodAll_cons hA
  obtain ⟨rfl, rfl, rfl⟩ := trodAll_nil r0
  obtain rfl : args = #[v0] := by cases args; simp_all
  obtain ⟨rfl, rfl⟩ := trodVars_none hV
  have lt0 : ∀ x ∈ p0, x.block < W.heap.size := by obtain ⟨m, hm⟩ := h0; exact DataW.trod_lt m _ _ _ hm
  obtain ⟨A0, c0, x0, rfl, i0, m0⟩ := arg_bytes (hval 0 37 v0 rfl rfl) h0
  clear hA0 hval0
  refine (walk A0 c0 x0 W i0 m0).mono fun e W' ⟨he, bel⟩ => ?_
  subst he
  exact ⟨_, rfl, _, _, _, [], _, [], hW', trodAll_mk1 (shut_bool Try.underlying4 _), (trodAll_cons_mk (Below.trod laidOut (by kernel_rfl) (of_decide_eq_true (by kernel_rfl)) h0 bel lt0) trodAll_mk0), rfl, bel.frame _, fun h => by cases h⟩
theorem fact_wf : Rows.fnCosetsRow.wf (OpenSpec.ofChange Rows.fnCosetsSpec) = true := by kernel_rfl
theorem fact_pars : Try.f11.params.all (Try.prog.readableRec ·) = true := by kernel_rfl
theorem fact_tie : namedTie Try.prog Rows.fnCosetsRow.named Rows.fnCosetsSpec.vars = true := by kernel_rfl
theorem fact_st : (Rows.fnCosetsRow.stops == []) = true := by kernel_rfl
theorem fact_kn : (Rows.fnCosetsRow.knobs == []) = true := by kernel_rfl
theorem fact_inp : (Rows.fnCosetsRow.inPlace == Try.prog.inPlace 11) = true := by kernel_rfl
theorem fact_unf : (Rows.fnCosetsRow.unfollowed == Try.prog.unfollowed 11) = true := by kernel_rfl
theorem fact_rec : (Rows.fnCosetsRow.recurses == Try.prog.recurses 11) = true := by kernel_rfl
theorem fact_nam : (Rows.fnCosetsRow.named == Try.prog.varsNamed 11) = true := by kernel_rfl
theorem fact_mp : (Rows.fnCosetsRow.maps == (Try.f11.params.toList ++ Rows.fnCosetsSpec.plain.varTypes Try.prog).any (Try.prog.mapsRec ·)) = true := by kernel_rfl
theorem fact_ifc : (Rows.fnCosetsRow.ifaces == (Try.f11.params.toList ++ Rows.fnCosetsSpec.plain.varTypes Try.prog).any (Try.prog.ifacesRec ·)) = true := by kernel_rfl
theorem fact_mo : (Rows.fnCosetsRow.mapsOut == Try.prog.mapsAmong Try.f11.resultTypes.toList) = true := by kernel_rfl
theorem fact_lo : (Rows.fnCosetsRow.loops == (Try.f11.params.toList ++ Rows.fnCosetsSpec.plain.varTypes Try.prog).any (Try.prog.loopsFrom ·)) = true := by kernel_rfl
theorem fact_wk : (Rows.fnCosetsRow.wideKeys == (Try.f11.params.toList ++ Rows.fnCosetsSpec.plain.varTypes Try.prog ++ Try.f11.resultTypes.toList).any (Try.prog.wideKeysFrom ·)) = true := by kernel_rfl
theorem fact_vs : Rows.fnCosetsSpec.vars.all (Try.prog.varReadable ·) = true := by kernel_rfl
theorem fact_res : Try.f11.resultTypes.all (fun t => Try.prog.readableRec t && decide (t < Try.prog.types.size)) = true := by kernel_rfl
theorem fact_io : (Rows.fnCosetsRow.ifacesOut == Try.f11.resultTypes.toList.any (Try.prog.ifacesRec ·)) = true := by kernel_rfl
theorem fact_loo : (Rows.fnCosetsRow.loopsOut == Try.f11.resultTypes.toList.any (Try.prog.loopsFrom ·)) = true := by kernel_rfl
theorem fact_pk : (Rows.fnCosetsRow.plainKeys == Try.prog.plainKeys) = true := by kernel_rfl
theorem fact_sh : Rows.fnCosetsRow.shortTexts.isNone = true := by kernel_rfl
theorem fact_li : (Rows.fnCosetsRow.lifted == Try.prog.liftsFinal) = true := by rw [fact_finals]; rfl
theorem fact_mk : (Try.prog.make == some Rows.fnCosetsRow.make) = true := by rw [fact_make]; rfl
theorem fact_kd : (Rows.fnCosetsRow.kinds == (if Rows.fnCosetsRow.domain.isEmpty then [] else Try.f11.params.toList.map fun t => match Try.prog.underlying t with | some (.int k) => some k | _ => none)) = true := by kernel_rfl
theorem fact_pi : (Rows.fnCosetsRow.pinned == Rows.fnCosetsRow.pinnedBy) = true := by kernel_rfl
theorem fact_ve : (Rows.fnCosetsRow.veiled == (Try.f11.params.toList ++ Rows.fnCosetsSpec.plain.varTypes Try.prog ++ Try.f11.resultTypes.toList).any (Try.prog.veiledRec ·)) = true := by kernel_rfl
theorem fact_vf : Rows.fnCosetsRow.veiledFits Try.prog Try.f11.params.toList (Try.f11.params.toList ++ Rows.fnCosetsSpec.plain.varTypes Try.prog ++ Try.f11.resultTypes.toList) = true := by kernel_rfl
set_option maxRecDepth 100000 in
theorem facts : joinedFacts Try.prog 11 Try.f11 Rows.fnCosetsSpec Rows.fnCosetsRow = true := facts_of fact_wf fact_laid fact_rowed fact_pars fact_tie fact_st fact_pst fact_kn fact_pkn fact_inp fact_unf fact_rec fact_nam fact_mp fact_ifc fact_mo fact_lo fact_wk fact_vs fact_res fact_io fact_loo fact_pk fact_sh fact_hd fact_me fact_li fact_mk fact_kd fact_pi fact_ve fact_vf
theorem fact_fn : Try.prog.funcNamed Rows.fnCosetsRow.func = some 11 := by kernel_rfl
theorem fact_inst : Try.f11.isInstance Try.prog Rows.fnCosetsRow.origin Rows.fnCosetsRow.targs := of_decide_eq_true (by kernel_rfl)
theorem fact_wrap : Try.f11.isWrapper Try.prog Rows.fnCosetsRow.wrapper Rows.fnCosetsRow.mainSum := by unfold Func.isWrapper; first | (rw [if_pos (by decide +kernel)]; kernel_rfl) | (rw [if_neg (by decide +kernel)]; exact ⟨rfl, rfl⟩)
theorem over : Rows.fnCosetsRow.holds Try.pinned (OpenSpec.ofChange Rows.fnCosetsSpec) :=
  OpenClaim.holds_of_wide 11 Try.f11 rfl rfl rfl rfl rfl rfl rfl ⟨rfl, rfl, rfl, rfl, rfl⟩ rfl rfl rfl rfl rfl fact_fn Try.func11 facts fact_inst fact_wrap
    (fun os started H enc _ => lifted os started H enc)
theorem proved : Rows.FnCosetsSaid := over
#print axioms proved
end Go.Proofs.Ytpcnbjfkobeibaa.lawFCos
