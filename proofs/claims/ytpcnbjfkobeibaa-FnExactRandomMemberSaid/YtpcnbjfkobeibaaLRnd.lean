/- FnExactRandomMember: for all arguments, both packages give one answer, in memory of its own, and the arguments stay as they were. No conditions. -/
import Derived.Test.YtpcnbjfkobeibaaRn
import Derived.Test.YtpcnbjfkobeibaaOpen
import Derived.Test.YtpcnbjfkobeibaaLo
namespace Go.Proofs.Ytpcnbjfkobeibaa.lawRnd
open Go.RowKit Go.ChangeShapes Go.WideShapes Go.ChangeAt
set_option maxRecDepth 100000
set_option maxHeartbeats 8000000 in
theorem walk (a0 : Int) (A1 : Option Addr) (c1 : Nat) (x1 : List (List Int)) (a2 : Int) (w : World) (_b0 : -9223372036854775808 ≤ a0 ∧ a0 ≤ 9223372036854775807) (i1 : LAt w A1 x1) (m1 : x1.length ≤ maxLen ∧ ∀ i, i < x1.length → (x1.getD i []).length ≤ maxLen) (_b2 : -9223372036854775808 ≤ a2 ∧ a2 ≤ 9223372036854775807) :
    Calls Try.prog 13 #[.int .i64 a0, .slice A1 x1.length c1, .int .i64 a2] w fun e w' => e = .returned (.bool true) ∧ Below w.heap.size w w' := by
  unfold maxLen at m1
  go_enter Try.func13, Try.ntmps13
  go_wp2_with fail
  refine (szLists A1 c1 x1 _ i1 m1.1 m1.2).mono ?_
  rintro e w1 ⟨q, rfl, hq, rfl⟩
  have HQ := Lib.hid hq
  clear hq m1
  by_cases hneg : q < 0
  · go_wp2_with fail
    go_ret
    exact ⟨rfl, Below.refl _ _⟩
  · obtain ⟨hl, hs⟩ := HQ.out (by omega)
    have HS := Lib.hid hs
    have HT := Lib.hid (totTo_le hs)
    clear hs HQ
    obtain ⟨o, hr⟩ : ∃ o, rndQ a0 x1 a2 = o := ⟨_, rfl⟩
    have hrl := rndQ_len a0 x1 a2
    rw [hr] at hrl
    obtain ⟨r, hro⟩ : ∃ r, o.getD [] = r := ⟨_, rfl⟩
    rw [hro] at hrl
    have HRO := Lib.hid hro
    have hrl2 : (natI r).length ≤ 1048576 := by rw [natI_len]; omega
    have hrs : sameB (natI r) (natI r) = true := sameB_yes rfl
    clear hro
    obtain ⟨ob, hob⟩ : ∃ ob, o.isSome = ob := ⟨_, rfl⟩
    have HOB := Lib.hid hob
    clear hob
    have HR := Lib.hid hr
    clear hr
    go_wp2_with fail
    refine (toListsB A1 c1 x1 _ (i1) hl HS.out).mono ?_
    rintro e w2 ⟨g2, rfl, hO2, hL2, hb2⟩
    have hB2 : Below w.heap.size w w2 := hb2
    have hcall := specRnd a0 g2 x1.length x1 a2 w2 hO2 hl HS.out
    rw [HR.out] at hcall
    have HCALL := Lib.hid hcall
    clear hcall
    go_wp2_with fail
    refine HCALL.out.mono ?_
    rintro e w4 ⟨v4, rfl, hF4, hb4⟩
    rw [HRO.out] at hF4
    rw [HOB.out]
    obtain ⟨A4, c4, rfl, hI4, -⟩ := hF4.ints
    have hB4 := belowStep hb4 hB2
    clear HCALL
    clear hO2 hL2
    go_wp2_with fail
    refine (toListsB A1 c1 x1 _ (i1.below hB4) hl HS.out).mono ?_
    rintro e w5 ⟨g5, rfl, hO5, hL5, hb5⟩
    have hB5 : Below w.heap.size w w5 := belowStep hb5 hB4
    have hcall := implRnd a0 g5 x1.length x1 a2 w5 hO5 hl HS.out
    rw [HR.out] at hcall
    have HCALL := Lib.hid hcall
    clear hcall
    go_wp2_with fail
    refine HCALL.out.mono ?_
    rintro e w7 ⟨v7, rfl, hF7, hb7⟩
    rw [HRO.out] at hF7
    rw [HOB.out]
    obtain ⟨A7, c7, rfl, hI7, -⟩ := hF7.ints
    have hB7 := belowStep hb7 hB5
    clear HCALL
    have hO5 := hO5.below hb7
    have hL5 := hL5.below hb7
    have hI4b : IntsAt w7 A4 (natI r) := ((hI4.below hb5)).below hb7
    have hz34 : w2.heap.size ≤ w4.heap.size := hb4.size
    have hz45 : w4.heap.size ≤ w5.heap.size := hb5.size
    have hz67 : w5.heap.size ≤ w7.heap.size := hb7.size
    have hz04 : w.heap.size ≤ w4.heap.size := hB4.size
    go_wp2_with fail
    refine (eqInts A7 A4 c7 c4 (natI r) (natI r) _ hI7 hI4b hrl2).mono ?_
    rintro e w8 ⟨rfl, n8, rfl⟩
    obtain ⟨w8, hw8⟩ : ∃ w8, w7.drewN n8 = w8 := ⟨_, rfl⟩
    have hb8 : Below w7.heap.size w7 w8 := by rw [← hw8]; exact belowDrewN (Below.refl _ _) _
    rw [hw8]
    clear hw8
    have hB8 := belowStep hb8 hB7
    have hF7 := hF7.below hb8
    have hI7 := hI7.below hb8
    have hI4b := hI4b.below hb8
    have hO5 := hO5.below hb8
    have hL5 := hL5.below hb8
    go_wp2_with fail
    refine (toListsB A1 c1 x1 _ (i1.below hB8) hl HS.out).mono ?_
    rintro e w9 ⟨g9, rfl, hO9, hL9, hb9⟩
    have hB9 : Below w.heap.size w w9 := belowStep hb9 hB8
    have hO5 := hO5.below hb9
    have hL5 := hL5.below hb9
    have hF7 := hF7.below hb9
    have hI7 := hI7.below hb9
    have hI4b := hI4b.below hb9
    go_wp2_with fail
    refine (eqLists _ _ _ _ x1 _ hO5.at_ hO9.at_ hl HS.out).mono ?_
    rintro e w10 ⟨rfl, hb10⟩
    have hB10 := belowStep hb10 hB9
    have hO5 := hO5.below hb10
    have hL5 := hL5.below hb10
    have hF7 := hF7.below hb10
    have hI7 := hI7.below hb10
    have hI4b := hI4b.below hb10
    clear hO9 hL9
    have htot := HT.out x1.length (Nat.le_refl _)
    obtain ⟨t, ht⟩ : ∃ t, totTo x1 x1.length = t := ⟨_, rfl⟩
    rw [ht] at htot
    have HTT := Lib.hid ht
    clear ht
    go_wp2_with fail
    refine (markLists w4.heap.size w5.heap.size _ _ x1 1 _ hL5 hl HS.out (by omega) (by omega)).mono ?_
    rintro e w13 ⟨rfl, ho13, -⟩
    rw [HTT.out]
    have hB13 : Below w.heap.size w w13 := ho13.below hB10 (by omega) hB10.size
    have hI4c := hI4.onlyLo hI4b (Nat.le_refl _) ho13
    have hF7c := hF7.onlyHi ho13 (by omega)
    clear hO5 hL5 hF7 hI7 hI4b ho13
    have hI4d := hI4c
    have hF7d := hF7c
    clear hI4c hF7c
    have p14 : ¬ (1 + (t : Int)) < 0 := by omega
    have hI7d := hF7d.intsAt
    go_wp2_with fail
    refine (eqInts A7 A4 c7 c4 (natI r) (natI r) _ hI7d hI4d hrl2).mono ?_
    rintro e w15 ⟨rfl, n15, rfl⟩
    obtain ⟨w15, hw15⟩ : ∃ w15, w13.drewN n15 = w15 := ⟨_, rfl⟩
    have hb15 : Below w13.heap.size w13 w15 := by rw [← hw15]; exact belowDrewN (Below.refl _ _) _
    rw [hw15]
    clear hw15
    have hB15 := belowStep hb15 hB13
    have hF7d := hF7d.below hb15
    have hI4d := hI4d.below hb15
    clear hI7d
    go_wp2_with fail
    refine (markInts w5.heap.size _ (natI r) 1 _ hF7d hrl2 (by omega) (by omega)).mono ?_
    rintro e w16 ⟨rfl, hF16, hg16⟩
    have hblk7 := hF7d.block
    have hB16 : Below w.heap.size w w16 := belowGrown hB15 hg16 hB15.size (fun k hk => by have := hblk7 k hk; omega)
    have hI4e := hI4d.grownOld hI4 hg16 (fun k hk => by have := hblk7 k hk; omega)
    have hM16 := hF16.intsAt
    have p16 : ¬ (1 + (((natI r).length : Nat) : Int)) < 0 := by omega
    clear hF7d hI4d hF16 hg16 hblk7
    go_wp2_with fail
    refine (heldInts A7 c7 (natI r).length 1 _ hM16 hrl2 (by omega) (by omega)).mono ?_
    rintro e w17 ⟨rfl, rfl⟩
    go_wp2_with fail
    refine (toListsB A1 c1 x1 _ (i1.below hB16) hl HS.out).mono ?_
    rintro e w18 ⟨g18, rfl, hO18, hL18, hb18⟩
    have hB18 : Below w.heap.size w w18 := belowStep hb18 hB16
    have hcall := implRnd a0 g18 x1.length x1 a2 w18 hO18 hl HS.out
    rw [HR.out] at hcall
    have HCALL := Lib.hid hcall
    clear hcall
    go_wp2_with fail
    refine HCALL.out.mono ?_
    rintro e w20 ⟨v20, rfl, hF20, hb20⟩
    rw [HRO.out] at hF20
    rw [HOB.out]
    obtain ⟨A20, c20, rfl, hI20, -⟩ := hF20.ints
    have hB20 := belowStep hb20 hB18
    clear HCALL
    have hI4f := ((hI4e.below hb18)).below hb20
    have hM20 := ((hM16.below hb18)).below hb20
    clear hI4e hM16
    go_wp2_with fail
    refine (eqInts A20 A4 c20 c4 (natI r) (natI r) _ hI20 hI4f hrl2).mono ?_
    rintro e w21 ⟨rfl, n21, rfl⟩
    go_wp2_with fail
    refine (heldInts A7 c7 (natI r).length 1 _ (by exact hM20.drewN n21) hrl2 (by omega) (by omega)).mono ?_
    rintro e w22 ⟨rfl, rfl⟩
    go_wp2_with fail
    go_ret
    exact ⟨rfl, belowDrewN hB20 n21⟩
theorem own : ownKnob Try.prog.godebug = none := by kernel_rfl
theorem laidOut : laidOutB Try.prog = true := by kernel_rfl
set_option maxRecDepth 100000 in
theorem lifted (os : Os) (started : os.Started) (H : Type) (enc : TypeId × Value → H) :
    ReturnsInHanded {} Try.checked os 13 .any (Rows.fnExactRandomMemberSpec.pre6 enc Try.prog Try.f13 Rows.fnExactRandomMemberRow.domain false) (Rows.fnExactRandomMemberSpec.post enc Try.prog Try.f13 false true false false) := by
  refine returnsInHanded_of_change (C := Try.checked) own started (by kernel_rfl) Try.func13
    (ChangeSpec.witness6 (enc := enc) (C := Try.checked) false ⟨#[], #[.int .i64 0, .slice none 0 0, .int .i64 0], []⟩ 8 (by kernel_rfl) (by kernel_rfl) (by kernel_rfl) (by kernel_rfl)) ?_
  intro W base args ds gs before hval0 hW hcnd _
  have hval : ∀ (j : Nat) t v, Try.f13.params[j]? = some t → args[j]? = some v → Value.okWide Try.prog W .any base t v := hval0
  have hW' := hW
  obtain ⟨p, q, hA0, hV, rfl, hfz, hnd⟩ := hW
  have hA : DataW.TrodAll enc Try.prog W 0 (fun _ => true) true Try.f13.params.toList args.toList ds p := hA0
  rw [Try.params13] at hA hval
  obtain ⟨v0, vs0, d0, ds0, p0, q0, hargs, rfl, rfl, h0, r0⟩ := trodAll_cons hA
  obtain ⟨v1, vs1, d1, ds1, p1, q1, rfl, rfl, rfl, h1, r1⟩ := trodAll_cons r0
  obtain ⟨v2, vs2, d2, ds2, p2, q2, rfl, rfl, rfl, h2, r2⟩ := trodAll_cons r1
  obtain ⟨rfl, rfl, rfl⟩ := trodAll_nil r2
  obtain rfl : args = #[v0, v1, v2] := by cases args; simp_all
  obtain ⟨rfl, rfl⟩ := trodVars_none hV
  have lt0 : ∀ x ∈ p0, x.block < W.heap.size := by obtain ⟨m, hm⟩ := h0; exact DataW.trod_lt m _ _ _ hm
  have lt1 : ∀ x ∈ p1, x.block < W.heap.size := by obtain ⟨m, hm⟩ := h1; exact DataW.trod_lt m _ _ _ hm
  have lt2 : ∀ x ∈ p2, x.block < W.heap.size := by obtain ⟨m, hm⟩ := h2; exact DataW.trod_lt m _ _ _ hm
  obtain ⟨a0, rfl, b0⟩ := arg_int (hval 0 2 v0 rfl rfl) h0
  obtain ⟨A1, c1, x1, rfl, i1, m1⟩ := arg_intss (hval 1 22 v1 rfl rfl) h1
  obtain ⟨a2, rfl, b2⟩ := arg_int (hval 2 2 v2 rfl rfl) h2
  clear hA0 hval0
  refine (walk a0 A1 c1 x1 a2 W b0 i1 m1 b2).mono fun e W' ⟨he, bel⟩ => ?_
  subst he
  exact ⟨_, rfl, _, _, _, [], _, [], hW', trodAll_mk1 (shut_bool Try.underlying4 _), (trodAll_cons_mk (Below.trod laidOut (by kernel_rfl) (of_decide_eq_true (by kernel_rfl)) h0 bel lt0) (trodAll_cons_mk (Below.trod laidOut (by kernel_rfl) (of_decide_eq_true (by kernel_rfl)) h1 bel lt1) (trodAll_cons_mk (Below.trod laidOut (by kernel_rfl) (of_decide_eq_true (by kernel_rfl)) h2 bel lt2) trodAll_mk0))), rfl, bel.frame _, fun h => by cases h⟩
theorem fact_wf : Rows.fnExactRandomMemberRow.wf (OpenSpec.ofChange Rows.fnExactRandomMemberSpec) = true := by kernel_rfl
theorem fact_pars : Try.f13.params.all (Try.prog.readableRec ·) = true := by kernel_rfl
theorem fact_tie : namedTie Try.prog Rows.fnExactRandomMemberRow.named Rows.fnExactRandomMemberSpec.vars = true := by kernel_rfl
theorem fact_st : (Rows.fnExactRandomMemberRow.stops == []) = true := by kernel_rfl
theorem fact_kn : (Rows.fnExactRandomMemberRow.knobs == []) = true := by kernel_rfl
theorem fact_inp : (Rows.fnExactRandomMemberRow.inPlace == Try.prog.inPlace 13) = true := by kernel_rfl
theorem fact_unf : (Rows.fnExactRandomMemberRow.unfollowed == Try.prog.unfollowed 13) = true := by kernel_rfl
theorem fact_rec : (Rows.fnExactRandomMemberRow.recurses == Try.prog.recurses 13) = true := by kernel_rfl
theorem fact_nam : (Rows.fnExactRandomMemberRow.named == Try.prog.varsNamed 13) = true := by kernel_rfl
theorem fact_mp : (Rows.fnExactRandomMemberRow.maps == (Try.f13.params.toList ++ Rows.fnExactRandomMemberSpec.plain.varTypes Try.prog).any (Try.prog.mapsRec ·)) = true := by kernel_rfl
theorem fact_ifc : (Rows.fnExactRandomMemberRow.ifaces == (Try.f13.params.toList ++ Rows.fnExactRandomMemberSpec.plain.varTypes Try.prog).any (Try.prog.ifacesRec ·)) = true := by kernel_rfl
theorem fact_mo : (Rows.fnExactRandomMemberRow.mapsOut == Try.prog.mapsAmong Try.f13.resultTypes.toList) = true := by kernel_rfl
theorem fact_lo : (Rows.fnExactRandomMemberRow.loops == (Try.f13.params.toList ++ Rows.fnExactRandomMemberSpec.plain.varTypes Try.prog).any (Try.prog.loopsFrom ·)) = true := by kernel_rfl
theorem fact_wk : (Rows.fnExactRandomMemberRow.wideKeys == (Try.f13.params.toList ++ Rows.fnExactRandomMemberSpec.plain.varTypes Try.prog ++ Try.f13.resultTypes.toList).any (Try.prog.wideKeysFrom ·)) = true := by kernel_rfl
theorem fact_vs : Rows.fnExactRandomMemberSpec.vars.all (Try.prog.varReadable ·) = true := by kernel_rfl
theorem fact_res : Try.f13.resultTypes.all (fun t => Try.prog.readableRec t && decide (t < Try.prog.types.size)) = true := by kernel_rfl
theorem fact_io : (Rows.fnExactRandomMemberRow.ifacesOut == Try.f13.resultTypes.toList.any (Try.prog.ifacesRec ·)) = true := by kernel_rfl
theorem fact_loo : (Rows.fnExactRandomMemberRow.loopsOut == Try.f13.resultTypes.toList.any (Try.prog.loopsFrom ·)) = true := by kernel_rfl
theorem fact_pk : (Rows.fnExactRandomMemberRow.plainKeys == Try.prog.plainKeys) = true := by kernel_rfl
theorem fact_sh : Rows.fnExactRandomMemberRow.shortTexts.isNone = true := by kernel_rfl
theorem fact_li : (Rows.fnExactRandomMemberRow.lifted == Try.prog.liftsFinal) = true := by rw [fact_finals]; rfl
theorem fact_mk : (Try.prog.make == some Rows.fnExactRandomMemberRow.make) = true := by rw [fact_make]; rfl
theorem fact_kd : (Rows.fnExactRandomMemberRow.kinds == (if Rows.fnExactRandomMemberRow.domain.isEmpty then [] else Try.f13.params.toList.map fun t => match Try.prog.underlying t with | some (.int k) => some k | _ => none)) = true := by kernel_rfl
theorem fact_pi : (Rows.fnExactRandomMemberRow.pinned == Rows.fnExactRandomMemberRow.pinnedBy) = true := by kernel_rfl
theorem fact_ve : (Rows.fnExactRandomMemberRow.veiled == (Try.f13.params.toList ++ Rows.fnExactRandomMemberSpec.plain.varTypes Try.prog ++ Try.f13.resultTypes.toList).any (Try.prog.veiledRec ·)) = true := by kernel_rfl
theorem fact_vf : Rows.fnExactRandomMemberRow.veiledFits Try.prog Try.f13.params.toList (Try.f13.params.toList ++ Rows.fnExactRandomMemberSpec.plain.varTypes Try.prog ++ Try.f13.resultTypes.toList) = true := by kernel_rfl
set_option maxRecDepth 100000 in
theorem facts : joinedFacts Try.prog 13 Try.f13 Rows.fnExactRandomMemberSpec Rows.fnExactRandomMemberRow = true := facts_of fact_wf fact_laid fact_rowed fact_pars fact_tie fact_st fact_pst fact_kn fact_pkn fact_inp fact_unf fact_rec fact_nam fact_mp fact_ifc fact_mo fact_lo fact_wk fact_vs fact_res fact_io fact_loo fact_pk fact_sh fact_hd fact_me fact_li fact_mk fact_kd fact_pi fact_ve fact_vf
theorem fact_fn : Try.prog.funcNamed Rows.fnExactRandomMemberRow.func = some 13 := by kernel_rfl
theorem fact_inst : Try.f13.isInstance Try.prog Rows.fnExactRandomMemberRow.origin Rows.fnExactRandomMemberRow.targs := of_decide_eq_true (by kernel_rfl)
theorem fact_wrap : Try.f13.isWrapper Try.prog Rows.fnExactRandomMemberRow.wrapper Rows.fnExactRandomMemberRow.mainSum := by unfold Func.isWrapper; first | (rw [if_pos (by decide +kernel)]; kernel_rfl) | (rw [if_neg (by decide +kernel)]; exact ⟨rfl, rfl⟩)
theorem over : Rows.fnExactRandomMemberRow.holds Try.pinned (OpenSpec.ofChange Rows.fnExactRandomMemberSpec) :=
  OpenClaim.holds_of_wide 13 Try.f13 rfl rfl rfl rfl rfl rfl rfl ⟨rfl, rfl, rfl, rfl, rfl⟩ rfl rfl rfl rfl rfl fact_fn Try.func13 facts fact_inst fact_wrap
    (fun os started H enc _ => lifted os started H enc)
theorem proved : Rows.FnExactRandomMemberSaid := over
#print axioms proved
end Go.Proofs.Ytpcnbjfkobeibaa.lawRnd
