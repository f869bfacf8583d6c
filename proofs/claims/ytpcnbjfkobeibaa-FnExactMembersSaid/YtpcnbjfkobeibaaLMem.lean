/- FnExactMembers: for all arguments, both packages give one answer, in memory of its own, and the arguments stay as they were. No conditions. -/
import Derived.Test.YtpcnbjfkobeibaaMb
import Derived.Test.YtpcnbjfkobeibaaOpen
import Derived.Test.YtpcnbjfkobeibaaLo
namespace Go.Proofs.Ytpcnbjfkobeibaa.lawMem
open Go.RowKit Go.ChangeShapes Go.WideShapes Go.ChangeAt
set_option maxRecDepth 100000
set_option maxHeartbeats 8000000 in
theorem walk (a0 : Int) (A1 : Option Addr) (c1 : Nat) (x1 : List (List Int)) (w : World) (_b0 : -9223372036854775808 ≤ a0 ∧ a0 ≤ 9223372036854775807) (i1 : LAt w A1 x1) (m1 : x1.length ≤ maxLen ∧ ∀ i, i < x1.length → (x1.getD i []).length ≤ maxLen) :
    Calls Try.prog 16 #[.int .i64 a0, .slice A1 x1.length c1] w fun e w' => e = .returned (.bool true) ∧ Below w.heap.size w w' := by
  unfold maxLen at m1
  go_enter Try.func16, Try.ntmps16
  go_wp2_with fail
  refine (szLists A1 c1 x1 _ i1 m1.1 m1.2).mono ?_
  rintro e w1 ⟨q, rfl, hq, rfl⟩
  have HQ := Lib.hid hq
  clear hq m1
  by_cases hneg : q < 0
  · go_wp2_with fail
    go_ret
    exact ⟨rfl, Below.refl _ _⟩
  · obtain ⟨hl, hs⟩ := HQ.out (by omega)
    have HS := Lib.hid hs
    have HT := Lib.hid (totTo_le hs)
    clear hs HQ
    obtain ⟨r, hr⟩ : ∃ r, memQ a0 x1 = r := ⟨_, rfl⟩
    obtain ⟨hrl, hrs⟩ := memQ_len a0 x1
    rw [hr] at hrl hrs
    have HRS := Lib.hid hrs
    have HRT := Lib.hid (totTo_le hrs)
    clear hrs
    have HR := Lib.hid hr
    clear hr
    go_wp2_with fail
    refine (toListsB A1 c1 x1 _ (i1) hl HS.out).mono ?_
    rintro e w2 ⟨g2, rfl, hO2, hL2, hb2⟩
    have hB2 : Below w.heap.size w w2 := hb2
    have hcall := specMem a0 g2 x1.length x1 w2 hO2 hl HS.out
    rw [HR.out] at hcall
    have HCALL := Lib.hid hcall
    clear hcall
    go_wp2_with fail
    refine HCALL.out.mono ?_
    rintro e w4 ⟨v4, rfl, hF4, hb4⟩
    obtain ⟨A4, c4, rfl⟩ := hF4.shape
    have hI4 := hF4.lat
    have hB4 := belowStep hb4 hB2
    clear HCALL
    clear hO2 hL2
    go_wp2_with fail
    refine (toListsB A1 c1 x1 _ (i1.below hB4) hl HS.out).mono ?_
    rintro e w5 ⟨g5, rfl, hO5, hL5, hb5⟩
    have hB5 : Below w.heap.size w w5 := belowStep hb5 hB4
    have hcall := implMem a0 g5 x1.length x1 w5 hO5 hl HS.out
    rw [HR.out] at hcall
    have HCALL := Lib.hid hcall
    clear hcall
    go_wp2_with fail
    refine HCALL.out.mono ?_
    rintro e w7 ⟨v7, rfl, hF7, hb7⟩
    obtain ⟨A7, c7, rfl⟩ := hF7.shape
    have hI7 := hF7.lat
    have hB7 := belowStep hb7 hB5
    clear HCALL
    have hO5 := hO5.below hb7
    have hL5 := hL5.below hb7
    have hbc := belowStep hb7 hb5
    have hz34 : w2.heap.size ≤ w4.heap.size := hb4.size
    have hz45 : w4.heap.size ≤ w5.heap.size := hb5.size
    have hz67 : w5.heap.size ≤ w7.heap.size := hb7.size
    have hz04 : w.heap.size ≤ w4.heap.size := hB4.size
    go_wp2_with fail
    refine (eqLists A7 A4 c7 c4 r _ hI7 (hI4.below hbc) hrl HRS.out).mono ?_
    rintro e w8 ⟨rfl, hb8⟩
    have hB8 := belowStep hb8 hB7
    have hF7 := hF7.below hb8
    have hI7 := hI7.below hb8
    have hbc := belowStep hb8 hbc
    have hO5 := hO5.below hb8
    have hL5 := hL5.below hb8
    go_wp2_with fail
    refine (toListsB A1 c1 x1 _ (i1.below hB8) hl HS.out).mono ?_
    rintro e w9 ⟨g9, rfl, hO9, hL9, hb9⟩
    have hB9 : Below w.heap.size w w9 := belowStep hb9 hB8
    have hO5 := hO5.below hb9
    have hL5 := hL5.below hb9
    have hF7 := hF7.below hb9
    have hI7 := hI7.below hb9
    have hbc := belowStep hb9 hbc
    go_wp2_with fail
    refine (eqLists _ _ _ _ x1 _ hO5.at_ hO9.at_ hl HS.out).mono ?_
    rintro e w10 ⟨rfl, hb10⟩
    have hB10 := belowStep hb10 hB9
    have hO5 := hO5.below hb10
    have hL5 := hL5.below hb10
    have hF7 := hF7.below hb10
    have hI7 := hI7.below hb10
    have hbc := belowStep hb10 hbc
    clear hO9 hL9
    have htot := HT.out x1.length (Nat.le_refl _)
    obtain ⟨t, ht⟩ : ∃ t, totTo x1 x1.length = t := ⟨_, rfl⟩
    rw [ht] at htot
    have HTT := Lib.hid ht
    clear ht
    go_wp2_with fail
    refine (markLists w4.heap.size w5.heap.size _ _ x1 1 _ hL5 hl HS.out (by omega) (by omega)).mono ?_
    rintro e w13 ⟨rfl, ho13, -⟩
    rw [HTT.out]
    have hB13 : Below w.heap.size w w13 := ho13.below hB10 (by omega) hB10.size
    have hbc := ho13.below hbc (Nat.le_refl _) hbc.size
    have hF7c := hF7.onlyHi ho13 (by omega)
    clear hO5 hL5 hF7 hI7 ho13
    have hF7d := hF7c
    clear hF7c
    have p14 : ¬ (1 + (t : Int)) < 0 := by omega
    have hI7d := hF7d.lat
    go_wp2_with fail
    refine (eqLists A7 A4 c7 c4 r _ hI7d (hI4.below hbc) hrl HRS.out).mono ?_
    rintro e w15 ⟨rfl, hb15⟩
    have hB15 := belowStep hb15 hB13
    have hF7d := hF7d.below hb15
    have hbc := belowStep hb15 hbc
    clear hI7d
    go_wp2_with fail
    refine (markLists w5.heap.size w7.heap.size _ _ r 1 _ hF7d hrl HRS.out (by omega) (by omega)).mono ?_
    rintro e w16 ⟨rfl, ho16, hM16⟩
    have htot2 := HRT.out r.length (Nat.le_refl _)
    obtain ⟨t2, ht2⟩ : ∃ t2, totTo r r.length = t2 := ⟨_, rfl⟩
    rw [ht2] at htot2
    have HT2 := Lib.hid ht2
    rw [ht2]
    clear ht2
    have hB16 : Below w.heap.size w w16 := ho16.below hB15 (by omega) hB15.size
    have hbc := ho16.below hbc (by omega) hbc.size
    have p16 : ¬ (1 + (t2 : Int)) < 0 := by omega
    have p16b : ((1 + (t2 : Int)) == (1 + (t2 : Int))) = true := beq_self_eq_true _
    go_wp2_with fail
    refine (heldLists A7 c7 r.length r 1 _ rfl hM16 hrl HRS.out (by omega) (by omega)).mono ?_
    rintro e w17 ⟨rfl, rfl⟩
    rw [HT2.out]
    go_wp2_with fail
    refine (toListsB A1 c1 x1 _ (i1.below hB16) hl HS.out).mono ?_
    rintro e w18 ⟨g18, rfl, hO18, hL18, hb18⟩
    have hB18 : Below w.heap.size w w18 := belowStep hb18 hB16
    have hcall := implMem a0 g18 x1.length x1 w18 hO18 hl HS.out
    rw [HR.out] at hcall
    have HCALL := Lib.hid hcall
    clear hcall
    go_wp2_with fail
    refine HCALL.out.mono ?_
    rintro e w20 ⟨v20, rfl, hF20, hb20⟩
    obtain ⟨A20, c20, rfl⟩ := hF20.shape
    have hI20 := hF20.lat
    have hB20 := belowStep hb20 hB18
    clear HCALL
    have hbc := belowStep hb20 (belowStep hb18 hbc)
    have hM20 := ((hM16.below hb18)).below hb20
    clear hM16
    go_wp2_with fail
    refine (eqLists A20 A4 c20 c4 r _ hI20 (hI4.below hbc) hrl HRS.out).mono ?_
    rintro e w21 ⟨rfl, hb21⟩
    have hM21 := hM20.below hb21
    go_wp2_with fail
    refine (heldLists A7 c7 r.length r 1 _ rfl hM21 hrl HRS.out (by omega) (by omega)).mono ?_
    rintro e w22 ⟨rfl, rfl⟩
    rw [HT2.out]
    go_wp2_with fail
    go_ret
    exact ⟨rfl, belowStep hb21 hB20⟩
theorem own : ownKnob Try.prog.godebug = none := by kernel_rfl
theorem laidOut : laidOutB Try.prog = true := by kernel_rfl
set_option maxRecDepth 100000 in
theorem lifted (os : Os) (started : os.Started) (H : Type) (enc : TypeId × Value → H) :
    ReturnsInHanded {} Try.checked os 16 .any (Rows.fnExactMembersSpec.pre6 enc Try.prog Try.f16 Rows.fnExactMembersRow.domain false) (Rows.fnExactMembersSpec.post enc Try.prog Try.f16 false true false false) := by
  refine returnsInHanded_of_change (C := Try.checked) own started (by kernel_rfl) Try.func16
    (ChangeSpec.witness6 (enc := enc) (C := Try.checked) false ⟨#[], #[.int .i64 0, .slice none 0 0], []⟩ 8 (by kernel_rfl) (by kernel_rfl) (by kernel_rfl) (by kernel_rfl)) ?_
  intro W base args ds gs before hval0 hW hcnd _
  have hval : ∀ (j : Nat) t v, Try.f16.params[j]? = some t → args[j]? = some v → Value.okWide Try.prog W .any base t v := hval0
  have hW' := hW
  obtain ⟨p, q, hA0, hV, rfl, hfz, hnd⟩ := hW
  have hA : DataW.TrodAll enc Try.prog W 0 (fun _ => true) true Try.f16.params.toList args.toList ds p := hA0
  rw [Try.params16] at hA hval
  obtain ⟨v0, vs0, d0, ds0, p0, q0, hargs, rfl, rfl, h0, r0⟩ := trodAll_cons hA
  obtain ⟨v1, vs1, d1, ds1, p1, q1, rfl, rfl, rfl, h1, r1⟩ := trodAll_cons r0
  obtain ⟨rfl, rfl, rfl⟩ := trodAll_nil r1
  obtain rfl : args = #[v0, v1] := by cases args; simp_all
  obtain ⟨rfl, rfl⟩ := trodVars_none hV
  have lt0 : ∀ x ∈ p0, x.block < W.heap.size := by obtain ⟨m, hm⟩ := h0; exact DataW.trod_lt m _ _ _ hm
  have lt1 : ∀ x ∈ p1, x.block < W.heap.size := by obtain ⟨m, hm⟩ := h1; exact DataW.trod_lt m _ _ _ hm
  obtain ⟨a0, rfl, b0⟩ := arg_int (hval 0 2 v0 rfl rfl) h0
  obtain ⟨A1, c1, x1, rfl, i1, m1⟩ := arg_intss (hval 1 22 v1 rfl rfl) h1
  clear hA0 hval0
  refine (walk a0 A1 c1 x1 W b0 i1 m1).mono fun e W' ⟨he, bel⟩ => ?_
  subst he
  exact ⟨_, rfl, _, _, _, [], _, [], hW', trodAll_mk1 (shut_bool Try.underlying4 _), (trodAll_cons_mk (Below.trod laidOut (by kernel_rfl) (of_decide_eq_true (by kernel_rfl)) h0 bel lt0) (trodAll_cons_mk (Below.trod laidOut (by kernel_rfl) (of_decide_eq_true (by kernel_rfl)) h1 bel lt1) trodAll_mk0)), rfl, bel.frame _, fun h => by cases h⟩
theorem fact_wf : Rows.fnExactMembersRow.wf (OpenSpec.ofChange Rows.fnExactMembersSpec) = true := by kernel_rfl
theorem fact_pars : Try.f16.params.all (Try.prog.readableRec ·) = true := by kernel_rfl
theorem fact_tie : namedTie Try.prog Rows.fnExactMembersRow.named Rows.fnExactMembersSpec.vars = true := by kernel_rfl
theorem fact_st : (Rows.fnExactMembersRow.stops == []) = true := by kernel_rfl
theorem fact_kn : (Rows.fnExactMembersRow.knobs == []) = true := by kernel_rfl
theorem fact_inp : (Rows.fnExactMembersRow.inPlace == Try.prog.inPlace 16) = true := by kernel_rfl
theorem fact_unf : (Rows.fnExactMembersRow.unfollowed == Try.prog.unfollowed 16) = true := by kernel_rfl
theorem fact_rec : (Rows.fnExactMembersRow.recurses == Try.prog.recurses 16) = true := by kernel_rfl
theorem fact_nam : (Rows.fnExactMembersRow.named == Try.prog.varsNamed 16) = true := by kernel_rfl
theorem fact_mp : (Rows.fnExactMembersRow.maps == (Try.f16.params.toList ++ Rows.fnExactMembersSpec.plain.varTypes Try.prog).any (Try.prog.mapsRec ·)) = true := by kernel_rfl
theorem fact_ifc : (Rows.fnExactMembersRow.ifaces == (Try.f16.params.toList ++ Rows.fnExactMembersSpec.plain.varTypes Try.prog).any (Try.prog.ifacesRec ·)) = true := by kernel_rfl
theorem fact_mo : (Rows.fnExactMembersRow.mapsOut == Try.prog.mapsAmong Try.f16.resultTypes.toList) = true := by kernel_rfl
theorem fact_lo : (Rows.fnExactMembersRow.loops == (Try.f16.params.toList ++ Rows.fnExactMembersSpec.plain.varTypes Try.prog).any (Try.prog.loopsFrom ·)) = true := by kernel_rfl
theorem fact_wk : (Rows.fnExactMembersRow.wideKeys == (Try.f16.params.toList ++ Rows.fnExactMembersSpec.plain.varTypes Try.prog ++ Try.f16.resultTypes.toList).any (Try.prog.wideKeysFrom ·)) = true := by kernel_rfl
theorem fact_vs : Rows.fnExactMembersSpec.vars.all (Try.prog.varReadable ·) = true := by kernel_rfl
theorem fact_res : Try.f16.resultTypes.all (fun t => Try.prog.readableRec t && decide (t < Try.prog.types.size)) = true := by kernel_rfl
theorem fact_io : (Rows.fnExactMembersRow.ifacesOut == Try.f16.resultTypes.toList.any (Try.prog.ifacesRec ·)) = true := by kernel_rfl
theorem fact_loo : (Rows.fnExactMembersRow.loopsOut == Try.f16.resultTypes.toList.any (Try.prog.loopsFrom ·)) = true := by kernel_rfl
theorem fact_pk : (Rows.fnExactMembersRow.plainKeys == Try.prog.plainKeys) = true := by kernel_rfl
theorem fact_sh : Rows.fnExactMembersRow.shortTexts.isNone = true := by kernel_rfl
theorem fact_li : (Rows.fnExactMembersRow.lifted == Try.prog.liftsFinal) = true := by rw [fact_finals]; rfl
theorem fact_mk : (Try.prog.make == some Rows.fnExactMembersRow.make) = true := by rw [fact_make]; rfl
theorem fact_kd : (Rows.fnExactMembersRow.kinds == (if Rows.fnExactMembersRow.domain.isEmpty then [] else Try.f16.params.toList.map fun t => match Try.prog.underlying t with | some (.int k) => some k | _ => none)) = true := by kernel_rfl
theorem fact_pi : (Rows.fnExactMembersRow.pinned == Rows.fnExactMembersRow.pinnedBy) = true := by kernel_rfl
theorem fact_ve : (Rows.fnExactMembersRow.veiled == (Try.f16.params.toList ++ Rows.fnExactMembersSpec.plain.varTypes Try.prog ++ Try.f16.resultTypes.toList).any (Try.prog.veiledRec ·)) = true := by kernel_rfl
theorem fact_vf : Rows.fnExactMembersRow.veiledFits Try.prog Try.f16.params.toList (Try.f16.params.toList ++ Rows.fnExactMembersSpec.plain.varTypes Try.prog ++ Try.f16.resultTypes.toList) = true := by kernel_rfl
set_option maxRecDepth 100000 in
theorem facts : joinedFacts Try.prog 16 Try.f16 Rows.fnExactMembersSpec Rows.fnExactMembersRow = true := facts_of fact_wf fact_laid fact_rowed fact_pars fact_tie fact_st fact_pst fact_kn fact_pkn fact_inp fact_unf fact_rec fact_nam fact_mp fact_ifc fact_mo fact_lo fact_wk fact_vs fact_res fact_io fact_loo fact_pk fact_sh fact_hd fact_me fact_li fact_mk fact_kd fact_pi fact_ve fact_vf
theorem fact_fn : Try.prog.funcNamed Rows.fnExactMembersRow.func = some 16 := by kernel_rfl
theorem fact_inst : Try.f16.isInstance Try.prog Rows.fnExactMembersRow.origin Rows.fnExactMembersRow.targs := of_decide_eq_true (by kernel_rfl)
theorem fact_wrap : Try.f16.isWrapper Try.prog Rows.fnExactMembersRow.wrapper Rows.fnExactMembersRow.mainSum := by unfold Func.isWrapper; first | (rw [if_pos (by decide +kernel)]; kernel_rfl) | (rw [if_neg (by decide +kernel)]; exact ⟨rfl, rfl⟩)
theorem over : Rows.fnExactMembersRow.holds Try.pinned (OpenSpec.ofChange Rows.fnExactMembersSpec) :=
  OpenClaim.holds_of_wide 16 Try.f16 rfl rfl rfl rfl rfl rfl rfl ⟨rfl, rfl, rfl, rfl, rfl⟩ rfl rfl rfl rfl rfl fact_fn Try.func16 facts fact_inst fact_wrap
    (fun os started H enc _ => lifted os started H enc)
theorem proved : Rows.FnExactMembersSaid := over
#print axioms proved
end Go.Proofs.Ytpcnbjfkobeibaa.lawMem
