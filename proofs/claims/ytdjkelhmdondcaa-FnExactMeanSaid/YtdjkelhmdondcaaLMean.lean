/- FnExactMean: for all arguments, both packages give one answer, and the argument stays as it was. No conditions. -/
import Derived.Test.YtdjkelhmdondcaaMean
import Derived.Test.YtdjkelhmdondcaaOpen
namespace Go.Proofs.Ytdjkelhmdondcaa.lawMean
open Go.RowKit Go.ChangeShapes Go.WideShapes Go.ChangeAt
set_option maxHeartbeats 1000000 in
theorem walk (A : Option Addr) (c : Nat) (xs : List Int) (w : World) (hx : IntsAt w A xs) (_hf : Fits xs) (hm : xs.length ≤ maxLen) :
    Calls Try.prog 8 #[.slice A xs.length c] w fun e w' => e = .returned (.bool true) ∧ Below w.heap.size w w' := by
  unfold maxLen at hm
  by_cases hl : xs.length ≤ 1048576
  · have hl2 : ¬ (1048576 : Int) < (xs.length : Int) := by omega
    go_enter Try.func8, Try.ntmps8
    go_wp2_with fail
    refine (toInts A c xs _ hx hl).mono ?_
    rintro e w1 ⟨v1, rfl, hF1, hb1⟩
    obtain ⟨A1, c1, rfl, hI1, -⟩ := hF1.ints
    clear hF1
    go_wp2_with fail
    refine (sameBelow (specMean A1 c1 xs _ hI1 hl)).mono ?_
    rintro e w2 ⟨rfl, hb2⟩
    have hB2 : Below w.heap.size w w2 := belowStep hb2 hb1
    go_wp2_with fail
    refine (toInts A c xs _ (hx.below hB2) hl).mono ?_
    rintro e w3 ⟨v3, rfl, hF3, hb3⟩
    obtain ⟨A3, c3, rfl, hI3, -⟩ := hF3.ints
    clear hF3
    have hB3 : Below w.heap.size w w3 := belowStep hb3 hB2
    go_wp2_with fail
    refine (sameBelow (implMean A3 c3 xs _ hI3 hl)).mono ?_
    rintro e w4 ⟨rfl, hb4⟩
    have hB4 : Below w.heap.size w w4 := belowStep hb4 hB3
    have hI4 := hI3.below hb4
    go_wp2_with fail
    refine (toInts A c xs _ (hx.below hB4) hl).mono ?_
    rintro e w5 ⟨v5, rfl, hF5, hb5⟩
    obtain ⟨A5, c5, rfl, hI5, -⟩ := hF5.ints
    clear hF5
    have hB5 : Below w.heap.size w w5 := belowStep hb5 hB4
    have hI6 := hI4.below hb5
    have hs : sameB xs xs = true := sameB_yes rfl
    go_wp2_with fail
    refine (eqInts A3 A5 c3 c5 xs xs _ hI6 hI5 hl).mono ?_
    rintro e w6 ⟨rfl, n, rfl⟩
    go_wp2_with fail
    go_ret
    exact ⟨rfl, belowDrewN hB5 n⟩
  · have hl2 : (1048576 : Int) < (xs.length : Int) := by omega
    go_enter Try.func8, Try.ntmps8
    go_wp2_with fail
    go_ret
    exact ⟨rfl, Below.refl _ _⟩
theorem own : ownKnob Try.prog.godebug = none := by kernel_rfl
theorem laidOut : laidOutB Try.prog = true := by kernel_rfl
set_option maxRecDepth 100000 in
theorem lifted (os : Os) (started : os.Started) (H : Type) (enc : TypeId × Value → H) :
    ReturnsInHanded {} Try.checked os 8 .any (Rows.fnExactMeanSpec.pre6 enc Try.prog Try.f8 Rows.fnExactMeanRow.domain false) (Rows.fnExactMeanSpec.post enc Try.prog Try.f8 false true false false) := by
  refine returnsInHanded_of_change (C := Try.checked) own started (by kernel_rfl) Try.func8
    (ChangeSpec.witness6 (enc := enc) (C := Try.checked) false ⟨#[], #[.slice none 0 0], []⟩ 8 (by kernel_rfl) (by kernel_rfl) (by kernel_rfl) (by kernel_rfl)) ?_
  intro W base args ds gs before hval0 hW hcnd _
  have hval : ∀ (j : Nat) t v, Try.f8.params[j]? = some t → args[j]? = some v → Value.okWide Try.prog W .any base t v := hval0
  have hW' := hW
  obtain ⟨p, q, hA0, hV, rfl, hfz, hnd⟩ := hW
  have hA : DataW.TrodAll enc Try.prog W 0 (fun _ => true) true Try.f8.params.toList args.toList ds p := hA0
  rw [Try.params8] at hA hval
  obtain ⟨v0, vs0, d0, ds0, p0, q0, hargs, rfl, rfl, h0, r0⟩ := trodAll_cons hA
  obtain ⟨rfl, rfl, rfl⟩ := trodAll_nil r0
  obtain rfl : args = #[v0] := by cases args; simp_all
  obtain ⟨rfl, rfl⟩ := trodVars_none hV
  have lt0 : ∀ x ∈ p0, x.block < W.heap.size := by obtain ⟨m, hm⟩ := h0; exact DataW.trod_lt m _ _ _ hm
  obtain ⟨A0, c0, x0, rfl, i0, t0, m0⟩ := arg_ints (hval 0 29 v0 rfl rfl) h0
  clear hA0 hval0
  refine (walk A0 c0 x0 W i0 t0 m0).mono fun e W' ⟨he, bel⟩ => ?_
  subst he
  exact ⟨_, rfl, _, _, _, [], _, [], hW', trodAll_mk1 (shut_bool Try.underlying4 _), (trodAll_cons_mk (Below.trod laidOut (by kernel_rfl) (of_decide_eq_true (by kernel_rfl)) h0 bel lt0) trodAll_mk0), rfl, bel.frame _, fun h => by cases h⟩
theorem fact_wf : Rows.fnExactMeanRow.wf (OpenSpec.ofChange Rows.fnExactMeanSpec) = true := by kernel_rfl
theorem fact_pars : Try.f8.params.all (Try.prog.readableRec ·) = true := by kernel_rfl
theorem fact_tie : namedTie Try.prog Rows.fnExactMeanRow.named Rows.fnExactMeanSpec.vars = true := by kernel_rfl
theorem fact_st : (Rows.fnExactMeanRow.stops == []) = true := by kernel_rfl
theorem fact_kn : (Rows.fnExactMeanRow.knobs == []) = true := by kernel_rfl
theorem fact_inp : (Rows.fnExactMeanRow.inPlace == Try.prog.inPlace 8) = true := by kernel_rfl
theorem fact_unf : (Rows.fnExactMeanRow.unfollowed == Try.prog.unfollowed 8) = true := by kernel_rfl
theorem fact_rec : (Rows.fnExactMeanRow.recurses == Try.prog.recurses 8) = true := by kernel_rfl
theorem fact_nam : (Rows.fnExactMeanRow.named == Try.prog.varsNamed 8) = true := by kernel_rfl
theorem fact_mp : (Rows.fnExactMeanRow.maps == (Try.f8.params.toList ++ Rows.fnExactMeanSpec.plain.varTypes Try.prog).any (Try.prog.mapsRec ·)) = true := by kernel_rfl
theorem fact_ifc : (Rows.fnExactMeanRow.ifaces == (Try.f8.params.toList ++ Rows.fnExactMeanSpec.plain.varTypes Try.prog).any (Try.prog.ifacesRec ·)) = true := by kernel_rfl
theorem fact_mo : (Rows.fnExactMeanRow.mapsOut == Try.prog.mapsAmong Try.f8.resultTypes.toList) = true := by kernel_rfl
theorem fact_lo : (Rows.fnExactMeanRow.loops == (Try.f8.params.toList ++ Rows.fnExactMeanSpec.plain.varTypes Try.prog).any (Try.prog.loopsFrom ·)) = true := by kernel_rfl
theorem fact_wk : (Rows.fnExactMeanRow.wideKeys == (Try.f8.params.toList ++ Rows.fnExactMeanSpec.plain.varTypes Try.prog ++ Try.f8.resultTypes.toList).any (Try.prog.wideKeysFrom ·)) = true := by kernel_rfl
theorem fact_vs : Rows.fnExactMeanSpec.vars.all (Try.prog.varReadable ·) = true := by kernel_rfl
theorem fact_res : Try.f8.resultTypes.all (fun t => Try.prog.readableRec t && decide (t < Try.prog.types.size)) = true := by kernel_rfl
theorem fact_io : (Rows.fnExactMeanRow.ifacesOut == Try.f8.resultTypes.toList.any (Try.prog.ifacesRec ·)) = true := by kernel_rfl
theorem fact_loo : (Rows.fnExactMeanRow.loopsOut == Try.f8.resultTypes.toList.any (Try.prog.loopsFrom ·)) = true := by kernel_rfl
theorem fact_pk : (Rows.fnExactMeanRow.plainKeys == Try.prog.plainKeys) = true := by kernel_rfl
theorem fact_sh : Rows.fnExactMeanRow.shortTexts.isNone = true := by kernel_rfl
theorem fact_li : (Rows.fnExactMeanRow.lifted == Try.prog.liftsFinal) = true := by rw [fact_finals]; rfl
theorem fact_mk : (Try.prog.make == some Rows.fnExactMeanRow.make) = true := by rw [fact_make]; rfl
theorem fact_kd : (Rows.fnExactMeanRow.kinds == (if Rows.fnExactMeanRow.domain.isEmpty then [] else Try.f8.params.toList.map fun t => match Try.prog.underlying t with | some (.int k) => some k | _ => none)) = true := by kernel_rfl
theorem fact_pi : (Rows.fnExactMeanRow.pinned == Rows.fnExactMeanRow.pinnedBy) = true := by kernel_rfl
theorem fact_ve : (Rows.fnExactMeanRow.veiled == (Try.f8.params.toList ++ Rows.fnExactMeanSpec.plain.varTypes Try.prog ++ Try.f8.resultTypes.toList).any (Try.prog.veiledRec ·)) = true := by kernel_rfl
theorem fact_vf : Rows.fnExactMeanRow.veiledFits Try.prog Try.f8.params.toList (Try.f8.params.toList ++ Rows.fnExactMeanSpec.plain.varTypes Try.prog ++ Try.f8.resultTypes.toList) = true := by kernel_rfl
set_option maxRecDepth 100000 in
theorem facts : joinedFacts Try.prog 8 Try.f8 Rows.fnExactMeanSpec Rows.fnExactMeanRow = true := facts_of fact_wf fact_laid fact_rowed fact_pars fact_tie fact_st fact_pst fact_kn fact_pkn fact_inp fact_unf fact_rec fact_nam fact_mp fact_ifc fact_mo fact_lo fact_wk fact_vs fact_res fact_io fact_loo fact_pk fact_sh fact_hd fact_me fact_li fact_mk fact_kd fact_pi fact_ve fact_vf
theorem fact_fn : Try.prog.funcNamed Rows.fnExactMeanRow.func = some 8 := by kernel_rfl
theorem fact_inst : Try.f8.isInstance Try.prog Rows.fnExactMeanRow.origin Rows.fnExactMeanRow.targs := of_decide_eq_true (by kernel_rfl)
theorem fact_wrap : Try.f8.isWrapper Try.prog Rows.fnExactMeanRow.wrapper Rows.fnExactMeanRow.mainSum := by unfold Func.isWrapper; first | (rw [if_pos (by decide +kernel)]; kernel_rfl) | (rw [if_neg (by decide +kernel)]; exact ⟨rfl, rfl⟩)
theorem over : Rows.fnExactMeanRow.holds Try.pinned (OpenSpec.ofChange Rows.fnExactMeanSpec) :=
  OpenClaim.holds_of_wide 8 Try.f8 rfl rfl rfl rfl rfl rfl rfl ⟨rfl, rfl, rfl, rfl, rfl⟩ rfl rfl rfl rfl rfl fact_fn Try.func8 facts fact_inst fact_wrap
    (fun os started H enc _ => lifted os started H enc)
theorem proved : Rows.FnExactMeanSaid := over
#print axioms proved
end Go.Proofs.Ytdjkelhmdondcaa.lawMean
