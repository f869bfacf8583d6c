/- FnExactBestResult: for all arguments, both packages give one answer, and the argument stays as it was. No conditions. -/
import Derived.Test.YtdjkelhmdondcaaBest
import Derived.Test.YtdjkelhmdondcaaOpen
namespace Go.Proofs.Ytdjkelhmdondcaa.lawBest
open Go.RowKit Go.ChangeShapes Go.WideShapes Go.ChangeAt
set_option maxHeartbeats 1000000 in
theorem walk (A : Option Addr) (c : Nat) (xs : List Int) (w : World) (hx : IntsAt w A xs) (_hf : Fits xs) (hm : xs.length ≤ maxLen) :
    Calls Try.prog 11 #[.slice A xs.length c] w fun e w' => e = .returned (.bool true) ∧ Below w.heap.size w w' := by
  unfold maxLen at hm
  by_cases hl : xs.length ≤ 1048576
  · have hl2 : ¬ (1048576 : Int) < (xs.length : Int) := by omega
    go_enter Try.func11, Try.ntmps11
    go_wp2_with fail
    refine (toInts A c xs _ hx hl).mono ?_
    rintro e w1 ⟨v1, rfl, hF1, hb1⟩
    obtain ⟨A1, c1, rfl, hI1, -⟩ := hF1.ints
    clear hF1
    go_wp2_with fail
    refine (sameBelow (specBestResult A1 c1 xs _ hI1 hl)).mono ?_
    rintro e w2 ⟨rfl, hb2⟩
    have hB2 : Below w.heap.size w w2 := belowStep hb2 hb1
    go_wp2_with fail
    refine (toInts A c xs _ (hx.below hB2) hl).mono ?_
    rintro e w3 ⟨v3, rfl, hF3, hb3⟩
    obtain ⟨A3, c3, rfl, hI3, -⟩ := hF3.ints
    clear hF3
    have hB3 : Below w.heap.size w w3 := belowStep hb3 hB2
    go_wp2_with fail
    refine (sameBelow (implBestResult A3 c3 xs _ hI3 hl)).mono ?_
    rintro e w4 ⟨rfl, hb4⟩
    have hB4 : Below w.heap.size w w4 := belowStep hb4 hB3
    have hI4 := hI3.below hb4
    go_wp2_with fail
    refine (toInts A c xs _ (hx.below hB4) hl).mono ?_
    rintro e w5 ⟨v5, rfl, hF5, hb5⟩
    obtain ⟨A5, c5, rfl, hI5, -⟩ := hF5.ints
    clear hF5
    have hB5 : Below w.heap.size w w5 := belowStep hb5 hB4
    have hI6 := hI4.below hb5
    have hs : sameB xs xs = true := sameB_yes rfl
    go_wp2_with fail
    refine (eqInts A3 A5 c3 c5 xs xs _ hI6 hI5 hl).mono ?_
    rintro e w6 ⟨rfl, n, rfl⟩
    go_wp2_with fail
    go_ret
    exact ⟨rfl, belowDrewN hB5 n⟩
  · have hl2 : (1048576 : Int) < (xs.length : Int) := by omega
    go_enter Try.func11, Try.ntmps11
    go_wp2_with fail
    go_ret
    exact ⟨rfl, Below.refl _ _⟩
theorem own : ownKnob Try.prog.godebug = none := by kernel_rfl
theorem laidOut : laidOutB Try.prog = true := by kernel_rfl
set_option maxRecDepth 100000 in
theorem lifted (os : Os) (started : os.Started) (H : Type) (enc : TypeId × Value → H) :
    ReturnsInHanded {} Try.checked os 11 .any (Rows.fnExactBestResultSpec.pre6 enc Try.prog Try.f11 Rows.fnExactBestResultRow.domain false) (Rows.fnExactBestResultSpec.post enc Try.prog Try.f11 false true false false) := by
  refine returnsInHanded_of_change (C := Try.checked) own started (by kernel_rfl) Try.func11
    (ChangeSpec.witness6 (enc := enc) (C := Try.checked) false ⟨#[], #[.slice none 0 0], []⟩ 8 (by kernel_rfl) (by kernel_rfl) (by kernel_rfl) (by kernel_rfl)) ?_
  intro W base args ds gs before hval0 hW hcnd _
  have hval : ∀ (j : Nat) t v, Try.f11.params[j]? = some t → args[j]? = some v → Value.okWide Try.prog W .any base t v := hval0
  have hW' := hW
  obtain ⟨p, q, hA0, hV, rfl, hfz, hnd⟩ := hW
  have hA : DataW.TrodAll enc Try.prog W 0 (fun _ => true) true Try.f11.params.toList args.toList ds p := hA0
  rw [Try.params11] at hA hval
  obtain ⟨v0, vs0, d0, ds0, p0, q0, hargs, rfl, rfl, h0, r0⟩ := trodAll_cons hA
  obtain ⟨rfl, rfl, rfl⟩ := trodAll_nil r0
  obtain rfl : args = #[v0] := by cases args; simp_all
  obtain ⟨rfl, rfl⟩ := trodVars_none hV
  have lt0 : ∀ x ∈ p0, x.block < W.heap.size := by obtain ⟨m, hm⟩ := h0; exact DataW.trod_lt m _ _ _ hm
  obtain ⟨A0, c0, x0, rfl, i0, t0, m0⟩ := arg_ints (hval 0 29 v0 rfl rfl) h0
  clear hA0 hval0
  refine (walk A0 c0 x0 W i0 t0 m0).mono fun e W' ⟨he, bel⟩ => ?_
  subst he
  exact ⟨_, rfl, _, _, _, [], _, [], hW', trodAll_mk1 (shut_bool Try.underlying4 _), (trodAll_cons_mk (Below.trod laidOut (by kernel_rfl) (of_decide_eq_true (by kernel_rfl)) h0 bel lt0) trodAll_mk0), rfl, bel.frame _, fun h => by cases h⟩
theorem fact_wf : Rows.fnExactBestResultRow.wf (OpenSpec.ofChange Rows.fnExactBestResultSpec) = true := by kernel_rfl
theorem fact_pars : Try.f11.params.all (Try.prog.readableRec ·) = true := by kernel_rfl
theorem fact_tie : namedTie Try.prog Rows.fnExactBestResultRow.named Rows.fnExactBestResultSpec.vars = true := by kernel_rfl
theorem fact_st : (Rows.fnExactBestResultRow.stops == []) = true := by kernel_rfl
theorem fact_kn : (Rows.fnExactBestResultRow.knobs == []) = true := by kernel_rfl
theorem fact_inp : (Rows.fnExactBestResultRow.inPlace == Try.prog.inPlace 11) = true := by kernel_rfl
theorem fact_unf : (Rows.fnExactBestResultRow.unfollowed == Try.prog.unfollowed 11) = true := by kernel_rfl
theorem fact_rec : (Rows.fnExactBestResultRow.recurses == Try.prog.recurses 11) = true := by kernel_rfl
theorem fact_nam : (Rows.fnExactBestResultRow.named == Try.prog.varsNamed 11) = true := by kernel_rfl
theorem fact_mp : (Rows.fnExactBestResultRow.maps == (Try.f11.params.toList ++ Rows.fnExactBestResultSpec.plain.varTypes Try.prog).any (Try.prog.mapsRec ·)) = true := by kernel_rfl
theorem fact_ifc : (Rows.fnExactBestResultRow.ifaces == (Try.f11.params.toList ++ Rows.fnExactBestResultSpec.plain.varTypes Try.prog).any (Try.prog.ifacesRec ·)) = true := by kernel_rfl
theorem fact_mo : (Rows.fnExactBestResultRow.mapsOut == Try.prog.mapsAmong Try.f11.resultTypes.toList) = true := by kernel_rfl
theorem fact_lo : (Rows.fnExactBestResultRow.loops == (Try.f11.params.toList ++ Rows.fnExactBestResultSpec.plain.varTypes Try.prog).any (Try.prog.loopsFrom ·)) = true := by kernel_rfl
theorem fact_wk : (Rows.fnExactBestResultRow.wideKeys == (Try.f11.params.toList ++ Rows.fnExactBestResultSpec.plain.varTypes Try.prog ++ Try.f11.resultTypes.toList).any (Try.prog.wideKeysFrom ·)) = true := by kernel_rfl
theorem fact_vs : Rows.fnExactBestResultSpec.vars.all (Try.prog.varReadable ·) = true := by kernel_rfl
theorem fact_res : Try.f11.resultTypes.all (fun t => Try.prog.readableRec t && decide (t < Try.prog.types.size)) = true := by kernel_rfl
theorem fact_io : (Rows.fnExactBestResultRow.ifacesOut == Try.f11.resultTypes.toList.any (Try.prog.ifacesRec ·)) = true := by kernel_rfl
theorem fact_loo : (Rows.fnExactBestResultRow.loopsOut == Try.f11.resultTypes.toList.any (Try.prog.loopsFrom ·)) = true := by kernel_rfl
theorem fact_pk : (Rows.fnExactBestResultRow.plainKeys == Try.prog.plainKeys) = true := by kernel_rfl
theorem fact_sh : Rows.fnExactBestResultRow.shortTexts.isNone = true := by kernel_rfl
theorem fact_li : (Rows.fnExactBestResultRow.lifted == Try.prog.liftsFinal) = true := by rw [fact_finals]; rfl
theorem fact_mk : (Try.prog.make == some Rows.fnExactBestResultRow.make) = true := by rw [fact_make]; rfl
theorem fact_kd : (Rows.fnExactBestResultRow.kinds == (if Rows.fnExactBestResultRow.domain.isEmpty then [] else Try.f11.params.toList.map fun t => match Try.prog.underlying t with | some (.int k) => some k | _ => none)) = true := by kernel_rfl
theorem fact_pi : (Rows.fnExactBestResultRow.pinned == Rows.fnExactBestResultRow.pinnedBy) = true := by kernel_rfl
theorem fact_ve : (Rows.fnExactBestResultRow.veiled == (Try.f11.params.toList ++ Rows.fnExactBestResultSpec.plain.varTypes Try.prog ++ Try.f11.resultTypes.toList).any (Try.prog.veiledRec ·)) = true := by kernel_rfl
theorem fact_vf : Rows.fnExactBestResultRow.veiledFits Try.prog Try.f11.params.toList (Try.f11.params.toList ++ Rows.fnExactBestResultSpec.plain.varTypes Try.prog ++ Try.f11.resultTypes.toList) = true := by kernel_rfl
set_option maxRecDepth 100000 in
theorem facts : joinedFacts Try.prog 11 Try.f11 Rows.fnExactBestResultSpec Rows.fnExactBestResultRow = true := facts_of fact_wf fact_laid fact_rowed fact_pars fact_tie fact_st fact_pst fact_kn fact_pkn fact_inp fact_unf fact_rec fact_nam fact_mp fact_ifc fact_mo fact_lo fact_wk fact_vs fact_res fact_io fact_loo fact_pk fact_sh fact_hd fact_me fact_li fact_mk fact_kd fact_pi fact_ve fact_vf
theorem fact_fn : Try.prog.funcNamed Rows.fnExactBestResultRow.func = some 11 := by kernel_rfl
theorem fact_inst : Try.f11.isInstance Try.prog Rows.fnExactBestResultRow.origin Rows.fnExactBestResultRow.targs := of_decide_eq_true (by kernel_rfl)
theorem fact_wrap : Try.f11.isWrapper Try.prog Rows.fnExactBestResultRow.wrapper Rows.fnExactBestResultRow.mainSum := by unfold Func.isWrapper; first | (rw [if_pos (by decide +kernel)]; kernel_rfl) | (rw [if_neg (by decide +kernel)]; exact ⟨rfl, rfl⟩)
theorem over : Rows.fnExactBestResultRow.holds Try.pinned (OpenSpec.ofChange Rows.fnExactBestResultSpec) :=
  OpenClaim.holds_of_wide 11 Try.f11 rfl rfl rfl rfl rfl rfl rfl ⟨rfl, rfl, rfl, rfl, rfl⟩ rfl rfl rfl rfl rfl fact_fn Try.func11 facts fact_inst fact_wrap
    (fun os started H enc _ => lifted os started H enc)
theorem proved : Rows.FnExactBestResultSaid := over
#print axioms proved
end Go.Proofs.Ytdjkelhmdondcaa.lawBest
