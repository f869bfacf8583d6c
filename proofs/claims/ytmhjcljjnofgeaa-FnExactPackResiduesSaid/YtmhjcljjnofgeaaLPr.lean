/- FnExactPackResidues: for all arguments, both packages give one answer, and the argument stays as it was. No conditions. -/
import Derived.Test.YtmhjcljjnofgeaaPr
import Derived.Test.YtmhjcljjnofgeaaOpen
namespace Go.Proofs.Ytmhjcljjnofgeaa.lawPr
open Go.RowKit Go.ChangeShapes Go.WideShapes Go.ChangeAt
set_option maxHeartbeats 2000000 in
theorem walk (A : Option Addr) (c : Nat) (xs : List Int) (w : World) (hx : IntsAt w A xs) (hf : Fits xs) (hm : xs.length ≤ maxLen) :
    Calls Try.prog 7 #[.slice A xs.length c] w fun e w' => e = .returned (.bool true) ∧ Below w.heap.size w w' := by
  unfold maxLen at hm
  by_cases hl : xs.length ≤ 1048576
  · have hl2 : ¬ (1048576 : Int) < (xs.length : Int) := by omega
    obtain ⟨d, hd⟩ : ∃ d, resS xs = d := ⟨_, rfl⟩
    obtain ⟨ok, hok⟩ : ∃ ok, allIn xs big63 = ok := ⟨_, rfl⟩
    have HD := Lib.hid hd
    have HO := Lib.hid hok
    have HF := Lib.hid hf
    have hs : sameB xs xs = true := sameB_yes rfl
    clear hd hok hf
    go_enter Try.func7, Try.ntmps7
    go_wp2_with fail
    refine (toInts A c xs _ hx hl).mono ?_
    rintro e w1 ⟨v1, rfl, hF1, hb1⟩
    obtain ⟨A1, c1, rfl, hI1, -⟩ := hF1.ints
    clear hF1
    go_wp2_with fail
    refine (specRes A1 c1 xs _ hI1 HF.out hl).mono ?_
    rintro e w2 ⟨rfl, hb2⟩
    rw [HD.out, HO.out]
    have hB2 : Below w.heap.size w w2 := belowStep hb2 hb1
    go_wp2_with fail
    refine (toInts A c xs _ (hx.below hB2) hl).mono ?_
    rintro e w3 ⟨v3, rfl, hF3, hb3⟩
    obtain ⟨A3, c3, rfl, hI3, -⟩ := hF3.ints
    clear hF3
    have hB3 : Below w.heap.size w w3 := belowStep hb3 hB2
    go_wp2_with fail
    refine (implRes A3 c3 xs _ hI3 hl).mono ?_
    rintro e w4 ⟨rfl, hb4⟩
    rw [HD.out, HO.out]
    have hB4 : Below w.heap.size w w4 := belowStep hb4 hB3
    have hI4 := hI3.below hb4
    go_wp2_with fail
    refine (toInts A c xs _ (hx.below hB4) hl).mono ?_
    rintro e w5 ⟨v5, rfl, hF5, hb5⟩
    obtain ⟨A5, c5, rfl, hI5, -⟩ := hF5.ints
    clear hF5
    have hB5 : Below w.heap.size w w5 := belowStep hb5 hB4
    have hI6 := hI4.below hb5
    go_wp2_with fail
    refine (eqInts A3 A5 c3 c5 xs xs _ hI6 hI5 hl).mono ?_
    rintro e w6 ⟨rfl, n, rfl⟩
    go_wp2_with fail
    go_ret
    exact ⟨rfl, belowDrewN hB5 n⟩
  · have hl2 : (1048576 : Int) < (xs.length : Int) := by omega
    go_enter Try.func7, Try.ntmps7
    go_wp2_with fail
    go_ret
    exact ⟨rfl, Below.refl _ _⟩
theorem own : ownKnob Try.prog.godebug = none := by kernel_rfl
theorem laidOut : laidOutB Try.prog = true := by kernel_rfl
set_option maxRecDepth 100000 in
theorem lifted (os : Os) (started : os.Started) (H : Type) (enc : TypeId × Value → H) :
    ReturnsInHanded {} Try.checked os 7 .any (Rows.fnExactPackResiduesSpec.pre6 enc Try.prog Try.f7 Rows.fnExactPackResiduesRow.domain false) (Rows.fnExactPackResiduesSpec.post enc Try.prog Try.f7 false true false false) := by
  refine returnsInHanded_of_change (C := Try.checked) own started (by kernel_rfl) Try.func7
    (ChangeSpec.witness6 (enc := enc) (C := Try.checked) false ⟨#[], #[.slice none 0 0], []⟩ 8 (by kernel_rfl) (by kernel_rfl) (by kernel_rfl) (by kernel_rfl)) ?_
  intro W base args ds gs before hval0 hW hcnd _
  have hval : ∀ (j : Nat) t v, Try.f7.params[j]? = some t → args[j]? = some v → Value.okWide Try.prog W .any base t v := hval0
  have hW' := hW
  obtain ⟨p, q, hA0, hV, rfl, hfz, hnd⟩ := hW
  have hA : DataW.TrodAll enc Try.prog W 0 (fun _ => true) true Try.f7.params.toList args.toList ds p := hA0
  rw [Try.params7] at hA hval
  obtain ⟨v0, vs0, d0, ds0, p0, q0, hargs, rfl, rfl, h0, r0⟩ := trodAll_cons hA
  obtain ⟨rfl, rfl, rfl⟩ := trodAll_nil r0
  obtain rfl : args = #[v0] := by cases args; simp_all
  obtain ⟨rfl, rfl⟩ := trodVars_none hV
  have lt0 : ∀ x ∈ p0, x.block < W.heap.size := by obtain ⟨m, hm⟩ := h0; exact DataW.trod_lt m _ _ _ hm
  obtain ⟨A0, c0, x0, rfl, i0, t0, m0⟩ := arg_ints (hval 0 27 v0 rfl rfl) h0
  clear hA0 hval0
  refine (walk A0 c0 x0 W i0 t0 m0).mono fun e W' ⟨he, bel⟩ => ?_
  subst he
  exact ⟨_, rfl, _, _, _, [], _, [], hW', trodAll_mk1 (shut_bool Try.underlying4 _), (trodAll_cons_mk (Below.trod laidOut (by kernel_rfl) (of_decide_eq_true (by kernel_rfl)) h0 bel lt0) trodAll_mk0), rfl, bel.frame _, fun h => by cases h⟩
theorem fact_wf : Rows.fnExactPackResiduesRow.wf (OpenSpec.ofChange Rows.fnExactPackResiduesSpec) = true := by kernel_rfl
theorem fact_pars : Try.f7.params.all (Try.prog.readableRec ·) = true := by kernel_rfl
theorem fact_tie : namedTie Try.prog Rows.fnExactPackResiduesRow.named Rows.fnExactPackResiduesSpec.vars = true := by kernel_rfl
theorem fact_st : (Rows.fnExactPackResiduesRow.stops == []) = true := by kernel_rfl
theorem fact_kn : (Rows.fnExactPackResiduesRow.knobs == []) = true := by kernel_rfl
theorem fact_inp : (Rows.fnExactPackResiduesRow.inPlace == Try.prog.inPlace 7) = true := by kernel_rfl
theorem fact_unf : (Rows.fnExactPackResiduesRow.unfollowed == Try.prog.unfollowed 7) = true := by kernel_rfl
theorem fact_rec : (Rows.fnExactPackResiduesRow.recurses == Try.prog.recurses 7) = true := by kernel_rfl
theorem fact_nam : (Rows.fnExactPackResiduesRow.named == Try.prog.varsNamed 7) = true := by kernel_rfl
theorem fact_mp : (Rows.fnExactPackResiduesRow.maps == (Try.f7.params.toList ++ Rows.fnExactPackResiduesSpec.plain.varTypes Try.prog).any (Try.prog.mapsRec ·)) = true := by kernel_rfl
theorem fact_ifc : (Rows.fnExactPackResiduesRow.ifaces == (Try.f7.params.toList ++ Rows.fnExactPackResiduesSpec.plain.varTypes Try.prog).any (Try.prog.ifacesRec ·)) = true := by kernel_rfl
theorem fact_mo : (Rows.fnExactPackResiduesRow.mapsOut == Try.prog.mapsAmong Try.f7.resultTypes.toList) = true := by kernel_rfl
theorem fact_lo : (Rows.fnExactPackResiduesRow.loops == (Try.f7.params.toList ++ Rows.fnExactPackResiduesSpec.plain.varTypes Try.prog).any (Try.prog.loopsFrom ·)) = true := by kernel_rfl
theorem fact_wk : (Rows.fnExactPackResiduesRow.wideKeys == (Try.f7.params.toList ++ Rows.fnExactPackResiduesSpec.plain.varTypes Try.prog ++ Try.f7.resultTypes.toList).any (Try.prog.wideKeysFrom ·)) = true := by kernel_rfl
theorem fact_vs : Rows.fnExactPackResiduesSpec.vars.all (Try.prog.varReadable ·) = true := by kernel_rfl
theorem fact_res : Try.f7.resultTypes.all (fun t => Try.prog.readableRec t && decide (t < Try.prog.types.size)) = true := by kernel_rfl
theorem fact_io : (Rows.fnExactPackResiduesRow.ifacesOut == Try.f7.resultTypes.toList.any (Try.prog.ifacesRec ·)) = true := by kernel_rfl
theorem fact_loo : (Rows.fnExactPackResiduesRow.loopsOut == Try.f7.resultTypes.toList.any (Try.prog.loopsFrom ·)) = true := by kernel_rfl
theorem fact_pk : (Rows.fnExactPackResiduesRow.plainKeys == Try.prog.plainKeys) = true := by kernel_rfl
theorem fact_sh : Rows.fnExactPackResiduesRow.shortTexts.isNone = true := by kernel_rfl
theorem fact_li : (Rows.fnExactPackResiduesRow.lifted == Try.prog.liftsFinal) = true := by rw [fact_finals]; rfl
theorem fact_mk : (Try.prog.make == some Rows.fnExactPackResiduesRow.make) = true := by rw [fact_make]; rfl
theorem fact_kd : (Rows.fnExactPackResiduesRow.kinds == (if Rows.fnExactPackResiduesRow.domain.isEmpty then [] else Try.f7.params.toList.map fun t => match Try.prog.underlying t with | some (.int k) => some k | _ => none)) = true := by kernel_rfl
theorem fact_pi : (Rows.fnExactPackResiduesRow.pinned == Rows.fnExactPackResiduesRow.pinnedBy) = true := by kernel_rfl
theorem fact_ve : (Rows.fnExactPackResiduesRow.veiled == (Try.f7.params.toList ++ Rows.fnExactPackResiduesSpec.plain.varTypes Try.prog ++ Try.f7.resultTypes.toList).any (Try.prog.veiledRec ·)) = true := by kernel_rfl
theorem fact_vf : Rows.fnExactPackResiduesRow.veiledFits Try.prog Try.f7.params.toList (Try.f7.params.toList ++ Rows.fnExactPackResiduesSpec.plain.varTypes Try.prog ++ Try.f7.resultTypes.toList) = true := by kernel_rfl
set_option maxRecDepth 100000 in
theorem facts : joinedFacts Try.prog 7 Try.f7 Rows.fnExactPackResiduesSpec Rows.fnExactPackResiduesRow = true := facts_of fact_wf fact_laid fact_rowed fact_pars fact_tie fact_st fact_pst fact_kn fact_pkn fact_inp fact_unf fact_rec fact_nam fact_mp fact_ifc fact_mo fact_lo fact_wk fact_vs fact_res fact_io fact_loo fact_pk fact_sh fact_hd fact_me fact_li fact_mk fact_kd fact_pi fact_ve fact_vf
theorem fact_fn : Try.prog.funcNamed Rows.fnExactPackResiduesRow.func = some 7 := by kernel_rfl
theorem fact_inst : Try.f7.isInstance Try.prog Rows.fnExactPackResiduesRow.origin Rows.fnExactPackResiduesRow.targs := of_decide_eq_true (by kernel_rfl)
theorem fact_wrap : Try.f7.isWrapper Try.prog Rows.fnExactPackResiduesRow.wrapper Rows.fnExactPackResiduesRow.mainSum := by unfold Func.isWrapper; first | (rw [if_pos (by decide +kernel)]; kernel_rfl) | (rw [if_neg (by decide +kernel)]; exact ⟨rfl, rfl⟩)
theorem over : Rows.fnExactPackResiduesRow.holds Try.pinned (OpenSpec.ofChange Rows.fnExactPackResiduesSpec) :=
  OpenClaim.holds_of_wide 7 Try.f7 rfl rfl rfl rfl rfl rfl rfl ⟨rfl, rfl, rfl, rfl, rfl⟩ rfl rfl rfl rfl rfl fact_fn Try.func7 facts fact_inst fact_wrap
    (fun os started H enc _ => lifted os started H enc)
theorem proved : Rows.FnExactPackResiduesSaid := over
#print axioms proved
end Go.Proofs.Ytmhjcljjnofgeaa.lawPr
