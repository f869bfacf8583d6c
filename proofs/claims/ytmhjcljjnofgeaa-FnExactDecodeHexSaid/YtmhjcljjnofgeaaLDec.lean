/- FnExactDecodeHex: for all arguments, both packages give one answer. No conditions. -/
import Derived.Test.YtmhjcljjnofgeaaDec
import Derived.Test.YtmhjcljjnofgeaaOpen
namespace Go.Proofs.Ytmhjcljjnofgeaa.lawDecHex
open Go.RowKit Go.ChangeShapes Go.WideShapes Go.ChangeAt
set_option maxHeartbeats 1000000 in
theorem walk (s0 : ByteArray) (w : World) (hm : s0.size ≤ maxLen) :
    Calls Try.prog 5 #[.string s0] w fun e w' => e = .returned (.bool true) ∧ Below w.heap.size w w' := by
  unfold maxLen at hm
  by_cases hl : s0.size ≤ 1048576
  · have hl2 : ¬ (1048576 : Int) < (s0.size : Int) := by omega
    obtain ⟨d, hd⟩ : ∃ d, decS s0 = d := ⟨_, rfl⟩
    obtain ⟨b, hb⟩ : ∃ b, decOk s0 = b := ⟨_, rfl⟩
    have HD := Lib.hid hd
    have HB := Lib.hid hb
    clear hd hb
    go_enter Try.func5, Try.ntmps5
    go_wp2_with fail
    ((with_reducible refine (specDec _ _ hl).mono ?_); rintro e w1 ⟨rfl, hb1⟩)
    rw [HD.out, HB.out]
    go_wp2_with fail
    ((with_reducible refine (implDec _ _ hl).mono ?_); rintro e w2 ⟨rfl, hb2⟩)
    rw [HD.out, HB.out]
    have hB2 : Below w.heap.size w w2 := belowStep hb2 hb1
    go_wp2_with fail
    go_ret
    exact ⟨rfl, hB2⟩
  · have hl2 : (1048576 : Int) < (s0.size : Int) := by omega
    go_enter Try.func5, Try.ntmps5
    go_wp2_with fail
    go_ret
    exact ⟨rfl, Below.refl _ _⟩
theorem own : ownKnob Try.prog.godebug = none := by kernel_rfl
theorem laidOut : laidOutB Try.prog = true := by kernel_rfl
set_option maxRecDepth 100000 in
theorem lifted (os : Os) (started : os.Started) (H : Type) (enc : TypeId × Value → H) :
    ReturnsInHanded {} Try.checked os 5 .any (Rows.fnExactDecodeHexSpec.pre6 enc Try.prog Try.f5 Rows.fnExactDecodeHexRow.domain false) (Rows.fnExactDecodeHexSpec.post enc Try.prog Try.f5 false true false false) := by
  refine returnsInHanded_of_change (C := Try.checked) own started (by kernel_rfl) Try.func5
    (ChangeSpec.witness6 (enc := enc) (C := Try.checked) false ⟨#[], #[.string ByteArray.empty], []⟩ 8 (by kernel_rfl) (by kernel_rfl) (by kernel_rfl) (by kernel_rfl)) ?_
  intro W base args ds gs before hval0 hW hcnd _
  have hval : ∀ (j : Nat) t v, Try.f5.params[j]? = some t → args[j]? = some v → Value.okWide Try.prog W .any base t v := hval0
  have hW' := hW
  obtain ⟨p, q, hA0, hV, rfl, hfz, hnd⟩ := hW
  have hA : DataW.TrodAll enc Try.prog W 0 (fun _ => true) true Try.f5.params.toList args.toList ds p := hA0
  rw [Try.params5] at hA hval
  obtain ⟨v0, vs0, d0, ds0, p0, q0, hargs, rfl, rfl, h0, r0⟩ := trodAll_cons hA
  obtain ⟨rfl, rfl, rfl⟩ := trodAll_nil r0
  obtain rfl : args = #[v0] := by cases args; simp_all
  obtain ⟨rfl, rfl⟩ := trodVars_none hV
  have lt0 : ∀ x ∈ p0, x.block < W.heap.size := by obtain ⟨m, hm⟩ := h0; exact DataW.trod_lt m _ _ _ hm
  obtain ⟨s0, rfl, m0⟩ := arg_str (hval 0 9 v0 rfl rfl) h0
  clear hA0 hval0
  refine (walk s0 W m0).mono fun e W' ⟨he, bel⟩ => ?_
  subst he
  exact ⟨_, rfl, _, _, _, [], _, [], hW', trodAll_mk1 (shut_bool Try.underlying4 _), (trodAll_cons_mk (Below.trod laidOut (by kernel_rfl) (of_decide_eq_true (by kernel_rfl)) h0 bel lt0) trodAll_mk0), rfl, bel.frame _, fun h => by cases h⟩
theorem fact_wf : Rows.fnExactDecodeHexRow.wf (OpenSpec.ofChange Rows.fnExactDecodeHexSpec) = true := by kernel_rfl
theorem fact_pars : Try.f5.params.all (Try.prog.readableRec ·) = true := by kernel_rfl
theorem fact_tie : namedTie Try.prog Rows.fnExactDecodeHexRow.named Rows.fnExactDecodeHexSpec.vars = true := by kernel_rfl
theorem fact_st : (Rows.fnExactDecodeHexRow.stops == []) = true := by kernel_rfl
theorem fact_kn : (Rows.fnExactDecodeHexRow.knobs == []) = true := by kernel_rfl
theorem fact_inp : (Rows.fnExactDecodeHexRow.inPlace == Try.prog.inPlace 5) = true := by kernel_rfl
theorem fact_unf : (Rows.fnExactDecodeHexRow.unfollowed == Try.prog.unfollowed 5) = true := by kernel_rfl
theorem fact_rec : (Rows.fnExactDecodeHexRow.recurses == Try.prog.recurses 5) = true := by kernel_rfl
theorem fact_nam : (Rows.fnExactDecodeHexRow.named == Try.prog.varsNamed 5) = true := by kernel_rfl
theorem fact_mp : (Rows.fnExactDecodeHexRow.maps == (Try.f5.params.toList ++ Rows.fnExactDecodeHexSpec.plain.varTypes Try.prog).any (Try.prog.mapsRec ·)) = true := by kernel_rfl
theorem fact_ifc : (Rows.fnExactDecodeHexRow.ifaces == (Try.f5.params.toList ++ Rows.fnExactDecodeHexSpec.plain.varTypes Try.prog).any (Try.prog.ifacesRec ·)) = true := by kernel_rfl
theorem fact_mo : (Rows.fnExactDecodeHexRow.mapsOut == Try.prog.mapsAmong Try.f5.resultTypes.toList) = true := by kernel_rfl
theorem fact_lo : (Rows.fnExactDecodeHexRow.loops == (Try.f5.params.toList ++ Rows.fnExactDecodeHexSpec.plain.varTypes Try.prog).any (Try.prog.loopsFrom ·)) = true := by kernel_rfl
theorem fact_wk : (Rows.fnExactDecodeHexRow.wideKeys == (Try.f5.params.toList ++ Rows.fnExactDecodeHexSpec.plain.varTypes Try.prog ++ Try.f5.resultTypes.toList).any (Try.prog.wideKeysFrom ·)) = true := by kernel_rfl
theorem fact_vs : Rows.fnExactDecodeHexSpec.vars.all (Try.prog.varReadable ·) = true := by kernel_rfl
theorem fact_res : Try.f5.resultTypes.all (fun t => Try.prog.readableRec t && decide (t < Try.prog.types.size)) = true := by kernel_rfl
theorem fact_io : (Rows.fnExactDecodeHexRow.ifacesOut == Try.f5.resultTypes.toList.any (Try.prog.ifacesRec ·)) = true := by kernel_rfl
theorem fact_loo : (Rows.fnExactDecodeHexRow.loopsOut == Try.f5.resultTypes.toList.any (Try.prog.loopsFrom ·)) = true := by kernel_rfl
theorem fact_pk : (Rows.fnExactDecodeHexRow.plainKeys == Try.prog.plainKeys) = true := by kernel_rfl
theorem fact_sh : Rows.fnExactDecodeHexRow.shortTexts.isNone = true := by kernel_rfl
theorem fact_li : (Rows.fnExactDecodeHexRow.lifted == Try.prog.liftsFinal) = true := by rw [fact_finals]; rfl
theorem fact_mk : (Try.prog.make == some Rows.fnExactDecodeHexRow.make) = true := by rw [fact_make]; rfl
theorem fact_kd : (Rows.fnExactDecodeHexRow.kinds == (if Rows.fnExactDecodeHexRow.domain.isEmpty then [] else Try.f5.params.toList.map fun t => match Try.prog.underlying t with | some (.int k) => some k | _ => none)) = true := by kernel_rfl
theorem fact_pi : (Rows.fnExactDecodeHexRow.pinned == Rows.fnExactDecodeHexRow.pinnedBy) = true := by kernel_rfl
theorem fact_ve : (Rows.fnExactDecodeHexRow.veiled == (Try.f5.params.toList ++ Rows.fnExactDecodeHexSpec.plain.varTypes Try.prog ++ Try.f5.resultTypes.toList).any (Try.prog.veiledRec ·)) = true := by kernel_rfl
theorem fact_vf : Rows.fnExactDecodeHexRow.veiledFits Try.prog Try.f5.params.toList (Try.f5.params.toList ++ Rows.fnExactDecodeHexSpec.plain.varTypes Try.prog ++ Try.f5.resultTypes.toList) = true := by kernel_rfl
set_option maxRecDepth 100000 in
theorem facts : joinedFacts Try.prog 5 Try.f5 Rows.fnExactDecodeHexSpec Rows.fnExactDecodeHexRow = true := facts_of fact_wf fact_laid fact_rowed fact_pars fact_tie fact_st fact_pst fact_kn fact_pkn fact_inp fact_unf fact_rec fact_nam fact_mp fact_ifc fact_mo fact_lo fact_wk fact_vs fact_res fact_io fact_loo fact_pk fact_sh fact_hd fact_me fact_li fact_mk fact_kd fact_pi fact_ve fact_vf
theorem fact_fn : Try.prog.funcNamed Rows.fnExactDecodeHexRow.func = some 5 := by kernel_rfl
theorem fact_inst : Try.f5.isInstance Try.prog Rows.fnExactDecodeHexRow.origin Rows.fnExactDecodeHexRow.targs := of_decide_eq_true (by kernel_rfl)
theorem fact_wrap : Try.f5.isWrapper Try.prog Rows.fnExactDecodeHexRow.wrapper Rows.fnExactDecodeHexRow.mainSum := by unfold Func.isWrapper; first | (rw [if_pos (by decide +kernel)]; kernel_rfl) | (rw [if_neg (by decide +kernel)]; exact ⟨rfl, rfl⟩)
theorem over : Rows.fnExactDecodeHexRow.holds Try.pinned (OpenSpec.ofChange Rows.fnExactDecodeHexSpec) :=
  OpenClaim.holds_of_wide 5 Try.f5 rfl rfl rfl rfl rfl rfl rfl ⟨rfl, rfl, rfl, rfl, rfl⟩ rfl rfl rfl rfl rfl fact_fn Try.func5 facts fact_inst fact_wrap
    (fun os started H enc _ => lifted os started H enc)
theorem proved : Rows.FnExactDecodeHexSaid := over
#print axioms proved
end Go.Proofs.Ytmhjcljjnofgeaa.lawDecHex
