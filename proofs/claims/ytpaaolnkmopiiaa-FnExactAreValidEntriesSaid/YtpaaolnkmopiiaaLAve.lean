/- FnExactAreValidEntries: for all arguments, both packages give one answer, and the argument stays as it was. No conditions. -/
import Derived.Test.YtpaaolnkmopiiaaAve
import Derived.Test.YtpaaolnkmopiiaaOpenS
namespace Go.Proofs.Ytpaaolnkmopiiaa.lawAve
open Go.RowKit Go.ChangeShapes Go.WideShapes Go.ChangeAt
set_option maxHeartbeats 2000000 in
theorem walk (A : Option Addr) (c : Nat) (es : List Ent) (w : World) (hx : EntsAt w A es) (hm : es.length ≤ maxLen) (hn : ∀ i, i < es.length → (es.getD i (0, [])).2.length ≤ maxLen) :
    Calls Try.prog 4 #[.slice A es.length c] w fun e w' => e = .returned (.bool true) ∧ Below w.heap.size w w' := by
  unfold maxLen at hm hn
  go_enter Try.func4, Try.ntmps4
  go_wp2_with fail
  refine (szEnts A c es _ hx hm hn).mono ?_
  rintro e w1 ⟨q, rfl, hq, hB1⟩
  have HQ := Lib.hid hq
  clear hq hn
  by_cases hneg : q < 0
  · go_wp2_with fail
    go_ret
    exact ⟨rfl, hB1⟩
  · obtain ⟨hl, hs⟩ := HQ.out (by omega)
    have HS := Lib.hid hs
    clear hs
    obtain ⟨ok, hok⟩ : ∃ ok, entsOk es = ok := ⟨_, rfl⟩
    have HO := Lib.hid hok
    clear hok
    go_wp2_with fail
    refine (toEnts A c es _ (hx.below hB1) hl HS.out).mono ?_
    rintro e w2 ⟨v2, rfl, hF2, hb2⟩
    obtain ⟨g2, rfl, hI2⟩ := hF2.ents
    have hB2 := belowStep hb2 hB1
    clear hF2 hb2
    go_wp2_with fail
    refine (specAve _ _ es _ hI2 hl HS.out).mono ?_
    rintro e w3 ⟨rfl, hb3⟩
    rw [HO.out]
    have hB3 := belowStep hb3 hB2
    clear hI2 hb3
    go_wp2_with fail
    refine (toEnts A c es _ (hx.below hB3) hl HS.out).mono ?_
    rintro e w4 ⟨v4, rfl, hF4, hb4⟩
    obtain ⟨g4, rfl, hI4⟩ := hF4.ents
    have hB4 := belowStep hb4 hB3
    clear hF4 hb4
    go_wp2_with fail
    refine (implAve _ _ es _ hI4 hl (Nat.le_refl _) HS.out).mono ?_
    rintro e w5 ⟨rfl, hb5⟩
    rw [HO.out]
    have hB5 := belowStep hb5 hB4
    have hI5 := hI4.below hb5
    clear hI4 hb5
    go_wp2_with fail
    refine (toEnts A c es _ (hx.below hB5) hl HS.out).mono ?_
    rintro e w6 ⟨v6, rfl, hF6, hb6⟩
    obtain ⟨g6, rfl, hI6⟩ := hF6.ents
    have hB6 := belowStep hb6 hB5
    have hI5b := hI5.below hb6
    clear hF6 hb6 hI5
    go_wp2_with fail
    refine (eqEnts _ _ _ _ es _ hI5b hI6 hl HS.out).mono ?_
    rintro e w7 ⟨rfl, hb7⟩
    go_wp2_with fail
    go_ret
    exact ⟨rfl, belowStep hb7 hB6⟩
theorem own : ownKnob Try.prog.godebug = none := by kernel_rfl
theorem laidOut : laidOutB Try.prog = true := by kernel_rfl
set_option maxRecDepth 100000 in
theorem lifted (os : Os) (started : os.Started) (H : Type) (enc : TypeId × Value → H) :
    ReturnsInHanded {} Try.checked os 4 .any (Rows.fnExactAreValidEntriesSpec.pre6 enc Try.prog Try.f4 Rows.fnExactAreValidEntriesRow.domain false) (Rows.fnExactAreValidEntriesSpec.post enc Try.prog Try.f4 false true false false) := by
  refine returnsInHanded_of_change (C := Try.checked) own started (by kernel_rfl) Try.func4
    (ChangeSpec.witness6 (enc := enc) (C := Try.checked) false ⟨#[], #[.slice none 0 0], []⟩ 8 (by kernel_rfl) (by kernel_rfl) (by kernel_rfl) (by kernel_rfl)) ?_
  intro W base args ds gs before hval0 hW hcnd _
  have hval : ∀ (j : Nat) t v, Try.f4.params[j]? = some t → args[j]? = some v → Value.okWide Try.prog W .any base t v := hval0
  have hW' := hW
  obtain ⟨p, q, hA0, hV, rfl, hfz, hnd⟩ := hW
  have hA : DataW.TrodAll enc Try.prog W 0 (fun _ => true) true Try.f4.params.toList args.toList ds p := hA0
  rw [Try.params4] at hA hval
  obtain ⟨v0, vs0, d0, ds0, p0, q0, hargs, rfl, rfl, h0, r0⟩ := trodAll_cons hA
  obtain ⟨rfl, rfl, rfl⟩ := trodAll_nil r0
  obtain rfl : args = #[v0] := by cases args; simp_all
  obtain ⟨rfl, rfl⟩ := trodVars_none hV
  have lt0 : ∀ x ∈ p0, x.block < W.heap.size := by obtain ⟨m, hm⟩ := h0; exact DataW.trod_lt m _ _ _ hm
  obtain ⟨A0, c0, e0, rfl, i0, m0, n0⟩ := arg_entries (hval 0 24 v0 rfl rfl) h0
  clear hA0 hval0
  refine (walk A0 c0 e0 W i0 m0 n0).mono fun e W' ⟨he, bel⟩ => ?_
  subst he
  exact ⟨_, rfl, _, _, _, [], _, [], hW', trodAll_mk1 (shut_bool Try.underlying4 _), (trodAll_cons_mk (Below.trod laidOut (by kernel_rfl) (of_decide_eq_true (by kernel_rfl)) h0 bel lt0) trodAll_mk0), rfl, bel.frame _, fun h => by cases h⟩
theorem fact_wf : Rows.fnExactAreValidEntriesRow.wf (OpenSpec.ofChange Rows.fnExactAreValidEntriesSpec) = true := by kernel_rfl
theorem fact_pars : Try.f4.params.all (Try.prog.readableRec ·) = true := by kernel_rfl
theorem fact_tie : namedTie Try.prog Rows.fnExactAreValidEntriesRow.named Rows.fnExactAreValidEntriesSpec.vars = true := by kernel_rfl
theorem fact_st : (Rows.fnExactAreValidEntriesRow.stops == []) = true := by kernel_rfl
theorem fact_kn : (Rows.fnExactAreValidEntriesRow.knobs == []) = true := by kernel_rfl
theorem fact_inp : (Rows.fnExactAreValidEntriesRow.inPlace == Try.prog.inPlace 4) = true := by kernel_rfl
theorem fact_unf : (Rows.fnExactAreValidEntriesRow.unfollowed == Try.prog.unfollowed 4) = true := by kernel_rfl
theorem fact_rec : (Rows.fnExactAreValidEntriesRow.recurses == Try.prog.recurses 4) = true := by kernel_rfl
theorem fact_nam : (Rows.fnExactAreValidEntriesRow.named == Try.prog.varsNamed 4) = true := by kernel_rfl
theorem fact_mp : (Rows.fnExactAreValidEntriesRow.maps == (Try.f4.params.toList ++ Rows.fnExactAreValidEntriesSpec.plain.varTypes Try.prog).any (Try.prog.mapsRec ·)) = true := by kernel_rfl
theorem fact_ifc : (Rows.fnExactAreValidEntriesRow.ifaces == (Try.f4.params.toList ++ Rows.fnExactAreValidEntriesSpec.plain.varTypes Try.prog).any (Try.prog.ifacesRec ·)) = true := by kernel_rfl
theorem fact_mo : (Rows.fnExactAreValidEntriesRow.mapsOut == Try.prog.mapsAmong Try.f4.resultTypes.toList) = true := by kernel_rfl
theorem fact_lo : (Rows.fnExactAreValidEntriesRow.loops == (Try.f4.params.toList ++ Rows.fnExactAreValidEntriesSpec.plain.varTypes Try.prog).any (Try.prog.loopsFrom ·)) = true := by kernel_rfl
theorem fact_wk : (Rows.fnExactAreValidEntriesRow.wideKeys == (Try.f4.params.toList ++ Rows.fnExactAreValidEntriesSpec.plain.varTypes Try.prog ++ Try.f4.resultTypes.toList).any (Try.prog.wideKeysFrom ·)) = true := by kernel_rfl
theorem fact_vs : Rows.fnExactAreValidEntriesSpec.vars.all (Try.prog.varReadable ·) = true := by kernel_rfl
theorem fact_res : Try.f4.resultTypes.all (fun t => Try.prog.readableRec t && decide (t < Try.prog.types.size)) = true := by kernel_rfl
theorem fact_io : (Rows.fnExactAreValidEntriesRow.ifacesOut == Try.f4.resultTypes.toList.any (Try.prog.ifacesRec ·)) = true := by kernel_rfl
theorem fact_loo : (Rows.fnExactAreValidEntriesRow.loopsOut == Try.f4.resultTypes.toList.any (Try.prog.loopsFrom ·)) = true := by kernel_rfl
theorem fact_pk : (Rows.fnExactAreValidEntriesRow.plainKeys == Try.prog.plainKeys) = true := by kernel_rfl
theorem fact_sh : Rows.fnExactAreValidEntriesRow.shortTexts.isNone = true := by kernel_rfl
theorem fact_li : (Rows.fnExactAreValidEntriesRow.lifted == Try.prog.liftsFinal) = true := by rw [fact_finals]; rfl
theorem fact_mk : (Try.prog.make == some Rows.fnExactAreValidEntriesRow.make) = true := by rw [fact_make]; rfl
theorem fact_kd : (Rows.fnExactAreValidEntriesRow.kinds == (if Rows.fnExactAreValidEntriesRow.domain.isEmpty then [] else Try.f4.params.toList.map fun t => match Try.prog.underlying t with | some (.int k) => some k | _ => none)) = true := by kernel_rfl
theorem fact_pi : (Rows.fnExactAreValidEntriesRow.pinned == Rows.fnExactAreValidEntriesRow.pinnedBy) = true := by kernel_rfl
theorem fact_ve : (Rows.fnExactAreValidEntriesRow.veiled == (Try.f4.params.toList ++ Rows.fnExactAreValidEntriesSpec.plain.varTypes Try.prog ++ Try.f4.resultTypes.toList).any (Try.prog.veiledRec ·)) = true := by kernel_rfl
theorem fact_vf : Rows.fnExactAreValidEntriesRow.veiledFits Try.prog Try.f4.params.toList (Try.f4.params.toList ++ Rows.fnExactAreValidEntriesSpec.plain.varTypes Try.prog ++ Try.f4.resultTypes.toList) = true := by kernel_rfl
set_option maxRecDepth 100000 in
theorem facts : joinedFacts Try.prog 4 Try.f4 Rows.fnExactAreValidEntriesSpec Rows.fnExactAreValidEntriesRow = true := facts_of fact_wf fact_laid fact_rowed fact_pars fact_tie fact_st fact_pst fact_kn fact_pkn fact_inp fact_unf fact_rec fact_nam fact_mp fact_ifc fact_mo fact_lo fact_wk fact_vs fact_res fact_io fact_loo fact_pk fact_sh fact_hd fact_me fact_li fact_mk fact_kd fact_pi fact_ve fact_vf
theorem fact_fn : Try.prog.funcNamed Rows.fnExactAreValidEntriesRow.func = some 4 := by kernel_rfl
theorem fact_inst : Try.f4.isInstance Try.prog Rows.fnExactAreValidEntriesRow.origin Rows.fnExactAreValidEntriesRow.targs := of_decide_eq_true (by kernel_rfl)
theorem fact_wrap : Try.f4.isWrapper Try.prog Rows.fnExactAreValidEntriesRow.wrapper Rows.fnExactAreValidEntriesRow.mainSum := by unfold Func.isWrapper; first | (rw [if_pos (by decide +kernel)]; kernel_rfl) | (rw [if_neg (by decide +kernel)]; exact ⟨rfl, rfl⟩)
theorem over : Rows.fnExactAreValidEntriesRow.holds Try.pinned (OpenSpec.ofChange Rows.fnExactAreValidEntriesSpec) :=
  OpenClaim.holds_of_wide 4 Try.f4 rfl rfl rfl rfl rfl rfl rfl ⟨rfl, rfl, rfl, rfl, rfl⟩ rfl rfl rfl rfl rfl fact_fn Try.func4 facts fact_inst fact_wrap
    (fun os started H enc _ => lifted os started H enc)
theorem proved : Rows.FnExactAreValidEntriesSaid := over
#print axioms proved
end Go.Proofs.Ytpaaolnkmopiiaa.lawAve
