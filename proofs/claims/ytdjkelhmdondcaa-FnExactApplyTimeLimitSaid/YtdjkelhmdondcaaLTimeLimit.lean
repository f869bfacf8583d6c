/- FnExactApplyTimeLimit: for all arguments, both packages give one answer. No conditions. -/
import Derived.Test.YtdjkelhmdondcaaLim
import Derived.Test.YtdjkelhmdondcaaOpen
namespace Go.Proofs.Ytdjkelhmdondcaa.lawTimeLimit
open Go.RowKit Go.ChangeShapes Go.WideShapes Go.ChangeAt
set_option maxHeartbeats 1000000 in
theorem walk (r : RR) (x : Int) (w : World) (_ : -9223372036854775808 ≤ x ∧ x ≤ 9223372036854775807) :
    Calls Try.prog 6 #[.agg #[.int .i64 r.att, .int .i64 r.lim, .int .i64 r.catt, .int .i64 r.cut, .int .i64 r.adv], .int .i64 x] w fun e w' => e = .returned (.bool true) ∧ Below w.heap.size w w' := by
  go_enter Try.func6, Try.ntmps6
  go_wp2_with (first | (go_at_call 27; refine (toRR r _).mono ?_; rintro e w1 ⟨rfl, hb1⟩; have hB1 : Below w.heap.size w w1 := belowStep hb1 (by repeat (first | exact Below.refl _ _ | assumption | refine Below.setCell ?_ (by first | omega | (simp <;> omega)) _ | refine Below.alloc ?_ (by first | omega | (simp <;> omega)) _ | refine Below.drew ?_)); obtain ⟨hc1, hf1⟩ := bcell hb1; have hz1 : w.heap.size < w1.heap.size := by have := hb1.size; (try simp at this); omega) | (go_at_call 35; refine (specApplyLimit r _ _).mono ?_; rintro e w2 ⟨rfl, hb2⟩; have hB2 : Below w.heap.size w w2 := belowStep hb2 (by repeat (first | exact Below.refl _ _ | assumption | refine Below.setCell ?_ (by first | omega | (simp <;> omega)) _ | refine Below.alloc ?_ (by first | omega | (simp <;> omega)) _ | refine Below.drew ?_)); obtain ⟨hc2, hf2⟩ := bcell hb2; have hz2 : w.heap.size < w2.heap.size := by have := hb2.size; (try simp at this); omega) | (go_at_call 36; refine (implApplyLimit r _ _).mono ?_; rintro e w3 ⟨rfl, hb3⟩; have hB3 : Below w.heap.size w w3 := belowStep hb3 (by repeat (first | exact Below.refl _ _ | assumption | refine Below.setCell ?_ (by first | omega | (simp <;> omega)) _ | refine Below.alloc ?_ (by first | omega | (simp <;> omega)) _ | refine Below.drew ?_)); obtain ⟨hc3, hf3⟩ := bcell hb3; have hz3 : w.heap.size < w3.heap.size := by have := hb3.size; (try simp at this); omega))
  go_ret
  exact ⟨rfl, by assumption⟩
theorem own : ownKnob Try.prog.godebug = none := by kernel_rfl
theorem laidOut : laidOutB Try.prog = true := by kernel_rfl
set_option maxRecDepth 100000 in
theorem lifted (os : Os) (started : os.Started) (H : Type) (enc : TypeId × Value → H) :
    ReturnsInHanded {} Try.checked os 6 .any (Rows.fnExactApplyTimeLimitSpec.pre6 enc Try.prog Try.f6 Rows.fnExactApplyTimeLimitRow.domain false) (Rows.fnExactApplyTimeLimitSpec.post enc Try.prog Try.f6 false true false false) := by
  refine returnsInHanded_of_change (C := Try.checked) own started (by kernel_rfl) Try.func6
    (ChangeSpec.witness6 (enc := enc) (C := Try.checked) false ⟨#[], #[.agg #[.int .i64 0, .int .i64 0, .int .i64 0, .int .i64 0, .int .i64 0], .int .i64 0], []⟩ 8 (by kernel_rfl) (by kernel_rfl) (by kernel_rfl) (by kernel_rfl)) ?_
  intro W base args ds gs before hval0 hW hcnd _
  have hval : ∀ (j : Nat) t v, Try.f6.params[j]? = some t → args[j]? = some v → Value.okWide Try.prog W .any base t v := hval0
  have hW' := hW
  obtain ⟨p, q, hA0, hV, rfl, hfz, hnd⟩ := hW
  have hA : DataW.TrodAll enc Try.prog W 0 (fun _ => true) true Try.f6.params.toList args.toList ds p := hA0
  rw [Try.params6] at hA hval
  obtain ⟨v0, vs0, d0, ds0, p0, q0, hargs, rfl, rfl, h0, r0⟩ := trodAll_cons hA
  obtain ⟨v1, vs1, d1, ds1, p1, q1, rfl, rfl, rfl, h1, r1⟩ := trodAll_cons r0
  obtain ⟨rfl, rfl, rfl⟩ := trodAll_nil r1
  obtain rfl : args = #[v0, v1] := by cases args; simp_all
  obtain ⟨rfl, rfl⟩ := trodVars_none hV
  have lt0 : ∀ x ∈ p0, x.block < W.heap.size := by obtain ⟨m, hm⟩ := h0; exact DataW.trod_lt m _ _ _ hm
  have lt1 : ∀ x ∈ p1, x.block < W.heap.size := by obtain ⟨m, hm⟩ := h1; exact DataW.trod_lt m _ _ _ hm
  obtain ⟨g0, rfl⟩ := arg_rr (hval 0 23 v0 rfl rfl) h0
  obtain ⟨a1, rfl, b1⟩ := arg_int (hval 1 2 v1 rfl rfl) h1
  clear hA0 hval0
  refine (walk g0 a1 W  b1).mono fun e W' ⟨he, bel⟩ => ?_
  subst he
  exact ⟨_, rfl, _, _, _, [], _, [], hW', trodAll_mk1 (shut_bool Try.underlying4 _), (trodAll_cons_mk (Below.trod laidOut (by kernel_rfl) (of_decide_eq_true (by kernel_rfl)) h0 bel lt0) (trodAll_cons_mk (Below.trod laidOut (by kernel_rfl) (of_decide_eq_true (by kernel_rfl)) h1 bel lt1) trodAll_mk0)), rfl, bel.frame _, fun h => by cases h⟩
theorem fact_wf : Rows.fnExactApplyTimeLimitRow.wf (OpenSpec.ofChange Rows.fnExactApplyTimeLimitSpec) = true := by kernel_rfl
theorem fact_pars : Try.f6.params.all (Try.prog.readableRec ·) = true := by kernel_rfl
theorem fact_tie : namedTie Try.prog Rows.fnExactApplyTimeLimitRow.named Rows.fnExactApplyTimeLimitSpec.vars = true := by kernel_rfl
theorem fact_st : (Rows.fnExactApplyTimeLimitRow.stops == []) = true := by kernel_rfl
theorem fact_kn : (Rows.fnExactApplyTimeLimitRow.knobs == []) = true := by kernel_rfl
theorem fact_inp : (Rows.fnExactApplyTimeLimitRow.inPlace == Try.prog.inPlace 6) = true := by kernel_rfl
theorem fact_unf : (Rows.fnExactApplyTimeLimitRow.unfollowed == Try.prog.unfollowed 6) = true := by kernel_rfl
theorem fact_rec : (Rows.fnExactApplyTimeLimitRow.recurses == Try.prog.recurses 6) = true := by kernel_rfl
theorem fact_nam : (Rows.fnExactApplyTimeLimitRow.named == Try.prog.varsNamed 6) = true := by kernel_rfl
theorem fact_mp : (Rows.fnExactApplyTimeLimitRow.maps == (Try.f6.params.toList ++ Rows.fnExactApplyTimeLimitSpec.plain.varTypes Try.prog).any (Try.prog.mapsRec ·)) = true := by kernel_rfl
theorem fact_ifc : (Rows.fnExactApplyTimeLimitRow.ifaces == (Try.f6.params.toList ++ Rows.fnExactApplyTimeLimitSpec.plain.varTypes Try.prog).any (Try.prog.ifacesRec ·)) = true := by kernel_rfl
theorem fact_mo : (Rows.fnExactApplyTimeLimitRow.mapsOut == Try.prog.mapsAmong Try.f6.resultTypes.toList) = true := by kernel_rfl
theorem fact_lo : (Rows.fnExactApplyTimeLimitRow.loops == (Try.f6.params.toList ++ Rows.fnExactApplyTimeLimitSpec.plain.varTypes Try.prog).any (Try.prog.loopsFrom ·)) = true := by kernel_rfl
theorem fact_wk : (Rows.fnExactApplyTimeLimitRow.wideKeys == (Try.f6.params.toList ++ Rows.fnExactApplyTimeLimitSpec.plain.varTypes Try.prog ++ Try.f6.resultTypes.toList).any (Try.prog.wideKeysFrom ·)) = true := by kernel_rfl
theorem fact_vs : Rows.fnExactApplyTimeLimitSpec.vars.all (Try.prog.varReadable ·) = true := by kernel_rfl
theorem fact_res : Try.f6.resultTypes.all (fun t => Try.prog.readableRec t && decide (t < Try.prog.types.size)) = true := by kernel_rfl
theorem fact_io : (Rows.fnExactApplyTimeLimitRow.ifacesOut == Try.f6.resultTypes.toList.any (Try.prog.ifacesRec ·)) = true := by kernel_rfl
theorem fact_loo : (Rows.fnExactApplyTimeLimitRow.loopsOut == Try.f6.resultTypes.toList.any (Try.prog.loopsFrom ·)) = true := by kernel_rfl
theorem fact_pk : (Rows.fnExactApplyTimeLimitRow.plainKeys == Try.prog.plainKeys) = true := by kernel_rfl
theorem fact_sh : Rows.fnExactApplyTimeLimitRow.shortTexts.isNone = true := by kernel_rfl
theorem fact_li : (Rows.fnExactApplyTimeLimitRow.lifted == Try.prog.liftsFinal) = true := by rw [fact_finals]; rfl
theorem fact_mk : (Try.prog.make == some Rows.fnExactApplyTimeLimitRow.make) = true := by rw [fact_make]; rfl
theorem fact_kd : (Rows.fnExactApplyTimeLimitRow.kinds == (if Rows.fnExactApplyTimeLimitRow.domain.isEmpty then [] else Try.f6.params.toList.map fun t => match Try.prog.underlying t with | some (.int k) => some k | _ => none)) = true := by kernel_rfl
theorem fact_pi : (Rows.fnExactApplyTimeLimitRow.pinned == Rows.fnExactApplyTimeLimitRow.pinnedBy) = true := by kernel_rfl
theorem fact_ve : (Rows.fnExactApplyTimeLimitRow.veiled == (Try.f6.params.toList ++ Rows.fnExactApplyTimeLimitSpec.plain.varTypes Try.prog ++ Try.f6.resultTypes.toList).any (Try.prog.veiledRec ·)) = true := by kernel_rfl
theorem fact_vf : Rows.fnExactApplyTimeLimitRow.veiledFits Try.prog Try.f6.params.toList (Try.f6.params.toList ++ Rows.fnExactApplyTimeLimitSpec.plain.varTypes Try.prog ++ Try.f6.resultTypes.toList) = true := by kernel_rfl
set_option maxRecDepth 100000 in
theorem facts : joinedFacts Try.prog 6 Try.f6 Rows.fnExactApplyTimeLimitSpec Rows.fnExactApplyTimeLimitRow = true := facts_of fact_wf fact_laid fact_rowed fact_pars fact_tie fact_st fact_pst fact_kn fact_pkn fact_inp fact_unf fact_rec fact_nam fact_mp fact_ifc fact_mo fact_lo fact_wk fact_vs fact_res fact_io fact_loo fact_pk fact_sh fact_hd fact_me fact_li fact_mk fact_kd fact_pi fact_ve fact_vf
theorem fact_fn : Try.prog.funcNamed Rows.fnExactApplyTimeLimitRow.func = some 6 := by kernel_rfl
theorem fact_inst : Try.f6.isInstance Try.prog Rows.fnExactApplyTimeLimitRow.origin Rows.fnExactApplyTimeLimitRow.targs := of_decide_eq_true (by kernel_rfl)
theorem fact_wrap : Try.f6.isWrapper Try.prog Rows.fnExactApplyTimeLimitRow.wrapper Rows.fnExactApplyTimeLimitRow.mainSum := by unfold Func.isWrapper; first | (rw [if_pos (by decide +kernel)]; kernel_rfl) | (rw [if_neg (by decide +kernel)]; exact ⟨rfl, rfl⟩)
theorem over : Rows.fnExactApplyTimeLimitRow.holds Try.pinned (OpenSpec.ofChange Rows.fnExactApplyTimeLimitSpec) :=
  OpenClaim.holds_of_wide 6 Try.f6 rfl rfl rfl rfl rfl rfl rfl ⟨rfl, rfl, rfl, rfl, rfl⟩ rfl rfl rfl rfl rfl fact_fn Try.func6 facts fact_inst fact_wrap
    (fun os started H enc _ => lifted os started H enc)
theorem proved : Rows.FnExactApplyTimeLimitSaid := over
#print axioms proved
end Go.Proofs.Ytdjkelhmdondcaa.lawTimeLimit
