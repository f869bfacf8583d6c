/- FnExactMeetsCutoff: for all arguments, both packages give one answer, and the argument stays as it was. No conditions. -/
import Derived.Test.YtdjkelhmdondcaaMeets
import Derived.Test.YtdjkelhmdondcaaOpen
namespace Go.Proofs.Ytdjkelhmdondcaa.lawMeets
open Go.RowKit Go.ChangeShapes Go.WideShapes Go.ChangeAt
set_option maxHeartbeats 1000000 in
theorem walk (r : RR) (A : Option Addr) (c : Nat) (xs : List Int) (w : World) (hx : IntsAt w A xs) (_hf : Fits xs) (hm : xs.length ≤ maxLen) :
    Calls Try.prog 14 #[.agg #[.int .i64 r.att, .int .i64 r.lim, .int .i64 r.catt, .int .i64 r.cut, .int .i64 r.adv], .slice A xs.length c] w fun e w' => e = .returned (.bool true) ∧ Below w.heap.size w w' := by
  unfold maxLen at hm
  have hB0 : Below w.heap.size w (w.alloc (.cells #[.int .i64 r.att, .int .i64 r.lim, .int .i64 r.catt, .int .i64 r.cut, .int .i64 r.adv] 23)) := (by repeat (first | exact Below.refl _ _ | assumption | refine Below.setCell ?_ (by first | omega | (simp <;> omega)) _ | refine Below.alloc ?_ (by first | omega | (simp <;> omega)) _ | refine Below.drew ?_))
  by_cases hl : xs.length ≤ 1048576
  · have hl2 : ¬ (1048576 : Int) < (xs.length : Int) := by omega
    have hbox := BoxRR.new w r 23
    go_enter Try.func14, Try.ntmps14
    go_wp2_with fail
    refine (toRR r _).mono ?_
    rintro e w1 ⟨rfl, hb1⟩
    have hB1 : Below w.heap.size w w1 := belowStep hb1 hB0
    have hbox1 := hbox.below hb1
    clear hbox
    go_wp2_with fail
    refine (toInts A c xs _ (hx.below hB1) hl).mono ?_
    rintro e w2 ⟨v2, rfl, hF2, hb2⟩
    obtain ⟨A2, c2, hlc2, rfl, hI2⟩ := hF2.capped
    clear hF2
    have hB2 : Below w.heap.size w w2 := belowStep hb2 hB1
    have hbox2 := hbox1.below hb2
    go_wp2_with fail
    refine (specMeetsCutoff r A2 c2 xs _ hI2 hl hlc2).mono ?_
    rintro e w3 ⟨rfl, hb3⟩
    have hB3 : Below w.heap.size w w3 := belowStep hb3 hB2
    have hbox3 := hbox2.below hb3
    clear hbox1 hbox2
    go_wp2_with fail
    refine (toInts A c xs _ (hx.below hB3) hl).mono ?_
    rintro e w4 ⟨v4, rfl, hF4, hb4⟩
    obtain ⟨A4, c4, hlc4, rfl, hI4⟩ := hF4.capped
    clear hF4
    have hB4 : Below w.heap.size w w4 := belowStep hb4 hB3
    have hbox4 := hbox3.below hb4
    obtain ⟨g0, g1, g2, g3, g4⟩ := hbox4
    clear hbox3
    go_wp2_with fail
    refine (toRR r _).mono ?_
    rintro e w5 ⟨rfl, hb5⟩
    have hB5 : Below w.heap.size w w5 := belowStep hb5 hB4
    have hI5 := hI4.below hb5
    go_wp2_with fail
    refine (implMeetsCutoff r A4 c4 xs _ hI5 hl hlc4).mono ?_
    rintro e w6 ⟨rfl, hb6⟩
    have hB6 : Below w.heap.size w w6 := belowStep hb6 hB5
    have hI6 := hI5.below hb6
    go_wp2_with fail
    refine (toInts A c xs _ (hx.below hB6) hl).mono ?_
    rintro e w7 ⟨v7, rfl, hF7, hb7⟩
    obtain ⟨A7, c7, hlc7, rfl, hI7⟩ := hF7.capped
    clear hF7
    have hB7 : Below w.heap.size w w7 := belowStep hb7 hB6
    have hI8 := hI6.below hb7
    have hs : sameB xs xs = true := sameB_yes rfl
    go_wp2_with fail
    refine (eqInts A4 A7 c4 c7 xs xs _ hI8 hI7 hl).mono ?_
    rintro e w8 ⟨rfl, n, rfl⟩
    go_wp2_with fail
    go_ret
    exact ⟨rfl, belowDrewN hB7 n⟩
  · have hl2 : (1048576 : Int) < (xs.length : Int) := by omega
    go_enter Try.func14, Try.ntmps14
    go_wp2_with fail
    go_ret
    exact ⟨rfl, hB0⟩
theorem own : ownKnob Try.prog.godebug = none := by kernel_rfl
theorem laidOut : laidOutB Try.prog = true := by kernel_rfl
set_option maxRecDepth 100000 in
theorem lifted (os : Os) (started : os.Started) (H : Type) (enc : TypeId × Value → H) :
    ReturnsInHanded {} Try.checked os 14 .any (Rows.fnExactMeetsCutoffSpec.pre6 enc Try.prog Try.f14 Rows.fnExactMeetsCutoffRow.domain false) (Rows.fnExactMeetsCutoffSpec.post enc Try.prog Try.f14 false true false false) := by
  refine returnsInHanded_of_change (C := Try.checked) own started (by kernel_rfl) Try.func14
    (ChangeSpec.witness6 (enc := enc) (C := Try.checked) false ⟨#[], #[.agg #[.int .i64 0, .int .i64 0, .int .i64 0, .int .i64 0, .int .i64 0], .slice none 0 0], []⟩ 8 (by kernel_rfl) (by kernel_rfl) (by kernel_rfl) (by kernel_rfl)) ?_
  intro W base args ds gs before hval0 hW hcnd _
  have hval : ∀ (j : Nat) t v, Try.f14.params[j]? = some t → args[j]? = some v → Value.okWide Try.prog W .any base t v := hval0
  have hW' := hW
  obtain ⟨p, q, hA0, hV, rfl, hfz, hnd⟩ := hW
  have hA : DataW.TrodAll enc Try.prog W 0 (fun _ => true) true Try.f14.params.toList args.toList ds p := hA0
  rw [Try.params14] at hA hval
  obtain ⟨v0, vs0, d0, ds0, p0, q0, hargs, rfl, rfl, h0, r0⟩ := trodAll_cons hA
  obtain ⟨v1, vs1, d1, ds1, p1, q1, rfl, rfl, rfl, h1, r1⟩ := trodAll_cons r0
  obtain ⟨rfl, rfl, rfl⟩ := trodAll_nil r1
  obtain rfl : args = #[v0, v1] := by cases args; simp_all
  obtain ⟨rfl, rfl⟩ := trodVars_none hV
  have lt0 : ∀ x ∈ p0, x.block < W.heap.size := by obtain ⟨m, hm⟩ := h0; exact DataW.trod_lt m _ _ _ hm
  have lt1 : ∀ x ∈ p1, x.block < W.heap.size := by obtain ⟨m, hm⟩ := h1; exact DataW.trod_lt m _ _ _ hm
  obtain ⟨g0, rfl⟩ := arg_rr (hval 0 23 v0 rfl rfl) h0
  obtain ⟨A1, c1, x1, rfl, i1, t1, m1⟩ := arg_ints (hval 1 29 v1 rfl rfl) h1
  clear hA0 hval0
  refine (walk g0 A1 c1 x1 W  i1 t1 m1).mono fun e W' ⟨he, bel⟩ => ?_
  subst he
  exact ⟨_, rfl, _, _, _, [], _, [], hW', trodAll_mk1 (shut_bool Try.underlying4 _), (trodAll_cons_mk (Below.trod laidOut (by kernel_rfl) (of_decide_eq_true (by kernel_rfl)) h0 bel lt0) (trodAll_cons_mk (Below.trod laidOut (by kernel_rfl) (of_decide_eq_true (by kernel_rfl)) h1 bel lt1) trodAll_mk0)), rfl, bel.frame _, fun h => by cases h⟩
theorem fact_wf : Rows.fnExactMeetsCutoffRow.wf (OpenSpec.ofChange Rows.fnExactMeetsCutoffSpec) = true := by kernel_rfl
theorem fact_pars : Try.f14.params.all (Try.prog.readableRec ·) = true := by kernel_rfl
theorem fact_tie : namedTie Try.prog Rows.fnExactMeetsCutoffRow.named Rows.fnExactMeetsCutoffSpec.vars = true := by kernel_rfl
theorem fact_st : (Rows.fnExactMeetsCutoffRow.stops == []) = true := by kernel_rfl
theorem fact_kn : (Rows.fnExactMeetsCutoffRow.knobs == []) = true := by kernel_rfl
theorem fact_inp : (Rows.fnExactMeetsCutoffRow.inPlace == Try.prog.inPlace 14) = true := by kernel_rfl
theorem fact_unf : (Rows.fnExactMeetsCutoffRow.unfollowed == Try.prog.unfollowed 14) = true := by kernel_rfl
theorem fact_rec : (Rows.fnExactMeetsCutoffRow.recurses == Try.prog.recurses 14) = true := by kernel_rfl
theorem fact_nam : (Rows.fnExactMeetsCutoffRow.named == Try.prog.varsNamed 14) = true := by kernel_rfl
theorem fact_mp : (Rows.fnExactMeetsCutoffRow.maps == (Try.f14.params.toList ++ Rows.fnExactMeetsCutoffSpec.plain.varTypes Try.prog).any (Try.prog.mapsRec ·)) = true := by kernel_rfl
theorem fact_ifc : (Rows.fnExactMeetsCutoffRow.ifaces == (Try.f14.params.toList ++ Rows.fnExactMeetsCutoffSpec.plain.varTypes Try.prog).any (Try.prog.ifacesRec ·)) = true := by kernel_rfl
theorem fact_mo : (Rows.fnExactMeetsCutoffRow.mapsOut == Try.prog.mapsAmong Try.f14.resultTypes.toList) = true := by kernel_rfl
theorem fact_lo : (Rows.fnExactMeetsCutoffRow.loops == (Try.f14.params.toList ++ Rows.fnExactMeetsCutoffSpec.plain.varTypes Try.prog).any (Try.prog.loopsFrom ·)) = true := by kernel_rfl
theorem fact_wk : (Rows.fnExactMeetsCutoffRow.wideKeys == (Try.f14.params.toList ++ Rows.fnExactMeetsCutoffSpec.plain.varTypes Try.prog ++ Try.f14.resultTypes.toList).any (Try.prog.wideKeysFrom ·)) = true := by kernel_rfl
theorem fact_vs : Rows.fnExactMeetsCutoffSpec.vars.all (Try.prog.varReadable ·) = true := by kernel_rfl
theorem fact_res : Try.f14.resultTypes.all (fun t => Try.prog.readableRec t && decide (t < Try.prog.types.size)) = true := by kernel_rfl
theorem fact_io : (Rows.fnExactMeetsCutoffRow.ifacesOut == Try.f14.resultTypes.toList.any (Try.prog.ifacesRec ·)) = true := by kernel_rfl
theorem fact_loo : (Rows.fnExactMeetsCutoffRow.loopsOut == Try.f14.resultTypes.toList.any (Try.prog.loopsFrom ·)) = true := by kernel_rfl
theorem fact_pk : (Rows.fnExactMeetsCutoffRow.plainKeys == Try.prog.plainKeys) = true := by kernel_rfl
theorem fact_sh : Rows.fnExactMeetsCutoffRow.shortTexts.isNone = true := by kernel_rfl
theorem fact_li : (Rows.fnExactMeetsCutoffRow.lifted == Try.prog.liftsFinal) = true := by rw [fact_finals]; rfl
theorem fact_mk : (Try.prog.make == some Rows.fnExactMeetsCutoffRow.make) = true := by rw [fact_make]; rfl
theorem fact_kd : (Rows.fnExactMeetsCutoffRow.kinds == (if Rows.fnExactMeetsCutoffRow.domain.isEmpty then [] else Try.f14.params.toList.map fun t => match Try.prog.underlying t with | some (.int k) => some k | _ => none)) = true := by kernel_rfl
theorem fact_pi : (Rows.fnExactMeetsCutoffRow.pinned == Rows.fnExactMeetsCutoffRow.pinnedBy) = true := by kernel_rfl
theorem fact_ve : (Rows.fnExactMeetsCutoffRow.veiled == (Try.f14.params.toList ++ Rows.fnExactMeetsCutoffSpec.plain.varTypes Try.prog ++ Try.f14.resultTypes.toList).any (Try.prog.veiledRec ·)) = true := by kernel_rfl
theorem fact_vf : Rows.fnExactMeetsCutoffRow.veiledFits Try.prog Try.f14.params.toList (Try.f14.params.toList ++ Rows.fnExactMeetsCutoffSpec.plain.varTypes Try.prog ++ Try.f14.resultTypes.toList) = true := by kernel_rfl
set_option maxRecDepth 100000 in
theorem facts : joinedFacts Try.prog 14 Try.f14 Rows.fnExactMeetsCutoffSpec Rows.fnExactMeetsCutoffRow = true := facts_of fact_wf fact_laid fact_rowed fact_pars fact_tie fact_st fact_pst fact_kn fact_pkn fact_inp fact_unf fact_rec fact_nam fact_mp fact_ifc fact_mo fact_lo fact_wk fact_vs fact_res fact_io fact_loo fact_pk fact_sh fact_hd fact_me fact_li fact_mk fact_kd fact_pi fact_ve fact_vf
theorem fact_fn : Try.prog.funcNamed Rows.fnExactMeetsCutoffRow.func = some 14 := by kernel_rfl
theorem fact_inst : Try.f14.isInstance Try.prog Rows.fnExactMeetsCutoffRow.origin Rows.fnExactMeetsCutoffRow.targs := of_decide_eq_true (by kernel_rfl)
theorem fact_wrap : Try.f14.isWrapper Try.prog Rows.fnExactMeetsCutoffRow.wrapper Rows.fnExactMeetsCutoffRow.mainSum := by unfold Func.isWrapper; first | (rw [if_pos (by decide +kernel)]; kernel_rfl) | (rw [if_neg (by decide +kernel)]; exact ⟨rfl, rfl⟩)
theorem over : Rows.fnExactMeetsCutoffRow.holds Try.pinned (OpenSpec.ofChange Rows.fnExactMeetsCutoffSpec) :=
  OpenClaim.holds_of_wide 14 Try.f14 rfl rfl rfl rfl rfl rfl rfl ⟨rfl, rfl, rfl, rfl, rfl⟩ rfl rfl rfl rfl rfl fact_fn Try.func14 facts fact_inst fact_wrap
    (fun os started H enc _ => lifted os started H enc)
theorem proved : Rows.FnExactMeetsCutoffSaid := over
#print axioms proved
end Go.Proofs.Ytdjkelhmdondcaa.lawMeets
