/- FnExactUnpackNibbles: for all arguments, both packages give one answer, in memory of its own. No conditions. -/
import Derived.Test.YtmhjcljjnofgeaaUi
import Derived.Test.YtmhjcljjnofgeaaOpen
namespace Go.Proofs.Ytmhjcljjnofgeaa.lawUn
open Go.RowKit Go.ChangeShapes Go.WideShapes Go.ChangeAt
set_option maxRecDepth 100000
set_option maxHeartbeats 2000000 in
theorem walk (s0 : ByteArray) (cn : Int) (w : World) (hm : s0.size ≤ maxLen) (_b : -9223372036854775808 ≤ cn ∧ cn ≤ 9223372036854775807) :
    Calls Try.prog 8 #[.string s0, .int .i64 cn] w fun e w' => e = .returned (.bool true) ∧ Below w.heap.size w w' := by
  unfold maxLen at hm
  by_cases hl : s0.size ≤ 1048576
  · have hl2 : ¬ (1048576 : Int) < (s0.size : Int) := by omega
    obtain ⟨r, hr⟩ : ∃ r, unL s0 cn = r := ⟨_, rfl⟩
    obtain ⟨ok, hok⟩ : ∃ ok, unOk s0 cn = ok := ⟨_, rfl⟩
    have hrl : r.length ≤ 1048576 := by rw [← hr]; have := unL_len s0 cn; omega
    have HR := Lib.hid hr
    have HO := Lib.hid hok
    clear hr hok
    have hs : sameB r r = true := sameB_yes rfl
    go_enter Try.func8, Try.ntmps8
    go_wp2_with fail
    refine (specUn s0 cn _ hl).mono ?_
    rintro e w1 ⟨v1, rfl, hF1, hB1⟩
    rw [HR.out] at hF1
    rw [HO.out]
    obtain ⟨A1, c1, hlc1, rfl, hI1⟩ := hF1.capped
    clear hF1
    go_wp2_with fail
    refine (implUn s0 cn _ hl).mono ?_
    rintro e w2 ⟨v2, rfl, hF2, hb2⟩
    rw [HR.out] at hF2
    rw [HO.out]
    obtain ⟨A2, c2, hlc2, rfl, hI2⟩ := hF2.capped
    have hB2 : Below w.heap.size w w2 := belowStep hb2 hB1
    have hI1a := hI1.below hb2
    have z1 := hB1.size
    have q1 : (0 : Int) ≤ 1 := by omega
    go_wp2_with fail
    refine (eqInts A2 A1 c2 c1 r r _ hI2 hI1a hrl).mono ?_
    rintro e w3 ⟨rfl, n3, rfl⟩
    have hB3 := belowDrewN hB2 n3
    have hF3 : Fresh w1.heap.size (w2.drewN n3) (.slice A2 r.length c2) r := hF2
    have hI1b : IntsAt (w2.drewN n3) A1 r := hI1a
    clear hF2 hI2 hI1a
    generalize w2.drewN n3 = w3 at *
    go_wp2_with fail
    refine (markInts w1.heap.size (.slice A2 r.length c2) r 1 _ (by exact hF3) hrl (by omega) (by omega)).mono ?_
    rintro e w4 ⟨rfl, hF4, hg4⟩
    have hrow := hF3.block
    have hI1c := hI1b.grownOld hI1 hg4 hrow
    have hB4 : Below w.heap.size w w4 := belowGrown hB3 hg4 hB3.size (fun k hk => Nat.le_trans z1 (hrow k hk))
    have hI4 := hF4.intsAt
    have p4 : ¬ (1 + (r.length : Int)) < 0 := by omega
    clear hF3 hI1b hF4
    go_wp2_with fail
    refine (heldInts A2 c2 r.length 1 _ hI4 hrl (by omega) (by omega)).mono ?_
    rintro e w5 ⟨rfl, rfl⟩
    go_wp2_with fail
    refine (implUn s0 cn _ hl).mono ?_
    rintro e w6 ⟨v6, rfl, hF6, hb6⟩
    rw [HR.out] at hF6
    rw [HO.out]
    obtain ⟨A6, c6, hlc6, rfl, hI6⟩ := hF6.capped
    have hB6 : Below w.heap.size w w6 := belowStep hb6 hB4
    go_wp2_with fail
    refine (eqInts A6 A1 c6 c1 r r _ hI6 (hI1c.below hb6) hrl).mono ?_
    rintro e w7 ⟨rfl, n7, rfl⟩
    go_wp2_with fail
    refine (heldInts A2 c2 r.length 1 _ (by exact (hI4.below hb6).drewN n7) hrl (by omega) (by omega)).mono ?_
    rintro e w8 ⟨rfl, rfl⟩
    go_wp2_with fail
    go_ret
    exact ⟨rfl, belowDrewN hB6 n7⟩
  · have hl2 : (1048576 : Int) < (s0.size : Int) := by omega
    go_enter Try.func8, Try.ntmps8
    go_wp2_with fail
    go_ret
    exact ⟨rfl, Below.refl _ _⟩
theorem own : ownKnob Try.prog.godebug = none := by kernel_rfl
theorem laidOut : laidOutB Try.prog = true := by kernel_rfl
set_option maxRecDepth 100000 in
theorem lifted (os : Os) (started : os.Started) (H : Type) (enc : TypeId × Value → H) :
    ReturnsInHanded {} Try.checked os 8 .any (Rows.fnExactUnpackNibblesSpec.pre6 enc Try.prog Try.f8 Rows.fnExactUnpackNibblesRow.domain false) (Rows.fnExactUnpackNibblesSpec.post enc Try.prog Try.f8 false true false false) := by
  refine returnsInHanded_of_change (C := Try.checked) own started (by kernel_rfl) Try.func8
    (ChangeSpec.witness6 (enc := enc) (C := Try.checked) false ⟨#[], #[.string ByteArray.empty, .int .i64 0], []⟩ 8 (by kernel_rfl) (by kernel_rfl) (by kernel_rfl) (by kernel_rfl)) ?_
  intro W base args ds gs before hval0 hW hcnd _
  have hval : ∀ (j : Nat) t v, Try.f8.params[j]? = some t → args[j]? = some v → Value.okWide Try.prog W .any base t v := hval0
  have hW' := hW
  obtain ⟨p, q, hA0, hV, rfl, hfz, hnd⟩ := hW
  have hA : DataW.TrodAll enc Try.prog W 0 (fun _ => true) true Try.f8.params.toList args.toList ds p := hA0
  rw [Try.params8] at hA hval
  obtain ⟨v0, vs0, d0, ds0, p0, q0, hargs, rfl, rfl, h0, r0⟩ := trodAll_cons hA
  obtain ⟨v1, vs1, d1, ds1, p1, q1, rfl, rfl, rfl, h1, r1⟩ := trodAll_cons r0
  obtain ⟨rfl, rfl, rfl⟩ := trodAll_nil r1
  obtain rfl : args = #[v0, v1] := by cases args; simp_all
  obtain ⟨rfl, rfl⟩ := trodVars_none hV
  have lt0 : ∀ x ∈ p0, x.block < W.heap.size := by obtain ⟨m, hm⟩ := h0; exact DataW.trod_lt m _ _ _ hm
  have lt1 : ∀ x ∈ p1, x.block < W.heap.size := by obtain ⟨m, hm⟩ := h1; exact DataW.trod_lt m _ _ _ hm
  obtain ⟨s0, rfl, m0⟩ := arg_str (hval 0 9 v0 rfl rfl) h0
  obtain ⟨a1, rfl, b1⟩ := arg_int (hval 1 2 v1 rfl rfl) h1
  clear hA0 hval0
  refine (walk s0 a1 W m0 b1).mono fun e W' ⟨he, bel⟩ => ?_
  subst he
  exact ⟨_, rfl, _, _, _, [], _, [], hW', trodAll_mk1 (shut_bool Try.underlying4 _), (trodAll_cons_mk (Below.trod laidOut (by kernel_rfl) (of_decide_eq_true (by kernel_rfl)) h0 bel lt0) (trodAll_cons_mk (Below.trod laidOut (by kernel_rfl) (of_decide_eq_true (by kernel_rfl)) h1 bel lt1) trodAll_mk0)), rfl, bel.frame _, fun h => by cases h⟩
theorem fact_wf : Rows.fnExactUnpackNibblesRow.wf (OpenSpec.ofChange Rows.fnExactUnpackNibblesSpec) = true := by kernel_rfl
theorem fact_pars : Try.f8.params.all (Try.prog.readableRec ·) = true := by kernel_rfl
theorem fact_tie : namedTie Try.prog Rows.fnExactUnpackNibblesRow.named Rows.fnExactUnpackNibblesSpec.vars = true := by kernel_rfl
theorem fact_st : (Rows.fnExactUnpackNibblesRow.stops == []) = true := by kernel_rfl
theorem fact_kn : (Rows.fnExactUnpackNibblesRow.knobs == []) = true := by kernel_rfl
theorem fact_inp : (Rows.fnExactUnpackNibblesRow.inPlace == Try.prog.inPlace 8) = true := by kernel_rfl
theorem fact_unf : (Rows.fnExactUnpackNibblesRow.unfollowed == Try.prog.unfollowed 8) = true := by kernel_rfl
theorem fact_rec : (Rows.fnExactUnpackNibblesRow.recurses == Try.prog.recurses 8) = true := by kernel_rfl
theorem fact_nam : (Rows.fnExactUnpackNibblesRow.named == Try.prog.varsNamed 8) = true := by kernel_rfl
theorem fact_mp : (Rows.fnExactUnpackNibblesRow.maps == (Try.f8.params.toList ++ Rows.fnExactUnpackNibblesSpec.plain.varTypes Try.prog).any (Try.prog.mapsRec ·)) = true := by kernel_rfl
theorem fact_ifc : (Rows.fnExactUnpackNibblesRow.ifaces == (Try.f8.params.toList ++ Rows.fnExactUnpackNibblesSpec.plain.varTypes Try.prog).any (Try.prog.ifacesRec ·)) = true := by kernel_rfl
theorem fact_mo : (Rows.fnExactUnpackNibblesRow.mapsOut == Try.prog.mapsAmong Try.f8.resultTypes.toList) = true := by kernel_rfl
theorem fact_lo : (Rows.fnExactUnpackNibblesRow.loops == (Try.f8.params.toList ++ Rows.fnExactUnpackNibblesSpec.plain.varTypes Try.prog).any (Try.prog.loopsFrom ·)) = true := by kernel_rfl
theorem fact_wk : (Rows.fnExactUnpackNibblesRow.wideKeys == (Try.f8.params.toList ++ Rows.fnExactUnpackNibblesSpec.plain.varTypes Try.prog ++ Try.f8.resultTypes.toList).any (Try.prog.wideKeysFrom ·)) = true := by kernel_rfl
theorem fact_vs : Rows.fnExactUnpackNibblesSpec.vars.all (Try.prog.varReadable ·) = true := by kernel_rfl
theorem fact_res : Try.f8.resultTypes.all (fun t => Try.prog.readableRec t && decide (t < Try.prog.types.size)) = true := by kernel_rfl
theorem fact_io : (Rows.fnExactUnpackNibblesRow.ifacesOut == Try.f8.resultTypes.toList.any (Try.prog.ifacesRec ·)) = true := by kernel_rfl
theorem fact_loo : (Rows.fnExactUnpackNibblesRow.loopsOut == Try.f8.resultTypes.toList.any (Try.prog.loopsFrom ·)) = true := by kernel_rfl
theorem fact_pk : (Rows.fnExactUnpackNibblesRow.plainKeys == Try.prog.plainKeys) = true := by kernel_rfl
theorem fact_sh : Rows.fnExactUnpackNibblesRow.shortTexts.isNone = true := by kernel_rfl
theorem fact_li : (Rows.fnExactUnpackNibblesRow.lifted == Try.prog.liftsFinal) = true := by rw [fact_finals]; rfl
theorem fact_mk : (Try.prog.make == some Rows.fnExactUnpackNibblesRow.make) = true := by rw [fact_make]; rfl
theorem fact_kd : (Rows.fnExactUnpackNibblesRow.kinds == (if Rows.fnExactUnpackNibblesRow.domain.isEmpty then [] else Try.f8.params.toList.map fun t => match Try.prog.underlying t with | some (.int k) => some k | _ => none)) = true := by kernel_rfl
theorem fact_pi : (Rows.fnExactUnpackNibblesRow.pinned == Rows.fnExactUnpackNibblesRow.pinnedBy) = true := by kernel_rfl
theorem fact_ve : (Rows.fnExactUnpackNibblesRow.veiled == (Try.f8.params.toList ++ Rows.fnExactUnpackNibblesSpec.plain.varTypes Try.prog ++ Try.f8.resultTypes.toList).any (Try.prog.veiledRec ·)) = true := by kernel_rfl
theorem fact_vf : Rows.fnExactUnpackNibblesRow.veiledFits Try.prog Try.f8.params.toList (Try.f8.params.toList ++ Rows.fnExactUnpackNibblesSpec.plain.varTypes Try.prog ++ Try.f8.resultTypes.toList) = true := by kernel_rfl
set_option maxRecDepth 100000 in
theorem facts : joinedFacts Try.prog 8 Try.f8 Rows.fnExactUnpackNibblesSpec Rows.fnExactUnpackNibblesRow = true := facts_of fact_wf fact_laid fact_rowed fact_pars fact_tie fact_st fact_pst fact_kn fact_pkn fact_inp fact_unf fact_rec fact_nam fact_mp fact_ifc fact_mo fact_lo fact_wk fact_vs fact_res fact_io fact_loo fact_pk fact_sh fact_hd fact_me fact_li fact_mk fact_kd fact_pi fact_ve fact_vf
theorem fact_fn : Try.prog.funcNamed Rows.fnExactUnpackNibblesRow.func = some 8 := by kernel_rfl
theorem fact_inst : Try.f8.isInstance Try.prog Rows.fnExactUnpackNibblesRow.origin Rows.fnExactUnpackNibblesRow.targs := of_decide_eq_true (by kernel_rfl)
theorem fact_wrap : Try.f8.isWrapper Try.prog Rows.fnExactUnpackNibblesRow.wrapper Rows.fnExactUnpackNibblesRow.mainSum := by unfold Func.isWrapper; first | (rw [if_pos (by decide +kernel)]; kernel_rfl) | (rw [if_neg (by decide +kernel)]; exact ⟨rfl, rfl⟩)
theorem over : Rows.fnExactUnpackNibblesRow.holds Try.pinned (OpenSpec.ofChange Rows.fnExactUnpackNibblesSpec) :=
  OpenClaim.holds_of_wide 8 Try.f8 rfl rfl rfl rfl rfl rfl rfl ⟨rfl, rfl, rfl, rfl, rfl⟩ rfl rfl rfl rfl rfl fact_fn Try.func8 facts fact_inst fact_wrap
    (fun os started H enc _ => lifted os started H enc)
theorem proved : Rows.FnExactUnpackNibblesSaid := over
#print axioms proved
end Go.Proofs.Ytmhjcljjnofgeaa.lawUn
