/- FnExactRank: for all arguments, both packages give one answer, and the arguments stay as they were. No conditions. -/
import Derived.Test.YtpcnbjfkobeibaaCr
import Derived.Test.YtpcnbjfkobeibaaOpen
import Derived.Test.YtpcnbjfkobeibaaLo
namespace Go.Proofs.Ytpcnbjfkobeibaa.lawRank
open Go.RowKit Go.ChangeShapes Go.WideShapes Go.ChangeAt
set_option maxRecDepth 100000
set_option maxHeartbeats 8000000 in
theorem walk (a0 : Int) (A1 : Option Addr) (c1 : Nat) (x1 : List (List Int)) (A2 : Option Addr) (c2 : Nat) (x2 : List Int) (w : World) (_b0 : -9223372036854775808 ≤ a0 ∧ a0 ≤ 9223372036854775807) (i1 : LAt w A1 x1) (m1 : x1.length ≤ maxLen ∧ ∀ i, i < x1.length → (x1.getD i []).length ≤ maxLen) (i2 : IntsAt w A2 x2) (_t2 : Fits x2) (m2 : x2.length ≤ maxLen) :
    Calls Try.prog 8 #[.int .i64 a0, .slice A1 x1.length c1, .slice A2 x2.length c2] w fun e w' => e = .returned (.bool true) ∧ Below w.heap.size w w' := by
  unfold maxLen at m1 m2
  by_cases hl2 : x2.length ≤ 1048576
  · have hl2' : ¬ (1048576 : Int) < (x2.length : Int) := by omega
    go_enter Try.func8, Try.ntmps8
    go_wp2_with fail
    refine (szLists A1 c1 x1 _ i1 m1.1 m1.2).mono ?_
    rintro e w1 ⟨q, rfl, hq, rfl⟩
    have HQ := Lib.hid hq
    clear hq m1
    by_cases hneg : q < 0
    · go_wp2_with fail
      go_ret
      exact ⟨rfl, Below.refl _ _⟩
    · obtain ⟨hl, hs⟩ := HQ.out (by omega)
      have HS := Lib.hid hs
      have HT := Lib.hid (totTo_le hs)
      clear hs HQ
      obtain ⟨r, hr⟩ : ∃ r, rankQ a0 x1 x2 = r := ⟨_, rfl⟩
      have HR := Lib.hid hr
      have hs2 : sameB x2 x2 = true := sameB_yes rfl
      clear hr
      go_wp2_with fail
      refine (toListsB A1 c1 x1 _ (i1) hl HS.out).mono ?_
      rintro e w2 ⟨g2, rfl, hO2, hL2, hb2⟩
      have hB2 : Below w.heap.size w w2 := hb2
      go_wp2_with fail
      refine (toInts A2 c2 x2 _ (i2.below hB2) hl2).mono ?_
      rintro e w3 ⟨v3, rfl, hF3, hb3⟩
      obtain ⟨A3, c3, hc3, rfl, hI3⟩ := hF3.capped
      have hB3 := belowStep hb3 hB2
      have hO2 := hO2.below hb3
      have hcall := specRank a0 g2 x1.length x1 A3 c3 x2 w3 hO2 hl HS.out hI3 hl2 hc3
      rw [HR.out] at hcall
      have HCALL := Lib.hid hcall
      clear hcall
      go_wp2_with fail
      refine HCALL.out.mono ?_
      rintro e w4 ⟨rfl, hb4⟩
      have hB4 := belowStep hb4 hB3
      clear HCALL
      clear hO2 hL2 hF3 hI3
      go_wp2_with fail
      refine (toListsB A1 c1 x1 _ (i1.below hB4) hl HS.out).mono ?_
      rintro e w5 ⟨g5, rfl, hO5, hL5, hb5⟩
      have hB5 : Below w.heap.size w w5 := belowStep hb5 hB4
      go_wp2_with fail
      refine (toInts A2 c2 x2 _ (i2.below hB5) hl2).mono ?_
      rintro e w6 ⟨v6, rfl, hF6, hb6⟩
      obtain ⟨A6, c6, hc6, rfl, hI6⟩ := hF6.capped
      have hB6 := belowStep hb6 hB5
      have hO5 := hO5.below hb6
      have hL5 := hL5.below hb6
      have hcall := implRank a0 g5 x1.length x1 A6 c6 x2 w6 hO5 hl HS.out hI6 hl2
      rw [HR.out] at hcall
      have HCALL := Lib.hid hcall
      clear hcall
      go_wp2_with fail
      refine HCALL.out.mono ?_
      rintro e w7 ⟨rfl, hb7⟩
      have hB7 := belowStep hb7 hB6
      clear HCALL
      have hO5 := hO5.below hb7
      have hL5 := hL5.below hb7
      have hF6b := hF6.below hb7
      have hI6 := hI6.below hb7
      have hu6 := hF6.under
      have hz34 : w3.heap.size ≤ w4.heap.size := hb4.size
      have hz45 : w4.heap.size ≤ w5.heap.size := hb5.size
      have hz56 : w5.heap.size ≤ w6.heap.size := hb6.size
      have hz67 : w6.heap.size ≤ w7.heap.size := hb7.size
      have hz04 : w.heap.size ≤ w4.heap.size := hB4.size
      go_wp2_with fail
      refine (toListsB A1 c1 x1 _ (i1.below hB7) hl HS.out).mono ?_
      rintro e w9 ⟨g9, rfl, hO9, hL9, hb9⟩
      have hB9 : Below w.heap.size w w9 := belowStep hb9 hB7
      have hO5 := hO5.below hb9
      have hL5 := hL5.below hb9
      have hF6b := hF6b.below hb9
      have hI6 := hI6.below hb9
      go_wp2_with fail
      refine (eqLists _ _ _ _ x1 _ hO5.at_ hO9.at_ hl HS.out).mono ?_
      rintro e w10 ⟨rfl, hb10⟩
      have hB10 := belowStep hb10 hB9
      have hO5 := hO5.below hb10
      have hL5 := hL5.below hb10
      have hF6b := hF6b.below hb10
      have hI6 := hI6.below hb10
      clear hO9 hL9
      go_wp2_with fail
      refine (toInts A2 c2 x2 _ (i2.below hB10) hl2).mono ?_
      rintro e w11 ⟨v11, rfl, hF11, hb11⟩
      obtain ⟨A11, c11, hc11, rfl, hI11⟩ := hF11.capped
      have hB11 := belowStep hb11 hB10
      have hO5 := hO5.below hb11
      have hL5 := hL5.below hb11
      have hF6b := hF6b.below hb11
      have hI6 := hI6.below hb11
      go_wp2_with fail
      refine (eqInts A6 A11 c6 c11 x2 x2 _ hI6 hI11 hl2).mono ?_
      rintro e w12 ⟨rfl, n12, rfl⟩
      obtain ⟨w12, hw12⟩ : ∃ w12, w11.drewN n12 = w12 := ⟨_, rfl⟩
      have hb12 : Below w11.heap.size w11 w12 := by rw [← hw12]; exact belowDrewN (Below.refl _ _) _
      rw [hw12]
      clear hw12
      have hB12 := belowStep hb12 hB11
      have hO5 := hO5.below hb12
      have hL5 := hL5.below hb12
      have hF6b := hF6b.below hb12
      have hI6 := hI6.below hb12
      clear hF11 hI11
      go_wp2_with fail
      go_ret
      exact ⟨rfl, hB12⟩
  · have hl2' : (1048576 : Int) < (x2.length : Int) := by omega
    go_enter Try.func8, Try.ntmps8
    go_wp2_with fail
    go_ret
    exact ⟨rfl, Below.refl _ _⟩
theorem own : ownKnob Try.prog.godebug = none := by kernel_rfl
theorem laidOut : laidOutB Try.prog = true := by kernel_rfl
set_option maxRecDepth 100000 in
theorem lifted (os : Os) (started : os.Started) (H : Type) (enc : TypeId × Value → H) :
    ReturnsInHanded {} Try.checked os 8 .any (Rows.fnExactRankSpec.pre6 enc Try.prog Try.f8 Rows.fnExactRankRow.domain false) (Rows.fnExactRankSpec.post enc Try.prog Try.f8 false true false false) := by
  refine returnsInHanded_of_change (C := Try.checked) own started (by kernel_rfl) Try.func8
    (ChangeSpec.witness6 (enc := enc) (C := Try.checked) false ⟨#[], #[.int .i64 0, .slice none 0 0, .slice none 0 0], []⟩ 8 (by kernel_rfl) (by kernel_rfl) (by kernel_rfl) (by kernel_rfl)) ?_
  intro W base args ds gs before hval0 hW hcnd _
  have hval : ∀ (j : Nat) t v, Try.f8.params[j]? = some t → args[j]? = some v → Value.okWide Try.prog W .any base t v := hval0
  have hW' := hW
  obtain ⟨p, q, hA0, hV, rfl, hfz, hnd⟩ := hW
  have hA : DataW.TrodAll enc Try.prog W 0 (fun _ => true) true Try.f8.params.toList args.toList ds p := hA0
  rw [Try.params8] at hA hval
  obtain ⟨v0, vs0, d0, ds0, p0, q0, hargs, rfl, rfl, h0, r0⟩ := trodAll_cons hA
  obtain ⟨v1, vs1, d1, ds1, p1, q1, rfl, rfl, rfl, h1, r1⟩ := trodAll_cons r0
  obtain ⟨v2, vs2, d2, ds2, p2, q2, rfl, rfl, rfl, h2, r2⟩ := trodAll_cons r1
  obtain ⟨rfl, rfl, rfl⟩ := trodAll_nil r2
  obtain rfl : args = #[v0, v1, v2] := by cases args; simp_all
  obtain ⟨rfl, rfl⟩ := trodVars_none hV
  have lt0 : ∀ x ∈ p0, x.block < W.heap.size := by obtain ⟨m, hm⟩ := h0; exact DataW.trod_lt m _ _ _ hm
  have lt1 : ∀ x ∈ p1, x.block < W.heap.size := by obtain ⟨m, hm⟩ := h1; exact DataW.trod_lt m _ _ _ hm
  have lt2 : ∀ x ∈ p2, x.block < W.heap.size := by obtain ⟨m, hm⟩ := h2; exact DataW.trod_lt m _ _ _ hm
  obtain ⟨a0, rfl, b0⟩ := arg_int (hval 0 2 v0 rfl rfl) h0
  obtain ⟨A1, c1, x1, rfl, i1, m1⟩ := arg_intss (hval 1 22 v1 rfl rfl) h1
  obtain ⟨A2, c2, x2, rfl, i2, t2, m2⟩ := arg_ints (hval 2 23 v2 rfl rfl) h2
  clear hA0 hval0
  refine (walk a0 A1 c1 x1 A2 c2 x2 W b0 i1 m1 i2 t2 m2).mono fun e W' ⟨he, bel⟩ => ?_
  subst he
  exact ⟨_, rfl, _, _, _, [], _, [], hW', trodAll_mk1 (shut_bool Try.underlying4 _), (trodAll_cons_mk (Below.trod laidOut (by kernel_rfl) (of_decide_eq_true (by kernel_rfl)) h0 bel lt0) (trodAll_cons_mk (Below.trod laidOut (by kernel_rfl) (of_decide_eq_true (by kernel_rfl)) h1 bel lt1) (trodAll_cons_mk (Below.trod laidOut (by kernel_rfl) (of_decide_eq_true (by kernel_rfl)) h2 bel lt2) trodAll_mk0))), rfl, bel.frame _, fun h => by cases h⟩
theorem fact_wf : Rows.fnExactRankRow.wf (OpenSpec.ofChange Rows.fnExactRankSpec) = true := by kernel_rfl
theorem fact_pars : Try.f8.params.all (Try.prog.readableRec ·) = true := by kernel_rfl
theorem fact_tie : namedTie Try.prog Rows.fnExactRankRow.named Rows.fnExactRankSpec.vars = true := by kernel_rfl
theorem fact_st : (Rows.fnExactRankRow.stops == []) = true := by kernel_rfl
theorem fact_kn : (Rows.fnExactRankRow.knobs == []) = true := by kernel_rfl
theorem fact_inp : (Rows.fnExactRankRow.inPlace == Try.prog.inPlace 8) = true := by kernel_rfl
theorem fact_unf : (Rows.fnExactRankRow.unfollowed == Try.prog.unfollowed 8) = true := by kernel_rfl
theorem fact_rec : (Rows.fnExactRankRow.recurses == Try.prog.recurses 8) = true := by kernel_rfl
theorem fact_nam : (Rows.fnExactRankRow.named == Try.prog.varsNamed 8) = true := by kernel_rfl
theorem fact_mp : (Rows.fnExactRankRow.maps == (Try.f8.params.toList ++ Rows.fnExactRankSpec.plain.varTypes Try.prog).any (Try.prog.mapsRec ·)) = true := by kernel_rfl
theorem fact_ifc : (Rows.fnExactRankRow.ifaces == (Try.f8.params.toList ++ Rows.fnExactRankSpec.plain.varTypes Try.prog).any (Try.prog.ifacesRec ·)) = true := by kernel_rfl
theorem fact_mo : (Rows.fnExactRankRow.mapsOut == Try.prog.mapsAmong Try.f8.resultTypes.toList) = true := by kernel_rfl
theorem fact_lo : (Rows.fnExactRankRow.loops == (Try.f8.params.toList ++ Rows.fnExactRankSpec.plain.varTypes Try.prog).any (Try.prog.loopsFrom ·)) = true := by kernel_rfl
theorem fact_wk : (Rows.fnExactRankRow.wideKeys == (Try.f8.params.toList ++ Rows.fnExactRankSpec.plain.varTypes Try.prog ++ Try.f8.resultTypes.toList).any (Try.prog.wideKeysFrom ·)) = true := by kernel_rfl
theorem fact_vs : Rows.fnExactRankSpec.vars.all (Try.prog.varReadable ·) = true := by kernel_rfl
theorem fact_res : Try.f8.resultTypes.all (fun t => Try.prog.readableRec t && decide (t < Try.prog.types.size)) = true := by kernel_rfl
theorem fact_io : (Rows.fnExactRankRow.ifacesOut == Try.f8.resultTypes.toList.any (Try.prog.ifacesRec ·)) = true := by kernel_rfl
theorem fact_loo : (Rows.fnExactRankRow.loopsOut == Try.f8.resultTypes.toList.any (Try.prog.loopsFrom ·)) = true := by kernel_rfl
theorem fact_pk : (Rows.fnExactRankRow.plainKeys == Try.prog.plainKeys) = true := by kernel_rfl
theorem fact_sh : Rows.fnExactRankRow.shortTexts.isNone = true := by kernel_rfl
theorem fact_li : (Rows.fnExactRankRow.lifted == Try.prog.liftsFinal) = true := by rw [fact_finals]; rfl
theorem fact_mk : (Try.prog.make == some Rows.fnExactRankRow.make) = true := by rw [fact_make]; rfl
theorem fact_kd : (Rows.fnExactRankRow.kinds == (if Rows.fnExactRankRow.domain.isEmpty then [] else Try.f8.params.toList.map fun t => match Try.prog.underlying t with | some (.int k) => some k | _ => none)) = true := by kernel_rfl
theorem fact_pi : (Rows.fnExactRankRow.pinned == Rows.fnExactRankRow.pinnedBy) = true := by kernel_rfl
theorem fact_ve : (Rows.fnExactRankRow.veiled == (Try.f8.params.toList ++ Rows.fnExactRankSpec.plain.varTypes Try.prog ++ Try.f8.resultTypes.toList).any (Try.prog.veiledRec ·)) = true := by kernel_rfl
theorem fact_vf : Rows.fnExactRankRow.veiledFits Try.prog Try.f8.params.toList (Try.f8.params.toList ++ Rows.fnExactRankSpec.plain.varTypes Try.prog ++ Try.f8.resultTypes.toList) = true := by kernel_rfl
set_option maxRecDepth 100000 in
theorem facts : joinedFacts Try.prog 8 Try.f8 Rows.fnExactRankSpec Rows.fnExactRankRow = true := facts_of fact_wf fact_laid fact_rowed fact_pars fact_tie fact_st fact_pst fact_kn fact_pkn fact_inp fact_unf fact_rec fact_nam fact_mp fact_ifc fact_mo fact_lo fact_wk fact_vs fact_res fact_io fact_loo fact_pk fact_sh fact_hd fact_me fact_li fact_mk fact_kd fact_pi fact_ve fact_vf
theorem fact_fn : Try.prog.funcNamed Rows.fnExactRankRow.func = some 8 := by kernel_rfl
theorem fact_inst : Try.f8.isInstance Try.prog Rows.fnExactRankRow.origin Rows.fnExactRankRow.targs := of_decide_eq_true (by kernel_rfl)
theorem fact_wrap : Try.f8.isWrapper Try.prog Rows.fnExactRankRow.wrapper Rows.fnExactRankRow.mainSum := by unfold Func.isWrapper; first | (rw [if_pos (by decide +kernel)]; kernel_rfl) | (rw [if_neg (by decide +kernel)]; exact ⟨rfl, rfl⟩)
theorem over : Rows.fnExactRankRow.holds Try.pinned (OpenSpec.ofChange Rows.fnExactRankSpec) :=
  OpenClaim.holds_of_wide 8 Try.f8 rfl rfl rfl rfl rfl rfl rfl ⟨rfl, rfl, rfl, rfl, rfl⟩ rfl rfl rfl rfl rfl fact_fn Try.func8 facts fact_inst fact_wrap
    (fun os started H enc _ => lifted os started H enc)
theorem proved : Rows.FnExactRankSaid := over
#print axioms proved
end Go.Proofs.Ytpcnbjfkobeibaa.lawRank
