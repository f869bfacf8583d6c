/- FnExactCenterOrder: for all arguments, both packages give one answer, and the arguments stay as they were. No conditions. -/
import Derived.Test.YtpcnbjfkobeibaaCe
import Derived.Test.YtpcnbjfkobeibaaOpen
import Derived.Test.YtpcnbjfkobeibaaLo
namespace Go.Proofs.Ytpcnbjfkobeibaa.lawCen
open Go.RowKit Go.ChangeShapes Go.WideShapes Go.ChangeAt
set_option maxRecDepth 100000
set_option maxHeartbeats 8000000 in
theorem walk (a0 : Int) (A1 : Option Addr) (c1 : Nat) (x1 : List (List Int)) (w : World) (_b0 : -9223372036854775808 ≤ a0 ∧ a0 ≤ 9223372036854775807) (i1 : LAt w A1 x1) (m1 : x1.length ≤ maxLen ∧ ∀ i, i < x1.length → (x1.getD i []).length ≤ maxLen) :
    Calls Try.prog 17 #[.int .i64 a0, .slice A1 x1.length c1] w fun e w' => e = .returned (.bool true) ∧ Below w.heap.size w w' := by
  unfold maxLen at m1
  go_enter Try.func17, Try.ntmps17
  go_wp2_with fail
  refine (szLists A1 c1 x1 _ i1 m1.1 m1.2).mono ?_
  rintro e w1 ⟨q, rfl, hq, rfl⟩
  have HQ := Lib.hid hq
  clear hq m1
  by_cases hneg : q < 0
  · go_wp2_with fail
    go_ret
    exact ⟨rfl, Below.refl _ _⟩
  · obtain ⟨hl, hs⟩ := HQ.out (by omega)
    have HS := Lib.hid hs
    have HT := Lib.hid (totTo_le hs)
    clear hs HQ
    obtain ⟨r, hr⟩ : ∃ r, cenQ a0 x1 = r := ⟨_, rfl⟩
    have HR := Lib.hid hr
    clear hr
    go_wp2_with fail
    refine (toListsB A1 c1 x1 _ (i1) hl HS.out).mono ?_
    rintro e w2 ⟨g2, rfl, hO2, hL2, hb2⟩
    have hB2 : Below w.heap.size w w2 := hb2
    have hcall := specCen a0 g2 x1.length x1 w2 hO2 hl HS.out
    rw [HR.out] at hcall
    have HCALL := Lib.hid hcall
    clear hcall
    go_wp2_with fail
    refine HCALL.out.mono ?_
    rintro e w4 ⟨rfl, hb4⟩
    have hB4 := belowStep hb4 hB2
    clear HCALL
    clear hO2 hL2
    go_wp2_with fail
    refine (toListsB A1 c1 x1 _ (i1.below hB4) hl HS.out).mono ?_
    rintro e w5 ⟨g5, rfl, hO5, hL5, hb5⟩
    have hB5 : Below w.heap.size w w5 := belowStep hb5 hB4
    have hcall := implCen a0 g5 x1.length x1 w5 hO5 hl HS.out
    rw [HR.out] at hcall
    have HCALL := Lib.hid hcall
    clear hcall
    go_wp2_with fail
    refine HCALL.out.mono ?_
    rintro e w7 ⟨rfl, hb7⟩
    have hB7 := belowStep hb7 hB5
    clear HCALL
    have hO5 := hO5.below hb7
    have hL5 := hL5.below hb7
    have hz34 : w2.heap.size ≤ w4.heap.size := hb4.size
    have hz45 : w4.heap.size ≤ w5.heap.size := hb5.size
    have hz67 : w5.heap.size ≤ w7.heap.size := hb7.size
    have hz04 : w.heap.size ≤ w4.heap.size := hB4.size
    go_wp2_with fail
    refine (toListsB A1 c1 x1 _ (i1.below hB7) hl HS.out).mono ?_
    rintro e w9 ⟨g9, rfl, hO9, hL9, hb9⟩
    have hB9 : Below w.heap.size w w9 := belowStep hb9 hB7
    have hO5 := hO5.below hb9
    have hL5 := hL5.below hb9
    go_wp2_with fail
    refine (eqLists _ _ _ _ x1 _ hO5.at_ hO9.at_ hl HS.out).mono ?_
    rintro e w10 ⟨rfl, hb10⟩
    have hB10 := belowStep hb10 hB9
    have hO5 := hO5.below hb10
    have hL5 := hL5.below hb10
    clear hO9 hL9
    go_wp2_with fail
    go_ret
    exact ⟨rfl, hB10⟩
theorem own : ownKnob Try.prog.godebug = none := by kernel_rfl
theorem laidOut : laidOutB Try.prog = true := by kernel_rfl
set_option maxRecDepth 100000 in
theorem lifted (os : Os) (started : os.Started) (H : Type) (enc : TypeId × Value → H) :
    ReturnsInHanded {} Try.checked os 17 .any (Rows.fnExactCenterOrderSpec.pre6 enc Try.prog Try.f17 Rows.fnExactCenterOrderRow.domain false) (Rows.fnExactCenterOrderSpec.post enc Try.prog Try.f17 false true false false) := by
  refine returnsInHanded_of_change (C := Try.checked) own started (by kernel_rfl) Try.func17
    (ChangeSpec.witness6 (enc := enc) (C := Try.checked) false ⟨#[], #[.int .i64 0, .slice none 0 0], []⟩ 8 (by kernel_rfl) (by kernel_rfl) (by kernel_rfl) (by kernel_rfl)) ?_
  intro W base args ds gs before hval0 hW hcnd _
  have hval : ∀ (j : Nat) t v, Try.f17.params[j]? = some t → args[j]? = some v → Value.okWide Try.prog W .any base t v := hval0
  have hW' := hW
  obtain ⟨p, q, hA0, hV, rfl, hfz, hnd⟩ := hW
  have hA : DataW.TrodAll enc Try.prog W 0 (fun _ => true) true Try.f17.params.toList args.toList ds p := hA0
  rw [Try.params17] at hA hval
  obtain ⟨v0, vs0, d0, ds0, p0, q0, hargs, rfl, rfl, h0, r0⟩ := trodAll_cons hA
  obtain ⟨v1, vs1, d1, ds1, p1, q1, rfl, rfl, rfl, h1, r1⟩ := trodAll_cons r0
  obtain ⟨rfl, rfl, rfl⟩ := trodAll_nil r1
  obtain rfl : args = #[v0, v1] := by cases args; simp_all
  obtain ⟨rfl, rfl⟩ := trodVars_none hV
  have lt0 : ∀ x ∈ p0, x.block < W.heap.size := by obtain ⟨m, hm⟩ := h0; exact DataW.trod_lt m _ _ _ hm
  have lt1 : ∀ x ∈ p1, x.block < W.heap.size := by obtain ⟨m, hm⟩ := h1; exact DataW.trod_lt m _ _ _ hm
  obtain ⟨a0, rfl, b0⟩ := arg_int (hval 0 2 v0 rfl rfl) h0
  obtain ⟨A1, c1, x1, rfl, i1, m1⟩ := arg_intss (hval 1 22 v1 rfl rfl) h1
  clear hA0 hval0
  refine (walk a0 A1 c1 x1 W b0 i1 m1).mono fun e W' ⟨he, bel⟩ => ?_
  subst he
  exact ⟨_, rfl, _, _, _, [], _, [], hW', trodAll_mk1 (shut_bool Try.underlying4 _), (trodAll_cons_mk (Below.trod laidOut (by kernel_rfl) (of_decide_eq_true (by kernel_rfl)) h0 bel lt0) (trodAll_cons_mk (Below.trod laidOut (by kernel_rfl) (of_decide_eq_true (by kernel_rfl)) h1 bel lt1) trodAll_mk0)), rfl, bel.frame _, fun h => by cases h⟩
theorem fact_wf : Rows.fnExactCenterOrderRow.wf (OpenSpec.ofChange Rows.fnExactCenterOrderSpec) = true := by kernel_rfl
theorem fact_pars : Try.f17.params.all (Try.prog.readableRec ·) = true := by kernel_rfl
theorem fact_tie : namedTie Try.prog Rows.fnExactCenterOrderRow.named Rows.fnExactCenterOrderSpec.vars = true := by kernel_rfl
theorem fact_st : (Rows.fnExactCenterOrderRow.stops == []) = true := by kernel_rfl
theorem fact_kn : (Rows.fnExactCenterOrderRow.knobs == []) = true := by kernel_rfl
theorem fact_inp : (Rows.fnExactCenterOrderRow.inPlace == Try.prog.inPlace 17) = true := by kernel_rfl
theorem fact_unf : (Rows.fnExactCenterOrderRow.unfollowed == Try.prog.unfollowed 17) = true := by kernel_rfl
theorem fact_rec : (Rows.fnExactCenterOrderRow.recurses == Try.prog.recurses 17) = true := by kernel_rfl
theorem fact_nam : (Rows.fnExactCenterOrderRow.named == Try.prog.varsNamed 17) = true := by kernel_rfl
theorem fact_mp : (Rows.fnExactCenterOrderRow.maps == (Try.f17.params.toList ++ Rows.fnExactCenterOrderSpec.plain.varTypes Try.prog).any (Try.prog.mapsRec ·)) = true := by kernel_rfl
theorem fact_ifc : (Rows.fnExactCenterOrderRow.ifaces == (Try.f17.params.toList ++ Rows.fnExactCenterOrderSpec.plain.varTypes Try.prog).any (Try.prog.ifacesRec ·)) = true := by kernel_rfl
theorem fact_mo : (Rows.fnExactCenterOrderRow.mapsOut == Try.prog.mapsAmong Try.f17.resultTypes.toList) = true := by kernel_rfl
theorem fact_lo : (Rows.fnExactCenterOrderRow.loops == (Try.f17.params.toList ++ Rows.fnExactCenterOrderSpec.plain.varTypes Try.prog).any (Try.prog.loopsFrom ·)) = true := by kernel_rfl
theorem fact_wk : (Rows.fnExactCenterOrderRow.wideKeys == (Try.f17.params.toList ++ Rows.fnExactCenterOrderSpec.plain.varTypes Try.prog ++ Try.f17.resultTypes.toList).any (Try.prog.wideKeysFrom ·)) = true := by kernel_rfl
theorem fact_vs : Rows.fnExactCenterOrderSpec.vars.all (Try.prog.varReadable ·) = true := by kernel_rfl
theorem fact_res : Try.f17.resultTypes.all (fun t => Try.prog.readableRec t && decide (t < Try.prog.types.size)) = true := by kernel_rfl
theorem fact_io : (Rows.fnExactCenterOrderRow.ifacesOut == Try.f17.resultTypes.toList.any (Try.prog.ifacesRec ·)) = true := by kernel_rfl
theorem fact_loo : (Rows.fnExactCenterOrderRow.loopsOut == Try.f17.resultTypes.toList.any (Try.prog.loopsFrom ·)) = true := by kernel_rfl
theorem fact_pk : (Rows.fnExactCenterOrderRow.plainKeys == Try.prog.plainKeys) = true := by kernel_rfl
theorem fact_sh : Rows.fnExactCenterOrderRow.shortTexts.isNone = true := by kernel_rfl
theorem fact_li : (Rows.fnExactCenterOrderRow.lifted == Try.prog.liftsFinal) = true := by rw [fact_finals]; rfl
theorem fact_mk : (Try.prog.make == some Rows.fnExactCenterOrderRow.make) = true := by rw [fact_make]; rfl
theorem fact_kd : (Rows.fnExactCenterOrderRow.kinds == (if Rows.fnExactCenterOrderRow.domain.isEmpty then [] else Try.f17.params.toList.map fun t => match Try.prog.underlying t with | some (.int k) => some k | _ => none)) = true := by kernel_rfl
theorem fact_pi : (Rows.fnExactCenterOrderRow.pinned == Rows.fnExactCenterOrderRow.pinnedBy) = true := by kernel_rfl
theorem fact_ve : (Rows.fnExactCenterOrderRow.veiled == (Try.f17.params.toList ++ Rows.fnExactCenterOrderSpec.plain.varTypes Try.prog ++ Try.f17.resultTypes.toList).any (Try.prog.veiledRec ·)) = true := by kernel_rfl
theorem fact_vf : Rows.fnExactCenterOrderRow.veiledFits Try.prog Try.f17.params.toList (Try.f17.params.toList ++ Rows.fnExactCenterOrderSpec.plain.varTypes Try.prog ++ Try.f17.resultTypes.toList) = true := by kernel_rfl
set_option maxRecDepth 100000 in
theorem facts : joinedFacts Try.prog 17 Try.f17 Rows.fnExactCenterOrderSpec Rows.fnExactCenterOrderRow = true := facts_of fact_wf fact_laid fact_rowed fact_pars fact_tie fact_st fact_pst fact_kn fact_pkn fact_inp fact_unf fact_rec fact_nam fact_mp fact_ifc fact_mo fact_lo fact_wk fact_vs fact_res fact_io fact_loo fact_pk fact_sh fact_hd fact_me fact_li fact_mk fact_kd fact_pi fact_ve fact_vf
theorem fact_fn : Try.prog.funcNamed Rows.fnExactCenterOrderRow.func = some 17 := by kernel_rfl
theorem fact_inst : Try.f17.isInstance Try.prog Rows.fnExactCenterOrderRow.origin Rows.fnExactCenterOrderRow.targs := of_decide_eq_true (by kernel_rfl)
theorem fact_wrap : Try.f17.isWrapper Try.prog Rows.fnExactCenterOrderRow.wrapper Rows.fnExactCenterOrderRow.mainSum := by unfold Func.isWrapper; first | (rw [if_pos (by decide +kernel)]; kernel_rfl) | (rw [if_neg (by decide +kernel)]; exact ⟨rfl, rfl⟩)
theorem over : Rows.fnExactCenterOrderRow.holds Try.pinned (OpenSpec.ofChange Rows.fnExactCenterOrderSpec) :=
  OpenClaim.holds_of_wide 17 Try.f17 rfl rfl rfl rfl rfl rfl rfl ⟨rfl, rfl, rfl, rfl, rfl⟩ rfl rfl rfl rfl rfl fact_fn Try.func17 facts fact_inst fact_wrap
    (fun os started H enc _ => lifted os started H enc)
theorem proved : Rows.FnExactCenterOrderSaid := over
#print axioms proved
end Go.Proofs.Ytpcnbjfkobeibaa.lawCen
