/- FnExactRecordIndices: for all arguments, both packages give one answer, in memory of its own, and the argument stays as it was. No conditions. -/
import Derived.Test.YtdjkelhmdondcaaRec
import Derived.Test.YtdjkelhmdondcaaOpen
namespace Go.Proofs.Ytdjkelhmdondcaa.lawRecords
open Go.RowKit Go.ChangeShapes Go.WideShapes Go.ChangeAt
set_option maxRecDepth 100000
set_option maxHeartbeats 2000000 in
theorem walk (A : Option Addr) (c : Nat) (xs : List Int) (w : World) (hx : IntsAt w A xs) (_hf : Fits xs) (hm : xs.length ≤ maxLen) :
    Calls Try.prog 12 #[.slice A xs.length c] w fun e w' => e = .returned (.bool true) ∧ Below w.heap.size w w' := by
  unfold maxLen at hm
  by_cases hl : xs.length ≤ 1048576
  · have hl2 : ¬ (1048576 : Int) < (xs.length : Int) := by omega
    obtain ⟨r, hr⟩ : ∃ r, records xs = r := ⟨_, rfl⟩
    have hrl : r.length ≤ 1048576 := by rw [← hr]; exact records_len xs hl
    have HR := Lib.hid hr
    clear hr
    have hs : sameB r r = true := sameB_yes rfl
    have hsx : sameB xs xs = true := sameB_yes rfl
    go_enter Try.func12, Try.ntmps12
    go_wp2_with fail
    refine (toInts A c xs _ hx hl).mono ?_
    rintro e w1 ⟨v1, rfl, hF1, hb1⟩
    obtain ⟨A1, c1, hlc1, rfl, hI1⟩ := hF1.capped
    clear hF1
    go_wp2_with fail
    refine (specRecords A1 c1 xs _ hI1 hl).mono ?_
    rintro e w2 ⟨v2, rfl, hF2, hb2⟩
    rw [HR.out] at hF2
    obtain ⟨A2, c2, hlc2, rfl, hI2⟩ := hF2.capped
    clear hF2 hI1
    have hB2 : Below w.heap.size w w2 := belowStep hb2 hb1
    clear hb1 hb2
    have hx2 := hx.below hB2
    go_wp2_with fail
    refine (toInts A c xs _ hx2 hl).mono ?_
    rintro e w3 ⟨v3, rfl, hF3, hb3⟩
    obtain ⟨A3, c3, hlc3, rfl, hI3⟩ := hF3.capped
    have hund3of := hF3.under
    have hB3 : Below w.heap.size w w3 := belowStep hb3 hB2
    go_wp2_with fail
    refine (implRecords A3 c3 xs _ hI3 hl hlc3).mono ?_
    rintro e w4 ⟨v4, rfl, hF4, hb4⟩
    rw [HR.out] at hF4
    obtain ⟨A4, c4, hlc4, rfl, hI4⟩ := hF4.capped
    have hB4 : Below w.heap.size w w4 := belowStep hb4 hB3
    have hI2a := (hI2.below hb3).below hb4
    go_wp2_with fail
    refine (eqInts A4 A2 c4 c2 r r _ hI4 hI2a hrl).mono ?_
    rintro e w5 ⟨rfl, n5, rfl⟩
    have hB5 := belowDrewN hB4 n5
    go_wp2_with fail
    refine (toInts A c xs _ (hx.below hB5) hl).mono ?_
    rintro e w6 ⟨v6, rfl, hF6, hb6⟩
    obtain ⟨A6, c6, hlc6, rfl, hI6⟩ := hF6.capped
    clear hF6
    have hb6 : Below w4.heap.size w4 w6 := (belowDrewN (Below.refl _ _) n5).trans hb6
    have hB6 : Below w.heap.size w w6 := belowStep hb6 hB4
    have hI2b := hI2a.below hb6
    have hI4b := hI4.below hb6
    have hF4b := hF4.below hb6
    have hF3b := (hF3.below hb4).below hb6
    have hI3b := hF3b.intsAt
    clear hI2a hI3 hI4 hF4 hF3
    have z3 := hb3.size
    have z4 := hb4.size
    have z6 := hb6.size
    have zB := hB2.size
    go_wp2_with fail
    refine (eqInts A3 A6 c3 c6 xs xs _ hI3b hI6 hl).mono ?_
    rintro e w7 ⟨rfl, n7, rfl⟩
    have q1 : (0 : Int) ≤ 1 := by omega
    go_wp2_with fail
    refine (markInts w2.heap.size (.slice A3 xs.length c3) xs 1 _ (by exact hF3b) hl (by omega) (by omega)).mono ?_
    rintro e w8 ⟨rfl, hF8, hg8⟩
    have hg8 : w6.grownBy w8 (Value.ownBlock (.slice A3 xs.length c3)) := ⟨hg8.os, hg8.tape, hg8.output, hg8.size, hg8.block⟩
    have hrow3 := hF3b.block
    have hI2c := hI2b.grownOld hI2 hg8 hrow3
    have hF4c := hF4b.grownNew hg8 hund3of
    have hB8 : Below w.heap.size w w8 := belowGrown hB6 hg8 hB6.size (fun k hk => Nat.le_trans zB (hrow3 k hk))
    have hI4c := hF4c.intsAt
    have z8 := hg8.size
    clear hI2b hF4b hI4b hI3b hF8 hF3b
    have p8 : ¬ (1 + (xs.length : Int)) < 0 := by omega
    go_wp2_with fail
    refine (eqInts A4 A2 c4 c2 r r _ hI4c hI2c hrl).mono ?_
    rintro e w9 ⟨rfl, n9, rfl⟩
    go_wp2_with fail
    refine (markInts w3.heap.size (.slice A4 r.length c4) r 1 _ (by exact hF4c) hrl (by omega) (by omega)).mono ?_
    rintro e w10 ⟨rfl, hF10, hg10⟩
    have hg10 : w8.grownBy w10 (Value.ownBlock (.slice A4 r.length c4)) := ⟨hg10.os, hg10.tape, hg10.output, hg10.size, hg10.block⟩
    have hrow4 := hF4c.block
    have hI2d := hI2c.grownOld hI2 hg10 (fun k hk => Nat.le_trans z3 (hrow4 k hk))
    have hB10 : Below w.heap.size w w10 := belowGrown hB8 hg10 hB8.size (fun k hk => Nat.le_trans (Nat.le_trans zB z3) (hrow4 k hk))
    have hI10 := hF10.intsAt
    clear hI2c hF4c hI4c
    go_wp2_with fail
    refine (heldInts A4 c4 r.length 1 _ hI10 hrl (by omega) (by omega)).mono ?_
    rintro e w11 ⟨rfl, rfl⟩
    have p11 : ¬ (1 + (r.length : Int)) < 0 := by omega
    go_wp2_with fail
    refine (toInts A c xs _ (hx.below hB10) hl).mono ?_
    rintro e w12 ⟨v12, rfl, hF12, hb12⟩
    obtain ⟨A12, c12, hlc12, rfl, hI12⟩ := hF12.capped
    have hB12 : Below w.heap.size w w12 := belowStep hb12 hB10
    go_wp2_with fail
    refine (implRecords A12 c12 xs _ hI12 hl hlc12).mono ?_
    rintro e w13 ⟨v13, rfl, hF13, hb13⟩
    rw [HR.out] at hF13
    obtain ⟨A13, c13, hlc13, rfl, hI13⟩ := hF13.capped
    have hB13 : Below w.heap.size w w13 := belowStep hb13 hB12
    go_wp2_with fail
    refine (eqInts A13 A2 c13 c2 r r _ hI13 ((hI2d.below hb12).below hb13) hrl).mono ?_
    rintro e w14 ⟨rfl, n14, rfl⟩
    go_wp2_with fail
    refine (heldInts A4 c4 r.length 1 _ (by exact ((hI10.below hb12).below hb13).drewN n14) hrl (by omega) (by omega)).mono ?_
    rintro e w15 ⟨rfl, rfl⟩
    go_wp2_with fail
    go_ret
    exact ⟨rfl, belowDrewN hB13 n14⟩
  · have hl2 : (1048576 : Int) < (xs.length : Int) := by omega
    go_enter Try.func12, Try.ntmps12
    go_wp2_with fail
    go_ret
    exact ⟨rfl, Below.refl _ _⟩
theorem own : ownKnob Try.prog.godebug = none := by kernel_rfl
theorem laidOut : laidOutB Try.prog = true := by kernel_rfl
set_option maxRecDepth 100000 in
theorem lifted (os : Os) (started : os.Started) (H : Type) (enc : TypeId × Value → H) :
    ReturnsInHanded {} Try.checked os 12 .any (Rows.fnExactRecordIndicesSpec.pre6 enc Try.prog Try.f12 Rows.fnExactRecordIndicesRow.domain false) (Rows.fnExactRecordIndicesSpec.post enc Try.prog Try.f12 false true false false) := by
  refine returnsInHanded_of_change (C := Try.checked) own started (by kernel_rfl) Try.func12
    (ChangeSpec.witness6 (enc := enc) (C := Try.checked) false ⟨#[], #[.slice none 0 0], []⟩ 8 (by kernel_rfl) (by kernel_rfl) (by kernel_rfl) (by kernel_rfl)) ?_
  intro W base args ds gs before hval0 hW hcnd _
  have hval : ∀ (j : Nat) t v, Try.f12.params[j]? = some t → args[j]? = some v → Value.okWide Try.prog W .any base t v := hval0
  have hW' := hW
  obtain ⟨p, q, hA0, hV, rfl, hfz, hnd⟩ := hW
  have hA : DataW.TrodAll enc Try.prog W 0 (fun _ => true) true Try.f12.params.toList args.toList ds p := hA0
  rw [Try.params12] at hA hval
  obtain ⟨v0, vs0, d0, ds0, p0, q0, hargs, rfl, rfl, h0, r0⟩ := trodAll_cons hA
  obtain ⟨rfl, rfl, rfl⟩ := trodAll_nil r0
  obtain rfl : args = #[v0] := by cases args; simp_all
  obtain ⟨rfl, rfl⟩ := trodVars_none hV
  have lt0 : ∀ x ∈ p0, x.block < W.heap.size := by obtain ⟨m, hm⟩ := h0; exact DataW.trod_lt m _ _ _ hm
  obtain ⟨A0, c0, x0, rfl, i0, t0, m0⟩ := arg_ints (hval 0 29 v0 rfl rfl) h0
  clear hA0 hval0
  refine (walk A0 c0 x0 W i0 t0 m0).mono fun e W' ⟨he, bel⟩ => ?_
  subst he
  exact ⟨_, rfl, _, _, _, [], _, [], hW', trodAll_mk1 (shut_bool Try.underlying4 _), (trodAll_cons_mk (Below.trod laidOut (by kernel_rfl) (of_decide_eq_true (by kernel_rfl)) h0 bel lt0) trodAll_mk0), rfl, bel.frame _, fun h => by cases h⟩
theorem fact_wf : Rows.fnExactRecordIndicesRow.wf (OpenSpec.ofChange Rows.fnExactRecordIndicesSpec) = true := by kernel_rfl
theorem fact_pars : Try.f12.params.all (Try.prog.readableRec ·) = true := by kernel_rfl
theorem fact_tie : namedTie Try.prog Rows.fnExactRecordIndicesRow.named Rows.fnExactRecordIndicesSpec.vars = true := by kernel_rfl
theorem fact_st : (Rows.fnExactRecordIndicesRow.stops == []) = true := by kernel_rfl
theorem fact_kn : (Rows.fnExactRecordIndicesRow.knobs == []) = true := by kernel_rfl
theorem fact_inp : (Rows.fnExactRecordIndicesRow.inPlace == Try.prog.inPlace 12) = true := by kernel_rfl
theorem fact_unf : (Rows.fnExactRecordIndicesRow.unfollowed == Try.prog.unfollowed 12) = true := by kernel_rfl
theorem fact_rec : (Rows.fnExactRecordIndicesRow.recurses == Try.prog.recurses 12) = true := by kernel_rfl
theorem fact_nam : (Rows.fnExactRecordIndicesRow.named == Try.prog.varsNamed 12) = true := by kernel_rfl
theorem fact_mp : (Rows.fnExactRecordIndicesRow.maps == (Try.f12.params.toList ++ Rows.fnExactRecordIndicesSpec.plain.varTypes Try.prog).any (Try.prog.mapsRec ·)) = true := by kernel_rfl
theorem fact_ifc : (Rows.fnExactRecordIndicesRow.ifaces == (Try.f12.params.toList ++ Rows.fnExactRecordIndicesSpec.plain.varTypes Try.prog).any (Try.prog.ifacesRec ·)) = true := by kernel_rfl
theorem fact_mo : (Rows.fnExactRecordIndicesRow.mapsOut == Try.prog.mapsAmong Try.f12.resultTypes.toList) = true := by kernel_rfl
theorem fact_lo : (Rows.fnExactRecordIndicesRow.loops == (Try.f12.params.toList ++ Rows.fnExactRecordIndicesSpec.plain.varTypes Try.prog).any (Try.prog.loopsFrom ·)) = true := by kernel_rfl
theorem fact_wk : (Rows.fnExactRecordIndicesRow.wideKeys == (Try.f12.params.toList ++ Rows.fnExactRecordIndicesSpec.plain.varTypes Try.prog ++ Try.f12.resultTypes.toList).any (Try.prog.wideKeysFrom ·)) = true := by kernel_rfl
theorem fact_vs : Rows.fnExactRecordIndicesSpec.vars.all (Try.prog.varReadable ·) = true := by kernel_rfl
theorem fact_res : Try.f12.resultTypes.all (fun t => Try.prog.readableRec t && decide (t < Try.prog.types.size)) = true := by kernel_rfl
theorem fact_io : (Rows.fnExactRecordIndicesRow.ifacesOut == Try.f12.resultTypes.toList.any (Try.prog.ifacesRec ·)) = true := by kernel_rfl
theorem fact_loo : (Rows.fnExactRecordIndicesRow.loopsOut == Try.f12.resultTypes.toList.any (Try.prog.loopsFrom ·)) = true := by kernel_rfl
theorem fact_pk : (Rows.fnExactRecordIndicesRow.plainKeys == Try.prog.plainKeys) = true := by kernel_rfl
theorem fact_sh : Rows.fnExactRecordIndicesRow.shortTexts.isNone = true := by kernel_rfl
theorem fact_li : (Rows.fnExactRecordIndicesRow.lifted == Try.prog.liftsFinal) = true := by rw [fact_finals]; rfl
theorem fact_mk : (Try.prog.make == some Rows.fnExactRecordIndicesRow.make) = true := by rw [fact_make]; rfl
theorem fact_kd : (Rows.fnExactRecordIndicesRow.kinds == (if Rows.fnExactRecordIndicesRow.domain.isEmpty then [] else Try.f12.params.toList.map fun t => match Try.prog.underlying t with | some (.int k) => some k | _ => none)) = true := by kernel_rfl
theorem fact_pi : (Rows.fnExactRecordIndicesRow.pinned == Rows.fnExactRecordIndicesRow.pinnedBy) = true := by kernel_rfl
theorem fact_ve : (Rows.fnExactRecordIndicesRow.veiled == (Try.f12.params.toList ++ Rows.fnExactRecordIndicesSpec.plain.varTypes Try.prog ++ Try.f12.resultTypes.toList).any (Try.prog.veiledRec ·)) = true := by kernel_rfl
theorem fact_vf : Rows.fnExactRecordIndicesRow.veiledFits Try.prog Try.f12.params.toList (Try.f12.params.toList ++ Rows.fnExactRecordIndicesSpec.plain.varTypes Try.prog ++ Try.f12.resultTypes.toList) = true := by kernel_rfl
set_option maxRecDepth 100000 in
theorem facts : joinedFacts Try.prog 12 Try.f12 Rows.fnExactRecordIndicesSpec Rows.fnExactRecordIndicesRow = true := facts_of fact_wf fact_laid fact_rowed fact_pars fact_tie fact_st fact_pst fact_kn fact_pkn fact_inp fact_unf fact_rec fact_nam fact_mp fact_ifc fact_mo fact_lo fact_wk fact_vs fact_res fact_io fact_loo fact_pk fact_sh fact_hd fact_me fact_li fact_mk fact_kd fact_pi fact_ve fact_vf
theorem fact_fn : Try.prog.funcNamed Rows.fnExactRecordIndicesRow.func = some 12 := by kernel_rfl
theorem fact_inst : Try.f12.isInstance Try.prog Rows.fnExactRecordIndicesRow.origin Rows.fnExactRecordIndicesRow.targs := of_decide_eq_true (by kernel_rfl)
theorem fact_wrap : Try.f12.isWrapper Try.prog Rows.fnExactRecordIndicesRow.wrapper Rows.fnExactRecordIndicesRow.mainSum := by unfold Func.isWrapper; first | (rw [if_pos (by decide +kernel)]; kernel_rfl) | (rw [if_neg (by decide +kernel)]; exact ⟨rfl, rfl⟩)
theorem over : Rows.fnExactRecordIndicesRow.holds Try.pinned (OpenSpec.ofChange Rows.fnExactRecordIndicesSpec) :=
  OpenClaim.holds_of_wide 12 Try.f12 rfl rfl rfl rfl rfl rfl rfl ⟨rfl, rfl, rfl, rfl, rfl⟩ rfl rfl rfl rfl rfl fact_fn Try.func12 facts fact_inst fact_wrap
    (fun os started H enc _ => lifted os started H enc)
theorem proved : Rows.FnExactRecordIndicesSaid := over
#print axioms proved
end Go.Proofs.Ytdjkelhmdondcaa.lawRecords
