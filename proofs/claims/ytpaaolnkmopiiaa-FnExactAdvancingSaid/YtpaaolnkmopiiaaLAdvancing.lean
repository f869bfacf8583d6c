/- FnExactAdvancing: for all arguments, both packages give one answer, in memory of its own, and the arguments stay as they were. No conditions. -/
import Derived.Test.YtpaaolnkmopiiaaRv
import Derived.Test.YtpaaolnkmopiiaaOpenS
namespace Go.Proofs.Ytpaaolnkmopiiaa.lawAdvancing
open Go.RowKit Go.ChangeShapes Go.WideShapes Go.ChangeAt
set_option maxRecDepth 100000
set_option maxHeartbeats 4000000 in
theorem walk (rr : RR) (A : Option Addr) (c : Nat) (es : List Ent) (w : World) (hx : EntsAt w A es) (hm : es.length ≤ maxLen) (hn : ∀ i, i < es.length → (es.getD i (0, [])).2.length ≤ maxLen) :
    Calls Try.prog 3 #[.agg #[.int .i64 rr.att, .int .i64 rr.lim, .int .i64 rr.catt, .int .i64 rr.cut, .int .i64 rr.adv], .slice A es.length c] w fun e w' => e = .returned (.bool true) ∧ Below w.heap.size w w' := by
  unfold maxLen at hm hn
  obtain ⟨w0, hw0⟩ : ∃ w0, w.alloc (.cells #[.int .i64 rr.att, .int .i64 rr.lim, .int .i64 rr.catt, .int .i64 rr.cut, .int .i64 rr.adv] 23) = w0 := ⟨_, rfl⟩
  have hB0 : Below w.heap.size w w0 := by rw [← hw0]; exact (by repeat (first | exact Below.refl _ _ | assumption | refine Below.setCell ?_ (by first | omega | (simp <;> omega)) _ | refine Below.alloc ?_ (by first | omega | (simp <;> omega)) _ | refine Below.drew ?_))
  have HX0 : Hid (RX w0 w.heap.size rr) := by rw [← hw0]; exact ⟨(Array.getElem?_eq_some_iff.1 (heap_alloc_new w _)).1, BoxRR.new w rr 23⟩
  have hx := hx.below hB0
  go_enter Try.func3, Try.ntmps3
  go_wp2_with fail
  refine (szEnts A c es _ (hx) hm hn).mono ?_
  rintro e w1 ⟨q, rfl, hq, hB1⟩
  have HQ := Lib.hid hq
  clear hq hn
  by_cases hneg : q < 0
  · go_wp2_with fail
    go_ret
    exact ⟨rfl, belowStep hB1 hB0⟩
  · obtain ⟨hl, hs⟩ := HQ.out (by omega)
    have HS := Lib.hid hs
    clear hs HQ
    obtain ⟨r, hr⟩ : ∃ r, advRes rr es = r := ⟨_, rfl⟩
    have hrl : r.length ≤ 1048576 := by rw [← hr]; have := advRes_len rr es; omega
    have HR := Lib.hid hr
    clear hr
    have hs : sameB r r = true := sameB_yes rfl
    obtain ⟨-, b0, b1, b2, b3, b4⟩ := HX0.out.below hB1
    go_wp2_with fail
    refine (toRR rr _).mono ?_
    rintro e w1a ⟨rfl, hb1a⟩
    have hB1a := belowStep hb1a hB1
    clear b0 b1 b2 b3 b4 hb1a
    go_wp2_with fail
    refine (toEnts A c es _ (hx.below hB1a) hl HS.out).mono ?_
    rintro e w2 ⟨v2, rfl, hF2, hb2⟩
    obtain ⟨g2, rfl, hI2⟩ := hF2.ents
    have hB2 := belowStep hb2 hB1a
    clear hF2 hb2
    go_wp2_with fail
    refine (specAdv rr _ _ es _ hI2 hl HS.out).mono ?_
    rintro e w3 ⟨v3, rfl, hF3, hb3⟩
    rw [HR.out] at hF3
    obtain ⟨A3, c3, rfl, hI3, -⟩ := hF3.ints
    have hB3 := belowStep hb3 hB2
    clear hI2 hb3 hF3 hB2
    go_wp2_with fail
    refine (toEnts A c es _ (hx.below hB3) hl HS.out).mono ?_
    rintro e w4 ⟨v4, rfl, hF4, hb4⟩
    obtain ⟨g4, rfl, hI4⟩ := hF4.ents
    have hB4 := belowStep hb4 hB3
    have hI34 := hI3.below hb4
    have hB3z := hB3.size
    have h34 : w3.heap.size ≤ w4.heap.size := hb4.size
    clear hb4
    obtain ⟨-, b0, b1, b2, b3, b4⟩ := HX0.out.below hB4
    go_wp2_with fail
    refine (toRR rr _).mono ?_
    rintro e w4a ⟨rfl, hb4a⟩
    clear b0 b1 b2 b3 b4
    go_wp2_with fail
    refine (implAdv rr _ _ es _ (hI4.below hb4a) hl (Nat.le_refl _) HS.out).mono ?_
    rintro e w5 ⟨v5, rfl, hF5, hb5⟩
    rw [HR.out] at hF5
    have hF5 := hF5.mono hb4a.size
    have hb5 : Below w4.heap.size w4 w5 := hb4a.trans (hb5.mono hb4a.size)
    obtain ⟨A5, c5, rfl, hI5, -⟩ := hF5.ints
    have hund5 := hF5.block
    have hB5 := belowStep hb5 hB4
    have hI35 := hI34.below hb5
    have hI45 := hI4.below hb5
    have hF45 := hF4.below hb5
    clear hI34 hI4 hF4
    go_wp2_with fail
    refine (eqInts A5 A3 c5 c3 r r _ hI5 hI35 hrl).mono ?_
    rintro e w6 ⟨rfl, n6, rfl⟩
    have hB6 := belowDrewN hB5 n6
    have hF5b : Fresh w4.heap.size (w5.drewN n6) (.slice A5 r.length c5) r := hF5
    have hI36 : IntsAt (w5.drewN n6) A3 r := hI35
    have hI46 : EntsAt (w5.drewN n6) (some ⟨g4, 0, none⟩) es := hI45
    have hF46 : FEnts w3.heap.size w4.heap.size (w5.drewN n6) (.slice (some ⟨g4, 0, none⟩) es.length es.length) es := hF45.below (belowDrewN (Below.refl _ _) n6)
    clear hI5 hI35 hI45 hF45 hB5 hF5
    generalize w5.drewN n6 = w6 at *
    go_wp2_with fail
    refine (toEnts A c es _ (hx.below hB6) hl HS.out).mono ?_
    rintro e w7 ⟨v7, rfl, hF7, hb7⟩
    obtain ⟨g7, rfl, hI7⟩ := hF7.ents
    have hB7 := belowStep hb7 hB6
    have hI37 := hI36.below hb7
    have hI47 := hI46.below hb7
    have hF47 := hF46.below hb7
    have hF57 := hF5b.below hb7
    clear hF7 hI36 hI46 hF46 hb7 hB6 hF5b
    go_wp2_with fail
    refine (eqEnts _ _ _ _ es _ hI47 hI7 hl HS.out).mono ?_
    rintro e w8 ⟨rfl, hb8⟩
    have hB8 := belowStep hb8 hB7
    have hI38 := hI37.below hb8
    have hF48 := hF47.below hb8
    have hF58 := hF57.below hb8
    clear hI37 hI47 hF47 hF57 hI7 hb8 hB7
    go_wp2_with fail
    refine (markEnts w3.heap.size w4.heap.size g4 es _ hF48 hl HS.out).mono ?_
    rintro e w9 ⟨q9, rfl, hq9, ho9⟩
    have hB9 : Below w0.heap.size w0 w9 := ho9.below hB8 hB3z hB8.size
    have hI39 := hI3.onlyLo hI38 (Nat.le_refl _) ho9
    have hF59 := hF58.onlyHi ho9 (Nat.le_refl _)
    have p9 : ¬ q9 < 0 := by omega
    have hI59 := hF59.intsAt
    clear hF48 hI38 hF58 ho9 hB8
    go_wp2_with fail
    refine (eqInts A5 A3 c5 c3 r r _ hI59 hI39 hrl).mono ?_
    rintro e w10 ⟨rfl, n10, rfl⟩
    have hB10 := belowDrewN hB9 n10
    have hF510 : Fresh w4.heap.size (w9.drewN n10) (.slice A5 r.length c5) r := hF59
    have hI310 : IntsAt (w9.drewN n10) A3 r := hI39
    clear hF59 hI39 hI59 hB9
    generalize w9.drewN n10 = w10 at *
    have q1 : (0 : Int) ≤ 1 := by omega
    go_wp2_with fail
    refine (markInts w4.heap.size (.slice A5 r.length c5) r 1 _ (by exact hF510) hrl (by omega) (by omega)).mono ?_
    rintro e w11 ⟨rfl, hF11, hg11⟩
    have hrow := hF510.block
    have hI311 := hI310.grownOld hI3 hg11 (fun k hk => Nat.le_trans h34 (hrow k hk))
    have hB11 : Below w0.heap.size w0 w11 := belowGrown hB10 hg11 hB10.size (fun k hk => Nat.le_trans hB3z (Nat.le_trans h34 (hrow k hk)))
    have hI511 := hF11.intsAt
    have p11 : ¬ (1 + (r.length : Int)) < 0 := by omega
    clear hF510 hI310 hF11
    go_wp2_with fail
    refine (heldInts A5 c5 r.length 1 _ hI511 hrl (by omega) (by omega)).mono ?_
    rintro e w12 ⟨rfl, rfl⟩
    obtain ⟨-, b0, b1, b2, b3, b4⟩ := HX0.out.below hB11
    go_wp2_with fail
    refine (toRR rr _).mono ?_
    rintro e w12a ⟨rfl, hb12a⟩
    have hB12a := belowStep hb12a hB11
    clear b0 b1 b2 b3 b4
    go_wp2_with fail
    refine (toEnts A c es _ (hx.below hB12a) hl HS.out).mono ?_
    rintro e w13 ⟨v13, rfl, hF13, hb13⟩
    obtain ⟨g13, rfl, hI13⟩ := hF13.ents
    have hB13 := belowStep hb13 hB12a
    have hb13 : Below w11.heap.size w11 w13 := hb12a.trans (hb13.mono hb12a.size)
    go_wp2_with fail
    refine (implAdv rr _ _ es _ hI13 hl (Nat.le_refl _) HS.out).mono ?_
    rintro e w14 ⟨v14, rfl, hF14, hb14⟩
    rw [HR.out] at hF14
    obtain ⟨A14, c14, rfl, hI14, -⟩ := hF14.ints
    have hB14 := belowStep hb14 hB13
    have hI314 := (hI311.below hb13).below hb14
    have hI514 := (hI511.below hb13).below hb14
    go_wp2_with fail
    refine (eqInts A14 A3 c14 c3 r r _ hI14 hI314 hrl).mono ?_
    rintro e w15 ⟨rfl, n15, rfl⟩
    go_wp2_with fail
    refine (heldInts A5 c5 r.length 1 _ (by exact hI514.drewN n15) hrl (by omega) (by omega)).mono ?_
    rintro e w16 ⟨rfl, rfl⟩
    go_wp2_with fail
    go_ret
    exact ⟨rfl, belowDrewN (belowStep hB14 hB0) n15⟩
theorem own : ownKnob Try.prog.godebug = none := by kernel_rfl
theorem laidOut : laidOutB Try.prog = true := by kernel_rfl
set_option maxRecDepth 100000 in
theorem lifted (os : Os) (started : os.Started) (H : Type) (enc : TypeId × Value → H) :
    ReturnsInHanded {} Try.checked os 3 .any (Rows.fnExactAdvancingSpec.pre6 enc Try.prog Try.f3 Rows.fnExactAdvancingRow.domain false) (Rows.fnExactAdvancingSpec.post enc Try.prog Try.f3 false true false false) := by
  refine returnsInHanded_of_change (C := Try.checked) own started (by kernel_rfl) Try.func3
    (ChangeSpec.witness6 (enc := enc) (C := Try.checked) false ⟨#[], #[.agg #[.int .i64 0, .int .i64 0, .int .i64 0, .int .i64 0, .int .i64 0], .slice none 0 0], []⟩ 8 (by kernel_rfl) (by kernel_rfl) (by kernel_rfl) (by kernel_rfl)) ?_
  intro W base args ds gs before hval0 hW hcnd _
  have hval : ∀ (j : Nat) t v, Try.f3.params[j]? = some t → args[j]? = some v → Value.okWide Try.prog W .any base t v := hval0
  have hW' := hW
  obtain ⟨p, q, hA0, hV, rfl, hfz, hnd⟩ := hW
  have hA : DataW.TrodAll enc Try.prog W 0 (fun _ => true) true Try.f3.params.toList args.toList ds p := hA0
  rw [Try.params3] at hA hval
  obtain ⟨v0, vs0, d0, ds0, p0, q0, hargs, rfl, rfl, h0, r0⟩ := trodAll_cons hA
  obtain ⟨v1, vs1, d1, ds1, p1, q1, rfl, rfl, rfl, h1, r1⟩ := trodAll_cons r0
  obtain ⟨rfl, rfl, rfl⟩ := trodAll_nil r1
  obtain rfl : args = #[v0, v1] := by cases args; simp_all
  obtain ⟨rfl, rfl⟩ := trodVars_none hV
  have lt0 : ∀ x ∈ p0, x.block < W.heap.size := by obtain ⟨m, hm⟩ := h0; exact DataW.trod_lt m _ _ _ hm
  have lt1 : ∀ x ∈ p1, x.block < W.heap.size := by obtain ⟨m, hm⟩ := h1; exact DataW.trod_lt m _ _ _ hm
  obtain ⟨g0, rfl⟩ := arg_rr (hval 0 23 v0 rfl rfl) h0
  obtain ⟨A1, c1, e1, rfl, i1, m1, n1⟩ := arg_entries (hval 1 24 v1 rfl rfl) h1
  clear hA0 hval0
  refine (walk g0 A1 c1 e1 W  i1 m1 n1).mono fun e W' ⟨he, bel⟩ => ?_
  subst he
  exact ⟨_, rfl, _, _, _, [], _, [], hW', trodAll_mk1 (shut_bool Try.underlying4 _), (trodAll_cons_mk (Below.trod laidOut (by kernel_rfl) (of_decide_eq_true (by kernel_rfl)) h0 bel lt0) (trodAll_cons_mk (Below.trod laidOut (by kernel_rfl) (of_decide_eq_true (by kernel_rfl)) h1 bel lt1) trodAll_mk0)), rfl, bel.frame _, fun h => by cases h⟩
theorem fact_wf : Rows.fnExactAdvancingRow.wf (OpenSpec.ofChange Rows.fnExactAdvancingSpec) = true := by kernel_rfl
theorem fact_pars : Try.f3.params.all (Try.prog.readableRec ·) = true := by kernel_rfl
theorem fact_tie : namedTie Try.prog Rows.fnExactAdvancingRow.named Rows.fnExactAdvancingSpec.vars = true := by kernel_rfl
theorem fact_st : (Rows.fnExactAdvancingRow.stops == []) = true := by kernel_rfl
theorem fact_kn : (Rows.fnExactAdvancingRow.knobs == []) = true := by kernel_rfl
theorem fact_inp : (Rows.fnExactAdvancingRow.inPlace == Try.prog.inPlace 3) = true := by kernel_rfl
theorem fact_unf : (Rows.fnExactAdvancingRow.unfollowed == Try.prog.unfollowed 3) = true := by kernel_rfl
theorem fact_rec : (Rows.fnExactAdvancingRow.recurses == Try.prog.recurses 3) = true := by kernel_rfl
theorem fact_nam : (Rows.fnExactAdvancingRow.named == Try.prog.varsNamed 3) = true := by kernel_rfl
theorem fact_mp : (Rows.fnExactAdvancingRow.maps == (Try.f3.params.toList ++ Rows.fnExactAdvancingSpec.plain.varTypes Try.prog).any (Try.prog.mapsRec ·)) = true := by kernel_rfl
theorem fact_ifc : (Rows.fnExactAdvancingRow.ifaces == (Try.f3.params.toList ++ Rows.fnExactAdvancingSpec.plain.varTypes Try.prog).any (Try.prog.ifacesRec ·)) = true := by kernel_rfl
theorem fact_mo : (Rows.fnExactAdvancingRow.mapsOut == Try.prog.mapsAmong Try.f3.resultTypes.toList) = true := by kernel_rfl
theorem fact_lo : (Rows.fnExactAdvancingRow.loops == (Try.f3.params.toList ++ Rows.fnExactAdvancingSpec.plain.varTypes Try.prog).any (Try.prog.loopsFrom ·)) = true := by kernel_rfl
theorem fact_wk : (Rows.fnExactAdvancingRow.wideKeys == (Try.f3.params.toList ++ Rows.fnExactAdvancingSpec.plain.varTypes Try.prog ++ Try.f3.resultTypes.toList).any (Try.prog.wideKeysFrom ·)) = true := by kernel_rfl
theorem fact_vs : Rows.fnExactAdvancingSpec.vars.all (Try.prog.varReadable ·) = true := by kernel_rfl
theorem fact_res : Try.f3.resultTypes.all (fun t => Try.prog.readableRec t && decide (t < Try.prog.types.size)) = true := by kernel_rfl
theorem fact_io : (Rows.fnExactAdvancingRow.ifacesOut == Try.f3.resultTypes.toList.any (Try.prog.ifacesRec ·)) = true := by kernel_rfl
theorem fact_loo : (Rows.fnExactAdvancingRow.loopsOut == Try.f3.resultTypes.toList.any (Try.prog.loopsFrom ·)) = true := by kernel_rfl
theorem fact_pk : (Rows.fnExactAdvancingRow.plainKeys == Try.prog.plainKeys) = true := by kernel_rfl
theorem fact_sh : Rows.fnExactAdvancingRow.shortTexts.isNone = true := by kernel_rfl
theorem fact_li : (Rows.fnExactAdvancingRow.lifted == Try.prog.liftsFinal) = true := by rw [fact_finals]; rfl
theorem fact_mk : (Try.prog.make == some Rows.fnExactAdvancingRow.make) = true := by rw [fact_make]; rfl
theorem fact_kd : (Rows.fnExactAdvancingRow.kinds == (if Rows.fnExactAdvancingRow.domain.isEmpty then [] else Try.f3.params.toList.map fun t => match Try.prog.underlying t with | some (.int k) => some k | _ => none)) = true := by kernel_rfl
theorem fact_pi : (Rows.fnExactAdvancingRow.pinned == Rows.fnExactAdvancingRow.pinnedBy) = true := by kernel_rfl
theorem fact_ve : (Rows.fnExactAdvancingRow.veiled == (Try.f3.params.toList ++ Rows.fnExactAdvancingSpec.plain.varTypes Try.prog ++ Try.f3.resultTypes.toList).any (Try.prog.veiledRec ·)) = true := by kernel_rfl
theorem fact_vf : Rows.fnExactAdvancingRow.veiledFits Try.prog Try.f3.params.toList (Try.f3.params.toList ++ Rows.fnExactAdvancingSpec.plain.varTypes Try.prog ++ Try.f3.resultTypes.toList) = true := by kernel_rfl
set_option maxRecDepth 100000 in
theorem facts : joinedFacts Try.prog 3 Try.f3 Rows.fnExactAdvancingSpec Rows.fnExactAdvancingRow = true := facts_of fact_wf fact_laid fact_rowed fact_pars fact_tie fact_st fact_pst fact_kn fact_pkn fact_inp fact_unf fact_rec fact_nam fact_mp fact_ifc fact_mo fact_lo fact_wk fact_vs fact_res fact_io fact_loo fact_pk fact_sh fact_hd fact_me fact_li fact_mk fact_kd fact_pi fact_ve fact_vf
theorem fact_fn : Try.prog.funcNamed Rows.fnExactAdvancingRow.func = some 3 := by kernel_rfl
theorem fact_inst : Try.f3.isInstance Try.prog Rows.fnExactAdvancingRow.origin Rows.fnExactAdvancingRow.targs := of_decide_eq_true (by kernel_rfl)
theorem fact_wrap : Try.f3.isWrapper Try.prog Rows.fnExactAdvancingRow.wrapper Rows.fnExactAdvancingRow.mainSum := by unfold Func.isWrapper; first | (rw [if_pos (by decide +kernel)]; kernel_rfl) | (rw [if_neg (by decide +kernel)]; exact ⟨rfl, rfl⟩)
theorem over : Rows.fnExactAdvancingRow.holds Try.pinned (OpenSpec.ofChange Rows.fnExactAdvancingSpec) :=
  OpenClaim.holds_of_wide 3 Try.f3 rfl rfl rfl rfl rfl rfl rfl ⟨rfl, rfl, rfl, rfl, rfl⟩ rfl rfl rfl rfl rfl fact_fn Try.func3 facts fact_inst fact_wrap
    (fun os started H enc _ => lifted os started H enc)
theorem proved : Rows.FnExactAdvancingSaid := over
#print axioms proved
end Go.Proofs.Ytpaaolnkmopiiaa.lawAdvancing
