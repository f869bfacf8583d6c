/- FnExactEncodeTable: for all arguments, both packages give one answer, and the argument stays as it was. No conditions. -/
import Derived.Test.YtdkoegccfpdldaaEs
import Derived.Test.YtdkoegccfpdldaaEi
import Derived.Test.YtdkoegccfpdldaaOt
import Derived.Deep.RegionHeld3
namespace Go.Proofs.Ytdkoegccfpdldaa.lawEnc
open Go.RowKit Go.ChangeShapes Go.WideShapes Go.ChangeAt
set_option maxRecDepth 100000 in
set_option maxHeartbeats 2000000 in
theorem walk (g : TA) (w : World) (hg : g.Ok w) :
    Calls Try.prog 3 #[g.val] w fun e w' => e = .returned (.bool true) ∧ Below w.heap.size w w' := by
  obtain ⟨A1, c1, A2, c2, A3, c3, t⟩ := g
  obtain ⟨h1, h2, h3, m1, m2, m3, m4⟩ := hg
  unfold TA.val
  dsimp only at h1 h2 h3 m1 m2 m3 m4 ⊢
  have H1 := Lib.hid h1
  have H2 := Lib.hid h2
  have H3 := Lib.hid h3
  have M3 := Lib.hid m3
  clear h1 h2 h3 m3
  go_enter Try.func3, Try.ntmps3
  go_wp2_with fail
  obtain ⟨w0, hw0⟩ : ∃ w0, w.alloc (.cells #[.slice A1 t.trk.length c1, .slice A2 t.pats.length c2, .slice A3 t.dist.length c3] 25) = w0 := ⟨_, rfl⟩
  have hB0 : Below w.heap.size w w0 := by rw [← hw0]; exact (by repeat (first | exact Below.refl _ _ | assumption | refine Below.setCell ?_ (by first | omega | (simp <;> omega)) _ | refine Below.alloc ?_ (by first | omega | (simp <;> omega)) _ | refine Below.drew ?_))
  have r0 : w0.heap[w.heap.size]? = some (.cells #[.slice A1 t.trk.length c1, .slice A2 t.pats.length c2, .slice A3 t.dist.length c3] 25 (0, 0)) := by
    rw [← hw0, heap_alloc_new]
  rw [hw0]
  clear hw0
  have HR0 := Lib.hid r0
  clear r0
  refine (szTab A1 A2 A3 c1 c2 c3 t 1048576 _ (H2.out.below hB0) m1 m2 M3.out m4 (by decide) (by decide)).mono ?_
  rintro e w1 ⟨q, rfl, hq, -, hb1⟩
  have hr1 := rowB hb1 HR0.out
  have hB1 := belowStep hb1 hB0
  obtain ⟨p0, p1, p2, -, -⟩ := row3 hr1
  have HR1 := Lib.hid hr1
  have HQ := Lib.hid hq
  clear hr1 hq hb1
  by_cases hneg : q < 0
  · go_wp2_with fail
    go_ret
    exact ⟨rfl, hB1⟩
  · have hs := HQ.out (by omega)
    go_wp2_with fail
    refine (toTab A1 A2 A3 c1 c2 c3 t _ (H1.out.below hB1) (H2.out.below hB1) (H3.out.below hB1) hs).mono ?_
    rintro e w2 ⟨v2, rfl, ⟨C1, k1, C2, k2, C3, k3, rfl, i1, -, i2, -, i3, -⟩, -, hb2⟩
    have hr2 := rowB hb2 HR1.out
    have hB2 := belowStep hb2 hB1
    clear hb2 p0 p1 p2
    go_wp2_with fail
    refine (specEnc C1 C2 C3 k1 k2 k3 t _ i1 i2 i3 hs).mono ?_
    rintro e w3 ⟨rfl, hb3⟩
    have hr3 := rowB hb3 hr2
    have hB3 := belowStep hb3 hB2
    obtain ⟨p0, p1, p2, -, -⟩ := row3 hr3
    have HR3 := Lib.hid hr3
    obtain ⟨S0, hS0⟩ : ∃ S0, encS t = S0 := ⟨_, rfl⟩
    obtain ⟨K0, hK0⟩ : ∃ K0, encOk t = K0 := ⟨_, rfl⟩
    have HS := Lib.hid hS0
    have HK := Lib.hid hK0
    rw [hS0, hK0]
    clear hS0 hK0 hr2 hr3 hb3 i1 i2 i3
    go_wp2_with fail
    refine (toTab A1 A2 A3 c1 c2 c3 t _ (H1.out.below hB3) (H2.out.below hB3) (H3.out.below hB3) hs).mono ?_
    rintro e w4 ⟨v4, rfl, ⟨D1, d1, D2, d2, D3, d3, rfl, i1, -, i2, -, i3, -⟩, -, hb4⟩
    have hr4 := rowB hb4 HR3.out
    have hB4 := belowStep hb4 hB3
    clear hb4 p0 p1 p2
    go_wp2_with fail
    obtain ⟨w5, hw5⟩ : ∃ w5, w4.alloc (.cells #[.slice D1 t.trk.length d1, .slice D2 t.pats.length d2, .slice D3 t.dist.length d3] 29) = w5 := ⟨_, rfl⟩
    have hb5 : Below w4.heap.size w4 w5 := by rw [← hw5]; exact (by repeat (first | exact Below.refl _ _ | assumption | refine Below.setCell ?_ (by first | omega | (simp <;> omega)) _ | refine Below.alloc ?_ (by first | omega | (simp <;> omega)) _ | refine Below.drew ?_))
    have x5 : w5.heap[w4.heap.size]? = some (.cells #[.slice D1 t.trk.length d1, .slice D2 t.pats.length d2, .slice D3 t.dist.length d3] 29 (0, 0)) := by
      rw [← hw5, heap_alloc_new]
    rw [hw5]
    clear hw5
    have hr5 := rowB hb5 hr4
    have hB5 := belowStep hb5 hB4
    have hlow := row_lt hr4
    refine (implEnc D1 D2 D3 d1 d2 d3 t _ (i1.below hb5) (i2.below hb5) (i3.below hb5) hs).mono ?_
    rintro e w6 ⟨rfl, hb6⟩
    rw [HS.out, HK.out]
    have hr6 := rowB hb6 hr5
    have x6 := rowB hb6 x5
    have hB6 := belowStep hb6 hB5
    have i1' := (i1.below hb5).below hb6
    have i2' := (i2.below hb5).below hb6
    have i3' := (i3.below hb5).below hb6
    obtain ⟨p0, p1, p2, -, l1⟩ := row3 hr6
    obtain ⟨q0, q1, q2, -, l2⟩ := row3 x6
    have I1 := Lib.hid i1'
    have I2 := Lib.hid i2'
    have I3 := Lib.hid i3'
    obtain ⟨X, hX⟩ : ∃ X, w4.heap.size = X := ⟨_, rfl⟩
    rw [hX] at q0 q1 q2 l2 ⊢
    clear hX hr4 hr5 hr6 x5 x6 hb5 hb6 hB4 hB5 i1 i2 i3 i1' i2' i3' hlow HR0 HR1 HR3
    go_wp2_with fail
    go_region_held3 (fun w' => (w'.cell? ⟨w.heap.size, 0, none⟩ = some (.slice A1 t.trk.length c1) ∧ w'.cell? ⟨w.heap.size, 1, none⟩ = some (.slice A2 t.pats.length c2) ∧ w'.cell? ⟨w.heap.size, 2, none⟩ = some (.slice A3 t.dist.length c3)) ∧ w'.cell? ⟨X, 0, none⟩ = some (.slice D1 t.trk.length d1) ∧ w'.cell? ⟨X, 1, none⟩ = some (.slice D2 t.pats.length d2) ∧ w'.cell? ⟨X, 2, none⟩ = some (.slice D3 t.dist.length d3))
      (first | go_keep | exact ⟨⟨(hb7.cell (p := ⟨w.heap.size, 0, none⟩) l1).trans p0, (hb7.cell (p := ⟨w.heap.size, 1, none⟩) l1).trans p1, (hb7.cell (p := ⟨w.heap.size, 2, none⟩) l1).trans p2⟩, (hb7.cell (p := ⟨X, 0, none⟩) l2).trans q0, (hb7.cell (p := ⟨X, 1, none⟩) l2).trans q1, (hb7.cell (p := ⟨X, 2, none⟩) l2).trans q2⟩ | exact ⟨⟨(hb8.cell (p := ⟨w.heap.size, 0, none⟩) l18).trans p70, (hb8.cell (p := ⟨w.heap.size, 1, none⟩) l18).trans p71, (hb8.cell (p := ⟨w.heap.size, 2, none⟩) l18).trans p72⟩, (hb8.cell (p := ⟨X, 0, none⟩) l28).trans q70, (hb8.cell (p := ⟨X, 1, none⟩) l28).trans q71, (hb8.cell (p := ⟨X, 2, none⟩) l28).trans q72⟩)
      (first | (go_at_call 7; refine (toTab A1 A2 A3 c1 c2 c3 t _ (by exact H1.out.below (belowDrewN hB6 1)) (by exact H2.out.below (belowDrewN hB6 1)) (by exact H3.out.below (belowDrewN hB6 1)) hs).mono ?_; rintro e w7 ⟨v7, rfl, ⟨E1, e1, E2, e2, E3, e3, rfl, j1, -, j2, -, j3, -⟩, -, hb7⟩; have p70 := (hb7.cell (p := ⟨w.heap.size, 0, none⟩) l1).trans p0; have p71 := (hb7.cell (p := ⟨w.heap.size, 1, none⟩) l1).trans p1; have p72 := (hb7.cell (p := ⟨w.heap.size, 2, none⟩) l1).trans p2; have q70 := (hb7.cell (p := ⟨X, 0, none⟩) l2).trans q0; have q71 := (hb7.cell (p := ⟨X, 1, none⟩) l2).trans q1; have q72 := (hb7.cell (p := ⟨X, 2, none⟩) l2).trans q2; have l18 := Nat.lt_of_lt_of_le l1 hb7.size; have l28 := Nat.lt_of_lt_of_le l2 hb7.size; have n1 := IntsAt.below (w := World.drew _) I1.out hb7; have n2 := LAt.below (w := World.drew _) I2.out hb7; have n3 := IntsAt.below (w := World.drew _) I3.out hb7; have hB7 := belowStep hb7 hB6.drew) | (go_at_call 9; refine (eqTab D1 D2 D3 E1 E2 E3 d1 d2 d3 e1 e2 e3 t _ n1 n2 n3 j1 j2 j3 hs).mono ?_; rintro e w8 ⟨rfl, hb8⟩))
    have hB8 := belowStep hb8 hB7
    go_wp2_with fail
    go_ret
    exact ⟨rfl, hB8⟩
theorem own : ownKnob Try.prog.godebug = none := by kernel_rfl
theorem laidOut : laidOutB Try.prog = true := by kernel_rfl
set_option maxRecDepth 100000 in
theorem lifted (os : Os) (started : os.Started) (H : Type) (enc : TypeId × Value → H) :
    ReturnsInHanded {} Try.checked os 3 .any (Rows.fnExactEncodeTableSpec.pre6 enc Try.prog Try.f3 Rows.fnExactEncodeTableRow.domain false) (Rows.fnExactEncodeTableSpec.post enc Try.prog Try.f3 false true false false) := by
  refine returnsInHanded_of_change (C := Try.checked) own started (by kernel_rfl) Try.func3
    (ChangeSpec.witness6 (enc := enc) (C := Try.checked) false ⟨#[], #[.agg #[.slice none 0 0, .slice none 0 0, .slice none 0 0]], []⟩ 8 (by kernel_rfl) (by kernel_rfl) (by kernel_rfl) (by kernel_rfl)) ?_
  intro W base args ds gs before hval0 hW hcnd _
  have hval : ∀ (j : Nat) t v, Try.f3.params[j]? = some t → args[j]? = some v → Value.okWide Try.prog W .any base t v := hval0
  have hW' := hW
  obtain ⟨p, q, hA0, hV, rfl, hfz, hnd⟩ := hW
  have hA : DataW.TrodAll enc Try.prog W 0 (fun _ => true) true Try.f3.params.toList args.toList ds p := hA0
  rw [Try.params3] at hA hval
  obtain ⟨v0, vs0, d0, ds0, p0, q0, hargs, rfl, rfl, h0, r0⟩ := trodAll_cons hA
  obtain ⟨rfl, rfl, rfl⟩ := trodAll_nil r0
  obtain rfl : args = #[v0] := by cases args; simp_all
  obtain ⟨rfl, rfl⟩ := trodVars_none hV
  have lt0 : ∀ x ∈ p0, x.block < W.heap.size := by obtain ⟨m, hm⟩ := h0; exact DataW.trod_lt m _ _ _ hm
  obtain ⟨g0, rfl, i0⟩ := arg_table (hval 0 25 v0 rfl rfl) h0
  clear hA0 hval0
  refine (walk g0 W i0).mono fun e W' ⟨he, bel⟩ => ?_
  subst he
  exact ⟨_, rfl, _, _, _, [], _, [], hW', trodAll_mk1 (shut_bool Try.underlying4 _), (trodAll_cons_mk (Below.trod laidOut (by kernel_rfl) (of_decide_eq_true (by kernel_rfl)) h0 bel lt0) trodAll_mk0), rfl, bel.frame _, fun h => by cases h⟩
theorem fact_wf : Rows.fnExactEncodeTableRow.wf (OpenSpec.ofChange Rows.fnExactEncodeTableSpec) = true := by kernel_rfl
theorem fact_pars : Try.f3.params.all (Try.prog.readableRec ·) = true := by kernel_rfl
theorem fact_tie : namedTie Try.prog Rows.fnExactEncodeTableRow.named Rows.fnExactEncodeTableSpec.vars = true := by kernel_rfl
theorem fact_st : (Rows.fnExactEncodeTableRow.stops == []) = true := by kernel_rfl
theorem fact_kn : (Rows.fnExactEncodeTableRow.knobs == []) = true := by kernel_rfl
theorem fact_inp : (Rows.fnExactEncodeTableRow.inPlace == Try.prog.inPlace 3) = true := by kernel_rfl
theorem fact_unf : (Rows.fnExactEncodeTableRow.unfollowed == Try.prog.unfollowed 3) = true := by kernel_rfl
theorem fact_rec : (Rows.fnExactEncodeTableRow.recurses == Try.prog.recurses 3) = true := by kernel_rfl
theorem fact_nam : (Rows.fnExactEncodeTableRow.named == Try.prog.varsNamed 3) = true := by kernel_rfl
theorem fact_mp : (Rows.fnExactEncodeTableRow.maps == (Try.f3.params.toList ++ Rows.fnExactEncodeTableSpec.plain.varTypes Try.prog).any (Try.prog.mapsRec ·)) = true := by kernel_rfl
theorem fact_ifc : (Rows.fnExactEncodeTableRow.ifaces == (Try.f3.params.toList ++ Rows.fnExactEncodeTableSpec.plain.varTypes Try.prog).any (Try.prog.ifacesRec ·)) = true := by kernel_rfl
theorem fact_mo : (Rows.fnExactEncodeTableRow.mapsOut == Try.prog.mapsAmong Try.f3.resultTypes.toList) = true := by kernel_rfl
theorem fact_lo : (Rows.fnExactEncodeTableRow.loops == (Try.f3.params.toList ++ Rows.fnExactEncodeTableSpec.plain.varTypes Try.prog).any (Try.prog.loopsFrom ·)) = true := by kernel_rfl
theorem fact_wk : (Rows.fnExactEncodeTableRow.wideKeys == (Try.f3.params.toList ++ Rows.fnExactEncodeTableSpec.plain.varTypes Try.prog ++ Try.f3.resultTypes.toList).any (Try.prog.wideKeysFrom ·)) = true := by kernel_rfl
theorem fact_vs : Rows.fnExactEncodeTableSpec.vars.all (Try.prog.varReadable ·) = true := by kernel_rfl
theorem fact_res : Try.f3.resultTypes.all (fun t => Try.prog.readableRec t && decide (t < Try.prog.types.size)) = true := by kernel_rfl
theorem fact_io : (Rows.fnExactEncodeTableRow.ifacesOut == Try.f3.resultTypes.toList.any (Try.prog.ifacesRec ·)) = true := by kernel_rfl
theorem fact_loo : (Rows.fnExactEncodeTableRow.loopsOut == Try.f3.resultTypes.toList.any (Try.prog.loopsFrom ·)) = true := by kernel_rfl
theorem fact_pk : (Rows.fnExactEncodeTableRow.plainKeys == Try.prog.plainKeys) = true := by kernel_rfl
theorem fact_sh : Rows.fnExactEncodeTableRow.shortTexts.isNone = true := by kernel_rfl
theorem fact_li : (Rows.fnExactEncodeTableRow.lifted == Try.prog.liftsFinal) = true := by rw [fact_finals]; rfl
theorem fact_mk : (Try.prog.make == some Rows.fnExactEncodeTableRow.make) = true := by rw [fact_make]; rfl
theorem fact_kd : (Rows.fnExactEncodeTableRow.kinds == (if Rows.fnExactEncodeTableRow.domain.isEmpty then [] else Try.f3.params.toList.map fun t => match Try.prog.underlying t with | some (.int k) => some k | _ => none)) = true := by kernel_rfl
theorem fact_pi : (Rows.fnExactEncodeTableRow.pinned == Rows.fnExactEncodeTableRow.pinnedBy) = true := by kernel_rfl
theorem fact_ve : (Rows.fnExactEncodeTableRow.veiled == (Try.f3.params.toList ++ Rows.fnExactEncodeTableSpec.plain.varTypes Try.prog ++ Try.f3.resultTypes.toList).any (Try.prog.veiledRec ·)) = true := by kernel_rfl
theorem fact_vf : Rows.fnExactEncodeTableRow.veiledFits Try.prog Try.f3.params.toList (Try.f3.params.toList ++ Rows.fnExactEncodeTableSpec.plain.varTypes Try.prog ++ Try.f3.resultTypes.toList) = true := by kernel_rfl
set_option maxRecDepth 100000 in
theorem facts : joinedFacts Try.prog 3 Try.f3 Rows.fnExactEncodeTableSpec Rows.fnExactEncodeTableRow = true := facts_of fact_wf fact_laid fact_rowed fact_pars fact_tie fact_st fact_pst fact_kn fact_pkn fact_inp fact_unf fact_rec fact_nam fact_mp fact_ifc fact_mo fact_lo fact_wk fact_vs fact_res fact_io fact_loo fact_pk fact_sh fact_hd fact_me fact_li fact_mk fact_kd fact_pi fact_ve fact_vf
theorem fact_fn : Try.prog.funcNamed Rows.fnExactEncodeTableRow.func = some 3 := by kernel_rfl
theorem fact_inst : Try.f3.isInstance Try.prog Rows.fnExactEncodeTableRow.origin Rows.fnExactEncodeTableRow.targs := of_decide_eq_true (by kernel_rfl)
theorem fact_wrap : Try.f3.isWrapper Try.prog Rows.fnExactEncodeTableRow.wrapper Rows.fnExactEncodeTableRow.mainSum := by unfold Func.isWrapper; first | (rw [if_pos (by decide +kernel)]; kernel_rfl) | (rw [if_neg (by decide +kernel)]; exact ⟨rfl, rfl⟩)
theorem over : Rows.fnExactEncodeTableRow.holds Try.pinned (OpenSpec.ofChange Rows.fnExactEncodeTableSpec) :=
  OpenClaim.holds_of_wide 3 Try.f3 rfl rfl rfl rfl rfl rfl rfl ⟨rfl, rfl, rfl, rfl, rfl⟩ rfl rfl rfl rfl rfl fact_fn Try.func3 facts fact_inst fact_wrap
    (fun os started H enc _ => lifted os started H enc)
theorem proved : Rows.FnExactEncodeTableSaid := over
#print axioms proved
end Go.Proofs.Ytdkoegccfpdldaa.lawEnc
