/- FnExactIsValidEntry: for all arguments, both packages give one answer, and the argument stays as it was. No conditions. -/
import Derived.Test.YtdjkelhmdondcaaEnt
import Derived.Test.YtdjkelhmdondcaaOpenE
import Derived.Deep.RegionHeld3
namespace Go.Proofs.Ytdjkelhmdondcaa.lawIsEntry
open Go.RowKit Go.ChangeShapes Go.WideShapes Go.ChangeAt
set_option maxHeartbeats 2000000 in
theorem walk (k1 : Int) (A1 : Option Addr) (c1 : Nat) (xs1 : List Int) (w : World) (hx : IntsAt w A1 xs1) (hm : xs1.length ≤ maxLen) :
    Calls Try.prog 9 #[.agg #[.int .i64 k1, .slice A1 xs1.length c1]] w fun e w' => e = .returned (.bool true) ∧ Below w.heap.size w w' := by
  unfold maxLen at hm
  by_cases hl : xs1.length ≤ 1048576
  · have hsz := szLeft_yes hl
    have hbox0 : (w.alloc (.cells #[.int .i64 k1, .slice A1 xs1.length c1] 46)).cell? ⟨w.heap.size, 0, none⟩ = some (.int .i64 k1) := by simp
    have hbox1 : (w.alloc (.cells #[.int .i64 k1, .slice A1 xs1.length c1] 46)).cell? ⟨w.heap.size, 1, none⟩ = some (.slice A1 xs1.length c1) := by simp
    have hB0 : Below w.heap.size w (w.alloc (.cells #[.int .i64 k1, .slice A1 xs1.length c1] 46)) := (by repeat (first | exact Below.refl _ _ | assumption | refine Below.setCell ?_ (by first | omega | (simp <;> omega)) _ | refine Below.alloc ?_ (by first | omega | (simp <;> omega)) _ | refine Below.drew ?_))
    go_enter Try.func9, Try.ntmps9
    go_wp2_with fail
    refine (szEnt k1 A1 c1 xs1 _ _ hm (by omega) (by omega)).mono ?_
    rintro e w1 ⟨rfl, hb1⟩
    have hB1 : Below w.heap.size w w1 := belowStep hb1 hB0
    have g0 := (hb1.cell (p := ⟨w.heap.size, 0, none⟩) (by simp)).trans hbox0
    have g1 := (hb1.cell (p := ⟨w.heap.size, 1, none⟩) (by simp)).trans hbox1
    have hz1 : w.heap.size < w1.heap.size := by have := hb1.size; simp at this; omega
    clear hbox0 hbox1 hb1
    go_wp2_with fail
    refine (toEnt k1 A1 c1 xs1 _ (hx.below hB1) hl).mono ?_
    rintro e w2 ⟨v2, rfl, hF2, hb2⟩
    obtain ⟨A2, c2, rfl, hI2, -⟩ := hF2.ints
    have hB2 : Below w.heap.size w w2 := belowStep hb2 hB1
    have g0 := (hb2.cell (p := ⟨w.heap.size, 0, none⟩) hz1).trans g0
    have g1 := (hb2.cell (p := ⟨w.heap.size, 1, none⟩) hz1).trans g1
    have hz2 : w.heap.size < w2.heap.size := Nat.lt_of_lt_of_le hz1 hb2.size
    clear hF2 hb2
    go_wp2_with fail
    refine (specEntOk k1 A2 c2 xs1 _ hI2 hl).mono ?_
    rintro e w3 ⟨rfl, hb3⟩
    have hB3 : Below w.heap.size w w3 := belowStep hb3 hB2
    have g0 := (hb3.cell (p := ⟨w.heap.size, 0, none⟩) hz2).trans g0
    have g1 := (hb3.cell (p := ⟨w.heap.size, 1, none⟩) hz2).trans g1
    have hz3 : w.heap.size < w3.heap.size := Nat.lt_of_lt_of_le hz2 hb3.size
    clear hI2 hb3
    go_wp2_with fail
    refine (toEnt k1 A1 c1 xs1 _ (hx.below hB3) hl).mono ?_
    rintro e w4 ⟨v4, rfl, hF4, hb4⟩
    obtain ⟨A4, c4, rfl, hI4, -⟩ := hF4.ints
    have hB4 : Below w.heap.size w w4 := belowStep hb4 hB3
    have g0 := (hb4.cell (p := ⟨w.heap.size, 0, none⟩) hz3).trans g0
    have g1 := (hb4.cell (p := ⟨w.heap.size, 1, none⟩) hz3).trans g1
    have hz4 : w.heap.size < w4.heap.size := Nat.lt_of_lt_of_le hz3 hb4.size
    clear hF4 hb4
    go_wp2_with fail
    have hI4a : IntsAt (w4.alloc (.cells #[.int .i64 k1, .slice A4 xs1.length c4] 49)) A4 xs1 := hI4.below (by repeat (first | exact Below.refl _ _ | assumption | refine Below.setCell ?_ (by first | omega | (simp <;> omega)) _ | refine Below.alloc ?_ (by first | omega | (simp <;> omega)) _ | refine Below.drew ?_))
    have hB4a : Below w.heap.size w (w4.alloc (.cells #[.int .i64 k1, .slice A4 xs1.length c4] 49)) := hB4.alloc hB4.size _
    have j0 : (w4.alloc (.cells #[.int .i64 k1, .slice A4 xs1.length c4] 49)).cell? ⟨w4.heap.size, 0, none⟩ = some (.int .i64 k1) := by simp
    have j1 : (w4.alloc (.cells #[.int .i64 k1, .slice A4 xs1.length c4] 49)).cell? ⟨w4.heap.size, 1, none⟩ = some (.slice A4 xs1.length c4) := by simp
    refine (implEntOk k1 A4 c4 xs1 _ hI4a hl).mono ?_
    rintro e w5 ⟨rfl, hb5⟩
    have hB5 : Below w.heap.size w w5 := belowStep hb5 hB4a
    have hb5w : Below w4.heap.size w4 w5 := belowStep hb5 (by repeat (first | exact Below.refl _ _ | assumption | refine Below.setCell ?_ (by first | omega | (simp <;> omega)) _ | refine Below.alloc ?_ (by first | omega | (simp <;> omega)) _ | refine Below.drew ?_))
    have g0 := (hb5w.cell (p := ⟨w.heap.size, 0, none⟩) hz4).trans g0
    have g1 := (hb5w.cell (p := ⟨w.heap.size, 1, none⟩) hz4).trans g1
    have j0 := (hb5.cell (p := ⟨w4.heap.size, 0, none⟩) (by simp)).trans j0
    have j1 := (hb5.cell (p := ⟨w4.heap.size, 1, none⟩) (by simp)).trans j1
    have hz5 : w4.heap.size < w5.heap.size := by have := hb5.size; simp at this; omega
    have hz5w : w.heap.size < w5.heap.size := by omega
    have hI5 := hI4a.below hb5
    have hx5 := hx.below hB5
    clear hI4 hI4a hB4a hb5w hb5
    have hself : (k1 == k1 && sameB xs1 xs1) = true := eqEnt_self k1 xs1
    have HS := Lib.hid hself
    clear hself
    go_wp2_with fail
    go_region_held3 (fun w' => w'.cell? ⟨w.heap.size, 0, none⟩ = some (.int .i64 k1) ∧ w'.cell? ⟨w.heap.size, 1, none⟩ = some (.slice A1 xs1.length c1) ∧ w'.cell? ⟨w4.heap.size, 0, none⟩ = some (.int .i64 k1) ∧ w'.cell? ⟨w4.heap.size, 1, none⟩ = some (.slice A4 xs1.length c4))
      (first | go_keep | exact ⟨(hb6.cell (p := ⟨w.heap.size, 0, none⟩) hz5w).trans g0, (hb6.cell (p := ⟨w.heap.size, 1, none⟩) hz5w).trans g1, (hb6.cell (p := ⟨w4.heap.size, 0, none⟩) hz5).trans j0, (hb6.cell (p := ⟨w4.heap.size, 1, none⟩) hz5).trans j1⟩ | exact ⟨(hb7.cell (p := ⟨w.heap.size, 0, none⟩) hz6w).trans q0, (hb7.cell (p := ⟨w.heap.size, 1, none⟩) hz6w).trans q1, (hb7.cell (p := ⟨w4.heap.size, 0, none⟩) hz6).trans q2, (hb7.cell (p := ⟨w4.heap.size, 1, none⟩) hz6).trans q3⟩)
      (first | (go_at_call 49; refine (toEnt k1 A1 c1 xs1 _ (by exact hx5) hl).mono ?_; rintro e w6 ⟨v6, rfl, hF6, hb6⟩; obtain ⟨A6, c6, rfl, hI6, -⟩ := hF6.ints; have hI5b : IntsAt w6 A4 xs1 := IntsAt.below (w := World.drew _) hI5 hb6; have hz6 : w4.heap.size < w6.heap.size := Nat.lt_of_lt_of_le hz5 hb6.size; have hz6w : w.heap.size < w6.heap.size := Nat.lt_of_lt_of_le hz5w hb6.size; have q0 := (hb6.cell (p := ⟨w.heap.size, 0, none⟩) hz5w).trans g0; have q1 := (hb6.cell (p := ⟨w.heap.size, 1, none⟩) hz5w).trans g1; have q2 := (hb6.cell (p := ⟨w4.heap.size, 0, none⟩) hz5).trans j0; have q3 := (hb6.cell (p := ⟨w4.heap.size, 1, none⟩) hz5).trans j1) | (go_at_call 51; refine (eqEnt k1 A4 c4 xs1 k1 A6 c6 xs1 _ (by exact hI5b) (by exact hI6) hl).mono ?_; rintro e w7 ⟨rfl, hb7⟩; rw [HS.out]))
    go_wp2_with fail
    go_ret
    exact ⟨rfl, belowStep hb7 (belowStep hb6 hB5.drew)⟩
  · have hsz := szLeft_no hl
    go_enter Try.func9, Try.ntmps9
    go_wp2_with fail
    refine (szEnt k1 A1 c1 xs1 _ _ hm (by omega) (by omega)).mono ?_
    rintro e w1 ⟨rfl, hb1⟩
    go_wp2_with fail
    go_ret
    exact ⟨rfl, belowStep hb1 (by repeat (first | exact Below.refl _ _ | assumption | refine Below.setCell ?_ (by first | omega | (simp <;> omega)) _ | refine Below.alloc ?_ (by first | omega | (simp <;> omega)) _ | refine Below.drew ?_))⟩
theorem own : ownKnob Try.prog.godebug = none := by kernel_rfl
theorem laidOut : laidOutB Try.prog = true := by kernel_rfl
set_option maxRecDepth 100000 in
theorem lifted (os : Os) (started : os.Started) (H : Type) (enc : TypeId × Value → H) :
    ReturnsInHanded {} Try.checked os 9 .any (Rows.fnExactIsValidEntrySpec.pre6 enc Try.prog Try.f9 Rows.fnExactIsValidEntryRow.domain false) (Rows.fnExactIsValidEntrySpec.post enc Try.prog Try.f9 false true false false) := by
  refine returnsInHanded_of_change (C := Try.checked) own started (by kernel_rfl) Try.func9
    (ChangeSpec.witness6 (enc := enc) (C := Try.checked) false ⟨#[], #[.agg #[.int .i64 0, .slice none 0 0]], []⟩ 8 (by kernel_rfl) (by kernel_rfl) (by kernel_rfl) (by kernel_rfl)) ?_
  intro W base args ds gs before hval0 hW hcnd _
  have hval : ∀ (j : Nat) t v, Try.f9.params[j]? = some t → args[j]? = some v → Value.okWide Try.prog W .any base t v := hval0
  have hW' := hW
  obtain ⟨p, q, hA0, hV, rfl, hfz, hnd⟩ := hW
  have hA : DataW.TrodAll enc Try.prog W 0 (fun _ => true) true Try.f9.params.toList args.toList ds p := hA0
  rw [Try.params9] at hA hval
  obtain ⟨v0, vs0, d0, ds0, p0, q0, hargs, rfl, rfl, h0, r0⟩ := trodAll_cons hA
  obtain ⟨rfl, rfl, rfl⟩ := trodAll_nil r0
  obtain rfl : args = #[v0] := by cases args; simp_all
  obtain ⟨rfl, rfl⟩ := trodVars_none hV
  have lt0 : ∀ x ∈ p0, x.block < W.heap.size := by obtain ⟨m, hm⟩ := h0; exact DataW.trod_lt m _ _ _ hm
  obtain ⟨k0, A0, c0, x0, rfl, i0, m0⟩ := arg_entry (hval 0 46 v0 rfl rfl) h0
  clear hA0 hval0
  refine (walk k0 A0 c0 x0 W i0 m0).mono fun e W' ⟨he, bel⟩ => ?_
  subst he
  exact ⟨_, rfl, _, _, _, [], _, [], hW', trodAll_mk1 (shut_bool Try.underlying4 _), (trodAll_cons_mk (Below.trod laidOut (by kernel_rfl) (of_decide_eq_true (by kernel_rfl)) h0 bel lt0) trodAll_mk0), rfl, bel.frame _, fun h => by cases h⟩
theorem fact_wf : Rows.fnExactIsValidEntryRow.wf (OpenSpec.ofChange Rows.fnExactIsValidEntrySpec) = true := by kernel_rfl
theorem fact_pars : Try.f9.params.all (Try.prog.readableRec ·) = true := by kernel_rfl
theorem fact_tie : namedTie Try.prog Rows.fnExactIsValidEntryRow.named Rows.fnExactIsValidEntrySpec.vars = true := by kernel_rfl
theorem fact_st : (Rows.fnExactIsValidEntryRow.stops == []) = true := by kernel_rfl
theorem fact_kn : (Rows.fnExactIsValidEntryRow.knobs == []) = true := by kernel_rfl
theorem fact_inp : (Rows.fnExactIsValidEntryRow.inPlace == Try.prog.inPlace 9) = true := by kernel_rfl
theorem fact_unf : (Rows.fnExactIsValidEntryRow.unfollowed == Try.prog.unfollowed 9) = true := by kernel_rfl
theorem fact_rec : (Rows.fnExactIsValidEntryRow.recurses == Try.prog.recurses 9) = true := by kernel_rfl
theorem fact_nam : (Rows.fnExactIsValidEntryRow.named == Try.prog.varsNamed 9) = true := by kernel_rfl
theorem fact_mp : (Rows.fnExactIsValidEntryRow.maps == (Try.f9.params.toList ++ Rows.fnExactIsValidEntrySpec.plain.varTypes Try.prog).any (Try.prog.mapsRec ·)) = true := by kernel_rfl
theorem fact_ifc : (Rows.fnExactIsValidEntryRow.ifaces == (Try.f9.params.toList ++ Rows.fnExactIsValidEntrySpec.plain.varTypes Try.prog).any (Try.prog.ifacesRec ·)) = true := by kernel_rfl
theorem fact_mo : (Rows.fnExactIsValidEntryRow.mapsOut == Try.prog.mapsAmong Try.f9.resultTypes.toList) = true := by kernel_rfl
theorem fact_lo : (Rows.fnExactIsValidEntryRow.loops == (Try.f9.params.toList ++ Rows.fnExactIsValidEntrySpec.plain.varTypes Try.prog).any (Try.prog.loopsFrom ·)) = true := by kernel_rfl
theorem fact_wk : (Rows.fnExactIsValidEntryRow.wideKeys == (Try.f9.params.toList ++ Rows.fnExactIsValidEntrySpec.plain.varTypes Try.prog ++ Try.f9.resultTypes.toList).any (Try.prog.wideKeysFrom ·)) = true := by kernel_rfl
theorem fact_vs : Rows.fnExactIsValidEntrySpec.vars.all (Try.prog.varReadable ·) = true := by kernel_rfl
theorem fact_res : Try.f9.resultTypes.all (fun t => Try.prog.readableRec t && decide (t < Try.prog.types.size)) = true := by kernel_rfl
theorem fact_io : (Rows.fnExactIsValidEntryRow.ifacesOut == Try.f9.resultTypes.toList.any (Try.prog.ifacesRec ·)) = true := by kernel_rfl
theorem fact_loo : (Rows.fnExactIsValidEntryRow.loopsOut == Try.f9.resultTypes.toList.any (Try.prog.loopsFrom ·)) = true := by kernel_rfl
theorem fact_pk : (Rows.fnExactIsValidEntryRow.plainKeys == Try.prog.plainKeys) = true := by kernel_rfl
theorem fact_sh : Rows.fnExactIsValidEntryRow.shortTexts.isNone = true := by kernel_rfl
theorem fact_li : (Rows.fnExactIsValidEntryRow.lifted == Try.prog.liftsFinal) = true := by rw [fact_finals]; rfl
theorem fact_mk : (Try.prog.make == some Rows.fnExactIsValidEntryRow.make) = true := by rw [fact_make]; rfl
theorem fact_kd : (Rows.fnExactIsValidEntryRow.kinds == (if Rows.fnExactIsValidEntryRow.domain.isEmpty then [] else Try.f9.params.toList.map fun t => match Try.prog.underlying t with | some (.int k) => some k | _ => none)) = true := by kernel_rfl
theorem fact_pi : (Rows.fnExactIsValidEntryRow.pinned == Rows.fnExactIsValidEntryRow.pinnedBy) = true := by kernel_rfl
theorem fact_ve : (Rows.fnExactIsValidEntryRow.veiled == (Try.f9.params.toList ++ Rows.fnExactIsValidEntrySpec.plain.varTypes Try.prog ++ Try.f9.resultTypes.toList).any (Try.prog.veiledRec ·)) = true := by kernel_rfl
theorem fact_vf : Rows.fnExactIsValidEntryRow.veiledFits Try.prog Try.f9.params.toList (Try.f9.params.toList ++ Rows.fnExactIsValidEntrySpec.plain.varTypes Try.prog ++ Try.f9.resultTypes.toList) = true := by kernel_rfl
set_option maxRecDepth 100000 in
theorem facts : joinedFacts Try.prog 9 Try.f9 Rows.fnExactIsValidEntrySpec Rows.fnExactIsValidEntryRow = true := facts_of fact_wf fact_laid fact_rowed fact_pars fact_tie fact_st fact_pst fact_kn fact_pkn fact_inp fact_unf fact_rec fact_nam fact_mp fact_ifc fact_mo fact_lo fact_wk fact_vs fact_res fact_io fact_loo fact_pk fact_sh fact_hd fact_me fact_li fact_mk fact_kd fact_pi fact_ve fact_vf
theorem fact_fn : Try.prog.funcNamed Rows.fnExactIsValidEntryRow.func = some 9 := by kernel_rfl
theorem fact_inst : Try.f9.isInstance Try.prog Rows.fnExactIsValidEntryRow.origin Rows.fnExactIsValidEntryRow.targs := of_decide_eq_true (by kernel_rfl)
theorem fact_wrap : Try.f9.isWrapper Try.prog Rows.fnExactIsValidEntryRow.wrapper Rows.fnExactIsValidEntryRow.mainSum := by unfold Func.isWrapper; first | (rw [if_pos (by decide +kernel)]; kernel_rfl) | (rw [if_neg (by decide +kernel)]; exact ⟨rfl, rfl⟩)
theorem over : Rows.fnExactIsValidEntryRow.holds Try.pinned (OpenSpec.ofChange Rows.fnExactIsValidEntrySpec) :=
  OpenClaim.holds_of_wide 9 Try.f9 rfl rfl rfl rfl rfl rfl rfl ⟨rfl, rfl, rfl, rfl, rfl⟩ rfl rfl rfl rfl rfl fact_fn Try.func9 facts fact_inst fact_wrap
    (fun os started H enc _ => lifted os started H enc)
theorem proved : Rows.FnExactIsValidEntrySaid := over
#print axioms proved
end Go.Proofs.Ytdjkelhmdondcaa.lawIsEntry
