/- FnExactParseTime: for all arguments, both packages give one answer. No conditions beyond the row's own (tied variables). -/
import Derived.Test.YtggchbohmjfneaaDoorPh
import Derived.Test.YtggchbohmjfneaaDoorOpen
import Derived.Test.YtggchbohmjfneaaDoorCards
import Derived.Test.YtggchbohmjfneaaDoorTie
import Derived.LaidMore
import Derived.Stop.Joined
import Derived.SevenTiedAt
namespace Go.Proofs.YtggchbohmjfneaaDoor.lawParseTime
open Go.RowKit Go.ChangeShapes Go.WideShapes Go.ChangeAt
set_option maxHeartbeats 1000000 in
theorem walk (s0 : ByteArray) (w : World) (hm : s0.size ≤ maxLen) :
    Calls Tryd.prog 3 #[.string s0] w fun e w' => e = .returned (.bool true) ∧ Below w.heap.size w w' := by
  unfold maxLen at hm
  by_cases hl : s0.size ≤ 1048576
  · have hl2 : ¬ (1048576 : Int) < (s0.size : Int) := by omega
    obtain ⟨d, hd⟩ : ∃ d, specAns s0 = d := ⟨_, rfl⟩
    obtain ⟨b, hb⟩ : ∃ b, specOk s0 = b := ⟨_, rfl⟩
    have HD := Lib.hid hd
    have HB := Lib.hid hb
    clear hd hb
    go_enter Tryd.func3, Tryd.ntmps3
    go_wp2_with fail
    ((with_reducible refine (specParse _ _ hl).mono ?_); rintro e w1 ⟨rfl, hb1⟩)
    rw [HD.out, HB.out]
    go_wp2_with fail
    ((with_reducible refine (implParseB _ _ hl).mono ?_); rintro e w2 ⟨rfl, hb2⟩)
    rw [HD.out, HB.out]
    have hB2 : Below w.heap.size w w2 := belowStep hb2 hb1
    go_wp2_with fail
    go_ret
    exact ⟨rfl, hB2⟩
  · have hl2 : (1048576 : Int) < (s0.size : Int) := by omega
    go_enter Tryd.func3, Tryd.ntmps3
    go_wp2_with fail
    go_ret
    exact ⟨rfl, Below.refl _ _⟩
theorem own : ownKnob Tryd.prog.godebug = none := by kernel_rfl
theorem laidOut : laidOutB Tryd.prog = true := by kernel_rfl
def laidT : List (String × DataW Unit) := [("math/bits.deBruijn32tab", Rows.laid_math_bits_deBruijn32tab), ("math/bits.deBruijn64tab", Rows.laid_math_bits_deBruijn64tab), ("internal/strconv.uint64pow10", Rows.laid_internal_strconv_uint64pow10)]
set_option maxRecDepth 100000 in
theorem door_met (os : Os) (args : Array Value) : laidMetH Tryd.prog laidT ((World.doorLaid Tryd.prog 24 os).forCall (fun _ _ => 0) ⟨#[], args, []⟩).memory :=
  laidMetH_of_parts3 (fuel := 8) (laidMet_of_run' 8 (by kernel_rfl) (by kernel_rfl)) (by kernel_rfl) (by kernel_rfl)
set_option maxRecDepth 100000 in
theorem lifted (os : Os) (started : os.Started) (H : Type) (enc : TypeId × Value → H) :
    ReturnsInHanded {} Tryd.checked os 3 .any (fun w args => (Rows.fnExactParseTimeSpec.pre enc Tryd.prog Tryd.f3 [] false w args ∧ laidMetH Tryd.prog laidT w) ∧ sizedMet enc Tryd.prog Tryd.f3 (OpenSpec.ofChange Rows.fnExactParseTimeSpec) false w args) (Rows.fnExactParseTimeSpec.post enc Tryd.prog Tryd.f3 false true false false) := by
  refine returnsInHanded_of_change_and (C := Tryd.checked) (X := fun w _ => laidMetH Tryd.prog laidT w) (fun _ _ _ hh h => h.of_heap hh) own started (by kernel_rfl) Tryd.func3
    (ChangeSpec.witness_shaped (enc := enc) (C := Tryd.checked) (os := os) (X := fun w _ => laidMetH Tryd.prog laidT w) false (World.doorLaid Tryd.prog 24 os) #[.string ByteArray.empty] 8 rfl (World.shaped_of_RefB (by kernel_rfl) (by kernel_rfl)) (by kernel_rfl) (by kernel_rfl) (by kernel_rfl) (door_met os _)) ?_
  intro W base args ds gs before hval0 hW _ _ _ _
  have hval : ∀ (j : Nat) t v, Tryd.f3.params[j]? = some t → args[j]? = some v → Value.okWide Tryd.prog W .any base t v := hval0
  have hW' := hW
  obtain ⟨p, q, hA0, hV, rfl, hfz, hnd⟩ := hW
  have hA : DataW.TrodAll enc Tryd.prog W 0 (fun _ => true) true Tryd.f3.params.toList args.toList ds p := hA0
  rw [Tryd.params3] at hA hval
  obtain ⟨v0, vs0, d0, ds0, p0, q0, hargs, rfl, rfl, h0, r0⟩ := trodAll_cons hA
  obtain ⟨rfl, rfl, rfl⟩ := trodAll_nil r0
  obtain rfl : args = #[v0] := by cases args; simp_all
  obtain ⟨rfl, rfl⟩ := trodVars_none hV
  have lt0 : ∀ x ∈ p0, x.block < W.heap.size := by obtain ⟨m, hm⟩ := h0; exact DataW.trod_lt m _ _ _ hm
  obtain ⟨s0, rfl, m0⟩ := arg_str (hval 0 9 v0 rfl rfl) h0
  clear hA0 hval0
  refine (walk s0 W m0).mono fun e W' ⟨he, bel⟩ => ?_
  subst he
  exact ⟨_, rfl, _, _, _, [], _, [], hW', trodAll_mk1 (shut_bool Tryd.underlying4 _), (trodAll_cons_mk (Below.trod laidOut (by kernel_rfl) (of_decide_eq_true (by kernel_rfl)) h0 bel lt0) trodAll_mk0), rfl, bel.frame _, fun h => by cases h⟩
theorem fact_wf : Rows.fnExactParseTimeRow.wf (OpenSpec.ofChange Rows.fnExactParseTimeSpec) = true := by kernel_rfl
theorem fact_pars : Tryd.f3.params.all (Tryd.prog.readableRec ·) = true := by kernel_rfl
theorem fact_tie : namedTie Tryd.prog Rows.fnExactParseTimeRow.named Rows.fnExactParseTimeSpec.vars = true := by kernel_rfl
theorem fact_st : (Rows.fnExactParseTimeRow.stops == []) = true := by kernel_rfl
theorem fact_kn : (Rows.fnExactParseTimeRow.knobs == []) = true := by kernel_rfl
theorem fact_inp : (Rows.fnExactParseTimeRow.inPlace == Tryd.prog.inPlace 3) = true := by kernel_rfl
theorem fact_unf : (Rows.fnExactParseTimeRow.unfollowed == Tryd.prog.unfollowed 3) = true := by kernel_rfl
theorem fact_rec : (Rows.fnExactParseTimeRow.recurses == Tryd.prog.recurses 3) = true := by kernel_rfl
theorem fact_nam : (Rows.fnExactParseTimeRow.named == Tryd.prog.varsNamed 3) = true := by kernel_rfl
theorem fact_mp : (Rows.fnExactParseTimeRow.maps == (Tryd.f3.params.toList ++ Rows.fnExactParseTimeSpec.plain.varTypes Tryd.prog).any (Tryd.prog.mapsRec ·)) = true := by kernel_rfl
theorem fact_ifc : (Rows.fnExactParseTimeRow.ifaces == (Tryd.f3.params.toList ++ Rows.fnExactParseTimeSpec.plain.varTypes Tryd.prog).any (Tryd.prog.ifacesRec ·)) = true := by kernel_rfl
theorem fact_mo : (Rows.fnExactParseTimeRow.mapsOut == Tryd.prog.mapsAmong Tryd.f3.resultTypes.toList) = true := by kernel_rfl
theorem fact_lo : (Rows.fnExactParseTimeRow.loops == (Tryd.f3.params.toList ++ Rows.fnExactParseTimeSpec.plain.varTypes Tryd.prog).any (Tryd.prog.loopsFrom ·)) = true := by kernel_rfl
theorem fact_wk : (Rows.fnExactParseTimeRow.wideKeys == (Tryd.f3.params.toList ++ Rows.fnExactParseTimeSpec.plain.varTypes Tryd.prog ++ Tryd.f3.resultTypes.toList).any (Tryd.prog.wideKeysFrom ·)) = true := by kernel_rfl
theorem fact_vs : Rows.fnExactParseTimeSpec.vars.all (Tryd.prog.varReadable ·) = true := by kernel_rfl
theorem fact_res : Tryd.f3.resultTypes.all (fun t => Tryd.prog.readableRec t && decide (t < Tryd.prog.types.size)) = true := by kernel_rfl
theorem fact_io : (Rows.fnExactParseTimeRow.ifacesOut == Tryd.f3.resultTypes.toList.any (Tryd.prog.ifacesRec ·)) = true := by kernel_rfl
theorem fact_loo : (Rows.fnExactParseTimeRow.loopsOut == Tryd.f3.resultTypes.toList.any (Tryd.prog.loopsFrom ·)) = true := by kernel_rfl
theorem fact_pk : (Rows.fnExactParseTimeRow.plainKeys == Tryd.prog.plainKeys) = true := by kernel_rfl
theorem fact_sh : Rows.fnExactParseTimeRow.shortTexts.isNone = true := by kernel_rfl
theorem fact_li : (Rows.fnExactParseTimeRow.lifted == Tryd.prog.liftsFinal) = true := by rw [fact_finals]; rfl
theorem fact_mk : (Tryd.prog.make == some Rows.fnExactParseTimeRow.make) = true := by rw [fact_make]; rfl
theorem fact_kd : (Rows.fnExactParseTimeRow.kinds == (if Rows.fnExactParseTimeRow.domain.isEmpty then [] else Tryd.f3.params.toList.map fun t => match Tryd.prog.underlying t with | some (.int k) => some k | _ => none)) = true := by kernel_rfl
theorem fact_pi : (Rows.fnExactParseTimeRow.pinned == Rows.fnExactParseTimeRow.pinnedBy) = true := by kernel_rfl
theorem fact_ve : (Rows.fnExactParseTimeRow.veiled == (Tryd.f3.params.toList ++ Rows.fnExactParseTimeSpec.plain.varTypes Tryd.prog ++ Tryd.f3.resultTypes.toList).any (Tryd.prog.veiledRec ·)) = true := by kernel_rfl
theorem fact_vf : Rows.fnExactParseTimeRow.veiledFits Tryd.prog Tryd.f3.params.toList (Tryd.f3.params.toList ++ Rows.fnExactParseTimeSpec.plain.varTypes Tryd.prog ++ Tryd.f3.resultTypes.toList) = true := by kernel_rfl
set_option maxRecDepth 100000 in
theorem facts : joinedFacts Tryd.prog 3 Tryd.f3 Rows.fnExactParseTimeSpec Rows.fnExactParseTimeRow = true := facts_of fact_wf fact_laid fact_rowed fact_pars fact_tie fact_st fact_pst fact_kn fact_pkn fact_inp fact_unf fact_rec fact_nam fact_mp fact_ifc fact_mo fact_lo fact_wk fact_vs fact_res fact_io fact_loo fact_pk fact_sh fact_hd fact_me fact_li fact_mk fact_kd fact_pi fact_ve fact_vf
theorem fact_fn : Tryd.prog.funcNamed Rows.fnExactParseTimeRow.func = some 3 := by kernel_rfl
theorem fact_inst : Tryd.f3.isInstance Tryd.prog Rows.fnExactParseTimeRow.origin Rows.fnExactParseTimeRow.targs := of_decide_eq_true (by kernel_rfl)
theorem fact_wrap : Tryd.f3.isWrapper Tryd.prog Rows.fnExactParseTimeRow.wrapper Rows.fnExactParseTimeRow.mainSum := by unfold Func.isWrapper; first | (rw [if_pos (by decide +kernel)]; kernel_rfl) | (rw [if_neg (by decide +kernel)]; exact ⟨rfl, rfl⟩)
theorem over : Rows.fnExactParseTimeRow.holds Tryd.pinned (OpenSpec.ofChange Rows.fnExactParseTimeSpec) :=
  OpenClaim.holds_of_wide 3 Tryd.f3 rfl rfl rfl rfl rfl rfl rfl ⟨rfl, rfl, rfl, rfl, rfl⟩ rfl rfl rfl rfl rfl fact_fn Tryd.func3 facts fact_inst fact_wrap
    (fun os started H enc _ => lifted os started H enc)
theorem held : Rows.FnExactParseTimeSaid := over
set_option maxRecDepth 100000 in
theorem proved : Rows.FnExactParseTimeCardSaid :=
  Claim7.holds_tied_plain_at .later [] [.data, .data, .data] true (true, "0d6e1bbbc2a7bdf5fddb449525c56e299b24c2fa6a0d3d1752ef5ccc24680065") false
    held (fun _ h => by cases h) (by kernel_rfl) (fun _ h => by cases h) fnExactParseTime_row_tie rfl ⟨rfl, rfl⟩ (by kernel_rfl) rfl
    (fun f fn hf hfn => by
      obtain rfl : f = 3 := Option.some.inj (fact_fn.symm.trans hf) |>.symm
      obtain rfl : fn = Tryd.f3 := (Option.some.inj (Tryd.func3.symm.trans hfn)).symm
      exact ⟨by kernel_rfl, fun j t ht => by
        rw [Tryd.params3] at ht
        have hm : t ∈ [9] := by simpa using Array.mem_of_getElem? ht
        have hall : ([9].all fun u => !Tryd.prog.wantsStandIn u) = true := by kernel_rfl
        exact (show Tryd.prog.wantsStandIn t = false by simpa using List.all_eq_true.1 hall t hm)⟩)
    (by kernel_rfl)
#print axioms proved
end Go.Proofs.YtggchbohmjfneaaDoor.lawParseTime
