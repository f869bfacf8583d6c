/- FnExactEncodeHex: for all arguments, both packages give one answer. No conditions. -/
import Derived.Test.YtmhjcljjnofgeaaHex
import Derived.Test.YtmhjcljjnofgeaaOpen
namespace Go.Proofs.Ytmhjcljjnofgeaa.lawEncHex
open Go.RowKit Go.ChangeShapes Go.WideShapes Go.ChangeAt
set_option maxHeartbeats 1000000 in
theorem specEncBig (s : ByteArray) (w : World) (hs : 20000 < s.size) (hs2 : s.size ≤ 1048576) :
    Calls Try.prog 14 #[.string s] w fun e w' => e = .returned (.string ⟨#[]⟩) ∧ Below w.heap.size w w' := by
  have h1 : (20000 : Int) < (s.size : Int) := by omega
  go_enter Try.func14, Try.ntmps14
  go_wp2_with fail
  go_ret
  exact ⟨rfl, Below.refl _ _⟩
set_option maxHeartbeats 1000000 in
theorem implEncBig (s : ByteArray) (w : World) (hs : 20000 < s.size) (hs2 : s.size ≤ 1048576) :
    Calls Try.prog 15 #[.string s] w fun e w' => e = .returned (.string ⟨#[]⟩) ∧ Below w.heap.size w w' := by
  have h1 : (20000 : Int) < (s.size : Int) := by omega
  go_enter Try.func15, Try.ntmps15
  go_wp2_with fail
  go_ret
  exact ⟨rfl, Below.refl _ _⟩
def encS (s : ByteArray) : ByteArray := if s.size ≤ 20000 then strOfNums (hexOf s.data.toList) else ⟨#[]⟩
theorem specEncAny (s : ByteArray) (w : World) (hs : s.size ≤ 1048576) : Calls Try.prog 14 #[.string s] w fun e w' => e = .returned (.string (encS s)) ∧ Below w.heap.size w w' := by
  unfold encS
  by_cases h : s.size ≤ 20000
  · rw [if_pos h]; exact specEnc s w h
  · rw [if_neg h]; exact specEncBig s w (by omega) hs
theorem implEncAny (s : ByteArray) (w : World) (hs : s.size ≤ 1048576) : Calls Try.prog 15 #[.string s] w fun e w' => e = .returned (.string (encS s)) ∧ Below w.heap.size w w' := by
  unfold encS
  by_cases h : s.size ≤ 20000
  · rw [if_pos h]; exact implEnc s w h
  · rw [if_neg h]; exact implEncBig s w (by omega) hs
set_option maxHeartbeats 1000000 in
theorem walk (s0 : ByteArray) (w : World) (hm : s0.size ≤ maxLen) :
    Calls Try.prog 4 #[.string s0] w fun e w' => e = .returned (.bool true) ∧ Below w.heap.size w w' := by
  unfold maxLen at hm
  by_cases hl : s0.size ≤ 1048576
  · have hl2 : ¬ (1048576 : Int) < (s0.size : Int) := by omega
    go_enter Try.func4, Try.ntmps4
    go_wp2_with fail
    ((with_reducible refine (specEncAny _ _ hl).mono ?_); rintro e w1 ⟨rfl, hb1⟩)
    go_wp2_with fail
    ((with_reducible refine (implEncAny _ _ hl).mono ?_); rintro e w2 ⟨rfl, hb2⟩)
    have hB2 : Below w.heap.size w w2 := belowStep hb2 hb1
    go_wp2_with fail
    go_ret
    exact ⟨rfl, hB2⟩
  · have hl2 : (1048576 : Int) < (s0.size : Int) := by omega
    go_enter Try.func4, Try.ntmps4
    go_wp2_with fail
    go_ret
    exact ⟨rfl, Below.refl _ _⟩
theorem own : ownKnob Try.prog.godebug = none := by kernel_rfl
theorem laidOut : laidOutB Try.prog = true := by kernel_rfl
set_option maxRecDepth 100000 in
theorem lifted (os : Os) (started : os.Started) (H : Type) (enc : TypeId × Value → H) :
    ReturnsInHanded {} Try.checked os 4 .any (Rows.fnExactEncodeHexSpec.pre6 enc Try.prog Try.f4 Rows.fnExactEncodeHexRow.domain false) (Rows.fnExactEncodeHexSpec.post enc Try.prog Try.f4 false true false false) := by
  refine returnsInHanded_of_change (C := Try.checked) own started (by kernel_rfl) Try.func4
    (ChangeSpec.witness6 (enc := enc) (C := Try.checked) false ⟨#[], #[.string ByteArray.empty], []⟩ 8 (by kernel_rfl) (by kernel_rfl) (by kernel_rfl) (by kernel_rfl)) ?_
  intro W base args ds gs before hval0 hW hcnd _
  have hval : ∀ (j : Nat) t v, Try.f4.params[j]? = some t → args[j]? = some v → Value.okWide Try.prog W .any base t v := hval0
  have hW' := hW
  obtain ⟨p, q, hA0, hV, rfl, hfz, hnd⟩ := hW
  have hA : DataW.TrodAll enc Try.prog W 0 (fun _ => true) true Try.f4.params.toList args.toList ds p := hA0
  rw [Try.params4] at hA hval
  obtain ⟨v0, vs0, d0, ds0, p0, q0, hargs, rfl, rfl, h0, r0⟩ := trodAll_cons hA
  obtain ⟨rfl, rfl, rfl⟩ := trodAll_nil r0
  obtain rfl : args = #[v0] := by cases args; simp_all
  obtain ⟨rfl, rfl⟩ := trodVars_none hV
  have lt0 : ∀ x ∈ p0, x.block < W.heap.size := by obtain ⟨m, hm⟩ := h0; exact DataW.trod_lt m _ _ _ hm
  obtain ⟨s0, rfl, m0⟩ := arg_str (hval 0 9 v0 rfl rfl) h0
  clear hA0 hval0
  refine (walk s0 W m0).mono fun e W' ⟨he, bel⟩ => ?_
  subst he
  exact ⟨_, rfl, _, _, _, [], _, [], hW', trodAll_mk1 (shut_bool Try.underlying4 _), (trodAll_cons_mk (Below.trod laidOut (by kernel_rfl) (of_decide_eq_true (by kernel_rfl)) h0 bel lt0) trodAll_mk0), rfl, bel.frame _, fun h => by cases h⟩
theorem fact_wf : Rows.fnExactEncodeHexRow.wf (OpenSpec.ofChange Rows.fnExactEncodeHexSpec) = true := by kernel_rfl
theorem fact_pars : Try.f4.params.all (Try.prog.readableRec ·) = true := by kernel_rfl
theorem fact_tie : namedTie Try.prog Rows.fnExactEncodeHexRow.named Rows.fnExactEncodeHexSpec.vars = true := by kernel_rfl
theorem fact_st : (Rows.fnExactEncodeHexRow.stops == []) = true := by kernel_rfl
theorem fact_kn : (Rows.fnExactEncodeHexRow.knobs == []) = true := by kernel_rfl
theorem fact_inp : (Rows.fnExactEncodeHexRow.inPlace == Try.prog.inPlace 4) = true := by kernel_rfl
theorem fact_unf : (Rows.fnExactEncodeHexRow.unfollowed == Try.prog.unfollowed 4) = true := by kernel_rfl
theorem fact_rec : (Rows.fnExactEncodeHexRow.recurses == Try.prog.recurses 4) = true := by kernel_rfl
theorem fact_nam : (Rows.fnExactEncodeHexRow.named == Try.prog.varsNamed 4) = true := by kernel_rfl
theorem fact_mp : (Rows.fnExactEncodeHexRow.maps == (Try.f4.params.toList ++ Rows.fnExactEncodeHexSpec.plain.varTypes Try.prog).any (Try.prog.mapsRec ·)) = true := by kernel_rfl
theorem fact_ifc : (Rows.fnExactEncodeHexRow.ifaces == (Try.f4.params.toList ++ Rows.fnExactEncodeHexSpec.plain.varTypes Try.prog).any (Try.prog.ifacesRec ·)) = true := by kernel_rfl
theorem fact_mo : (Rows.fnExactEncodeHexRow.mapsOut == Try.prog.mapsAmong Try.f4.resultTypes.toList) = true := by kernel_rfl
theorem fact_lo : (Rows.fnExactEncodeHexRow.loops == (Try.f4.params.toList ++ Rows.fnExactEncodeHexSpec.plain.varTypes Try.prog).any (Try.prog.loopsFrom ·)) = true := by kernel_rfl
theorem fact_wk : (Rows.fnExactEncodeHexRow.wideKeys == (Try.f4.params.toList ++ Rows.fnExactEncodeHexSpec.plain.varTypes Try.prog ++ Try.f4.resultTypes.toList).any (Try.prog.wideKeysFrom ·)) = true := by kernel_rfl
theorem fact_vs : Rows.fnExactEncodeHexSpec.vars.all (Try.prog.varReadable ·) = true := by kernel_rfl
theorem fact_res : Try.f4.resultTypes.all (fun t => Try.prog.readableRec t && decide (t < Try.prog.types.size)) = true := by kernel_rfl
theorem fact_io : (Rows.fnExactEncodeHexRow.ifacesOut == Try.f4.resultTypes.toList.any (Try.prog.ifacesRec ·)) = true := by kernel_rfl
theorem fact_loo : (Rows.fnExactEncodeHexRow.loopsOut == Try.f4.resultTypes.toList.any (Try.prog.loopsFrom ·)) = true := by kernel_rfl
theorem fact_pk : (Rows.fnExactEncodeHexRow.plainKeys == Try.prog.plainKeys) = true := by kernel_rfl
theorem fact_sh : Rows.fnExactEncodeHexRow.shortTexts.isNone = true := by kernel_rfl
theorem fact_li : (Rows.fnExactEncodeHexRow.lifted == Try.prog.liftsFinal) = true := by rw [fact_finals]; rfl
theorem fact_mk : (Try.prog.make == some Rows.fnExactEncodeHexRow.make) = true := by rw [fact_make]; rfl
theorem fact_kd : (Rows.fnExactEncodeHexRow.kinds == (if Rows.fnExactEncodeHexRow.domain.isEmpty then [] else Try.f4.params.toList.map fun t => match Try.prog.underlying t with | some (.int k) => some k | _ => none)) = true := by kernel_rfl
theorem fact_pi : (Rows.fnExactEncodeHexRow.pinned == Rows.fnExactEncodeHexRow.pinnedBy) = true := by kernel_rfl
theorem fact_ve : (Rows.fnExactEncodeHexRow.veiled == (Try.f4.params.toList ++ Rows.fnExactEncodeHexSpec.plain.varTypes Try.prog ++ Try.f4.resultTypes.toList).any (Try.prog.veiledRec ·)) = true := by kernel_rfl
theorem fact_vf : Rows.fnExactEncodeHexRow.veiledFits Try.prog Try.f4.params.toList (Try.f4.params.toList ++ Rows.fnExactEncodeHexSpec.plain.varTypes Try.prog ++ Try.f4.resultTypes.toList) = true := by kernel_rfl
set_option maxRecDepth 100000 in
theorem facts : joinedFacts Try.prog 4 Try.f4 Rows.fnExactEncodeHexSpec Rows.fnExactEncodeHexRow = true := facts_of fact_wf fact_laid fact_rowed fact_pars fact_tie fact_st fact_pst fact_kn fact_pkn fact_inp fact_unf fact_rec fact_nam fact_mp fact_ifc fact_mo fact_lo fact_wk fact_vs fact_res fact_io fact_loo fact_pk fact_sh fact_hd fact_me fact_li fact_mk fact_kd fact_pi fact_ve fact_vf
theorem fact_fn : Try.prog.funcNamed Rows.fnExactEncodeHexRow.func = some 4 := by kernel_rfl
theorem fact_inst : Try.f4.isInstance Try.prog Rows.fnExactEncodeHexRow.origin Rows.fnExactEncodeHexRow.targs := of_decide_eq_true (by kernel_rfl)
theorem fact_wrap : Try.f4.isWrapper Try.prog Rows.fnExactEncodeHexRow.wrapper Rows.fnExactEncodeHexRow.mainSum := by unfold Func.isWrapper; first | (rw [if_pos (by decide +kernel)]; kernel_rfl) | (rw [if_neg (by decide +kernel)]; exact ⟨rfl, rfl⟩)
theorem over : Rows.fnExactEncodeHexRow.holds Try.pinned (OpenSpec.ofChange Rows.fnExactEncodeHexSpec) :=
  OpenClaim.holds_of_wide 4 Try.f4 rfl rfl rfl rfl rfl rfl rfl ⟨rfl, rfl, rfl, rfl, rfl⟩ rfl rfl rfl rfl rfl fact_fn Try.func4 facts fact_inst fact_wrap
    (fun os started H enc _ => lifted os started H enc)
theorem proved : Rows.FnExactEncodeHexSaid := over
#print axioms proved
end Go.Proofs.Ytmhjcljjnofgeaa.lawEncHex
