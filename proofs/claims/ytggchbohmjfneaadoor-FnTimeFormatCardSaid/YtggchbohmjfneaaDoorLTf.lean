/- FnTimeFormat: for every code the law returns true. No conditions beyond the row's own (tied variables). -/
import Derived.Test.YtggchbohmjfneaaDoorPw
import Derived.Test.YtggchbohmjfneaaDoorOpen
import Derived.Test.YtggchbohmjfneaaDoorCards
import Derived.Test.YtggchbohmjfneaaDoorTie
import Derived.LaidMore
import Derived.Stop.Joined
import Derived.SevenTiedAt
namespace Go.Proofs.YtggchbohmjfneaaDoor.lawTimeFormat
open Go.RowKit Go.ChangeShapes Go.WideShapes Go.ChangeAt
theorem ok_back {s : ByteArray} (h : specOk s = true) : fmtS (specAns s) = s := by
  unfold specAns
  rw [if_pos h]
  unfold specOk at h
  rw [Bool.and_eq_true, decide_eq_true_iff] at h
  exact h.2
theorem ok_form (m : Nat) (hm : m ≤ 360000) : specOk (fmtS (m : Int)) = true ∧ specAns (fmtS (m : Int)) = m := by
  obtain ⟨a1, a2, a3, -⟩ := formOf hm rfl
  have hn : specN (fmtS (m : Int)) = m := by unfold specN; rw [if_neg a1, a3]
  have h2 : specOk (fmtS (m : Int)) = true := by
    unfold specOk
    rw [hn, decide_eq_true rfl, decide_eq_false a2]
    rfl
  refine ⟨h2, ?_⟩
  unfold specAns
  rw [if_pos h2, hn]
set_option maxRecDepth 100000 in
set_option maxHeartbeats 1000000 in
theorem walk (A : Option Addr) (c : Nat) (xs : List Int) (w : World) (hx : BytesAt w A xs) (_hm : xs.length ≤ maxLen) :
    Calls Tryd.prog 4 #[.slice A xs.length c] w fun e w' => e = .returned (.bool true) ∧ Below w.heap.size w w' := by
  by_cases hl : 4096 < xs.length
  · have hd : decide (4096 < xs.length) = true := by simpa using hl
    go_enter Tryd.func4, Tryd.ntmps4
    go_wp2_with (first | (go_at_call 7; refine (big_any _ _ _ _).mono ?_; rintro e w' ⟨rfl, rfl⟩))
    go_ret
    exact ⟨rfl, Below.refl _ _⟩
  have hd : decide (4096 < xs.length) = false := by simpa using hl
  have hl4 : xs.length ≤ 4096 := by omega
  go_enter Tryd.func4, Tryd.ntmps4
  go_wp2_with (first | (go_at_call 7; refine (big_any _ _ _ _).mono ?_; rintro e w' ⟨rfl, rfl⟩))
  refine (roll_any A c xs 903 _ hx hl4).mono ?_
  rintro e w1 ⟨rfl, hd1, hb1⟩
  go_wp2_with fail
  refine (diceBelow w.heap.size A c xs 360001 _ hd1 hl4 (by omega) (by omega)).mono ?_
  rintro e w2 ⟨x, rfl, x0, x1, hd2, hg2⟩
  have hB2 := belowOfGrown hb1 hg2 (Nat.le_refl _)
  obtain ⟨m, rfl⟩ := Int.eq_ofNat_of_zero_le x0
  have HO := Lib.hid (ok_form m (by omega))
  clear hd1 hb1 hd2 hg2 hd
  go_wp2_with fail
  refine (implFmt (m : Int) _).mono ?_
  rintro e w3 ⟨rfl, hb3⟩
  have hB3 := belowStep hb3 hB2
  have hs1 := fmtS_small (m : Int)
  have HP := Lib.hid (fun wx => implParseB (fmtS (m : Int)) wx (by omega))
  rw [HO.out.1, HO.out.2] at HP
  obtain ⟨S, hS⟩ : ∃ S, fmtS (m : Int) = S := ⟨_, rfl⟩
  rw [hS] at HP ⊢
  clear hS hs1 hb3 hB2
  go_wp2_with fail
  refine (HP.out _).mono ?_
  rintro e w4 ⟨rfl, hb4⟩
  have hB4 := belowStep hb4 hB3
  clear hb4 hB3
  go_wp2_with fail
  refine (drawS A c xs _ (hx.below hB4) hl4).mono ?_
  rintro e w5 ⟨s, rfl, hs, hb5⟩
  have hB5 := belowStep hb5 hB4
  have HB := Lib.hid (fun h => ok_back (s := s) h)
  have H1 := Lib.hid (fun wx => implParseB s wx (by omega))
  have H2 := Lib.hid (fun wx => specParse s wx (by omega))
  obtain ⟨y, hy⟩ : ∃ y, specAns s = y := ⟨_, rfl⟩
  obtain ⟨b, hb⟩ : ∃ b, specOk s = b := ⟨_, rfl⟩
  rw [hy, hb] at H1 H2 HB
  clear hy hb hb5 hB4
  go_wp2_with fail
  refine (H1.out _).mono ?_
  rintro e w6 ⟨rfl, hb6⟩
  have hB6 := belowStep hb6 hB5
  clear hb6 hB5
  go_wp2_with fail
  refine (H2.out _).mono ?_
  rintro e w7 ⟨rfl, hb7⟩
  have hB7 := belowStep hb7 hB6
  clear hb7 hB6
  cases b with
  | false =>
    go_wp2_with fail
    go_ret
    exact ⟨rfl, hB7⟩
  | true =>
    have HF := Lib.hid (fun wx => implFmt y wx)
    have hf := HB.out rfl
    rw [hf] at HF
    have t1 : (s.toList == s.toList) = true := by simp
    clear hf
    go_wp2_with fail
    refine (HF.out _).mono ?_
    rintro e w8 ⟨rfl, hb8⟩
    have hB8 := belowStep hb8 hB7
    go_wp2_with fail
    go_ret
    exact ⟨rfl, hB8⟩
theorem own : ownKnob Tryd.prog.godebug = none := by kernel_rfl
theorem laidOut : laidOutB Tryd.prog = true := by kernel_rfl
def laidT : List (String × DataW Unit) := [("math/bits.deBruijn32tab", Rows.laid_math_bits_deBruijn32tab), ("math/bits.deBruijn64tab", Rows.laid_math_bits_deBruijn64tab), ("internal/strconv.uint64pow10", Rows.laid_internal_strconv_uint64pow10)]
set_option maxRecDepth 100000 in
theorem door_met (os : Os) (args : Array Value) : laidMetH Tryd.prog laidT ((World.doorLaid Tryd.prog 24 os).forCall (fun _ _ => 0) ⟨#[], args, []⟩).memory :=
  laidMetH_of_parts3 (fuel := 8) (laidMet_of_run' 8 (by kernel_rfl) (by kernel_rfl)) (by kernel_rfl) (by kernel_rfl)
set_option maxRecDepth 100000 in
theorem lifted (os : Os) (started : os.Started) (H : Type) (enc : TypeId × Value → H) :
    ReturnsInHanded {} Tryd.checked os 4 .any (fun w args => (Rows.fnTimeFormatSpec.pre enc Tryd.prog Tryd.f4 [] false w args ∧ laidMetH Tryd.prog laidT w) ∧ sizedMet enc Tryd.prog Tryd.f4 (OpenSpec.ofChange Rows.fnTimeFormatSpec) false w args) (Rows.fnTimeFormatSpec.post enc Tryd.prog Tryd.f4 false true false false) := by
  refine returnsInHanded_of_change_and (C := Tryd.checked) (X := fun w _ => laidMetH Tryd.prog laidT w) (fun _ _ _ hh h => h.of_heap hh) own started (by kernel_rfl) Tryd.func4
    (ChangeSpec.witness_shaped (enc := enc) (C := Tryd.checked) (os := os) (X := fun w _ => laidMetH Tryd.prog laidT w) false (World.doorLaid Tryd.prog 24 os) #[.slice none 0 0] 8 rfl (World.shaped_of_RefB (by kernel_rfl) (by kernel_rfl)) (by kernel_rfl) (by kernel_rfl) (by kernel_rfl) (door_met os _)) ?_
  intro W base args ds gs before hval0 hW _ _ _ _
  have hval : ∀ (j : Nat) t v, Tryd.f4.params[j]? = some t → args[j]? = some v → Value.okWide Tryd.prog W .any base t v := hval0
  have hW' := hW
  obtain ⟨p, q, hA0, hV, rfl, hfz, hnd⟩ := hW
  have hA : DataW.TrodAll enc Tryd.prog W 0 (fun _ => true) true Tryd.f4.params.toList args.toList ds p := hA0
  rw [Tryd.params4] at hA hval
  obtain ⟨v0, vs0, d0, ds0, p0, q0, hargs, rfl, rfl, h0, r0⟩ := trodAll_cons hA
  obtain ⟨rfl, rfl, rfl⟩ := trodAll_nil r0
  obtain rfl : args = #[v0] := by cases args; simp_all
  obtain ⟨rfl, rfl⟩ := trodVars_none hV
  have lt0 : ∀ x ∈ p0, x.block < W.heap.size := by obtain ⟨m, hm⟩ := h0; exact DataW.trod_lt m _ _ _ hm
  obtain ⟨A0, c0, x0, rfl, i0, m0⟩ := arg_bytes (hval 0 25 v0 rfl rfl) h0
  clear hA0 hval0
  refine (walk A0 c0 x0 W i0 m0).mono fun e W' ⟨he, bel⟩ => ?_
  subst he
  exact ⟨_, rfl, _, _, _, [], _, [], hW', trodAll_mk1 (shut_bool Tryd.underlying4 _), (trodAll_cons_mk (Below.trod laidOut (by kernel_rfl) (of_decide_eq_true (by kernel_rfl)) h0 bel lt0) trodAll_mk0), rfl, bel.frame _, fun h => by cases h⟩
theorem fact_wf : Rows.fnTimeFormatRow.wf (OpenSpec.ofChange Rows.fnTimeFormatSpec) = true := by kernel_rfl
theorem fact_pars : Tryd.f4.params.all (Tryd.prog.readableRec ·) = true := by kernel_rfl
theorem fact_tie : namedTie Tryd.prog Rows.fnTimeFormatRow.named Rows.fnTimeFormatSpec.vars = true := by kernel_rfl
theorem fact_st : (Rows.fnTimeFormatRow.stops == []) = true := by kernel_rfl
theorem fact_kn : (Rows.fnTimeFormatRow.knobs == []) = true := by kernel_rfl
theorem fact_inp : (Rows.fnTimeFormatRow.inPlace == Tryd.prog.inPlace 4) = true := by kernel_rfl
theorem fact_unf : (Rows.fnTimeFormatRow.unfollowed == Tryd.prog.unfollowed 4) = true := by kernel_rfl
theorem fact_rec : (Rows.fnTimeFormatRow.recurses == Tryd.prog.recurses 4) = true := by kernel_rfl
theorem fact_nam : (Rows.fnTimeFormatRow.named == Tryd.prog.varsNamed 4) = true := by kernel_rfl
theorem fact_mp : (Rows.fnTimeFormatRow.maps == (Tryd.f4.params.toList ++ Rows.fnTimeFormatSpec.plain.varTypes Tryd.prog).any (Tryd.prog.mapsRec ·)) = true := by kernel_rfl
theorem fact_ifc : (Rows.fnTimeFormatRow.ifaces == (Tryd.f4.params.toList ++ Rows.fnTimeFormatSpec.plain.varTypes Tryd.prog).any (Tryd.prog.ifacesRec ·)) = true := by kernel_rfl
theorem fact_mo : (Rows.fnTimeFormatRow.mapsOut == Tryd.prog.mapsAmong Tryd.f4.resultTypes.toList) = true := by kernel_rfl
theorem fact_lo : (Rows.fnTimeFormatRow.loops == (Tryd.f4.params.toList ++ Rows.fnTimeFormatSpec.plain.varTypes Tryd.prog).any (Tryd.prog.loopsFrom ·)) = true := by kernel_rfl
theorem fact_wk : (Rows.fnTimeFormatRow.wideKeys == (Tryd.f4.params.toList ++ Rows.fnTimeFormatSpec.plain.varTypes Tryd.prog ++ Tryd.f4.resultTypes.toList).any (Tryd.prog.wideKeysFrom ·)) = true := by kernel_rfl
theorem fact_vs : Rows.fnTimeFormatSpec.vars.all (Tryd.prog.varReadable ·) = true := by kernel_rfl
theorem fact_res : Tryd.f4.resultTypes.all (fun t => Tryd.prog.readableRec t && decide (t < Tryd.prog.types.size)) = true := by kernel_rfl
theorem fact_io : (Rows.fnTimeFormatRow.ifacesOut == Tryd.f4.resultTypes.toList.any (Tryd.prog.ifacesRec ·)) = true := by kernel_rfl
theorem fact_loo : (Rows.fnTimeFormatRow.loopsOut == Tryd.f4.resultTypes.toList.any (Tryd.prog.loopsFrom ·)) = true := by kernel_rfl
theorem fact_pk : (Rows.fnTimeFormatRow.plainKeys == Tryd.prog.plainKeys) = true := by kernel_rfl
theorem fact_sh : Rows.fnTimeFormatRow.shortTexts.isNone = true := by kernel_rfl
theorem fact_li : (Rows.fnTimeFormatRow.lifted == Tryd.prog.liftsFinal) = true := by rw [fact_finals]; rfl
theorem fact_mk : (Tryd.prog.make == some Rows.fnTimeFormatRow.make) = true := by rw [fact_make]; rfl
theorem fact_kd : (Rows.fnTimeFormatRow.kinds == (if Rows.fnTimeFormatRow.domain.isEmpty then [] else Tryd.f4.params.toList.map fun t => match Tryd.prog.underlying t with | some (.int k) => some k | _ => none)) = true := by kernel_rfl
theorem fact_pi : (Rows.fnTimeFormatRow.pinned == Rows.fnTimeFormatRow.pinnedBy) = true := by kernel_rfl
theorem fact_ve : (Rows.fnTimeFormatRow.veiled == (Tryd.f4.params.toList ++ Rows.fnTimeFormatSpec.plain.varTypes Tryd.prog ++ Tryd.f4.resultTypes.toList).any (Tryd.prog.veiledRec ·)) = true := by kernel_rfl
theorem fact_vf : Rows.fnTimeFormatRow.veiledFits Tryd.prog Tryd.f4.params.toList (Tryd.f4.params.toList ++ Rows.fnTimeFormatSpec.plain.varTypes Tryd.prog ++ Tryd.f4.resultTypes.toList) = true := by kernel_rfl
set_option maxRecDepth 100000 in
theorem facts : joinedFacts Tryd.prog 4 Tryd.f4 Rows.fnTimeFormatSpec Rows.fnTimeFormatRow = true := facts_of fact_wf fact_laid fact_rowed fact_pars fact_tie fact_st fact_pst fact_kn fact_pkn fact_inp fact_unf fact_rec fact_nam fact_mp fact_ifc fact_mo fact_lo fact_wk fact_vs fact_res fact_io fact_loo fact_pk fact_sh fact_hd fact_me fact_li fact_mk fact_kd fact_pi fact_ve fact_vf
theorem fact_fn : Tryd.prog.funcNamed Rows.fnTimeFormatRow.func = some 4 := by kernel_rfl
theorem fact_inst : Tryd.f4.isInstance Tryd.prog Rows.fnTimeFormatRow.origin Rows.fnTimeFormatRow.targs := of_decide_eq_true (by kernel_rfl)
theorem fact_wrap : Tryd.f4.isWrapper Tryd.prog Rows.fnTimeFormatRow.wrapper Rows.fnTimeFormatRow.mainSum := by unfold Func.isWrapper; first | (rw [if_pos (by decide +kernel)]; kernel_rfl) | (rw [if_neg (by decide +kernel)]; exact ⟨rfl, rfl⟩)
theorem over : Rows.fnTimeFormatRow.holds Tryd.pinned (OpenSpec.ofChange Rows.fnTimeFormatSpec) :=
  OpenClaim.holds_of_wide 4 Tryd.f4 rfl rfl rfl rfl rfl rfl rfl ⟨rfl, rfl, rfl, rfl, rfl⟩ rfl rfl rfl rfl rfl fact_fn Tryd.func4 facts fact_inst fact_wrap
    (fun os started H enc _ => lifted os started H enc)
theorem held : Rows.FnTimeFormatSaid := over
set_option maxRecDepth 100000 in
theorem proved : Rows.FnTimeFormatCardSaid :=
  Claim7.holds_tied_plain_at .later [] [.data, .data, .data] true (true, "0d6e1bbbc2a7bdf5fddb449525c56e299b24c2fa6a0d3d1752ef5ccc24680065") false
    held (fun _ h => by cases h) (by kernel_rfl) (fun _ h => by cases h) fnTimeFormat_row_tie rfl ⟨rfl, rfl⟩ (by kernel_rfl) rfl
    (fun f fn hf hfn => by
      obtain rfl : f = 4 := Option.some.inj (fact_fn.symm.trans hf) |>.symm
      obtain rfl : fn = Tryd.f4 := (Option.some.inj (Tryd.func4.symm.trans hfn)).symm
      exact ⟨by kernel_rfl, fun j t ht => by
        rw [Tryd.params4] at ht
        have hm : t ∈ [25] := by simpa using Array.mem_of_getElem? ht
        have hall : ([25].all fun u => !Tryd.prog.wantsStandIn u) = true := by kernel_rfl
        exact (show Tryd.prog.wantsStandIn t = false by simpa using List.all_eq_true.1 hall t hm)⟩)
    (by kernel_rfl)
#print axioms proved
end Go.Proofs.YtggchbohmjfneaaDoor.lawTimeFormat
