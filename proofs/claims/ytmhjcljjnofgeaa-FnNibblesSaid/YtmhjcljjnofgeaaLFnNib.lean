/- FnNibbles: for every code the law returns true. No conditions. -/
import Derived.Test.YtmhjcljjnofgeaaDraw2
import Derived.Test.YtmhjcljjnofgeaaOpen
namespace Go.Proofs.Ytmhjcljjnofgeaa.lawFnNib
open Go.RowKit Go.ChangeShapes Go.WideShapes Go.ChangeAt
set_option maxRecDepth 100000
theorem un_len_ok {u : ByteArray} {n : Int} (h : unOk u n = true) : (((unL u n).length : Int) == n) = true := by rw [(un_nib h).2]; simp
set_option maxHeartbeats 2000000 in
theorem walk (A : Option Addr) (c : Nat) (xs : List Int) (w : World) (hx : BytesAt w A xs) (_hm : xs.length ≤ maxLen) :
    Calls Try.prog 9 #[.slice A xs.length c] w fun e w' => e = .returned (.bool true) ∧ Below w.heap.size w w' := by
  by_cases hl : 4096 < xs.length
  · have hd : decide (4096 < xs.length) = true := by simpa using hl
    go_enter Try.func9, Try.ntmps9
    go_wp2_with (first | (go_at_call 28; refine (big_any _ _ _ _).mono ?_; rintro e w' ⟨rfl, rfl⟩))
    go_ret
    exact ⟨rfl, Below.refl _ _⟩
  have hd : decide (4096 < xs.length) = false := by simpa using hl
  have hl4 : xs.length ≤ 4096 := by omega
  go_enter Try.func9, Try.ntmps9
  go_wp2_with (first | (go_at_call 28; refine (big_any _ _ _ _).mono ?_; rintro e w' ⟨rfl, rfl⟩))
  refine (drawPack A c xs _ hx hl4).mono ?_
  rintro e w1 ⟨v1, ys, rfl, hF1, hyl, hv1, hB1⟩
  obtain ⟨A1, c1, rfl, hI1, -⟩ := hF1.ints
  clear hF1 hv1 hd
  have hyl2 : ys.length ≤ 1048576 := by omega
  go_wp2_with fail
  refine (implNibs A1 c1 ys _ hI1 hyl2).mono ?_
  rintro e w2 ⟨rfl, hb2⟩
  have hI2 := hI1.below hb2
  have hB2 := belowStep hb2 hB1
  clear hI1 hB1 hb2
  obtain ⟨S, hS⟩ : ∃ S, nibS ys = S := ⟨_, rfl⟩
  have hSl : S.size ≤ 1048576 := by rw [← hS]; have := nibS_le ys; omega
  have HS := Lib.hid hS
  clear hS
  rw [HS.out]
  go_wp2_with fail
  refine (specNibs A1 c1 ys _ hI2 hyl2).mono ?_
  rintro e w3 ⟨rfl, hb3⟩
  have hI3 := hI2.below hb3
  have hB3 := belowStep hb3 hB2
  clear hI2 hB2 hb3
  rw [HS.out]
  have step2 : ∀ (w8 : World), Below w.heap.size w w8 → True := fun _ _ => trivial
  clear step2
  cases hok : allIn ys 15
  · have HOK := Lib.hid hok
    clear hok
    go_wp2_with fail
    refine (implUn S (ys.length : Int) _ hSl).mono ?_
    rintro e w4 ⟨v4, rfl, hF4, hb4⟩
    have hB4 := belowStep hb4 hB3
    clear hF4 hb4 hB3
    go_wp2_with fail
    refine (drawUnpack A c xs _ (hx.below hB4) hl4).mono ?_
    rintro e w5 ⟨u, n, rfl, hul, hb5⟩
    have hB5 := belowStep hb5 hB4
    clear hb5 hB4
    go_wp2_with fail
    refine (implUn u n _ hul).mono ?_
    rintro e w6 ⟨v6, rfl, hF6, hb6⟩
    obtain ⟨A6, c6, rfl, hI6, -⟩ := hF6.ints
    have hB6 := belowStep hb6 hB5
    clear hb6 hB5 hF6
    go_wp2_with fail
    have hll := unL_len u n
    refine (implNibs A6 c6 _ _ hI6 (by omega)).mono ?_
    rintro e w7 ⟨rfl, hb7⟩
    have hB7 := belowStep hb7 hB6
    cases hu : unOk u n
    · go_wp2_with fail
      go_ret
      exact ⟨rfl, hB7⟩
    · have h1 := (un_nib hu).1
      have h2 := un_len_ok hu
      rw [h1]
      clear h1 hu
      go_wp2_with fail
      go_ret
      exact ⟨rfl, hB7⟩
  · obtain ⟨k1, k2⟩ := nib_un hok
    rw [HS.out] at k1 k2
    have HK1 := Lib.hid k1
    have HK2 := Lib.hid k2
    clear k1 k2 hok
    have hs : sameB ys ys = true := sameB_yes rfl
    go_wp2_with fail
    refine (implUn S (ys.length : Int) _ hSl).mono ?_
    rintro e w4 ⟨v4, rfl, hF4, hb4⟩
    rw [HK2.out] at hF4
    rw [HK1.out]
    obtain ⟨A4, c4, rfl, hI4, -⟩ := hF4.ints
    have hB4 := belowStep hb4 hB3
    have hI3b := hI3.below hb4
    clear hF4 hb4 hB3 hI3
    go_wp2_with fail
    refine (likeAny A4 A1 c4 c1 ys ys _ hI4 hI3b hyl2).mono ?_
    rintro e w4b ⟨rfl, n4, rfl⟩
    have hB4b := belowDrewN hB4 n4
    clear hB4 hI4 hI3b
    go_wp2_with fail
    refine (drawUnpack A c xs _ (hx.below hB4b) hl4).mono ?_
    rintro e w5 ⟨u, n, rfl, hul, hb5⟩
    have hB5 := belowStep hb5 hB4b
    clear hb5 hB4b
    go_wp2_with fail
    refine (implUn u n _ hul).mono ?_
    rintro e w6 ⟨v6, rfl, hF6, hb6⟩
    obtain ⟨A6, c6, rfl, hI6, -⟩ := hF6.ints
    have hB6 := belowStep hb6 hB5
    clear hb6 hB5 hF6
    go_wp2_with fail
    have hll := unL_len u n
    refine (implNibs A6 c6 _ _ hI6 (by omega)).mono ?_
    rintro e w7 ⟨rfl, hb7⟩
    have hB7 := belowStep hb7 hB6
    cases hu : unOk u n
    · go_wp2_with fail
      go_ret
      exact ⟨rfl, hB7⟩
    · have h1 := (un_nib hu).1
      have h2 := un_len_ok hu
      rw [h1]
      clear h1 hu
      go_wp2_with fail
      go_ret
      exact ⟨rfl, hB7⟩
theorem own : ownKnob Try.prog.godebug = none := by kernel_rfl
theorem laidOut : laidOutB Try.prog = true := by kernel_rfl
set_option maxRecDepth 100000 in
theorem lifted (os : Os) (started : os.Started) (H : Type) (enc : TypeId × Value → H) :
    ReturnsInHanded {} Try.checked os 9 .any (Rows.fnNibblesSpec.pre6 enc Try.prog Try.f9 Rows.fnNibblesRow.domain false) (Rows.fnNibblesSpec.post enc Try.prog Try.f9 false true false false) := by
  refine returnsInHanded_of_change (C := Try.checked) own started (by kernel_rfl) Try.func9
    (ChangeSpec.witness6 (enc := enc) (C := Try.checked) false ⟨#[], #[.slice none 0 0], []⟩ 8 (by kernel_rfl) (by kernel_rfl) (by kernel_rfl) (by kernel_rfl)) ?_
  intro W base args ds gs before hval0 hW hcnd _
  have hval : ∀ (j : Nat) t v, Try.f9.params[j]? = some t → args[j]? = some v → Value.okWide Try.prog W .any base t v := hval0
  have hW' := hW
  obtain ⟨p, q, hA0, hV, rfl, hfz, hnd⟩ := hW
  have hA : DataW.TrodAll enc Try.prog W 0 (fun _ => true) true Try.f9.params.toList args.toList ds p := hA0
  rw [Try.params9] at hA hval
  obtain ⟨v0, vs0, d0, ds0, p0, q0, hargs, rfl, rfl, h0, r0⟩ := trodAll_cons hA
  obtain ⟨rfl, rfl, rfl⟩ := trodAll_nil r0
  obtain rfl : args = #[v0] := by cases args; simp_all
  obtain ⟨rfl, rfl⟩ := trodVars_none hV
  have lt0 : ∀ x ∈ p0, x.block < W.heap.size := by obtain ⟨m, hm⟩ := h0; exact DataW.trod_lt m _ _ _ hm
  obtain ⟨A0, c0, x0, rfl, i0, m0⟩ := arg_bytes (hval 0 36 v0 rfl rfl) h0
  clear hA0 hval0
  refine (walk A0 c0 x0 W i0 m0).mono fun e W' ⟨he, bel⟩ => ?_
  subst he
  exact ⟨_, rfl, _, _, _, [], _, [], hW', trodAll_mk1 (shut_bool Try.underlying4 _), (trodAll_cons_mk (Below.trod laidOut (by kernel_rfl) (of_decide_eq_true (by kernel_rfl)) h0 bel lt0) trodAll_mk0), rfl, bel.frame _, fun h => by cases h⟩
theorem fact_wf : Rows.fnNibblesRow.wf (OpenSpec.ofChange Rows.fnNibblesSpec) = true := by kernel_rfl
theorem fact_pars : Try.f9.params.all (Try.prog.readableRec ·) = true := by kernel_rfl
theorem fact_tie : namedTie Try.prog Rows.fnNibblesRow.named Rows.fnNibblesSpec.vars = true := by kernel_rfl
theorem fact_st : (Rows.fnNibblesRow.stops == []) = true := by kernel_rfl
theorem fact_kn : (Rows.fnNibblesRow.knobs == []) = true := by kernel_rfl
theorem fact_inp : (Rows.fnNibblesRow.inPlace == Try.prog.inPlace 9) = true := by kernel_rfl
theorem fact_unf : (Rows.fnNibblesRow.unfollowed == Try.prog.unfollowed 9) = true := by kernel_rfl
theorem fact_rec : (Rows.fnNibblesRow.recurses == Try.prog.recurses 9) = true := by kernel_rfl
theorem fact_nam : (Rows.fnNibblesRow.named == Try.prog.varsNamed 9) = true := by kernel_rfl
theorem fact_mp : (Rows.fnNibblesRow.maps == (Try.f9.params.toList ++ Rows.fnNibblesSpec.plain.varTypes Try.prog).any (Try.prog.mapsRec ·)) = true := by kernel_rfl
theorem fact_ifc : (Rows.fnNibblesRow.ifaces == (Try.f9.params.toList ++ Rows.fnNibblesSpec.plain.varTypes Try.prog).any (Try.prog.ifacesRec ·)) = true := by kernel_rfl
theorem fact_mo : (Rows.fnNibblesRow.mapsOut == Try.prog.mapsAmong Try.f9.resultTypes.toList) = true := by kernel_rfl
theorem fact_lo : (Rows.fnNibblesRow.loops == (Try.f9.params.toList ++ Rows.fnNibblesSpec.plain.varTypes Try.prog).any (Try.prog.loopsFrom ·)) = true := by kernel_rfl
theorem fact_wk : (Rows.fnNibblesRow.wideKeys == (Try.f9.params.toList ++ Rows.fnNibblesSpec.plain.varTypes Try.prog ++ Try.f9.resultTypes.toList).any (Try.prog.wideKeysFrom ·)) = true := by kernel_rfl
theorem fact_vs : Rows.fnNibblesSpec.vars.all (Try.prog.varReadable ·) = true := by kernel_rfl
theorem fact_res : Try.f9.resultTypes.all (fun t => Try.prog.readableRec t && decide (t < Try.prog.types.size)) = true := by kernel_rfl
theorem fact_io : (Rows.fnNibblesRow.ifacesOut == Try.f9.resultTypes.toList.any (Try.prog.ifacesRec ·)) = true := by kernel_rfl
theorem fact_loo : (Rows.fnNibblesRow.loopsOut == Try.f9.resultTypes.toList.any (Try.prog.loopsFrom ·)) = true := by kernel_rfl
theorem fact_pk : (Rows.fnNibblesRow.plainKeys == Try.prog.plainKeys) = true := by kernel_rfl
theorem fact_sh : Rows.fnNibblesRow.shortTexts.isNone = true := by kernel_rfl
theorem fact_li : (Rows.fnNibblesRow.lifted == Try.prog.liftsFinal) = true := by rw [fact_finals]; rfl
theorem fact_mk : (Try.prog.make == some Rows.fnNibblesRow.make) = true := by rw [fact_make]; rfl
theorem fact_kd : (Rows.fnNibblesRow.kinds == (if Rows.fnNibblesRow.domain.isEmpty then [] else Try.f9.params.toList.map fun t => match Try.prog.underlying t with | some (.int k) => some k | _ => none)) = true := by kernel_rfl
theorem fact_pi : (Rows.fnNibblesRow.pinned == Rows.fnNibblesRow.pinnedBy) = true := by kernel_rfl
theorem fact_ve : (Rows.fnNibblesRow.veiled == (Try.f9.params.toList ++ Rows.fnNibblesSpec.plain.varTypes Try.prog ++ Try.f9.resultTypes.toList).any (Try.prog.veiledRec ·)) = true := by kernel_rfl
theorem fact_vf : Rows.fnNibblesRow.veiledFits Try.prog Try.f9.params.toList (Try.f9.params.toList ++ Rows.fnNibblesSpec.plain.varTypes Try.prog ++ Try.f9.resultTypes.toList) = true := by kernel_rfl
set_option maxRecDepth 100000 in
theorem facts : joinedFacts Try.prog 9 Try.f9 Rows.fnNibblesSpec Rows.fnNibblesRow = true := facts_of fact_wf fact_laid fact_rowed fact_pars fact_tie fact_st fact_pst fact_kn fact_pkn fact_inp fact_unf fact_rec fact_nam fact_mp fact_ifc fact_mo fact_lo fact_wk fact_vs fact_res fact_io fact_loo fact_pk fact_sh fact_hd fact_me fact_li fact_mk fact_kd fact_pi fact_ve fact_vf
theorem fact_fn : Try.prog.funcNamed Rows.fnNibblesRow.func = some 9 := by kernel_rfl
theorem fact_inst : Try.f9.isInstance Try.prog Rows.fnNibblesRow.origin Rows.fnNibblesRow.targs := of_decide_eq_true (by kernel_rfl)
theorem fact_wrap : Try.f9.isWrapper Try.prog Rows.fnNibblesRow.wrapper Rows.fnNibblesRow.mainSum := by unfold Func.isWrapper; first | (rw [if_pos (by decide +kernel)]; kernel_rfl) | (rw [if_neg (by decide +kernel)]; exact ⟨rfl, rfl⟩)
theorem over : Rows.fnNibblesRow.holds Try.pinned (OpenSpec.ofChange Rows.fnNibblesSpec) :=
  OpenClaim.holds_of_wide 9 Try.f9 rfl rfl rfl rfl rfl rfl rfl ⟨rfl, rfl, rfl, rfl, rfl⟩ rfl rfl rfl rfl rfl fact_fn Try.func9 facts fact_inst fact_wrap
    (fun os started H enc _ => lifted os started H enc)
theorem proved : Rows.FnNibblesSaid := over
#print axioms proved
end Go.Proofs.Ytmhjcljjnofgeaa.lawFnNib
