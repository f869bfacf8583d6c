/- FnExactDecodeTable: for all arguments, both packages give one answer, and what the program returns is its own. No conditions. -/
import Derived.Test.YtdkoegccfpdldaaDr
import Derived.Test.YtdkoegccfpdldaaOpen
import Derived.Test.YtdkoegccfpdldaaTb
import Derived.Deep.RegionHeld3
namespace Go.Proofs.Ytdkoegccfpdldaa.lawDtb
open Go.RowKit Go.ChangeShapes Go.WideShapes Go.ChangeAt
theorem fTbBelow {lo hi m1 m2 c1 c2 c3 : Nat} {w w' : World} {A1 A2 A3 : Option Addr} {t : Tb} (h : FTb lo hi w A1 c1 A2 c2 A3 c3 m1 m2 t) (hb : Below w.heap.size w w') : FTb lo hi w' A1 c1 A2 c2 A3 c3 m1 m2 t :=
  ⟨h.f1.below hb, h.b1, h.f2.below hb, h.b2, h.f3.below hb, h.b3, h.o1, h.o2, h.o3⟩
theorem mrkBelow {w w' : World} {A1 A2 A3 : Option Addr} {t : Tb} {k : Int} (h : MrkAt w A1 A2 A3 t k) (hb : Below w.heap.size w w') : MrkAt w' A1 A2 A3 t k := ⟨h.1.below hb, h.2.1.below hb, h.2.2.below hb⟩
theorem decShort (s : ByteArray) (hs : s.size ≤ 1048576) : ShortT (decOf s) := by
  unfold decOf
  split
  · refine ⟨?_, ?_, fun i hi => ?_, ?_⟩
    · show (numsOf _).length ≤ _
      rw [numsOf_len, ByteArray.size_extract]
      omega
    · rw [(decT_len s).1]
      have := cnt_le s
      omega
    · have := rows_short s (cntOf s) i hi
      exact Nat.le_trans this hs
    · rw [(decT_len s).2]
      have := cnt_le s
      omega
  · exact ⟨Nat.zero_le _, Nat.zero_le _, fun i hi => absurd hi (Nat.not_lt_zero _), Nat.zero_le _⟩
theorem decTrk (s : ByteArray) : (decOf s).trk.length ≤ 255 := by
  unfold decOf
  split
  · show (numsOf _).length ≤ _
    have := byteN_lt s 4
    have : wdOf s ≤ 255 := this
    rw [numsOf_len, ByteArray.size_extract]
    omega
  · exact Nat.zero_le _
set_option maxRecDepth 100000 in
set_option maxHeartbeats 2000000 in
theorem walk (s0 : ByteArray) (w : World) (hm : s0.size ≤ maxLen) :
    Calls Try.prog 4 #[.string s0] w fun e w' => e = .returned (.bool true) ∧ Below w.heap.size w w' := by
  unfold maxLen at hm
  by_cases hl : s0.size ≤ 1048576
  rotate_left
  · have hl2 : (1048576 : Int) < (s0.size : Int) := by omega
    go_enter Try.func4, Try.ntmps4
    go_wp2_with fail
    go_ret
    exact ⟨rfl, Below.refl _ _⟩
  have hl2 : ¬ (1048576 : Int) < (s0.size : Int) := by omega
  have hS := decShort s0 hl
  have hT := decTrk s0
  have HI := Lib.hid (fun wx => implDec s0 wx hl)
  have HSP0 := specDec s0 w hl
  unfold DecI at HI
  unfold DecS at HSP0
  obtain ⟨t, ht⟩ : ∃ t, decOf s0 = t := ⟨_, rfl⟩
  obtain ⟨c, hc⟩ : ∃ c, decCode s0 = c := ⟨_, rfl⟩
  rw [ht] at hS hT HSP0
  rw [hc] at HSP0
  simp only [ht, hc] at HI
  have HSP := Lib.hid HSP0
  clear ht hc HSP0
  obtain ⟨xs, ls, ys⟩ := t
  dsimp only at HI HSP
  have hS2 := hS
  obtain ⟨s1, s2, s3, s4⟩ := hS2
  dsimp only at s1 s2 s4 hT
  have S3 := Lib.hid s3
  have htot := totTo_le s3 ls.length (Nat.le_refl _)
  have HSH := Lib.hid hS
  clear s3 hS
  obtain ⟨m0, hm0⟩ : ∃ m0 : Int, (1 : Int) + xs.length + totTo ls ls.length + ys.length = m0 := ⟨_, rfl⟩
  have hm1 : ¬ m0 < 0 := by omega
  have HM0 := Lib.hid hm0
  have HEQ := Lib.hid (fun A1 A2 A3 B1 B2 B3 c1 c2 c3 d1 d2 d3 wx h1 h2 h3 g1 g2 g3 => eqTab A1 A2 A3 B1 B2 B3 c1 c2 c3 d1 d2 d3 ⟨xs, ls, ys⟩ wx h1 h2 h3 g1 g2 g3 HSH.out)
  have HMK := Lib.hid (fun lo hi m1 m2 A1 A2 A3 c1 c2 c3 wx hf hw => markTab lo hi m1 m2 A1 A2 A3 c1 c2 c3 ⟨xs, ls, ys⟩ 1 wx hf HSH.out (by decide) (by dsimp only; omega) hw)
  have HHL := Lib.hid (fun A1 A2 A3 c1 c2 c3 wx hx => heldTab A1 A2 A3 c1 c2 c3 ⟨xs, ls, ys⟩ 1 wx hx HSH.out (by decide) (by dsimp only; omega))
  dsimp only at HEQ HMK HHL
  rw [hm0] at HMK HHL
  clear hm0 htot
  go_enter Try.func4, Try.ntmps4
  go_wp2_with fail
  refine HSP.out.mono ?_
  rintro e w1 ⟨A1, a1, A2, a2, A3, a3, rfl, i1, i2, i3, hb1⟩
  have I1 := Lib.hid i1
  have I2 := Lib.hid i2
  have I3 := Lib.hid i3
  clear i1 i2 i3 HSP
  go_wp2_with fail
  obtain ⟨wa, hwa⟩ : ∃ wa, w1.alloc (.cells #[.slice A1 xs.length a1, .slice A2 ls.length a2, .slice A3 ys.length a3] 29) = wa := ⟨_, rfl⟩
  have hba : Below w1.heap.size w1 wa := by rw [← hwa]; exact (by repeat (first | exact Below.refl _ _ | assumption | refine Below.setCell ?_ (by first | omega | (simp <;> omega)) _ | refine Below.alloc ?_ (by first | omega | (simp <;> omega)) _ | refine Below.drew ?_))
  have ra : wa.heap[w1.heap.size]? = some (.cells #[.slice A1 xs.length a1, .slice A2 ls.length a2, .slice A3 ys.length a3] 29 (0, 0)) := by rw [← hwa]; exact heap_alloc_new _ _
  rw [hwa]
  clear hwa
  have I1 : Hid (IntsAt wa A1 xs) := I1.out.below hba
  have I2 : Hid (LAt wa A2 ls) := I2.out.below hba
  have I3 : Hid (IntsAt wa A3 ys) := I3.out.below hba
  have hBa := belowStep hba hb1
  have hXa := row_lt ra
  have RA := Lib.hid ra
  obtain ⟨X, hX⟩ : ∃ X, w1.heap.size = X := ⟨_, rfl⟩
  rw [hX] at RA hXa ⊢
  clear hX hba hb1 ra
  refine (HI.out _).mono ?_
  rintro e w2 ⟨B1, b1, B2, b2, B3, b3, n1, n2, rfl, hF2, hb2⟩
  have HF2 := Lib.hid hF2
  have hBL2 : Below wa.heap.size wa w2 := hb2
  have rx2 := rowB hb2 RA.out
  obtain ⟨x0, x1, x2, -, hXl⟩ := row3 rx2
  have hXn : X ≠ w2.heap.size := by omega
  clear hF2 hb2
  go_wp2_with fail
  obtain ⟨w3, hw3⟩ : ∃ w3, w2.alloc (.cells #[.slice B1 xs.length b1, .slice B2 ls.length b2, .slice B3 ys.length b3] 29) = w3 := ⟨_, rfl⟩
  have hb3 : Below w2.heap.size w2 w3 := by rw [← hw3]; exact (by repeat (first | exact Below.refl _ _ | assumption | refine Below.setCell ?_ (by first | omega | (simp <;> omega)) _ | refine Below.alloc ?_ (by first | omega | (simp <;> omega)) _ | refine Below.drew ?_))
  have ry3 : w3.heap[w2.heap.size]? = some (.cells #[.slice B1 xs.length b1, .slice B2 ls.length b2, .slice B3 ys.length b3] 29 (0, 0)) := by rw [← hw3]; exact heap_alloc_new _ _
  rw [hw3]
  clear hw3
  have rx3 := rowB hb3 rx2
  have hBL3 := belowStep hb3 hBL2
  have HF3 : Hid (FTb wa.heap.size w2.heap.size w3 B1 b1 B2 b2 B3 b3 n1 n2 ⟨xs, ls, ys⟩) := fTbBelow HF2.out hb3
  have hz3 := row_lt ry3
  obtain ⟨Y, hY⟩ : ∃ Y, w2.heap.size = Y := ⟨_, rfl⟩
  have HYs : Hid (w2.heap.size = Y) := hY
  rw [hY] at ry3 HF3 hz3
  try rw [hY]
  clear hY hb3 HF2 rx2 hBL2
  clear x0 x1 x2 hXl
  obtain ⟨x0, x1, x2, -, -⟩ := row3 rx3
  obtain ⟨y0, y1, y2, -, -⟩ := row3 ry3
  have RX3 := Lib.hid rx3
  have RY3 := Lib.hid ry3
  have HBL3 := Lib.hid hBL3
  clear rx3 ry3 hBL3
  go_wp2_with fail
  refine (HEQ.out _ _ _ _ _ _ _ _ _ _ _ _ _ (by exact HF3.out.f1.intsAt) (by exact HF3.out.f2.lat) (by exact HF3.out.f3.intsAt) (by exact I1.out.below HBL3.out) (by exact I2.out.below HBL3.out) (by exact I3.out.below HBL3.out)).mono ?_
  rintro e w4 ⟨rfl, hb4⟩
  have rx4 := rowB hb4 RX3.out
  have ry4 := rowB hb4 RY3.out
  have hBL4 := belowStep hb4 HBL3.out
  have HF4 : Hid (FTb wa.heap.size Y w4 B1 b1 B2 b2 B3 b3 n1 n2 ⟨xs, ls, ys⟩) := fTbBelow HF3.out hb4
  have hz4 : Y < w4.heap.size := row_lt ry4
  clear hb4 x0 x1 x2 y0 y1 y2
  obtain ⟨x0, x1, x2, -, -⟩ := row3 rx4
  obtain ⟨y0, y1, y2, -, -⟩ := row3 ry4
  have RX4 := Lib.hid rx4
  have RY4 := Lib.hid ry4
  have HBL4 := Lib.hid hBL4
  clear rx4 ry4 hBL4 HBL3 HF3 RX3 RY3
  go_wp2_with fail
  refine (HMK.out wa.heap.size Y n1 n2 B1 B2 B3 b1 b2 b3 _ HF4.out (Nat.le_of_lt hz4)).mono ?_
  rintro e w5 ⟨rfl, hF5, ho5⟩
  have rx5 : w5.heap[X]? = _ := (ho5.block X (row_lt RX4.out) (.inl hXa)).trans RX4.out
  have ry5 := ho5.row (Nat.le_refl _) RY4.out
  have hBL5 := ho5.below HBL4.out (Nat.le_refl _) HBL4.out.size
  have HM5 := Lib.hid hF5.mrk
  clear ho5 hF5 x0 x1 x2 y0 y1 y2
  obtain ⟨x0, x1, x2, -, -⟩ := row3 rx5
  obtain ⟨y0, y1, y2, -, -⟩ := row3 ry5
  have RX5 := Lib.hid rx5
  have RY5 := Lib.hid ry5
  have HBL5 := Lib.hid hBL5
  clear rx5 ry5 hBL5 HBL4 HF4 RX4 RY4
  go_wp2_with fail
  refine (HHL.out B1 B2 B3 b1 b2 b3 _ HM5.out).mono ?_
  rintro e w6 ⟨rfl, hb6⟩
  have rx6 := rowB hb6 RX5.out
  have ry6 := rowB hb6 RY5.out
  have hBL6 := belowStep hb6 HBL5.out
  have HM6 := Lib.hid (mrkBelow HM5.out hb6)
  clear hb6 x0 x1 x2 y0 y1 y2 HM5 HBL5 RX5 RY5
  go_wp2_with fail
  refine (HI.out _).mono ?_
  rintro e w7 ⟨C1, c1, C2, c2, C3, c3, n1', n2', rfl, hF7, hb7⟩
  have rx7 := rowB hb7 rx6
  have ry7 := rowB hb7 ry6
  have hBL7 := belowStep hb7 hBL6
  have HF7 := Lib.hid hF7
  have HM7 := Lib.hid (mrkBelow HM6.out hb7)
  obtain ⟨x0, x1, x2, -, hXl⟩ := row3 rx7
  obtain ⟨y0, y1, y2, -, hYl⟩ := row3 ry7
  have hXn : X ≠ w7.heap.size := by omega
  have hYn : Y ≠ w7.heap.size := by omega
  clear hF7 hb7 rx6 ry6 hBL6 HM6
  have RX7 := Lib.hid rx7
  have RY7 := Lib.hid ry7
  have HBL7 := Lib.hid hBL7
  clear rx7 ry7 hBL7
  go_wp2_with fail
  obtain ⟨w8, hw8⟩ : ∃ w8, w7.alloc (.cells #[.slice C1 xs.length c1, .slice C2 ls.length c2, .slice C3 ys.length c3] 29) = w8 := ⟨_, rfl⟩
  have hb8 : Below w7.heap.size w7 w8 := by rw [← hw8]; exact (by repeat (first | exact Below.refl _ _ | assumption | refine Below.setCell ?_ (by first | omega | (simp <;> omega)) _ | refine Below.alloc ?_ (by first | omega | (simp <;> omega)) _ | refine Below.drew ?_))
  rw [hw8]
  clear hw8
  have ry8 := rowB hb8 RY7.out
  have hBL8 := belowStep hb8 HBL7.out
  have HF8 := Lib.hid (fTbBelow HF7.out hb8)
  have HM8 := Lib.hid (mrkBelow HM7.out hb8)
  clear hb8 x0 x1 x2 y0 y1 y2 hXn hYn HF7 HM7 HBL7 RX7 RY7
  refine (HEQ.out _ _ _ _ _ _ _ _ _ _ _ _ _ (by exact HF8.out.f1.intsAt) (by exact HF8.out.f2.lat) (by exact HF8.out.f3.intsAt) (by exact I1.out.below hBL8) (by exact I2.out.below hBL8) (by exact I3.out.below hBL8)).mono ?_
  rintro e w9 ⟨rfl, hb9⟩
  have ry9 := rowB hb9 ry8
  have hBL9 := belowStep hb9 hBL8
  have HM9 := Lib.hid (mrkBelow HM8.out hb9)
  obtain ⟨y0, y1, y2, -, -⟩ := row3 ry9
  clear hb9 ry8 hBL8 HM8 HF8
  go_wp2_with fail
  refine (HHL.out B1 B2 B3 b1 b2 b3 _ HM9.out).mono ?_
  rintro e w10 ⟨rfl, hb10⟩
  have hBL10 := belowStep hb10 hBL9
  have hB10 := belowStep hBL10 hBa
  clear hb10 y0 y1 y2
  go_wp2_with fail
  go_ret
  exact ⟨rfl, hB10⟩
theorem own : ownKnob Try.prog.godebug = none := by kernel_rfl
theorem laidOut : laidOutB Try.prog = true := by kernel_rfl
set_option maxRecDepth 100000 in
theorem lifted (os : Os) (started : os.Started) (H : Type) (enc : TypeId × Value → H) :
    ReturnsInHanded {} Try.checked os 4 .any (Rows.fnExactDecodeTableSpec.pre6 enc Try.prog Try.f4 Rows.fnExactDecodeTableRow.domain false) (Rows.fnExactDecodeTableSpec.post enc Try.prog Try.f4 false true false false) := by
  refine returnsInHanded_of_change (C := Try.checked) own started (by kernel_rfl) Try.func4
    (ChangeSpec.witness6 (enc := enc) (C := Try.checked) false ⟨#[], #[.string ByteArray.empty], []⟩ 8 (by kernel_rfl) (by kernel_rfl) (by kernel_rfl) (by kernel_rfl)) ?_
  intro W base args ds gs before hval0 hW hcnd _
  have hval : ∀ (j : Nat) t v, Try.f4.params[j]? = some t → args[j]? = some v → Value.okWide Try.prog W .any base t v := hval0
  have hW' := hW
  obtain ⟨p, q, hA0, hV, rfl, hfz, hnd⟩ := hW
  have hA : DataW.TrodAll enc Try.prog W 0 (fun _ => true) true Try.f4.params.toList args.toList ds p := hA0
  rw [Try.params4] at hA hval
  obtain ⟨v0, vs0, d0, ds0, p0, q0, hargs, rfl, rfl, h0, r0⟩ := trodAll_cons hA
  obtain ⟨rfl, rfl, rfl⟩ := trodAll_nil r0
  obtain rfl : args = #[v0] := by cases args; simp_all
  obtain ⟨rfl, rfl⟩ := trodVars_none hV
  have lt0 : ∀ x ∈ p0, x.block < W.heap.size := by obtain ⟨m, hm⟩ := h0; exact DataW.trod_lt m _ _ _ hm
  obtain ⟨s0, rfl, m0⟩ := arg_str (hval 0 9 v0 rfl rfl) h0
  clear hA0 hval0
  refine (walk s0 W m0).mono fun e W' ⟨he, bel⟩ => ?_
  subst he
  exact ⟨_, rfl, _, _, _, [], _, [], hW', trodAll_mk1 (shut_bool Try.underlying4 _), (trodAll_cons_mk (Below.trod laidOut (by kernel_rfl) (of_decide_eq_true (by kernel_rfl)) h0 bel lt0) trodAll_mk0), rfl, bel.frame _, fun h => by cases h⟩
theorem fact_wf : Rows.fnExactDecodeTableRow.wf (OpenSpec.ofChange Rows.fnExactDecodeTableSpec) = true := by kernel_rfl
theorem fact_pars : Try.f4.params.all (Try.prog.readableRec ·) = true := by kernel_rfl
theorem fact_tie : namedTie Try.prog Rows.fnExactDecodeTableRow.named Rows.fnExactDecodeTableSpec.vars = true := by kernel_rfl
theorem fact_st : (Rows.fnExactDecodeTableRow.stops == []) = true := by kernel_rfl
theorem fact_kn : (Rows.fnExactDecodeTableRow.knobs == []) = true := by kernel_rfl
theorem fact_inp : (Rows.fnExactDecodeTableRow.inPlace == Try.prog.inPlace 4) = true := by kernel_rfl
theorem fact_unf : (Rows.fnExactDecodeTableRow.unfollowed == Try.prog.unfollowed 4) = true := by kernel_rfl
theorem fact_rec : (Rows.fnExactDecodeTableRow.recurses == Try.prog.recurses 4) = true := by kernel_rfl
theorem fact_nam : (Rows.fnExactDecodeTableRow.named == Try.prog.varsNamed 4) = true := by kernel_rfl
theorem fact_mp : (Rows.fnExactDecodeTableRow.maps == (Try.f4.params.toList ++ Rows.fnExactDecodeTableSpec.plain.varTypes Try.prog).any (Try.prog.mapsRec ·)) = true := by kernel_rfl
theorem fact_ifc : (Rows.fnExactDecodeTableRow.ifaces == (Try.f4.params.toList ++ Rows.fnExactDecodeTableSpec.plain.varTypes Try.prog).any (Try.prog.ifacesRec ·)) = true := by kernel_rfl
theorem fact_mo : (Rows.fnExactDecodeTableRow.mapsOut == Try.prog.mapsAmong Try.f4.resultTypes.toList) = true := by kernel_rfl
theorem fact_lo : (Rows.fnExactDecodeTableRow.loops == (Try.f4.params.toList ++ Rows.fnExactDecodeTableSpec.plain.varTypes Try.prog).any (Try.prog.loopsFrom ·)) = true := by kernel_rfl
theorem fact_wk : (Rows.fnExactDecodeTableRow.wideKeys == (Try.f4.params.toList ++ Rows.fnExactDecodeTableSpec.plain.varTypes Try.prog ++ Try.f4.resultTypes.toList).any (Try.prog.wideKeysFrom ·)) = true := by kernel_rfl
theorem fact_vs : Rows.fnExactDecodeTableSpec.vars.all (Try.prog.varReadable ·) = true := by kernel_rfl
theorem fact_res : Try.f4.resultTypes.all (fun t => Try.prog.readableRec t && decide (t < Try.prog.types.size)) = true := by kernel_rfl
theorem fact_io : (Rows.fnExactDecodeTableRow.ifacesOut == Try.f4.resultTypes.toList.any (Try.prog.ifacesRec ·)) = true := by kernel_rfl
theorem fact_loo : (Rows.fnExactDecodeTableRow.loopsOut == Try.f4.resultTypes.toList.any (Try.prog.loopsFrom ·)) = true := by kernel_rfl
theorem fact_pk : (Rows.fnExactDecodeTableRow.plainKeys == Try.prog.plainKeys) = true := by kernel_rfl
theorem fact_sh : Rows.fnExactDecodeTableRow.shortTexts.isNone = true := by kernel_rfl
theorem fact_li : (Rows.fnExactDecodeTableRow.lifted == Try.prog.liftsFinal) = true := by rw [fact_finals]; rfl
theorem fact_mk : (Try.prog.make == some Rows.fnExactDecodeTableRow.make) = true := by rw [fact_make]; rfl
theorem fact_kd : (Rows.fnExactDecodeTableRow.kinds == (if Rows.fnExactDecodeTableRow.domain.isEmpty then [] else Try.f4.params.toList.map fun t => match Try.prog.underlying t with | some (.int k) => some k | _ => none)) = true := by kernel_rfl
theorem fact_pi : (Rows.fnExactDecodeTableRow.pinned == Rows.fnExactDecodeTableRow.pinnedBy) = true := by kernel_rfl
theorem fact_ve : (Rows.fnExactDecodeTableRow.veiled == (Try.f4.params.toList ++ Rows.fnExactDecodeTableSpec.plain.varTypes Try.prog ++ Try.f4.resultTypes.toList).any (Try.prog.veiledRec ·)) = true := by kernel_rfl
theorem fact_vf : Rows.fnExactDecodeTableRow.veiledFits Try.prog Try.f4.params.toList (Try.f4.params.toList ++ Rows.fnExactDecodeTableSpec.plain.varTypes Try.prog ++ Try.f4.resultTypes.toList) = true := by kernel_rfl
set_option maxRecDepth 100000 in
theorem facts : joinedFacts Try.prog 4 Try.f4 Rows.fnExactDecodeTableSpec Rows.fnExactDecodeTableRow = true := facts_of fact_wf fact_laid fact_rowed fact_pars fact_tie fact_st fact_pst fact_kn fact_pkn fact_inp fact_unf fact_rec fact_nam fact_mp fact_ifc fact_mo fact_lo fact_wk fact_vs fact_res fact_io fact_loo fact_pk fact_sh fact_hd fact_me fact_li fact_mk fact_kd fact_pi fact_ve fact_vf
theorem fact_fn : Try.prog.funcNamed Rows.fnExactDecodeTableRow.func = some 4 := by kernel_rfl
theorem fact_inst : Try.f4.isInstance Try.prog Rows.fnExactDecodeTableRow.origin Rows.fnExactDecodeTableRow.targs := of_decide_eq_true (by kernel_rfl)
theorem fact_wrap : Try.f4.isWrapper Try.prog Rows.fnExactDecodeTableRow.wrapper Rows.fnExactDecodeTableRow.mainSum := by unfold Func.isWrapper; first | (rw [if_pos (by decide +kernel)]; kernel_rfl) | (rw [if_neg (by decide +kernel)]; exact ⟨rfl, rfl⟩)
theorem over : Rows.fnExactDecodeTableRow.holds Try.pinned (OpenSpec.ofChange Rows.fnExactDecodeTableSpec) :=
  OpenClaim.holds_of_wide 4 Try.f4 rfl rfl rfl rfl rfl rfl rfl ⟨rfl, rfl, rfl, rfl, rfl⟩ rfl rfl rfl rfl rfl fact_fn Try.func4 facts fact_inst fact_wrap
    (fun os started H enc _ => lifted os started H enc)
theorem proved : Rows.FnExactDecodeTableSaid := over
#print axioms proved
end Go.Proofs.Ytdkoegccfpdldaa.lawDtb
