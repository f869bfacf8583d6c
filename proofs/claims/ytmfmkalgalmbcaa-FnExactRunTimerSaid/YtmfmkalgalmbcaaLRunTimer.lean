/- FnExactRunTimer: for all arguments, both packages give one answer and leave the events as they were. No conditions. -/
import Derived.Test.YtmfmkalgalmbcaaTq
import Derived.Test.YtmfmkalgalmbcaaOpen
namespace Go.Proofs.Ytmfmkalgalmbcaa.lawRunTimer
open Go.RowKit Go.ChangeShapes Go.WideShapes Go.ChangeAt
set_option maxRecDepth 100000
theorem zcellsL {w : World} {H : Nat} {T : TypeId} {a0 a1 a2 a3 a4 a5 a6 a7 : Value} (h : w.heap[H]? = some (.cells #[a0, a1, a2, a3, a4, a5, a6, a7] T (0, 0))) :
    w.cell? ⟨H, 0, none⟩ = some a0 ∧ w.cell? ⟨H, 1, none⟩ = some a1 ∧ w.cell? ⟨H, 2, none⟩ = some a2 ∧ w.cell? ⟨H, 3, none⟩ = some a3 ∧ w.cell? ⟨H, 4, none⟩ = some a4 ∧ w.cell? ⟨H, 5, none⟩ = some a5 ∧ w.cell? ⟨H, 6, none⟩ = some a6 ∧ w.cell? ⟨H, 7, none⟩ = some a7 :=
  ⟨cell_of_row _ _ 0 _ _ (0, 0) h, cell_of_row _ _ 1 _ _ (0, 0) h, cell_of_row _ _ 2 _ _ (0, 0) h, cell_of_row _ _ 3 _ _ (0, 0) h, cell_of_row _ _ 4 _ _ (0, 0) h, cell_of_row _ _ 5 _ _ (0, 0) h, cell_of_row _ _ 6 _ _ (0, 0) h, cell_of_row _ _ 7 _ _ (0, 0) h⟩
set_option maxHeartbeats 4000000 in
theorem walk (t : Tm) (A : Option Addr) (c : Nat) (es : List Ev) (w : World) (hx : EvsAt w A es) (hm : es.length ≤ maxLen) :
    Calls Try.prog 3 #[.agg #[.int .i64 t.ph, .int .i64 t.la, .int .i64 t.ins, .int .i64 t.dn, .int .i64 t.st, .int .i64 t.sp, .int .i64 t.pe, .bool t.fl], .slice A es.length c] w fun e w' => e = .returned (.bool true) ∧ Below w.heap.size w w' := by
  unfold maxLen at hm
  have R0 : Hid ((w.alloc (.cells #[.int .i64 t.ph, .int .i64 t.la, .int .i64 t.ins, .int .i64 t.dn, .int .i64 t.st, .int .i64 t.sp, .int .i64 t.pe, .bool t.fl] 23)).heap[w.heap.size]? = some (.cells #[.int .i64 t.ph, .int .i64 t.la, .int .i64 t.ins, .int .i64 t.dn, .int .i64 t.st, .int .i64 t.sp, .int .i64 t.pe, .bool t.fl] 23 (0, 0))) := heap_alloc_new w _
  have hB0 : Below w.heap.size w (w.alloc (.cells #[.int .i64 t.ph, .int .i64 t.la, .int .i64 t.ins, .int .i64 t.dn, .int .i64 t.st, .int .i64 t.sp, .int .i64 t.pe, .bool t.fl] 23)) := (by repeat (first | exact Below.refl _ _ | assumption | refine Below.setCell ?_ (by first | omega | (simp <;> omega)) _ | refine Below.alloc ?_ (by first | omega | (simp <;> omega)) _ | refine Below.drew ?_))
  obtain ⟨w0, hw0⟩ : ∃ w0, w.alloc (.cells #[.int .i64 t.ph, .int .i64 t.la, .int .i64 t.ins, .int .i64 t.dn, .int .i64 t.st, .int .i64 t.sp, .int .i64 t.pe, .bool t.fl] 23) = w0 := ⟨_, rfl⟩
  rw [hw0] at R0 hB0
  go_enter Try.func3, Try.ntmps3
  go_wp2_with fail
  clear hw0
  refine (szEvs A es.length c _ (by omega)).mono ?_
  rintro e w1 ⟨rfl, rfl⟩
  by_cases hl : es.length ≤ 1048576
  · have p1 : ¬ szLeft 1048576 es.length < 0 := by rw [szLeft, if_neg (by omega)]; omega
    have hx0 := hx.below hB0
    obtain ⟨a0, a1, a2, a3, a4, a5, a6, a7⟩ := zcellsL R0.out
    go_wp2_with fail
    refine (toTm t _).mono ?_
    rintro e w2 ⟨rfl, hb2⟩
    have hB2 := belowStep hb2 hB0
    have R2 := Lib.hid (rowB hb2 R0.out)
    clear a0 a1 a2 a3 a4 a5 a6 a7 hb2 R0
    go_wp2_with fail
    refine (toEvs A c es _ (hx.below hB2) hl).mono ?_
    rintro e w3 ⟨g3, rfl, hE3, hb3⟩
    have hB3 := belowStep hb3 hB2
    have R3 := Lib.hid (rowB hb3 R2.out)
    clear hb3 R2 hB2
    go_wp2_with fail
    have hsp := specRun t _ es.length es w3 hE3 hl
    have himp := fun A c w h => implRun t A c es w h hl
    obtain ⟨p, hp⟩ : ∃ p, runRes t es = p := ⟨_, rfl⟩
    obtain ⟨q, n⟩ := p
    rw [hp] at hsp himp
    have HI := Lib.hid himp
    clear himp hp hE3
    refine hsp.mono ?_
    rintro e w4 ⟨rfl, hb4⟩
    have hB4 := belowStep hb4 hB3
    have R4 := Lib.hid (rowB hb4 R3.out)
    obtain ⟨w5, hw5⟩ : ∃ w5, w4.alloc (.cells #[.int .i64 q.ph, .int .i64 q.la, .int .i64 q.ins, .int .i64 q.dn, .int .i64 q.st, .int .i64 q.sp, .int .i64 q.pe, .bool q.fl] 26) = w5 := ⟨_, rfl⟩
    have hb5 : Below w4.heap.size w4 w5 := by rw [← hw5]; exact (by repeat (first | exact Below.refl _ _ | assumption | refine Below.setCell ?_ (by first | omega | (simp <;> omega)) _ | refine Below.alloc ?_ (by first | omega | (simp <;> omega)) _ | refine Below.drew ?_))
    have Q5 : Hid (w5.heap[w4.heap.size]? = some (.cells #[.int .i64 q.ph, .int .i64 q.la, .int .i64 q.ins, .int .i64 q.dn, .int .i64 q.st, .int .i64 q.sp, .int .i64 q.pe, .bool q.fl] 26 (0, 0))) := by unfold Hid; rw [← hw5]; exact heap_alloc_new w4 _
    have R5 := Lib.hid (rowB hb5 R4.out)
    have hB5 := belowStep hb5 hB4
    clear hsp hb4 hb5 hB3 hB4 R3 R4
    go_wp2_with fail
    refine (toEvs A c es _ (hx.below hB5) hl).mono ?_
    rintro e w6 ⟨g6, rfl, hE6, hb6⟩
    have hB6 := belowStep hb6 hB5
    have R6 := Lib.hid (rowB hb6 R5.out)
    have Q6 := Lib.hid (rowB hb6 Q5.out)
    obtain ⟨a0, a1, a2, a3, a4, a5, a6, a7⟩ := zcellsL R6.out
    clear hw5 hb6 R5 Q5 hB5
    go_wp2_with fail
    refine (toTm t _).mono ?_
    rintro e w7 ⟨rfl, hb7⟩
    have hB7 := belowStep hb7 hB6
    have Q7 := Lib.hid (rowB hb7 Q6.out)
    have hE7 := hE6.below hb7
    clear a0 a1 a2 a3 a4 a5 a6 a7 hb7 R6 Q6 hE6 hB6
    go_wp2_with fail
    refine (HI.out _ _ _ hE7).mono ?_
    rintro e w8 ⟨rfl, hb8⟩
    have hB8 := belowStep hb8 hB7
    have Q8 := Lib.hid (rowB hb8 Q7.out)
    have hE8 := hE7.below hb8
    obtain ⟨w9, hw9⟩ : ∃ w9, w8.alloc (.cells #[.int .i64 q.ph, .int .i64 q.la, .int .i64 q.ins, .int .i64 q.dn, .int .i64 q.st, .int .i64 q.sp, .int .i64 q.pe, .bool q.fl] 26) = w9 := ⟨_, rfl⟩
    have hb9 : Below w8.heap.size w8 w9 := by rw [← hw9]; exact (by repeat (first | exact Below.refl _ _ | assumption | refine Below.setCell ?_ (by first | omega | (simp <;> omega)) _ | refine Below.alloc ?_ (by first | omega | (simp <;> omega)) _ | refine Below.drew ?_))
    have P9 := zcellsL (show w9.heap[w8.heap.size]? = some (.cells #[.int .i64 q.ph, .int .i64 q.la, .int .i64 q.ins, .int .i64 q.dn, .int .i64 q.st, .int .i64 q.sp, .int .i64 q.pe, .bool q.fl] 26 (0, 0)) by rw [← hw9]; exact heap_alloc_new w8 _)
    have hE9 := hE8.below hb9
    have hB9 := belowStep hb9 hB8
    obtain ⟨a0, a1, a2, a3, a4, a5, a6, a7⟩ := P9
    obtain ⟨b0, b1, b2, b3, b4, b5, b6, b7⟩ := zcellsL (rowB hb9 Q8.out)
    clear hb8 hb9 hB7 Q7 hE7 Q8 hE8 hB8 HI
    go_wp2_with fail
    refine (eqTimer_self q _).mono ?_
    rintro e w10 ⟨rfl, hb10⟩
    have hB10 := belowStep hb10 hB9
    have hE10 := hE9.below hb10
    clear hb10 hE9 hB9 a0 a1 a2 a3 a4 a5 a6 a7 b0 b1 b2 b3 b4 b5 b6 b7 hw9
    go_wp2_with fail
    refine (toEvs A c es _ (hx.below hB10) hl).mono ?_
    rintro e w11 ⟨g11, rfl, hE11, hb11⟩
    have hB11 := belowStep hb11 hB10
    have hE6b := hE10.below hb11
    clear hb11 hB10 hE10
    go_wp2_with fail
    refine (eqEvs _ _ _ _ es _ hE6b hE11 hl).mono ?_
    rintro e w12 ⟨rfl, hb12⟩
    have hB12 := belowStep hb12 hB11
    go_wp2_with fail
    go_ret
    exact ⟨rfl, hB12⟩
  · have p1 : szLeft 1048576 es.length < 0 := by rw [szLeft, if_pos (by omega)]; omega
    go_wp2_with fail
    go_ret
    exact ⟨rfl, hB0⟩
theorem own : ownKnob Try.prog.godebug = none := by kernel_rfl
theorem laidOut : laidOutB Try.prog = true := by kernel_rfl
set_option maxRecDepth 100000 in
theorem lifted (os : Os) (started : os.Started) (H : Type) (enc : TypeId × Value → H) :
    ReturnsInHanded {} Try.checked os 3 .any (Rows.fnExactRunTimerSpec.pre6 enc Try.prog Try.f3 Rows.fnExactRunTimerRow.domain false) (Rows.fnExactRunTimerSpec.post enc Try.prog Try.f3 false true false false) := by
  refine returnsInHanded_of_change (C := Try.checked) own started (by kernel_rfl) Try.func3
    (ChangeSpec.witness6 (enc := enc) (C := Try.checked) false ⟨#[], #[.agg #[.int .i64 0, .int .i64 0, .int .i64 0, .int .i64 0, .int .i64 0, .int .i64 0, .int .i64 0, .bool false], .slice none 0 0], []⟩ 8 (by kernel_rfl) (by kernel_rfl) (by kernel_rfl) (by kernel_rfl)) ?_
  intro W base args ds gs before hval0 hW hcnd _
  have hval : ∀ (j : Nat) t v, Try.f3.params[j]? = some t → args[j]? = some v → Value.okWide Try.prog W .any base t v := hval0
  have hW' := hW
  obtain ⟨p, q, hA0, hV, rfl, hfz, hnd⟩ := hW
  have hA : DataW.TrodAll enc Try.prog W 0 (fun _ => true) true Try.f3.params.toList args.toList ds p := hA0
  rw [Try.params3] at hA hval
  obtain ⟨v0, vs0, d0, ds0, p0, q0, hargs, rfl, rfl, h0, r0⟩ := trodAll_cons hA
  obtain ⟨v1, vs1, d1, ds1, p1, q1, rfl, rfl, rfl, h1, r1⟩ := trodAll_cons r0
  obtain ⟨rfl, rfl, rfl⟩ := trodAll_nil r1
  obtain rfl : args = #[v0, v1] := by cases args; simp_all
  obtain ⟨rfl, rfl⟩ := trodVars_none hV
  have lt0 : ∀ x ∈ p0, x.block < W.heap.size := by obtain ⟨m, hm⟩ := h0; exact DataW.trod_lt m _ _ _ hm
  have lt1 : ∀ x ∈ p1, x.block < W.heap.size := by obtain ⟨m, hm⟩ := h1; exact DataW.trod_lt m _ _ _ hm
  obtain ⟨g0, rfl⟩ := arg_timer (hval 0 23 v0 rfl rfl) h0
  obtain ⟨A1, c1, e1, rfl, i1, m1⟩ := arg_events (hval 1 24 v1 rfl rfl) h1
  clear hA0 hval0
  refine (walk g0 A1 c1 e1 W  i1 m1).mono fun e W' ⟨he, bel⟩ => ?_
  subst he
  exact ⟨_, rfl, _, _, _, [], _, [], hW', trodAll_mk1 (shut_bool Try.underlying4 _), (trodAll_cons_mk (Below.trod laidOut (by kernel_rfl) (of_decide_eq_true (by kernel_rfl)) h0 bel lt0) (trodAll_cons_mk (Below.trod laidOut (by kernel_rfl) (of_decide_eq_true (by kernel_rfl)) h1 bel lt1) trodAll_mk0)), rfl, bel.frame _, fun h => by cases h⟩
theorem fact_wf : Rows.fnExactRunTimerRow.wf (OpenSpec.ofChange Rows.fnExactRunTimerSpec) = true := by kernel_rfl
theorem fact_pars : Try.f3.params.all (Try.prog.readableRec ·) = true := by kernel_rfl
theorem fact_tie : namedTie Try.prog Rows.fnExactRunTimerRow.named Rows.fnExactRunTimerSpec.vars = true := by kernel_rfl
theorem fact_st : (Rows.fnExactRunTimerRow.stops == []) = true := by kernel_rfl
theorem fact_kn : (Rows.fnExactRunTimerRow.knobs == []) = true := by kernel_rfl
theorem fact_inp : (Rows.fnExactRunTimerRow.inPlace == Try.prog.inPlace 3) = true := by kernel_rfl
theorem fact_unf : (Rows.fnExactRunTimerRow.unfollowed == Try.prog.unfollowed 3) = true := by kernel_rfl
theorem fact_rec : (Rows.fnExactRunTimerRow.recurses == Try.prog.recurses 3) = true := by kernel_rfl
theorem fact_nam : (Rows.fnExactRunTimerRow.named == Try.prog.varsNamed 3) = true := by kernel_rfl
theorem fact_mp : (Rows.fnExactRunTimerRow.maps == (Try.f3.params.toList ++ Rows.fnExactRunTimerSpec.plain.varTypes Try.prog).any (Try.prog.mapsRec ·)) = true := by kernel_rfl
theorem fact_ifc : (Rows.fnExactRunTimerRow.ifaces == (Try.f3.params.toList ++ Rows.fnExactRunTimerSpec.plain.varTypes Try.prog).any (Try.prog.ifacesRec ·)) = true := by kernel_rfl
theorem fact_mo : (Rows.fnExactRunTimerRow.mapsOut == Try.prog.mapsAmong Try.f3.resultTypes.toList) = true := by kernel_rfl
theorem fact_lo : (Rows.fnExactRunTimerRow.loops == (Try.f3.params.toList ++ Rows.fnExactRunTimerSpec.plain.varTypes Try.prog).any (Try.prog.loopsFrom ·)) = true := by kernel_rfl
theorem fact_wk : (Rows.fnExactRunTimerRow.wideKeys == (Try.f3.params.toList ++ Rows.fnExactRunTimerSpec.plain.varTypes Try.prog ++ Try.f3.resultTypes.toList).any (Try.prog.wideKeysFrom ·)) = true := by kernel_rfl
theorem fact_vs : Rows.fnExactRunTimerSpec.vars.all (Try.prog.varReadable ·) = true := by kernel_rfl
theorem fact_res : Try.f3.resultTypes.all (fun t => Try.prog.readableRec t && decide (t < Try.prog.types.size)) = true := by kernel_rfl
theorem fact_io : (Rows.fnExactRunTimerRow.ifacesOut == Try.f3.resultTypes.toList.any (Try.prog.ifacesRec ·)) = true := by kernel_rfl
theorem fact_loo : (Rows.fnExactRunTimerRow.loopsOut == Try.f3.resultTypes.toList.any (Try.prog.loopsFrom ·)) = true := by kernel_rfl
theorem fact_pk : (Rows.fnExactRunTimerRow.plainKeys == Try.prog.plainKeys) = true := by kernel_rfl
theorem fact_sh : Rows.fnExactRunTimerRow.shortTexts.isNone = true := by kernel_rfl
theorem fact_li : (Rows.fnExactRunTimerRow.lifted == Try.prog.liftsFinal) = true := by rw [fact_finals]; rfl
theorem fact_mk : (Try.prog.make == some Rows.fnExactRunTimerRow.make) = true := by rw [fact_make]; rfl
theorem fact_kd : (Rows.fnExactRunTimerRow.kinds == (if Rows.fnExactRunTimerRow.domain.isEmpty then [] else Try.f3.params.toList.map fun t => match Try.prog.underlying t with | some (.int k) => some k | _ => none)) = true := by kernel_rfl
theorem fact_pi : (Rows.fnExactRunTimerRow.pinned == Rows.fnExactRunTimerRow.pinnedBy) = true := by kernel_rfl
theorem fact_ve : (Rows.fnExactRunTimerRow.veiled == (Try.f3.params.toList ++ Rows.fnExactRunTimerSpec.plain.varTypes Try.prog ++ Try.f3.resultTypes.toList).any (Try.prog.veiledRec ·)) = true := by kernel_rfl
theorem fact_vf : Rows.fnExactRunTimerRow.veiledFits Try.prog Try.f3.params.toList (Try.f3.params.toList ++ Rows.fnExactRunTimerSpec.plain.varTypes Try.prog ++ Try.f3.resultTypes.toList) = true := by kernel_rfl
set_option maxRecDepth 100000 in
theorem facts : joinedFacts Try.prog 3 Try.f3 Rows.fnExactRunTimerSpec Rows.fnExactRunTimerRow = true := facts_of fact_wf fact_laid fact_rowed fact_pars fact_tie fact_st fact_pst fact_kn fact_pkn fact_inp fact_unf fact_rec fact_nam fact_mp fact_ifc fact_mo fact_lo fact_wk fact_vs fact_res fact_io fact_loo fact_pk fact_sh fact_hd fact_me fact_li fact_mk fact_kd fact_pi fact_ve fact_vf
theorem fact_fn : Try.prog.funcNamed Rows.fnExactRunTimerRow.func = some 3 := by kernel_rfl
theorem fact_inst : Try.f3.isInstance Try.prog Rows.fnExactRunTimerRow.origin Rows.fnExactRunTimerRow.targs := of_decide_eq_true (by kernel_rfl)
theorem fact_wrap : Try.f3.isWrapper Try.prog Rows.fnExactRunTimerRow.wrapper Rows.fnExactRunTimerRow.mainSum := by unfold Func.isWrapper; first | (rw [if_pos (by decide +kernel)]; kernel_rfl) | (rw [if_neg (by decide +kernel)]; exact ⟨rfl, rfl⟩)
theorem over : Rows.fnExactRunTimerRow.holds Try.pinned (OpenSpec.ofChange Rows.fnExactRunTimerSpec) :=
  OpenClaim.holds_of_wide 3 Try.f3 rfl rfl rfl rfl rfl rfl rfl ⟨rfl, rfl, rfl, rfl, rfl⟩ rfl rfl rfl rfl rfl fact_fn Try.func3 facts fact_inst fact_wrap
    (fun os started H enc _ => lifted os started H enc)
theorem proved : Rows.FnExactRunTimerSaid := over
#print axioms proved
end Go.Proofs.Ytmfmkalgalmbcaa.lawRunTimer
