/- FnRoundNormal: for every code the law returns true. No conditions. -/
import Derived.Test.YtejacbgogcjbnaaDk
import Derived.Test.YtejacbgogcjbnaaNe
import Derived.Test.YtejacbgogcjbnaaOpen
namespace Go.Proofs.Ytejacbgogcjbnaa.lawRoundNormal
open Go.RowKit Go.ChangeShapes Go.WideShapes Go.ChangeAt
set_option maxRecDepth 100000

theorem norm_again {r : RR} {k : Int} {xs : List Int} (h : normB r k xs = true) : normB r k (normL r xs) = true ∧ normXs r k (normL r xs) = normL r xs ∧ normK r k (normL r xs) = k := by
  rw [normB, Bool.and_eq_true] at h
  have h2 := normE_ok h.1 (e := (k, xs)) h.2
  have h3 : normB r k (normL r xs) = true := by rw [normB, h.1]; exact h2
  refine ⟨h3, ?_, (norm_yes h3).1⟩
  rw [(norm_yes h3).2, normL_idem h.1]
theorem allowed_ge {r : RR} {k : Int} {xs : List Int} (h : normB r k xs = true) : ((normL r xs).length : Int) ≤ r.allowedAtt xs := by
  rw [normB, Bool.and_eq_true] at h
  have h2 := h.2
  rw [entOk, Bool.and_eq_true, Bool.and_eq_true] at h2
  rw [RR.allowedAtt, h.1, h2.2.2]
  exact normL_le h.1 xs
set_option maxHeartbeats 16000000 in
theorem walk (A : Option Addr) (c : Nat) (xs : List Int) (w : World) (hx : BytesAt w A xs) (_hm : xs.length ≤ maxLen) :
    Calls Try.prog 4 #[.slice A xs.length c] w fun e w' => e = .returned (.bool true) ∧ Below w.heap.size w w' := by
  by_cases hl : 4096 < xs.length
  · have hd : decide (4096 < xs.length) = true := by simpa using hl
    go_enter Try.func4, Try.ntmps4
    go_wp2_with (first | (go_at_call 6; refine (big_any _ _ _ _).mono ?_; rintro e w' ⟨rfl, rfl⟩))
    go_ret
    exact ⟨rfl, Below.refl _ _⟩
  have hd : decide (4096 < xs.length) = false := by simpa using hl
  go_enter Try.func4, Try.ntmps4
  go_wp2_with (first | (go_at_call 6; refine (big_any _ _ _ _).mono ?_; rintro e w' ⟨rfl, rfl⟩))
  refine (drawNE A c xs _ hx (by omega)).mono ?_
  rintro e w1 ⟨r, k, v1, ys, rfl, hF1, hy6, hB1⟩
  obtain ⟨A1, c1, hc1, rfl, hI1⟩ := hF1.capped
  obtain ⟨w2, hw2⟩ : ∃ w2, (w1.alloc (.cells #[.int .i64 r.att, .int .i64 r.lim, .int .i64 r.catt, .int .i64 r.cut, .int .i64 r.adv] 25)).alloc (.cells #[.int .i64 k, .slice A1 ys.length c1] 32) = w2 := ⟨_, rfl⟩
  have hb2 : Below w1.heap.size w1 w2 := by rw [← hw2]; exact (by repeat (first | exact Below.refl _ _ | assumption | refine Below.setCell ?_ (by first | omega | (simp <;> omega)) _ | refine Below.alloc ?_ (by first | omega | (simp <;> omega)) _ | refine Below.drew ?_))
  have rR2 : RRow w2 w1.heap.size r := by rw [← hw2]; exact alloc2_0 w1 _ _
  have rE2 : w2.heap[w1.heap.size + 1]? = some (.cells #[.int .i64 k, .slice A1 ys.length c1] 32 (0, 0)) := by rw [← hw2]; exact alloc2_1 w1 _ _
  have hI2 := hI1.below hb2
  have hB2 := belowStep hb2 hB1
  have hyl : ys.length ≤ 1048576 := by omega
  obtain ⟨k0, k1, k2, k3, k4⟩ := rcells rR2
  obtain ⟨e0, e1, -, -⟩ := row_cells2 rE2
  have RR2 := Lib.hid rR2
  have RE2 := Lib.hid rE2
  clear hF1 hI1 hB1 hb2 rR2 rE2 hd
  go_wp2_with fail
  clear hw2
  refine (implNE r k A1 c1 ys _ hI2 hyl hc1).mono ?_
  rintro e w3 ⟨v3, rfl, hF3, hb3⟩
  obtain ⟨A3, c3, hc3, rfl, hI3⟩ := hF3.capped
  obtain ⟨n3, hn3⟩ : ∃ n3, (normXs r k ys).length = n3 := ⟨_, rfl⟩
  obtain ⟨k3', hk3⟩ : ∃ k3, normK r k ys = k3 := ⟨_, rfl⟩
  rw [hn3] at hF3 hc3 ⊢
  rw [hk3]
  obtain ⟨w4, hw4⟩ : ∃ w4, w3.alloc (.cells #[.int .i64 k3', .slice A3 n3 c3] 32) = w4 := ⟨_, rfl⟩
  have hb4 : Below w3.heap.size w3 w4 := by rw [← hw4]; exact (by repeat (first | exact Below.refl _ _ | assumption | refine Below.setCell ?_ (by first | omega | (simp <;> omega)) _ | refine Below.alloc ?_ (by first | omega | (simp <;> omega)) _ | refine Below.drew ?_))
  have RR4 : Hid (RRow w4 w1.heap.size r) := rowB hb4 (rowB hb3 RR2.out)
  have RE4 := Lib.hid (rowB hb4 (rowB hb3 RE2.out))
  have R5 : Hid (w4.heap[w3.heap.size]? = some (.cells #[.int .i64 k3', .slice A3 n3 c3] 32 (0, 0))) := by unfold Hid; rw [← hw4]; exact heap_alloc_new w3 _
  have hI4 := (hI2.below hb3).below hb4
  have hJ4 := hI3.below hb4
  have hB4 := belowStep hb4 (belowStep hb3 hB2)
  have HN3 := Lib.hid hn3
  have HK3 := Lib.hid hk3
  clear hI2 hB2 hF3 hI3 hb3 hb4 hn3 hk3 RR2 RE2 k0 k1 k2 k3 k4 e0 e1
  obtain ⟨k0, k1, k2, k3, k4⟩ := rcells RR4.out
  obtain ⟨e0, e1, -, -⟩ := row_cells2 RE4.out
  go_wp2_with fail
  clear hw4
  refine (specNE r k A1 c1 ys _ hI4 hyl hc1).mono ?_
  rintro e w5 ⟨v5, rfl, hF5, hb5⟩
  obtain ⟨A5, c5, -, rfl, -⟩ := hF5.capped
  obtain ⟨w6, hw6⟩ : ∃ w6, w5.alloc (.cells #[.int .i64 (normK r k ys), .slice A5 (normXs r k ys).length c5] 32) = w6 := ⟨_, rfl⟩
  have hb6 : Below w5.heap.size w5 w6 := by rw [← hw6]; exact (by repeat (first | exact Below.refl _ _ | assumption | refine Below.setCell ?_ (by first | omega | (simp <;> omega)) _ | refine Below.alloc ?_ (by first | omega | (simp <;> omega)) _ | refine Below.drew ?_))
  have RR6 : Hid (RRow w6 w1.heap.size r) := rowB hb6 (rowB hb5 RR4.out)
  have RE6 := Lib.hid (rowB hb6 (rowB hb5 RE4.out))
  have R56 := Lib.hid (rowB hb6 (rowB hb5 R5.out))
  have hI6 := (hI4.below hb5).below hb6
  have hJ6 := (hJ4.below hb5).below hb6
  have hB6 := belowStep hb6 (belowStep hb5 hB4)
  clear hI4 hJ4 hB4 hF5 hb5 hb6 RR4 RE4 R5 k0 k1 k2 k3 k4 e0 e1
  obtain ⟨k0, k1, k2, k3, k4⟩ := rcells RR6.out
  obtain ⟨e0, e1, -, -⟩ := row_cells2 RE6.out
  obtain ⟨g0, g1, -, -⟩ := row_cells2 R56.out
  cases hn : normB r k ys
  · go_wp2_with fail
    go_ret
    exact ⟨rfl, by first | exact hB6 | (rw [hw6]; exact hB6)⟩
  · have HNB := Lib.hid hn
    have hk3 := HK3.out
    rw [(norm_yes hn).1] at hk3
    subst hk3
    have hx3 := HN3.out
    rw [(norm_yes hn).2] at hx3 hJ6
    have hl3 : (normL r ys).length ≤ 1048576 := by have := normL_len r ys; omega
    have hnag := norm_again hn
    have hcall := implNE r k A3 c3 (normL r ys) w6 hJ6 hl3 (by rw [hx3]; exact hc3)
    rw [hx3, hnag.1, hnag.2.1, hnag.2.2] at hcall
    have HC := Lib.hid hcall
    have HX3 := Lib.hid hx3
    have hn3' : n3 ≤ 1048576 := by omega
    clear hx3 hcall hnag hl3
    go_wp2_with fail
    clear hw6
    refine HC.out.mono ?_
    rintro e w7 ⟨v7, rfl, hF7, hb7⟩
    obtain ⟨A7, c7, -, e7, hI7⟩ := hF7.capped
    rw [HX3.out] at e7
    subst e7
    obtain ⟨w8, hw8⟩ : ∃ w8, w7.alloc (.cells #[.int .i64 k, .slice A7 n3 c7] 32) = w8 := ⟨_, rfl⟩
    have hb8 : Below w7.heap.size w7 w8 := by rw [← hw8]; exact (by repeat (first | exact Below.refl _ _ | assumption | refine Below.setCell ?_ (by first | omega | (simp <;> omega)) _ | refine Below.alloc ?_ (by first | omega | (simp <;> omega)) _ | refine Below.drew ?_))
    have RR8 : Hid (RRow w8 w1.heap.size r) := rowB hb8 (rowB hb7 RR6.out)
    have RE8 := Lib.hid (rowB hb8 (rowB hb7 RE6.out))
    have R58 := Lib.hid (rowB hb8 (rowB hb7 R56.out))
    have R98 : Hid (w8.heap[w7.heap.size]? = some (.cells #[.int .i64 k, .slice A7 n3 c7] 32 (0, 0))) := by unfold Hid; rw [← hw8]; exact heap_alloc_new w7 _
    have hI8 := (hI6.below hb7).below hb8
    have hJ8 := (hJ6.below hb7).below hb8
    have hL8 := hI7.below hb8
    have hB8 := belowStep hb8 (belowStep hb7 hB6)
    have hB8d := hB8.drew
    have hal := allowed_ge HNB.out
    rw [HX3.out] at hal
    obtain ⟨al, hal2⟩ : ∃ al, r.allowedAtt ys = al := ⟨_, rfl⟩
    rw [hal2] at hal
    have HAL := Lib.hid hal2
    have hlike := fun wx (h1 : IntsAt wx A3 (normL r ys)) (h2 : IntsAt wx A7 (normL r ys)) => likeIts A3 A7 c3 c7 (normL r ys) (normL r ys) wx h1 h2 (by rw [HX3.out]; exact hn3')
    rw [HX3.out, sameB_yes rfl] at hlike
    have HLK := Lib.hid hlike
    clear hI6 hJ6 hB6 hF7 hI7 hb7 hb8 RR6 RE6 R56 k0 k1 k2 k3 k4 e0 e1 g0 g1 hal2 hlike HC
    obtain ⟨k0, k1, k2, k3, k4⟩ := rcells RR8.out
    obtain ⟨e0, e1, -, -⟩ := row_cells2 RE8.out
    obtain ⟨g0, g1, -, -⟩ := row_cells2 R58.out
    obtain ⟨q0, q1, -, -⟩ := row_cells2 R98.out
    go_wp2_with fail
    clear hw8
    go_region_held3 (fun w' => w'.cell? ⟨w1.heap.size, 0, none⟩ = some (.int .i64 r.att) ∧ w'.cell? ⟨w1.heap.size, 1, none⟩ = some (.int .i64 r.lim) ∧ w'.cell? ⟨w1.heap.size, 2, none⟩ = some (.int .i64 r.catt) ∧ w'.cell? ⟨w1.heap.size, 3, none⟩ = some (.int .i64 r.cut) ∧ w'.cell? ⟨w1.heap.size, 4, none⟩ = some (.int .i64 r.adv) ∧ w'.cell? ⟨w1.heap.size + 1, 1, none⟩ = some (.slice A1 ys.length c1) ∧ w'.cell? ⟨w3.heap.size, 0, none⟩ = some (.int .i64 k) ∧ w'.cell? ⟨w3.heap.size, 1, none⟩ = some (.slice A3 n3 c3) ∧ w'.cell? ⟨w7.heap.size, 0, none⟩ = some (.int .i64 k) ∧ w'.cell? ⟨w7.heap.size, 1, none⟩ = some (.slice A7 n3 c7) ∧ Below w.heap.size w w')
      (go_keep)
      (first
        | (go_at_call 14; refine (HLK.out _ (by exact hJ8) (by exact hL8)).mono ?_; rintro e w9 ⟨rfl, nq, rfl⟩; (first | have hBn := belowDrewN hB10 nq | have hBn := belowDrewN hB8 (1 + nq)))
        | (go_at_call 15; refine (implAllowedAtt r A1 c1 ys _ (by exact hI8) hyl hc1).mono ?_; rintro e w10 ⟨rfl, hb10⟩; rw [HAL.out]; (first | have hB10 := belowStep hb10 hBn | have hB10 := belowStep hb10 hB8d)
            ; have RRx : RRow w10 w1.heap.size r := rowB hb10 (by exact RR8.out)
            ; obtain ⟨k0, k1, k2, k3, k4⟩ := rcells RRx
            ; obtain ⟨e0, e1, -, -⟩ := row_cells2 (rowB hb10 (by exact RE8.out))
            ; obtain ⟨g0, g1, -, -⟩ := row_cells2 (rowB hb10 (by exact R58.out))
            ; obtain ⟨q0, q1, -, -⟩ := row_cells2 (rowB hb10 (by exact R98.out))))
    go_wp2_with fail
    rename_i hHeld
    go_ret
    exact ⟨by simp, hHeld.2.2.2.2.2.2.2.2.2.2⟩
theorem own : ownKnob Try.prog.godebug = none := by kernel_rfl
theorem laidOut : laidOutB Try.prog = true := by kernel_rfl
set_option maxRecDepth 100000 in
theorem lifted (os : Os) (started : os.Started) (H : Type) (enc : TypeId × Value → H) :
    ReturnsInHanded {} Try.checked os 4 .any (Rows.fnRoundNormalSpec.pre6 enc Try.prog Try.f4 Rows.fnRoundNormalRow.domain false) (Rows.fnRoundNormalSpec.post enc Try.prog Try.f4 false true false false) := by
  refine returnsInHanded_of_change (C := Try.checked) own started (by kernel_rfl) Try.func4
    (ChangeSpec.witness6 (enc := enc) (C := Try.checked) false ⟨#[], #[.slice none 0 0], []⟩ 8 (by kernel_rfl) (by kernel_rfl) (by kernel_rfl) (by kernel_rfl)) ?_
  intro W base args ds gs before hval0 hW hcnd _
  have hval : ∀ (j : Nat) t v, Try.f4.params[j]? = some t → args[j]? = some v → Value.okWide Try.prog W .any base t v := hval0
  have hW' := hW
  obtain ⟨p, q, hA0, hV, rfl, hfz, hnd⟩ := hW
  have hA : DataW.TrodAll enc Try.prog W 0 (fun _ => true) true Try.f4.params.toList args.toList ds p := hA0
  rw [Try.params4] at hA hval
  obtain ⟨v0, vs0, d0, ds0, p0, q0, hargs, rfl, rfl, h0, r0⟩ := trodAll_cons hA
  obtain ⟨rfl, rfl, rfl⟩ := trodAll_nil r0
  obtain rfl : args = #[v0] := by cases args; simp_all
  obtain ⟨rfl, rfl⟩ := trodVars_none hV
  have lt0 : ∀ x ∈ p0, x.block < W.heap.size := by obtain ⟨m, hm⟩ := h0; exact DataW.trod_lt m _ _ _ hm
  obtain ⟨A0, c0, x0, rfl, i0, m0⟩ := arg_bytes (hval 0 22 v0 rfl rfl) h0
  clear hA0 hval0
  refine (walk A0 c0 x0 W i0 m0).mono fun e W' ⟨he, bel⟩ => ?_
  subst he
  exact ⟨_, rfl, _, _, _, [], _, [], hW', trodAll_mk1 (shut_bool Try.underlying4 _), (trodAll_cons_mk (Below.trod laidOut (by kernel_rfl) (of_decide_eq_true (by kernel_rfl)) h0 bel lt0) trodAll_mk0), rfl, bel.frame _, fun h => by cases h⟩
theorem fact_wf : Rows.fnRoundNormalRow.wf (OpenSpec.ofChange Rows.fnRoundNormalSpec) = true := by kernel_rfl
theorem fact_pars : Try.f4.params.all (Try.prog.readableRec ·) = true := by kernel_rfl
theorem fact_tie : namedTie Try.prog Rows.fnRoundNormalRow.named Rows.fnRoundNormalSpec.vars = true := by kernel_rfl
theorem fact_st : (Rows.fnRoundNormalRow.stops == []) = true := by kernel_rfl
theorem fact_kn : (Rows.fnRoundNormalRow.knobs == []) = true := by kernel_rfl
theorem fact_inp : (Rows.fnRoundNormalRow.inPlace == Try.prog.inPlace 4) = true := by kernel_rfl
theorem fact_unf : (Rows.fnRoundNormalRow.unfollowed == Try.prog.unfollowed 4) = true := by kernel_rfl
theorem fact_rec : (Rows.fnRoundNormalRow.recurses == Try.prog.recurses 4) = true := by kernel_rfl
theorem fact_nam : (Rows.fnRoundNormalRow.named == Try.prog.varsNamed 4) = true := by kernel_rfl
theorem fact_mp : (Rows.fnRoundNormalRow.maps == (Try.f4.params.toList ++ Rows.fnRoundNormalSpec.plain.varTypes Try.prog).any (Try.prog.mapsRec ·)) = true := by kernel_rfl
theorem fact_ifc : (Rows.fnRoundNormalRow.ifaces == (Try.f4.params.toList ++ Rows.fnRoundNormalSpec.plain.varTypes Try.prog).any (Try.prog.ifacesRec ·)) = true := by kernel_rfl
theorem fact_mo : (Rows.fnRoundNormalRow.mapsOut == Try.prog.mapsAmong Try.f4.resultTypes.toList) = true := by kernel_rfl
theorem fact_lo : (Rows.fnRoundNormalRow.loops == (Try.f4.params.toList ++ Rows.fnRoundNormalSpec.plain.varTypes Try.prog).any (Try.prog.loopsFrom ·)) = true := by kernel_rfl
theorem fact_wk : (Rows.fnRoundNormalRow.wideKeys == (Try.f4.params.toList ++ Rows.fnRoundNormalSpec.plain.varTypes Try.prog ++ Try.f4.resultTypes.toList).any (Try.prog.wideKeysFrom ·)) = true := by kernel_rfl
theorem fact_vs : Rows.fnRoundNormalSpec.vars.all (Try.prog.varReadable ·) = true := by kernel_rfl
theorem fact_res : Try.f4.resultTypes.all (fun t => Try.prog.readableRec t && decide (t < Try.prog.types.size)) = true := by kernel_rfl
theorem fact_io : (Rows.fnRoundNormalRow.ifacesOut == Try.f4.resultTypes.toList.any (Try.prog.ifacesRec ·)) = true := by kernel_rfl
theorem fact_loo : (Rows.fnRoundNormalRow.loopsOut == Try.f4.resultTypes.toList.any (Try.prog.loopsFrom ·)) = true := by kernel_rfl
theorem fact_pk : (Rows.fnRoundNormalRow.plainKeys == Try.prog.plainKeys) = true := by kernel_rfl
theorem fact_sh : Rows.fnRoundNormalRow.shortTexts.isNone = true := by kernel_rfl
theorem fact_li : (Rows.fnRoundNormalRow.lifted == Try.prog.liftsFinal) = true := by rw [fact_finals]; rfl
theorem fact_mk : (Try.prog.make == some Rows.fnRoundNormalRow.make) = true := by rw [fact_make]; rfl
theorem fact_kd : (Rows.fnRoundNormalRow.kinds == (if Rows.fnRoundNormalRow.domain.isEmpty then [] else Try.f4.params.toList.map fun t => match Try.prog.underlying t with | some (.int k) => some k | _ => none)) = true := by kernel_rfl
theorem fact_pi : (Rows.fnRoundNormalRow.pinned == Rows.fnRoundNormalRow.pinnedBy) = true := by kernel_rfl
theorem fact_ve : (Rows.fnRoundNormalRow.veiled == (Try.f4.params.toList ++ Rows.fnRoundNormalSpec.plain.varTypes Try.prog ++ Try.f4.resultTypes.toList).any (Try.prog.veiledRec ·)) = true := by kernel_rfl
theorem fact_vf : Rows.fnRoundNormalRow.veiledFits Try.prog Try.f4.params.toList (Try.f4.params.toList ++ Rows.fnRoundNormalSpec.plain.varTypes Try.prog ++ Try.f4.resultTypes.toList) = true := by kernel_rfl
set_option maxRecDepth 100000 in
theorem facts : joinedFacts Try.prog 4 Try.f4 Rows.fnRoundNormalSpec Rows.fnRoundNormalRow = true := facts_of fact_wf fact_laid fact_rowed fact_pars fact_tie fact_st fact_pst fact_kn fact_pkn fact_inp fact_unf fact_rec fact_nam fact_mp fact_ifc fact_mo fact_lo fact_wk fact_vs fact_res fact_io fact_loo fact_pk fact_sh fact_hd fact_me fact_li fact_mk fact_kd fact_pi fact_ve fact_vf
theorem fact_fn : Try.prog.funcNamed Rows.fnRoundNormalRow.func = some 4 := by kernel_rfl
theorem fact_inst : Try.f4.isInstance Try.prog Rows.fnRoundNormalRow.origin Rows.fnRoundNormalRow.targs := of_decide_eq_true (by kernel_rfl)
theorem fact_wrap : Try.f4.isWrapper Try.prog Rows.fnRoundNormalRow.wrapper Rows.fnRoundNormalRow.mainSum := by unfold Func.isWrapper; first | (rw [if_pos (by decide +kernel)]; kernel_rfl) | (rw [if_neg (by decide +kernel)]; exact ⟨rfl, rfl⟩)
theorem over : Rows.fnRoundNormalRow.holds Try.pinned (OpenSpec.ofChange Rows.fnRoundNormalSpec) :=
  OpenClaim.holds_of_wide 4 Try.f4 rfl rfl rfl rfl rfl rfl rfl ⟨rfl, rfl, rfl, rfl, rfl⟩ rfl rfl rfl rfl rfl fact_fn Try.func4 facts fact_inst fact_wrap
    (fun os started H enc _ => lifted os started H enc)
theorem proved : Rows.FnRoundNormalSaid := over
#print axioms proved
end Go.Proofs.Ytejacbgogcjbnaa.lawRoundNormal
