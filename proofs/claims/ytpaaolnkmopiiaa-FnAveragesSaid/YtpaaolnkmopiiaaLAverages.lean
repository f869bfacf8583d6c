/- FnAverages: for every code the law returns true. No conditions. -/
import Derived.Test.YtpaaolnkmopiiaaAv
import Derived.Test.YtpaaolnkmopiiaaOpen
namespace Go.Proofs.Ytpaaolnkmopiiaa.lawAverages
open Go.RowKit Go.ChangeShapes Go.WideShapes Go.ChangeAt
set_option maxRecDepth 100000

theorem all_le {xs : List Int} {t : Int} {k : Nat} (h : ∀ j, j < k → xs.getD j 0 ≤ t) (hk : xs.length ≤ k) : ∀ y ∈ xs, y ≤ t := by
  intro y hy
  obtain ⟨i, hi, rfl⟩ := List.mem_iff_getElem.1 hy
  have := h i (by omega)
  rwa [getD_at _ _ hi] at this
set_option maxHeartbeats 8000000 in
theorem walk (A : Option Addr) (c : Nat) (xs : List Int) (w : World) (hx : BytesAt w A xs) (_hm : xs.length ≤ maxLen) :
    Calls Try.prog 8 #[.slice A xs.length c] w fun e w' => e = .returned (.bool true) ∧ Below w.heap.size w w' := by
  by_cases hl : 4096 < xs.length
  · have hd : decide (4096 < xs.length) = true := by simpa using hl
    go_enter Try.func8, Try.ntmps8
    go_wp2_with (first | (go_at_call 25; refine (big_any _ _ _ _).mono ?_; rintro e w' ⟨rfl, rfl⟩))
    go_ret
    exact ⟨rfl, Below.refl _ _⟩
  have hd : decide (4096 < xs.length) = false := by simpa using hl
  go_enter Try.func8, Try.ntmps8
  go_wp2_with (first | (go_at_call 25; refine (big_any _ _ _ _).mono ?_; rintro e w' ⟨rfl, rfl⟩))
  refine (roll_any A c xs _ _ hx (by omega)).mono ?_
  rintro e w1 ⟨rfl, hD1, hB1⟩
  have hB2 : Below w.heap.size w (w1.alloc (.cells #[] 2)) := hB1.alloc hB1.size _
  have hD2 : DiceAt (w1.alloc (.cells #[] 2)) w.heap.size A c xs := hD1.below (by repeat (first | exact Below.refl _ _ | assumption | refine Below.setCell ?_ (by first | omega | (simp <;> omega)) _ | refine Below.alloc ?_ (by first | omega | (simp <;> omega)) _ | refine Below.drew ?_))
  have hE : Fresh (w.heap.size + 1) (w1.alloc (.cells #[] 2)) (.slice (some ⟨w1.heap.size, 0, none⟩) 0 0) [] := Fresh.empty hD1.lt
  clear hD1 hB1 hd
  go_wp2_with fail
  go_loopw [4, 5] (fun v q wr => ∃ (T : List Int) (k : Nat), q = .int .i64 k ∧ k ≤ 5 ∧ Hid (T.length = k) ∧ Fresh (w.heap.size + 1) wr v T ∧ Hid (T.all lo40 = true) ∧ DiceAt wr w.heap.size A c xs ∧ Below w.heap.size w wr) (fun _ q _ => 5 - (intOf q).toNat)
  case atStart => exact ⟨[], 0, rfl, by omega, rfl, hE, rfl, hD2, hB2⟩
  case round =>
    obtain ⟨T, k, rfl, hk, HT, hF, HS, hD, hB⟩ := hrel
    clear hE hD2 hB2
    by_cases hlt : k < 5
    · have pk : (k : Int) < 5 := by omega
      go_wp2_with fail
      refine (diceBelow w.heap.size A c xs 40 _ hD (by omega) (by omega) (by omega)).mono ?_
      rintro e w4 ⟨y, rfl, hy0, hy1, hD4, hg4⟩
      have hB4 : Below w.heap.size w w4 := belowGrown hB hg4 hB.size (fun k hk => by injection hk with hk; omega)
      have hF4 := hF.grownNew hg4 (fun k hk => by injection hk with hk; omega)
      have hz4 := hD4.lt
      have hsl : T.length ≤ 1048576 := by have := HT.out; omega
      clear hD hg4 hF hB
      go_wp2_with (first | (at_builtin; refine append_one rfl (.tmp 23) (.tmp 27) rfl (w.heap.size + 1) _ T (500 + y) rfl (hF4.below (by repeat (first | exact Below.refl _ _ | assumption | refine Below.setCell ?_ (by first | omega | (simp <;> omega)) _ | refine Below.alloc ?_ (by first | omega | (simp <;> omega)) _ | refine Below.drew ?_))) w4.heap.size rfl (by simp) hsl (by simp; omega) ?_; intro v5 w5 hF5 hg5 hb5))
      have hB5 : Below w.heap.size w w5 := (hB4.alloc hB4.size _).trans (hb5.mono (by omega))
      have hD5 : DiceAt w5 w.heap.size A c xs := hD4.move (by
        have h1 := hb5.block w.heap.size (by omega)
        rw [h1]
        exact Below.heap_alloc _ _ _ hz4) (hx.below hB5)
      go_roundw
      case rel => exact ⟨T ++ [500 + y], k + 1, by go_num, by omega, by unfold Hid; rw [List.length_append, HT.out]; rfl, hF5, by rw [Hid, List.all_append, HS.out]; simp [lo40]; omega, hD5, hB5⟩
      case measure => simp [intOf]; omega
    · obtain rfl : k = 5 := by omega
      go_wp2_with fail
      refine (order5 w.heap.size A c xs _ hD (by omega)).mono ?_
      rintro e w5 ⟨vo, ns, rfl, hLo, hP, hD5, hg5⟩
      have hB5 : Below w.heap.size w w5 := belowGrown hB hg5 hB.size (fun k hk => by injection hk with hk; omega)
      have hF5 := hF.grownNew hg5 (fun k hk => by injection hk with hk; omega)
      obtain ⟨AT, cT, -, rfl, hIT⟩ := hF5.capped
      obtain ⟨gO, cO, rfl, hcO, -, hzO, hIO⟩ := hLo
      have HP := Lib.hid hP
      have hnl : (castL ns).length = 5 := by rw [castL_len]; have := hP.length_eq; simpa using this
      have hE6 : Fresh w5.heap.size (w5.alloc (.cells #[] 2)) (.slice (some ⟨w5.heap.size, 0, none⟩) 0 0) (mixTo T ns 0) := Fresh.empty (Nat.le_refl _)
      have hB6 : Below w5.heap.size w5 (w5.alloc (.cells #[] 2)) := (by repeat (first | exact Below.refl _ _ | assumption | refine Below.setCell ?_ (by first | omega | (simp <;> omega)) _ | refine Below.alloc ?_ (by first | omega | (simp <;> omega)) _ | refine Below.drew ?_))
      have hT5 := HT.out
      obtain ⟨n0, hn0⟩ : ∃ n0, T.length = n0 := ⟨_, rfl⟩
      obtain ⟨n1, hn1⟩ : ∃ n1, (castL ns).length = n1 := ⟨_, rfl⟩
      rw [hn0, hn1]
      have HN0 := Lib.hid hn0
      have HN1 := Lib.hid hn1
      have h05 : n0 = 5 := by omega
      have h15 : n1 = 5 := by omega
      have H05 := Lib.hid h05
      have H15 := Lib.hid h15
      clear hF hF5 hD hB hg5 hD5 hP hT5 hnl hn0 hn1 h05 h15
      go_wp2_with fail
      go_loopw [7, 8] (fun v q wr => ∃ k : Nat, q = .int .i64 k ∧ k ≤ 5 ∧ Fresh w5.heap.size wr v (mixTo T ns k) ∧ Below w5.heap.size w5 wr) (fun _ q _ => 5 - (intOf q).toNat)
      case atStart => exact ⟨0, rfl, by omega, hE6, hB6⟩
      case round =>
        obtain ⟨k, rfl, hk, hF, hB⟩ := hrel
        clear hE6 hB6
        by_cases hlt : k < 5
        · obtain ⟨n, hn, hn5, hnc⟩ := perm_at HP.out hlt
          obtain ⟨b2, off2, o, e, hb2, hc2, HO⟩ := (hIO.below hB).at_ (k := k) (by have := HN1.out; have := H15.out; omega)
          obtain rfl : o = (n : Int) := HO.out.symm.trans hnc
          injection e with e
          injection e with e1 e2
          subst e1 e2
          have hc3 : wr.cell? ⟨gO, k, none⟩ = some (.int .i64 (n : Int)) := by simpa using hc2
          obtain ⟨b, off, x, rfl, hb, hc, HX⟩ := (hIT.below hB).at_ (k := n) (by have := HN0.out; have := H05.out; omega)
          have HM := Lib.hid (mixTo_more T ns k (by have := HP.out.length_eq; simp at this; omega) hn HX.out)
          have hml := mixTo_len T ns k
          obtain ⟨l, hL⟩ : ∃ l, mixTo T ns k = l := ⟨_, rfl⟩
          rw [hL] at hF HM hml
          have pk0 : (0 : Int) ≤ (k : Int) := by omega
          have pk1 : (k : Int) < (n1 : Int) := by have := H15.out; omega
          have pk2 : (k : Int) < 5 := by omega
          have pn0 : (0 : Int) ≤ (n : Int) := by omega
          have pn1 : (n : Int) < (n0 : Int) := by have := H05.out; omega
          have hBz := hB.size
          have hll : l.length ≤ 1048576 := by omega
          clear hn hnc hc2 hL hml
          go_wp2_with (first | (at_builtin; refine append_one rfl (.tmp 36) (.tmp 44) rfl w5.heap.size _ l x rfl (hF.below (by repeat (first | exact Below.refl _ _ | assumption | refine Below.setCell ?_ (by first | omega | (simp <;> omega)) _ | refine Below.alloc ?_ (by first | omega | (simp <;> omega)) _ | refine Below.drew ?_))) wr.heap.size rfl (by simp) hll (by simp; omega) ?_; intro v6 w6 hF6 hg6 hb6))
          go_roundw
          case rel => exact ⟨k + 1, by go_num, by omega, by rw [HM.out]; exact hF6, (hB.alloc hB.size _).trans hb6⟩
          case measure => simp [intOf]; omega
        · obtain rfl : k = 5 := by omega
          have hIT2 := hIT.below hB
          have HMP := Lib.hid (mixTo_perm (HT.out) HP.out)
          have hB7 : Below w.heap.size w wr := belowStep hB hB5
          obtain ⟨mx, hmx⟩ : ∃ mx, mixTo T ns 5 = mx := ⟨_, rfl⟩
          rw [hmx] at hF HMP
          obtain ⟨AM, cM, -, rfl, hIM⟩ := hF.capped
          have hml : mx.length = 5 := HMP.out.length_eq.trans HT.out
          have HML := Lib.hid hml
          obtain ⟨n2, hn2⟩ : ∃ n2, mx.length = n2 := ⟨_, rfl⟩
          rw [hn2]
          have HN2 := Lib.hid hn2
          obtain ⟨b0, off0, x0, rfl, hb0, hc0, HX0⟩ := hIT2.at_ (k := 0) (by have := HT.out; omega)
          have hc00 : wr.cell? ⟨b0, off0, none⟩ = some (.int .i64 x0) := by simpa using hc0
          have p05 : (0 : Int) < (n0 : Int) := by have := H05.out; omega
          have p05n : 0 < n0 := by have := H05.out; omega
          clear hF hc0 hB hIO hmx hml hn2
          go_wp2_with fail
          clear hc00 p05
          go_loop [9, 10] (fun t q => ∃ (k : Nat) (m : Int), q = .int .i64 k ∧ k ≤ 5 ∧ t = .int .i64 m ∧ Hid (∀ j, j < k → T.getD j 0 ≤ m)) (fun _ q => 5 - (intOf q).toNat)
          case atStart => exact ⟨0, x0, rfl, by omega, rfl, fun j hj => by omega⟩
          case round =>
            obtain ⟨k, m, rfl, hk, rfl, HJ⟩ := hrel
            by_cases hlt : k < 5
            · obtain ⟨b, off, x, e, hb, hc, HX⟩ := hIT2.at_ (k := k) (by have := HT.out; omega)
              injection e with e
              injection e with e1 e2
              subst e1 e2
              have pk0 : (0 : Int) ≤ (k : Int) := by omega
              have pk1 : (k : Int) < (n0 : Int) := by have := H05.out; omega
              have pk2 : (k : Int) < 5 := by omega
              by_cases hgt : m < x
              · have HJN : Hid (∀ j, j < k + 1 → T.getD j 0 ≤ x) := fun j hj => by
                  rcases Nat.lt_or_ge j k with h | h
                  · have := HJ.out j h; omega
                  · rw [show j = k from by omega, HX.out]; exact Int.le_refl _
                go_wp2_with fail
                go_round
                case rel => exact ⟨k + 1, x, by go_num, by omega, rfl, HJN⟩
                case measure => simp [intOf]; omega
              · have HJN : Hid (∀ j, j < k + 1 → T.getD j 0 ≤ m) := fun j hj => by
                  rcases Nat.lt_or_ge j k with h | h
                  · exact HJ.out j h
                  · rw [show j = k from by omega, HX.out]; omega
                go_wp2_with fail
                go_round
                case rel => exact ⟨k + 1, m, by go_num, by omega, rfl, HJN⟩
                case measure => simp [intOf]; omega
            · obtain rfl : k = 5 := by omega
              obtain ⟨q1, q2, q3, q4⟩ := averages_bd HS.out HT.out (all_le HJ.out (by have := HT.out; omega))
              have hpe := avgRes_perm HS.out HT.out HMP.out
              have hmean := implMean (some ⟨b0, off0, none⟩) cT T wr hIT2 (by have := HT.out; omega)
              have hbest := implBestResult (some ⟨b0, off0, none⟩) cT T
              have htrim := implTrimmed (some ⟨b0, off0, none⟩) cT T
              have hspec := specTrimmed (some ⟨b0, off0, none⟩) cT T
              have hmix := implTrimmed AM cM mx
              rw [HN0.out] at hmean hbest htrim hspec
              rw [HN2.out] at hmix
              obtain ⟨mn, hmn⟩ : ∃ mn, meanRes T = mn := ⟨_, rfl⟩
              obtain ⟨av, hav⟩ : ∃ av, avgRes T = av := ⟨_, rfl⟩
              obtain ⟨be, hbe⟩ : ∃ be, bestRes T = be := ⟨_, rfl⟩
              rw [hmn] at q1 q2 hmean
              rw [hav] at q3 q4 htrim hspec hpe
              rw [hbe] at q1 q3 hbest
              rw [hpe] at hmix
              have HB := Lib.hid hbest
              have HTR := Lib.hid htrim
              have HSP := Lib.hid hspec
              have HMX := Lib.hid hmix
              have hT2 : n0 ≤ 1048576 := by have := H05.out; omega
              have hM2 : n2 ≤ 1048576 := by have := HN2.out; have := HML.out; omega
              clear hbest htrim hspec hmix hpe hmn hav hbe
              go_wp2_with fail
              refine hmean.mono ?_
              rintro e w7 ⟨rfl, rfl⟩
              clear hmean
              go_wp2_with fail
              refine (HTR.out _ hIT2 hT2).mono ?_
              rintro e w8 ⟨rfl, hb8⟩
              have hIT8 := hIT2.below hb8
              have hIM8 := hIM.below hb8
              go_wp2_with fail
              refine (HB.out _ hIT8 hT2).mono ?_
              rintro e w9 ⟨rfl, rfl⟩
              go_wp2_with fail
              refine (HMX.out _ hIM8 hM2).mono ?_
              rintro e w10 ⟨rfl, hb10⟩
              go_wp2_with fail
              refine (HSP.out _ (hIT8.below hb10) hT2).mono ?_
              rintro e w11 ⟨rfl, hb11⟩
              go_wp2_with fail
              go_ret
              exact ⟨rfl, belowStep hb11 (belowStep hb10 (belowStep hb8 hB7))⟩
theorem own : ownKnob Try.prog.godebug = none := by kernel_rfl
theorem laidOut : laidOutB Try.prog = true := by kernel_rfl
set_option maxRecDepth 100000 in
theorem lifted (os : Os) (started : os.Started) (H : Type) (enc : TypeId × Value → H) :
    ReturnsInHanded {} Try.checked os 8 .any (Rows.fnAveragesSpec.pre6 enc Try.prog Try.f8 Rows.fnAveragesRow.domain false) (Rows.fnAveragesSpec.post enc Try.prog Try.f8 false true false false) := by
  refine returnsInHanded_of_change (C := Try.checked) own started (by kernel_rfl) Try.func8
    (ChangeSpec.witness6 (enc := enc) (C := Try.checked) false ⟨#[], #[.slice none 0 0], []⟩ 8 (by kernel_rfl) (by kernel_rfl) (by kernel_rfl) (by kernel_rfl)) ?_
  intro W base args ds gs before hval0 hW hcnd _
  have hval : ∀ (j : Nat) t v, Try.f8.params[j]? = some t → args[j]? = some v → Value.okWide Try.prog W .any base t v := hval0
  have hW' := hW
  obtain ⟨p, q, hA0, hV, rfl, hfz, hnd⟩ := hW
  have hA : DataW.TrodAll enc Try.prog W 0 (fun _ => true) true Try.f8.params.toList args.toList ds p := hA0
  rw [Try.params8] at hA hval
  obtain ⟨v0, vs0, d0, ds0, p0, q0, hargs, rfl, rfl, h0, r0⟩ := trodAll_cons hA
  obtain ⟨rfl, rfl, rfl⟩ := trodAll_nil r0
  obtain rfl : args = #[v0] := by cases args; simp_all
  obtain ⟨rfl, rfl⟩ := trodVars_none hV
  have lt0 : ∀ x ∈ p0, x.block < W.heap.size := by obtain ⟨m, hm⟩ := h0; exact DataW.trod_lt m _ _ _ hm
  obtain ⟨A0, c0, x0, rfl, i0, m0⟩ := arg_bytes (hval 0 39 v0 rfl rfl) h0
  clear hA0 hval0
  refine (walk A0 c0 x0 W i0 m0).mono fun e W' ⟨he, bel⟩ => ?_
  subst he
  exact ⟨_, rfl, _, _, _, [], _, [], hW', trodAll_mk1 (shut_bool Try.underlying4 _), (trodAll_cons_mk (Below.trod laidOut (by kernel_rfl) (of_decide_eq_true (by kernel_rfl)) h0 bel lt0) trodAll_mk0), rfl, bel.frame _, fun h => by cases h⟩
theorem fact_wf : Rows.fnAveragesRow.wf (OpenSpec.ofChange Rows.fnAveragesSpec) = true := by kernel_rfl
theorem fact_pars : Try.f8.params.all (Try.prog.readableRec ·) = true := by kernel_rfl
theorem fact_tie : namedTie Try.prog Rows.fnAveragesRow.named Rows.fnAveragesSpec.vars = true := by kernel_rfl
theorem fact_st : (Rows.fnAveragesRow.stops == []) = true := by kernel_rfl
theorem fact_kn : (Rows.fnAveragesRow.knobs == []) = true := by kernel_rfl
theorem fact_inp : (Rows.fnAveragesRow.inPlace == Try.prog.inPlace 8) = true := by kernel_rfl
theorem fact_unf : (Rows.fnAveragesRow.unfollowed == Try.prog.unfollowed 8) = true := by kernel_rfl
theorem fact_rec : (Rows.fnAveragesRow.recurses == Try.prog.recurses 8) = true := by kernel_rfl
theorem fact_nam : (Rows.fnAveragesRow.named == Try.prog.varsNamed 8) = true := by kernel_rfl
theorem fact_mp : (Rows.fnAveragesRow.maps == (Try.f8.params.toList ++ Rows.fnAveragesSpec.plain.varTypes Try.prog).any (Try.prog.mapsRec ·)) = true := by kernel_rfl
theorem fact_ifc : (Rows.fnAveragesRow.ifaces == (Try.f8.params.toList ++ Rows.fnAveragesSpec.plain.varTypes Try.prog).any (Try.prog.ifacesRec ·)) = true := by kernel_rfl
theorem fact_mo : (Rows.fnAveragesRow.mapsOut == Try.prog.mapsAmong Try.f8.resultTypes.toList) = true := by kernel_rfl
theorem fact_lo : (Rows.fnAveragesRow.loops == (Try.f8.params.toList ++ Rows.fnAveragesSpec.plain.varTypes Try.prog).any (Try.prog.loopsFrom ·)) = true := by kernel_rfl
theorem fact_wk : (Rows.fnAveragesRow.wideKeys == (Try.f8.params.toList ++ Rows.fnAveragesSpec.plain.varTypes Try.prog ++ Try.f8.resultTypes.toList).any (Try.prog.wideKeysFrom ·)) = true := by kernel_rfl
theorem fact_vs : Rows.fnAveragesSpec.vars.all (Try.prog.varReadable ·) = true := by kernel_rfl
theorem fact_res : Try.f8.resultTypes.all (fun t => Try.prog.readableRec t && decide (t < Try.prog.types.size)) = true := by kernel_rfl
theorem fact_io : (Rows.fnAveragesRow.ifacesOut == Try.f8.resultTypes.toList.any (Try.prog.ifacesRec ·)) = true := by kernel_rfl
theorem fact_loo : (Rows.fnAveragesRow.loopsOut == Try.f8.resultTypes.toList.any (Try.prog.loopsFrom ·)) = true := by kernel_rfl
theorem fact_pk : (Rows.fnAveragesRow.plainKeys == Try.prog.plainKeys) = true := by kernel_rfl
theorem fact_sh : Rows.fnAveragesRow.shortTexts.isNone = true := by kernel_rfl
theorem fact_li : (Rows.fnAveragesRow.lifted == Try.prog.liftsFinal) = true := by rw [fact_finals]; rfl
theorem fact_mk : (Try.prog.make == some Rows.fnAveragesRow.make) = true := by rw [fact_make]; rfl
theorem fact_kd : (Rows.fnAveragesRow.kinds == (if Rows.fnAveragesRow.domain.isEmpty then [] else Try.f8.params.toList.map fun t => match Try.prog.underlying t with | some (.int k) => some k | _ => none)) = true := by kernel_rfl
theorem fact_pi : (Rows.fnAveragesRow.pinned == Rows.fnAveragesRow.pinnedBy) = true := by kernel_rfl
theorem fact_ve : (Rows.fnAveragesRow.veiled == (Try.f8.params.toList ++ Rows.fnAveragesSpec.plain.varTypes Try.prog ++ Try.f8.resultTypes.toList).any (Try.prog.veiledRec ·)) = true := by kernel_rfl
theorem fact_vf : Rows.fnAveragesRow.veiledFits Try.prog Try.f8.params.toList (Try.f8.params.toList ++ Rows.fnAveragesSpec.plain.varTypes Try.prog ++ Try.f8.resultTypes.toList) = true := by kernel_rfl
set_option maxRecDepth 100000 in
theorem facts : joinedFacts Try.prog 8 Try.f8 Rows.fnAveragesSpec Rows.fnAveragesRow = true := facts_of fact_wf fact_laid fact_rowed fact_pars fact_tie fact_st fact_pst fact_kn fact_pkn fact_inp fact_unf fact_rec fact_nam fact_mp fact_ifc fact_mo fact_lo fact_wk fact_vs fact_res fact_io fact_loo fact_pk fact_sh fact_hd fact_me fact_li fact_mk fact_kd fact_pi fact_ve fact_vf
theorem fact_fn : Try.prog.funcNamed Rows.fnAveragesRow.func = some 8 := by kernel_rfl
theorem fact_inst : Try.f8.isInstance Try.prog Rows.fnAveragesRow.origin Rows.fnAveragesRow.targs := of_decide_eq_true (by kernel_rfl)
theorem fact_wrap : Try.f8.isWrapper Try.prog Rows.fnAveragesRow.wrapper Rows.fnAveragesRow.mainSum := by unfold Func.isWrapper; first | (rw [if_pos (by decide +kernel)]; kernel_rfl) | (rw [if_neg (by decide +kernel)]; exact ⟨rfl, rfl⟩)
theorem over : Rows.fnAveragesRow.holds Try.pinned (OpenSpec.ofChange Rows.fnAveragesSpec) :=
  OpenClaim.holds_of_wide 8 Try.f8 rfl rfl rfl rfl rfl rfl rfl ⟨rfl, rfl, rfl, rfl, rfl⟩ rfl rfl rfl rfl rfl fact_fn Try.func8 facts fact_inst fact_wrap
    (fun os started H enc _ => lifted os started H enc)
theorem proved : Rows.FnAveragesSaid := over
#print axioms proved
end Go.Proofs.Ytpaaolnkmopiiaa.lawAverages
