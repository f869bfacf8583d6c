/- FnResidues: for every code the law returns true. No conditions. -/
import Derived.Test.YtfhdnanbhigpmaaYr
import Derived.Test.YtfhdnanbhigpmaaOpen
import Derived.BigQuiet
namespace Go.Proofs.Ytfhdnanbhigpmaa.lawRs
open Go.RowKit Go.ChangeShapes Go.WideShapes Go.ChangeAt Grp
set_option maxRecDepth 100000
theorem rollR (A : Option Addr) (c : Nat) (xs : List Int) (s : Int) (w : World) (hx : BytesAt w A xs) (hl : xs.length ≤ 4096) :
    Calls Try.prog 11 #[.slice A xs.length c, .int .u64 s] w fun e w' => ∃ g, w.heap.size ≤ g ∧ e = .returned (.pointer (some ⟨g, 0, none⟩)) ∧ DiceAt w' g A c xs ∧ g < w'.heap.size ∧ Below w.heap.size w w' :=
  (roll_any A c xs s w hx hl).mono fun _ _ h => ⟨_, Nat.le_refl _, h.1, h.2.1, h.2.1.lt, h.2.2⟩
theorem rowsR {n : Nat} {ms : List (List Int)} (hn5 : n ≤ 5) (h : ∀ i, i < ms.length → IsMv n (ms.getD i [])) : ShortL ms := fun i hi => by
  obtain ⟨l, hp, e⟩ := h i hi
  rw [e, natI_len, hp.len]
  omega
set_option maxHeartbeats 1000000 in
theorem likeAny (A B : Option Addr) (c d : Nat) (xs ys : List Int) (w : World) (hx : IntsAt w A xs) (hy : IntsAt w B ys) (hl : xs.length ≤ 1048576) :
    Calls Try.prog 17 #[.slice A xs.length c, .slice B ys.length d] w (Quiet (.bool (sameB xs ys)) w) := by
  by_cases hlen : xs.length = ys.length
  · have hne : ((xs.length : Int) != (ys.length : Int)) = false := by simp [hlen]
    have HL := Lib.hid hlen
    clear hlen
    go_enter Try.func17, Try.ntmps17
    go_wp2_with fail
    go_loopw [5] (fun i wr => ∃ k n : Nat, k ≤ xs.length ∧ i = .int .i64 k ∧ EqAt xs ys k ∧ wr = w.drewN n) (fun i _ => xs.length - (intOf i).toNat)
    case atStart => exact ⟨0, 0, Nat.zero_le _, rfl, fun j hj => by omega, rfl⟩
    case round =>
      obtain ⟨k, n, hk, rfl, heq, rfl⟩ := hrel
      by_cases hlt : k < xs.length
      · have hlt2 : k < ys.length := by have := HL.out; omega
        obtain ⟨b, off, x, rfl, hb, hc, HX⟩ := hx.at_ hlt
        obtain ⟨b', off', y, rfl, hb', hc', HY⟩ := hy.at_ hlt2
        have p1 : (0 : Int) ≤ (k : Int) := by omega
        have p2 : (k : Int) < (xs.length : Int) := by omega
        have p3 : (k : Int) < (ys.length : Int) := by omega
        by_cases he : x = y
        · subst he
          go_wp2_with fail
          go_quiet (fail)
          go_wp2
          go_roundw
          case rel => exact ⟨k + 1, n + nq, by omega, by go_num, heq.more (HX.out.trans HY.out.symm), rfl⟩
          case measure => simp [intOf]; omega
        · have hb1 : (x != y) = true := by simpa using he
          have HE := Lib.hid he
          clear he
          go_wp2_with fail
          go_quiet (fail)
          go_wp2
          go_ret
          exact ⟨ret_bool (by rw [sameB_no (fun h => HE.out (by rw [← HX.out, ← HY.out, h]))]), n + nq, World.drewN_drewN _ _ _⟩
      · go_wp2
        go_ret
        exact ⟨ret_bool (by rw [sameB_yes (eq_of_getD HL.out (fun j hj => heq j (by omega)))]), n, rfl⟩
  · have hne : ((xs.length : Int) != (ys.length : Int)) = true := by simp; omega
    go_enter Try.func17, Try.ntmps17
    go_wp2_with fail
    go_ret
    exact ⟨ret_bool (by rw [sameB_no (fun h => hlen (by rw [h]))]), 0, rfl⟩
set_option maxHeartbeats 8000000 in
theorem walk (A : Option Addr) (c : Nat) (xs : List Int) (w : World) (hx : BytesAt w A xs) (_hm : xs.length ≤ maxLen) :
    Calls Try.prog 3 #[.slice A xs.length c] w fun e w' => e = .returned (.bool true) ∧ Below w.heap.size w w' := by
  by_cases hl : 4096 < xs.length
  · have hd : decide (4096 < xs.length) = true := by simpa using hl
    go_enter Try.func3, Try.ntmps3
    go_wp2_with (first | (go_at_call 10; refine (big_any _ _ _ _).mono ?_; rintro e w' ⟨rfl, rfl⟩))
    go_ret
    exact ⟨rfl, Below.refl _ _⟩
  have hd : decide (4096 < xs.length) = false := by simpa using hl
  have hl4 : xs.length ≤ 4096 := by omega
  have HX := Lib.hid hx
  clear hl hx
  go_enter Try.func3, Try.ntmps3
  go_wp2_with (first | (go_at_call 10; refine (big_any _ _ _ _).mono ?_; rintro e w' ⟨rfl, rfl⟩))
  refine (rollR A c xs 913 w HX.out hl4).mono ?_
  rintro e w1 ⟨g, hg0, rfl, hD1, hg1, hb1⟩
  have HD1 := Lib.hid hD1
  have HB1 := Lib.hid hb1
  clear hd hD1 hb1
  go_wp2_with fail
  refine (drawPzl g A c xs w1 HD1.out hl4).mono ?_
  rintro e w2 ⟨n, nm, AP, ms, cP, rfl, hn3, hn5, hlm, hj1, hj3, hnm, hmv, hG2, hD2, hg2⟩
  have hQ := fun l (q : IsTrk l) => build_drawn hn3 hn5 hlm hj1 hj3 hnm hmv q
  have hS := rowsR hn5 hmv
  obtain ⟨p, hp⟩ : ∃ p : Pz, p = ⟨(n : Int), nm, ms⟩ := ⟨_, rfl⟩
  have e1 : (n : Int) = p.pts := by rw [hp]
  have e2 : nm = p.names := by rw [hp]
  have e3 : ms = p.moves := by rw [hp]
  have hml : p.moves.length ≤ 1048576 := by rw [← e3]; omega
  have hnl : p.names.size ≤ 1048576 := by rw [← e2]; omega
  rw [← hp] at hQ
  rw [e3] at hG2 hS
  rw [e1, e2, e3]
  have HQ := Lib.hid hQ
  have HS := Lib.hid hS
  have HG2 := Lib.hid hG2
  have HR2 := Lib.hid hg2
  obtain ⟨w3, hw3⟩ : ∃ w3, w2.alloc (.cells #[.int .i64 p.pts, .string p.names, .slice AP p.moves.length cP] 29) = w3 := ⟨_, rfl⟩
  have hb3 : Below w2.heap.size w2 w3 := by rw [← hw3]; exact (by repeat (first | exact Below.refl _ _ | assumption | refine Below.setCell ?_ (by first | omega | (simp <;> omega)) _ | refine Below.alloc ?_ (by first | omega | (simp <;> omega)) _ | refine Below.drew ?_))
  have RP3 : Hid (w3.heap[w2.heap.size]? = some (.cells #[.int .i64 p.pts, .string p.names, .slice AP p.moves.length cP] 29 (0, 0))) := by rw [← hw3]; exact heap_alloc_new _ _
  have HB3 := Lib.hid hb3
  have HD3 := Lib.hid (hD2.below hb3)
  have HW3 := Lib.hid hw3
  clear hn3 hn5 hlm hj1 hj3 hnm hmv hG2 hD2 hg2 hQ hS hp e1 e2 e3 hw3 hb3
  go_wp2_with fail
  rw [HW3.out]
  obtain ⟨P, hP⟩ : ∃ P, w2.heap.size = P := ⟨_, rfl⟩
  have HPE := Lib.hid hP
  have hPg : g < P := by have := HR2.out.size; omega
  rw [hP] at RP3 ⊢
  clear hP HW3
  refine (drawTrk g A c xs w3 HD3.out hl4).mono ?_
  rintro e w4 ⟨v4, trk, rfl, hT, hF4, hD4, hg4⟩
  obtain ⟨AT, cT, -, rfl, -⟩ := hF4.capped
  have hq := HQ.out trk hT
  have htl : trk.length ≤ 1048576 := by rcases hT with ⟨z, rfl, -⟩ | ⟨z, rfl, -⟩ <;> simp
  have hz2 := HR2.out.size
  have hz3 := HB3.out.size
  have hz4 := hg4.size
  have hz1 := HB1.out.size
  have HB4 : Hid (Below w.heap.size w w4) := ((HB1.out.grown HR2.out hz1 (fun b e => by injection e with e; omega)).trans (HB3.out.mono (by omega))).grown hg4 (by omega) (fun b e => by injection e with e; omega)
  have HPZ : Hid (PzAt w4 AP p) := ⟨((HG2.out.below HB3.out).kept hg4 (fun b e => by injection e with e; omega)).lat, hml, HS.out, hnl⟩
  have HTR := Lib.hid hF4.intsAt
  have RP4 := Lib.hid (rowR hg4 RP3.out (fun e => by injection e with e; omega))
  have HQQ := Lib.hid hq
  have hbs : (searchB (mvsOf p.moves) trk).isSome = true := by
    have h2 := hq
    unfold buildQ at h2
    rw [Bool.and_eq_true] at h2
    exact h2.2
  obtain ⟨r, hs⟩ := Option.isSome_iff_exists.1 hbs
  obtain ⟨b1, b2, b3, b4⟩ := rd_back hq hs
  have hbt := specBuild AP cP p AT cT trk w4 HPZ.out HTR.out htl
  unfold BuiltPost at hbt
  rw [hq] at hbt
  have HBT := Lib.hid hbt
  have HSS := Lib.hid hs
  have HALL := Lib.hid b1
  have HRB := Lib.hid b2
  have HRL := Lib.hid b3
  obtain ⟨s, hss⟩ : ∃ s, resS r.ds = s := ⟨_, rfl⟩
  rw [hss] at b4 HRB HRL
  have HRS := Lib.hid hss
  clear hT hF4 hD4 hg4 hq HQ HS HG2 HR2 HB3 RP3 HD3 HPE HD1 HB1 hbs hs b1 b2 b3 hbt hss
  obtain ⟨p0, p1, p2, -, pl⟩ := row3 RP4.out
  go_wp2_with fail
  refine HBT.out.mono ?_
  rintro e w5 ⟨T1, n1, k1, T2, n2, k2, T3, n3, k3, rfl, hyes, hb5⟩
  obtain ⟨rfl, -, ls, ds, rfl, rfl, -, hF3, hdl, hl3, -, hs2⟩ := hyes (by first | rfl | trivial)
  have her : r = ⟨ls, ds⟩ := by
    have := HSS.out.symm.trans hs2
    injection this
  subst her
  dsimp only at HALL HRL HRS b4
  obtain ⟨n, hn⟩ : ∃ n, ls.length = n := ⟨_, rfl⟩
  rw [hn] at hF3 hdl hl3 ⊢
  have HDL := Lib.hid hdl
  have HI5 := Lib.hid hF3.intsAt
  have HB5 := Lib.hid (belowStep hb5 HB4.out)
  have RP5 := Lib.hid (rowB hb5 RP4.out)
  have HPZ5 := Lib.hid (HPZ.out.below hb5)
  have HTR5 := Lib.hid (HTR.out.below hb5)
  rw [hdl] at b4
  clear p0 p1 p2 pl hyes hs2 hF3 hdl hb5 hn HBT HPZ HTR RP4
  obtain ⟨w6, hw6⟩ : ∃ w6, w5.alloc (.cells #[.slice T1 trk.length k1, .slice T2 n k2, .slice T3 n k3] 34) = w6 := ⟨_, rfl⟩
  have hb6 : Below w5.heap.size w5 w6 := by rw [← hw6]; exact (by repeat (first | exact Below.refl _ _ | assumption | refine Below.setCell ?_ (by first | omega | (simp <;> omega)) _ | refine Below.alloc ?_ (by first | omega | (simp <;> omega)) _ | refine Below.drew ?_))
  have RW6 : Hid (w6.heap[w5.heap.size]? = some (.cells #[.slice T1 trk.length k1, .slice T2 n k2, .slice T3 n k3] 34 (0, 0))) := by rw [← hw6]; exact heap_alloc_new _ _
  have HB6 := Lib.hid (belowStep hb6 HB5.out)
  have RP6 := Lib.hid (rowB hb6 RP5.out)
  have HPZ6 := Lib.hid (HPZ5.out.below hb6)
  have HTR6 := Lib.hid (HTR5.out.below hb6)
  have HI6 := Lib.hid (HI5.out.below hb6)
  have HW6 := Lib.hid hw6
  have hpr := implRes T3 k3 ds w6 HI6.out (by rw [HDL.out]; omega)
  rw [HALL.out, HRS.out, HDL.out] at hpr
  have HPR := Lib.hid hpr
  clear hw6 hb6 hpr HB5 RP5 HPZ5 HTR5 HI5
  go_wp2_with fail
  rw [HW6.out]
  obtain ⟨W, hW⟩ : ∃ W, w5.heap.size = W := ⟨_, rfl⟩
  rw [hW] at RW6 ⊢
  clear hW HW6
  refine HPR.out.mono ?_
  rintro e w7 ⟨rfl, hb7⟩
  have HB7 := Lib.hid (belowStep hb7 HB6.out)
  have RP7 := Lib.hid (rowB hb7 RP6.out)
  have RW7 := Lib.hid (rowB hb7 RW6.out)
  have HI7 := Lib.hid (HI6.out.below hb7)
  have hrd := implRd AP cP p AT cT trk s w7 (HPZ6.out.below hb7) (HTR6.out.below hb7) htl (by omega)
  unfold RdPost at hrd
  rw [HRB.out, HRL.out] at hrd
  have HRD := Lib.hid hrd
  clear hb7 hrd HPR HB6 RP6 RW6 HPZ6 HTR6 HI6
  obtain ⟨p0, p1, p2, -, pl⟩ := row3 RP7.out
  go_wp2_with fail
  refine HRD.out.mono ?_
  rintro e w8 ⟨v8, rfl, hF8, hb8⟩
  obtain ⟨A8, c8, -, rfl, hI8⟩ := hF8.capped
  rw [HDL.out]
  have hlk := likeAny A8 T3 c8 k3 ds ds w8 hI8 (HI7.out.below hb8) (by rw [HDL.out]; omega)
  rw [sameB_yes rfl, HDL.out] at hlk
  have HLK := Lib.hid hlk
  have HB8 := Lib.hid (belowStep hb8 HB7.out)
  have RW8 := Lib.hid (rowB hb8 RW7.out)
  obtain ⟨t0, t1, t2, -, tl⟩ := row3 RW8.out
  clear p0 p1 p2 pl hF8 hI8 hb8 hlk HRD
  go_wp2_with fail
  refine HLK.out.mono ?_
  rintro e w9' ⟨rfl, nq, hw9⟩
  obtain ⟨w9, h9⟩ : ∃ w9, w9' = w9 := ⟨_, rfl⟩
  have hb9 : Below w8.heap.size w8 w9 := by rw [← h9, hw9]; exact belowDrewN (Below.refl _ _) nq
  rw [h9]
  have HB9 := Lib.hid (belowStep hb9 HB8.out)
  have RW9 := Lib.hid (rowB hb9 RW8.out)
  clear hw9 h9 hb9 t0 t1 t2 tl
  obtain ⟨t0, t1, t2, -, tl⟩ := row3 RW9.out
  have hf1 : 4 * (s.size : Int) < (n : Int) + 4 := by omega
  have hw1 : IntKind.i64.wrap (4 * (s.size : Int)) = 4 * (s.size : Int) := IntWalk.i64_in _ (by omega)
  go_wp2_with fail
  go_ret
  exact ⟨rfl, HB9.out⟩
theorem own : ownKnob Try.prog.godebug = none := by kernel_rfl
theorem laidOut : laidOutB Try.prog = true := by kernel_rfl
set_option maxRecDepth 100000 in
theorem lifted (os : Os) (started : os.Started) (H : Type) (enc : TypeId × Value → H) :
    ReturnsInHanded {} Try.checked os 3 .any (Rows.fnResiduesSpec.pre6 enc Try.prog Try.f3 Rows.fnResiduesRow.domain false) (Rows.fnResiduesSpec.post enc Try.prog Try.f3 false true false false) := by
  refine returnsInHanded_of_change (C := Try.checked) own started (by kernel_rfl) Try.func3
    (ChangeSpec.witness6 (enc := enc) (C := Try.checked) false ⟨#[], #[.slice none 0 0], []⟩ 8 (by kernel_rfl) (by kernel_rfl) (by kernel_rfl) (by kernel_rfl)) ?_
  intro W base args ds gs before hval0 hW hcnd _
  have hval : ∀ (j : Nat) t v, Try.f3.params[j]? = some t → args[j]? = some v → Value.okWide Try.prog W .any base t v := hval0
  have hW' := hW
  obtain ⟨p, q, hA0, hV, rfl, hfz, hnd⟩ := hW
  have hA : DataW.TrodAll enc Try.prog W 0 (fun _ => true) true Try.f3.params.toList args.toList ds p := hA0
  rw [Try.params3] at hA hval
  obtain ⟨v0, vs0, d0, ds0, p0, q0, hargs, rfl, rfl, h0, r0⟩ := trodAll_cons hA
  obtain ⟨rfl, rfl, rfl⟩ := trodAll_nil r0
  obtain rfl : args = #[v0] := by cases args; simp_all
  obtain ⟨rfl, rfl⟩ := trodVars_none hV
  have lt0 : ∀ x ∈ p0, x.block < W.heap.size := by obtain ⟨m, hm⟩ := h0; exact DataW.trod_lt m _ _ _ hm
  obtain ⟨A0, c0, x0, rfl, i0, m0⟩ := arg_bytes (hval 0 22 v0 rfl rfl) h0
  clear hA0 hval0
  refine (walk A0 c0 x0 W i0 m0).mono fun e W' ⟨he, bel⟩ => ?_
  subst he
  exact ⟨_, rfl, _, _, _, [], _, [], hW', trodAll_mk1 (shut_bool Try.underlying4 _), (trodAll_cons_mk (Below.trod laidOut (by kernel_rfl) (of_decide_eq_true (by kernel_rfl)) h0 bel lt0) trodAll_mk0), rfl, bel.frame _, fun h => by cases h⟩
theorem fact_wf : Rows.fnResiduesRow.wf (OpenSpec.ofChange Rows.fnResiduesSpec) = true := by kernel_rfl
theorem fact_pars : Try.f3.params.all (Try.prog.readableRec ·) = true := by kernel_rfl
theorem fact_tie : namedTie Try.prog Rows.fnResiduesRow.named Rows.fnResiduesSpec.vars = true := by kernel_rfl
theorem fact_st : (Rows.fnResiduesRow.stops == []) = true := by kernel_rfl
theorem fact_kn : (Rows.fnResiduesRow.knobs == []) = true := by kernel_rfl
theorem fact_inp : (Rows.fnResiduesRow.inPlace == Try.prog.inPlace 3) = true := by kernel_rfl
theorem fact_unf : (Rows.fnResiduesRow.unfollowed == Try.prog.unfollowed 3) = true := by kernel_rfl
theorem fact_rec : (Rows.fnResiduesRow.recurses == Try.prog.recurses 3) = true := by kernel_rfl
theorem fact_nam : (Rows.fnResiduesRow.named == Try.prog.varsNamed 3) = true := by kernel_rfl
theorem fact_mp : (Rows.fnResiduesRow.maps == (Try.f3.params.toList ++ Rows.fnResiduesSpec.plain.varTypes Try.prog).any (Try.prog.mapsRec ·)) = true := by kernel_rfl
theorem fact_ifc : (Rows.fnResiduesRow.ifaces == (Try.f3.params.toList ++ Rows.fnResiduesSpec.plain.varTypes Try.prog).any (Try.prog.ifacesRec ·)) = true := by kernel_rfl
theorem fact_mo : (Rows.fnResiduesRow.mapsOut == Try.prog.mapsAmong Try.f3.resultTypes.toList) = true := by kernel_rfl
theorem fact_lo : (Rows.fnResiduesRow.loops == (Try.f3.params.toList ++ Rows.fnResiduesSpec.plain.varTypes Try.prog).any (Try.prog.loopsFrom ·)) = true := by kernel_rfl
theorem fact_wk : (Rows.fnResiduesRow.wideKeys == (Try.f3.params.toList ++ Rows.fnResiduesSpec.plain.varTypes Try.prog ++ Try.f3.resultTypes.toList).any (Try.prog.wideKeysFrom ·)) = true := by kernel_rfl
theorem fact_vs : Rows.fnResiduesSpec.vars.all (Try.prog.varReadable ·) = true := by kernel_rfl
theorem fact_res : Try.f3.resultTypes.all (fun t => Try.prog.readableRec t && decide (t < Try.prog.types.size)) = true := by kernel_rfl
theorem fact_io : (Rows.fnResiduesRow.ifacesOut == Try.f3.resultTypes.toList.any (Try.prog.ifacesRec ·)) = true := by kernel_rfl
theorem fact_loo : (Rows.fnResiduesRow.loopsOut == Try.f3.resultTypes.toList.any (Try.prog.loopsFrom ·)) = true := by kernel_rfl
theorem fact_pk : (Rows.fnResiduesRow.plainKeys == Try.prog.plainKeys) = true := by kernel_rfl
theorem fact_sh : Rows.fnResiduesRow.shortTexts.isNone = true := by kernel_rfl
theorem fact_li : (Rows.fnResiduesRow.lifted == Try.prog.liftsFinal) = true := by rw [fact_finals]; rfl
theorem fact_mk : (Try.prog.make == some Rows.fnResiduesRow.make) = true := by rw [fact_make]; rfl
theorem fact_kd : (Rows.fnResiduesRow.kinds == (if Rows.fnResiduesRow.domain.isEmpty then [] else Try.f3.params.toList.map fun t => match Try.prog.underlying t with | some (.int k) => some k | _ => none)) = true := by kernel_rfl
theorem fact_pi : (Rows.fnResiduesRow.pinned == Rows.fnResiduesRow.pinnedBy) = true := by kernel_rfl
theorem fact_ve : (Rows.fnResiduesRow.veiled == (Try.f3.params.toList ++ Rows.fnResiduesSpec.plain.varTypes Try.prog ++ Try.f3.resultTypes.toList).any (Try.prog.veiledRec ·)) = true := by kernel_rfl
theorem fact_vf : Rows.fnResiduesRow.veiledFits Try.prog Try.f3.params.toList (Try.f3.params.toList ++ Rows.fnResiduesSpec.plain.varTypes Try.prog ++ Try.f3.resultTypes.toList) = true := by kernel_rfl
set_option maxRecDepth 100000 in
theorem facts : joinedFacts Try.prog 3 Try.f3 Rows.fnResiduesSpec Rows.fnResiduesRow = true := facts_of fact_wf fact_laid fact_rowed fact_pars fact_tie fact_st fact_pst fact_kn fact_pkn fact_inp fact_unf fact_rec fact_nam fact_mp fact_ifc fact_mo fact_lo fact_wk fact_vs fact_res fact_io fact_loo fact_pk fact_sh fact_hd fact_me fact_li fact_mk fact_kd fact_pi fact_ve fact_vf
theorem fact_fn : Try.prog.funcNamed Rows.fnResiduesRow.func = some 3 := by kernel_rfl
theorem fact_inst : Try.f3.isInstance Try.prog Rows.fnResiduesRow.origin Rows.fnResiduesRow.targs := of_decide_eq_true (by kernel_rfl)
theorem fact_wrap : Try.f3.isWrapper Try.prog Rows.fnResiduesRow.wrapper Rows.fnResiduesRow.mainSum := by unfold Func.isWrapper; first | (rw [if_pos (by decide +kernel)]; kernel_rfl) | (rw [if_neg (by decide +kernel)]; exact ⟨rfl, rfl⟩)
theorem over : Rows.fnResiduesRow.holds Try.pinned (OpenSpec.ofChange Rows.fnResiduesSpec) :=
  OpenClaim.holds_of_wide 3 Try.f3 rfl rfl rfl rfl rfl rfl rfl ⟨rfl, rfl, rfl, rfl, rfl⟩ rfl rfl rfl rfl rfl fact_fn Try.func3 facts fact_inst fact_wrap
    (fun os started H enc _ => lifted os started H enc)
theorem proved : Rows.FnResiduesSaid := over
#print axioms proved
end Go.Proofs.Ytfhdnanbhigpmaa.lawRs
