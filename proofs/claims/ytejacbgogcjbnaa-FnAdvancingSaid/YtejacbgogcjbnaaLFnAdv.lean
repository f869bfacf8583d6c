/- FnAdvancing: for every code the law returns true. No conditions. -/
import Derived.Test.YtejacbgogcjbnaaDv
import Derived.Test.YtejacbgogcjbnaaRs
import Derived.Test.YtejacbgogcjbnaaRd
import Derived.Test.YtejacbgogcjbnaaNe
import Derived.Test.YtejacbgogcjbnaaOpen
namespace Go.Proofs.Ytejacbgogcjbnaa.lawFnAdvancing
open Go.RowKit Go.ChangeShapes Go.WideShapes Go.ChangeAt
set_option maxRecDepth 100000

theorem norm_best {r : RR} {es : List Ent} (h : roundOk r es = true) {i : Nat} (hi : i < es.length) : bestRes (normL r (es.getD i (0, [])).2) = bestOf (normL r (es.getD i (0, [])).2) := by
  rw [roundOk, Bool.and_eq_true] at h
  have h1 := (entOk_parts ((entsOk_parts h.2).2 i hi)).2
  have h2 := (entOk_parts ((entsOk_parts h.2).2 i hi)).1
  have h3 := normL_len r (es.getD i (0, [])).2
  rw [bestRes, if_pos]
  rw [okTimes, Bool.and_eq_true, decide_eq_true_eq]
  exact ⟨by omega, normL_isRes r h1⟩
theorem norm_ok {r : RR} {es : List Ent} (h : roundOk r es = true) {i : Nat} (hi : i < es.length) {k : Int} {ys : List Int} (hx : es.getD i (0, []) = (k, ys)) : normB r k ys = true := by
  rw [roundOk, Bool.and_eq_true] at h
  have := (entsOk_parts h.2).2 i hi
  rw [hx] at this
  rw [normB, h.1]; exact this
theorem cntB_more {p : Nat → Bool} {k : Nat} {n : Nat} (h : cntB p k = n) : cntB p (k + 1) = if p k then n + 1 else n := by rw [cntB, h]
set_option maxHeartbeats 16000000 in
theorem walk (A : Option Addr) (c : Nat) (xs : List Int) (w : World) (hx : BytesAt w A xs) (_hm : xs.length ≤ maxLen) :
    Calls Try.prog 3 #[.slice A xs.length c] w fun e w' => e = .returned (.bool true) ∧ Below w.heap.size w w' := by
  by_cases hl : 4096 < xs.length
  · have hd : decide (4096 < xs.length) = true := by simpa using hl
    go_enter Try.func3, Try.ntmps3
    go_wp2_with (first | (go_at_call 6; refine (big_any _ _ _ _).mono ?_; rintro e w' ⟨rfl, rfl⟩))
    go_ret
    exact ⟨rfl, Below.refl _ _⟩
  have hd : decide (4096 < xs.length) = false := by simpa using hl
  go_enter Try.func3, Try.ntmps3
  go_wp2_with (first | (go_at_call 6; refine (big_any _ _ _ _).mono ?_; rintro e w' ⟨rfl, rfl⟩))
  refine (drawAdv A c xs _ hx (by omega)).mono ?_
  rintro e w1 ⟨r, v1, es, rfl, hE1, hT1, hl1, hB1⟩
  have HS := Lib.hid hT1.short
  obtain ⟨A1, c1, rfl, hcap, hEA1⟩ := hE1.entsW.ents
  obtain ⟨w2, hw2⟩ : ∃ w2, w1.alloc (.cells #[.int .i64 r.att, .int .i64 r.lim, .int .i64 r.catt, .int .i64 r.cut, .int .i64 r.adv] 25) = w2 := ⟨_, rfl⟩
  have hb2 : Below w1.heap.size w1 w2 := by rw [← hw2]; exact (by repeat (first | exact Below.refl _ _ | assumption | refine Below.setCell ?_ (by first | omega | (simp <;> omega)) _ | refine Below.alloc ?_ (by first | omega | (simp <;> omega)) _ | refine Below.drew ?_))
  have rR2 : RRow w2 w1.heap.size r := by rw [← hw2]; exact heap_alloc_new w1 _
  have hEA2 := hEA1.below hb2
  have hB2 := belowStep hb2 hB1
  have hyl : es.length ≤ 1048576 := by omega
  obtain ⟨k0, k1, k2, k3, k4⟩ := rcells rR2
  have RR2 := Lib.hid rR2
  clear hE1 hEA1 hT1 hB1 hb2 rR2 hd
  go_wp2_with fail
  clear hw2
  obtain ⟨T, hTT⟩ : ∃ T, w1.heap.size = T := ⟨_, rfl⟩
  rw [hTT] at RR2 k0 k1 k2 k3 k4 ⊢
  clear hTT
  refine (implAdv r A1 c1 es _ hEA2 hyl hcap HS.out).mono ?_
  rintro e w3 ⟨v3, rfl, hF3, hb3⟩
  obtain ⟨A3, c3, rfl, hI3, -⟩ := hF3.ints
  have hEA3 := hEA2.below hb3
  have RR3 : Hid (RRow w3 T r) := rowB hb3 RR2.out
  have hB3 := belowStep hb3 hB2
  clear k0 k1 k2 k3 k4 hEA2 hB2 hF3 hb3 RR2
  obtain ⟨k0, k1, k2, k3, k4⟩ := rcells RR3.out
  go_wp2_with fail
  refine (specRoundRanks r A1 c1 es _ hEA3 hyl HS.out).mono ?_
  rintro e w4 ⟨v4, rfl, hF4, hb4⟩
  obtain ⟨A4, c4, rfl, hI4, -⟩ := hF4.ints
  have hEA4 := hEA3.below hb4
  have hI34 := hI3.below hb4
  have RR4 : Hid (RRow w4 T r) := rowB hb4 RR3.out
  have hB4 := belowStep hb4 hB3
  clear k0 k1 k2 k3 k4 hEA3 hI3 hB3 hF4 hb4 RR3
  by_cases hp : roundOk r es = true ∧ 0 < es.length
  case neg =>
    have e1 : roundRes r es = [] ∧ advRes r es = [] := by
      cases h : roundOk r es
      · exact ⟨round_no h, adv_no h⟩
      · have h0 : es.length = 0 := by
          rcases Nat.eq_zero_or_pos es.length with h0 | h0
          · exact h0
          · exact absurd ⟨h, h0⟩ hp
        have h1 := roundRes_size h
        have h2 := adv_size h
        rw [h0] at h1 h2
        exact ⟨List.eq_nil_of_length_eq_zero h1, List.eq_nil_of_length_eq_zero h2⟩
    rw [e1.1, e1.2]
    clear e1 hp hI4 hI34
    simp only [List.length_nil]
    go_wp2_with fail
    go_ret
    exact ⟨rfl, hB4⟩
  case pos =>
    obtain ⟨hok, hpos⟩ := hp
    have HSZ := Lib.hid (adv_size hok)
    have HMEM := Lib.hid (fun i hi => adv_mem (i := i) hok hi)
    have HRS := Lib.hid (roundRes_size hok)
    have HOK := Lib.hid hok
    have hal : (advRes r es).length ≤ 144 := advRes_len r es
    obtain ⟨ad, had⟩ : ∃ ad, advRes r es = ad := ⟨_, rfl⟩
    obtain ⟨rk, hrk⟩ : ∃ rk, roundRes r es = rk := ⟨_, rfl⟩
    have HRK := Lib.hid hrk
    rw [had] at HSZ HMEM hI34 hal ⊢
    rw [hrk] at HRS hI4 ⊢
    obtain ⟨nr, hnr⟩ : ∃ nr, rk.length = nr := ⟨_, rfl⟩
    have HNR := Lib.hid hnr
    rw [hnr] at ⊢
    have hnp : nr = es.length := by rw [← hnr]; exact HRS.out
    subst hnp
    have hz0 : ((es.length : Int) == 0) = false := beq_eq_false_iff_ne.2 (by omega)
    clear had hrk hok hnr
    go_wp2_with fail
    clear hz0
    go_loopw [7, 8] (fun q j wr => ∃ i n : Nat, i ≤ es.length ∧ j = .int .i64 i ∧ q = .int .i64 n ∧ n ≤ i ∧ Hid (cntB (advB r es) i = n) ∧ Below w4.heap.size w4 wr) (fun _ j _ => es.length - (intOf j).toNat)
    case atStart => exact ⟨0, 0, Nat.zero_le _, rfl, rfl, Nat.le_refl _, rfl, Below.refl _ _⟩
    case round =>
      obtain ⟨i, n, hi, rfl, rfl, hn, HC, hB⟩ := hrel
      by_cases hlt : i < es.length
      · obtain ⟨b, off, key, Ai, ci, ys, rfl, hb, hc0, hc1, hI, hcpi, HX⟩ := (hEA4.below hB).at_ hlt
        have p0 : (0 : Int) ≤ (i : Int) := by omega
        have p1 : (i : Int) < (es.length : Int) := by omega
        have hyl2 : ys.length ≤ 1048576 := by have := HS.out i hlt; rw [HX.out] at this; exact this
        obtain ⟨wo, rfl⟩ : ∃ wo : World, wo = wr := ⟨_, rfl⟩
        go_wp2_with fail
        go_loopw [9, 10] (fun q j wr => ∃ (m : Nat) (nb : Nat), m ≤ ad.length ∧ j = .int .i64 m ∧ q = .bool (memTo key ad m) ∧ wr = wo.drewN nb) (fun _ j _ => ad.length - (intOf j).toNat)
        case atStart => exact ⟨0, 0, Nat.zero_le _, rfl, rfl, rfl⟩
        case round =>
          obtain ⟨m, nb, hm, rfl, rfl, rfl⟩ := hrel
          by_cases hlm : m < ad.length
          · obtain ⟨b', off', x, rfl, hb', hd0, HZ⟩ := (hI34.below hB).at_ hlm
            have q0 : (0 : Int) ≤ (m : Int) := by omega
            have q1 : (m : Int) < (ad.length : Int) := by omega
            have HMM := Lib.hid (memTo_more key ad m hlm HZ.out)
            obtain ⟨mb, hmb⟩ : ∃ mb, memTo key ad m = mb := ⟨_, rfl⟩
            rw [hmb] at HMM ⊢
            clear hmb
            cases mb
            · go_wp2_with fail
              go_quiet (fail)
              go_wp2_with fail
              go_roundw
              case rel => exact ⟨m + 1, nb + nq, by omega, by go_num, by rw [HMM.out]; rfl, rfl⟩
              case measure => simp [intOf]; omega
            · go_wp2_with fail
              go_quiet (fail)
              go_wp2_with fail
              go_roundw
              case rel => exact ⟨m + 1, nb + nq, by omega, by go_num, by rw [HMM.out]; rfl, rfl⟩
              case measure => simp [intOf]; omega
          · obtain rfl : m = ad.length := by omega
            have hin : memTo key ad ad.length = advB r es i := by
              have := HMEM.out i hlt
              rw [HX.out] at this
              rw [memTo_all]; exact this
            rw [hin]
            have HAB : Hid (advB r es i = (decide (rk.getD i 0 ≤ r.adv) && decide (0 ≤ bestRes (normL r ys)))) := by
              unfold Hid
              have := norm_best HOK.out hlt
              rw [HX.out] at this
              rw [advB, HRK.out, HX.out]
              dsimp only at this ⊢
              rw [this]
            have HNB := Lib.hid (norm_ok HOK.out hlt HX.out)
            have hBd : Below w4.heap.size w4 (wo.drewN nb) := belowDrewN hB nb
            have hId : IntsAt (wo.drewN nb) Ai ys := hI
            have hc0d : (wo.drewN nb).cell? ⟨b, off + i * 2, none⟩ = some (.int .i64 key) := hc0
            have hc1d : (wo.drewN nb).cell? ⟨b, off + i * 2 + 1, none⟩ = some (.slice Ai ys.length ci) := hc1
            have hbd : b < (wo.drewN nb).heap.size := hb
            clear hin hI hc0 hc1 hb hB
            generalize wo.drewN nb = wp at *
            have hzT : T < w4.heap.size := (Array.getElem?_eq_some_iff.1 RR4.out).1
            have RRp : Hid (RRow wp T r) := (hBd.block T hzT).trans RR4.out
            obtain ⟨k0, k1, k2, k3, k4⟩ := rcells RRp.out
            obtain ⟨bA, hbA⟩ : ∃ bA, advB r es i = bA := ⟨_, rfl⟩
            rw [hbA] at HAB ⊢
            have HBA := Lib.hid hbA
            clear hbA hm
            have hne : ∀ w0, IntsAt w0 Ai ys → Calls Try.prog 10 #[.agg #[.int .i64 r.att, .int .i64 r.lim, .int .i64 r.catt, .int .i64 r.cut, .int .i64 r.adv], .agg #[.int .i64 key, .slice Ai ys.length ci]] w0 (Norm2Post (normK r key ys) (normXs r key ys) (normB r key ys) w0) := fun w0 h => specNE r key Ai ci ys w0 h hyl2 hcpi
            rw [(norm_yes HNB.out).1, (norm_yes HNB.out).2, HNB.out] at hne
            obtain ⟨zs, hzs⟩ : ∃ zs, normL r ys = zs := ⟨_, rfl⟩
            rw [hzs] at hne HAB
            have hzl : zs.length ≤ 1048576 := by have := normL_len r ys; rw [hzs] at this; omega
            have HNE := Lib.hid hne
            clear hne hzs HNB
            go_upto_region 17 with fail
            go_cut [11, 12] from 32 to 83 (fun p bb wx => ∃ (E : Nat) (A5 : Option Addr) (c5 : Nat), p = .pointer (some ⟨E, 0, none⟩) ∧ bb = .bool true ∧ wx.heap[E]? = some (.cells #[.int .i64 key, .slice A5 zs.length c5] 32 (0, 0)) ∧ IntsAt wx A5 zs ∧ Below wp.heap.size wp wx)
            case first =>
              have cn := World.new_ne _ _ k0
              have dn := World.new_ne _ _ hc0d
              dsimp only at cn dn
              have cl : T < wp.heap.size := World.block_lt_of_cell? _ _ k0
              go_region_with (first
                | (go_at_call 10; refine (HNE.out _ (by exact hId.below (by repeat (first | exact Below.refl _ _ | assumption | refine Below.setCell ?_ (by first | omega | (simp <;> omega)) _ | refine Below.alloc ?_ (by first | omega | (simp <;> omega)) _ | refine Below.drew ?_)))).mono ?_; rintro e w5 ⟨v5, rfl, hF5, hb5⟩
                    ; obtain ⟨A5, c5, -, rfl, hI5⟩ := hF5.capped
                    ; have hq5 : Below wp.heap.size wp w5 := (by first | exact ((Below.refl _ _).drew).trans hb5 | exact (((Below.refl _ _).drew).alloc (Nat.le_refl _) _).trans (hb5.mono (by simp)))
                    ; (try (have rg : w5.heap[wp.heap.size]? = some (.cells #[.int .i64 0, .slice none 0 0] 32 (0, 0)) := rowB hb5 (by exact heap_alloc_new wp _); obtain ⟨g0, g1, l0, l1⟩ := row_cells2 rg; have Rg := Lib.hid rg; clear rg))
                    ; have HF5 := Lib.hid hF5
                    ; have HI5 := Lib.hid hI5
                    ; clear hF5 hI5 hb5))
              all_goals go_wp2_with fail
              all_goals go_meet
              all_goals first
                | (have hF6 := (HF5.out.setCell (a := ⟨wp.heap.size, 0, none⟩) (by simp) (.int .i64 key)).setCell (a := ⟨wp.heap.size, 1, none⟩) (by simp) (.slice A5 zs.length c5)
                   exact ⟨wp.heap.size, A5, c5, rfl, rfl, ent2 Rg.out, hF6.intsAt, (hq5.setCell (p := ⟨wp.heap.size, 0, none⟩) (Nat.le_refl _) _).setCell (p := ⟨wp.heap.size, 1, none⟩) (Nat.le_refl _) _⟩)
                | exact ⟨w5.heap.size, A5, c5, rfl, rfl, heap_alloc_new w5 _, HI5.out.below (by repeat (first | exact Below.refl _ _ | assumption | refine Below.setCell ?_ (by first | omega | (simp <;> omega)) _ | refine Below.alloc ?_ (by first | omega | (simp <;> omega)) _ | refine Below.drew ?_)), hq5.alloc hq5.size _⟩
            case rest =>
              obtain ⟨E, A5, c5, rfl, rfl, hrE, hI5, hbc⟩ := hcut
              have hBc := belowStep hbc hBd
              obtain ⟨e0, e1, -, -⟩ := row_cells2 hrE
              have hir : i < rk.length := by have := HRS.out; omega
              obtain ⟨b4, off4, x, rfl, hb4, hd4, HX4⟩ := (hI4.below hBc).at_ hir
              have hRc : RRow wc T r := rowB hbc RRp.out
              have m4 : wc.cell? ⟨T, 4, none⟩ = some (.int .i64 r.adv) := cell_of_row _ _ 4 _ _ (0, 0) hRc
              obtain ⟨q, hq⟩ : ∃ q, bestRes zs = q := ⟨_, rfl⟩
              have hbest : ∀ w0, IntsAt w0 A5 zs → Calls Try.prog 11 #[.slice A5 zs.length c5] w0 fun e w' => e = .returned (.int .i64 q) ∧ w0 = w' := by
                intro w0 h
                rw [← hq]
                exact specBestResult A5 c5 zs w0 h hzl
              have hab := HAB.out
              rw [HX4.out, hq] at hab
              have HAB2 := Lib.hid hab
              have HBEST := Lib.hid hbest
              have HCN := Lib.hid (cntB_more HC.out)
              clear hab hbest hq HAB k0 k1 k2 k3 k4 hrE hRc RRp hbc
              by_cases p1 : x ≤ r.adv
              · have pa : decide (x ≤ r.adv) = true := decide_eq_true p1
                by_cases p2 : 0 ≤ q
                · have pq : decide (0 ≤ q) = true := decide_eq_true p2
                  obtain rfl : bA = true := by rw [HAB2.out, pa, pq]; rfl
                  go_wp2_with fail
                  go_quiet ((go_at_call 11; exact quietLeft (HBEST.out _ (by exact hI5))))
                  go_wp2_with fail
                  go_roundw
                  case rel => exact ⟨i + 1, n + 1, by omega, by go_num, by go_num, by omega, by unfold Hid; rw [HCN.out, HBA.out]; rfl, belowDrewN hBc _⟩
                  case measure => simp [intOf]; omega
                · have pq : decide (0 ≤ q) = false := decide_eq_false p2
                  obtain rfl : bA = false := by rw [HAB2.out, pa, pq]; rfl
                  go_wp2_with fail
                  go_quiet ((go_at_call 11; exact quietLeft (HBEST.out _ (by exact hI5))))
                  go_wp2_with fail
                  go_roundw
                  case rel => exact ⟨i + 1, n, by omega, by go_num, rfl, by omega, by unfold Hid; rw [HCN.out, HBA.out]; rfl, belowDrewN hBc _⟩
                  case measure => simp [intOf]; omega
              · have pa : decide (x ≤ r.adv) = false := decide_eq_false p1
                obtain rfl : bA = false := by rw [HAB2.out, pa]; rfl
                go_wp2_with fail
                go_quiet ((go_at_call 11; exact quietLeft (HBEST.out _ (by exact hI5))))
                go_wp2_with fail
                go_roundw
                case rel => exact ⟨i + 1, n, by omega, by go_num, rfl, by omega, by unfold Hid; rw [HCN.out, HBA.out]; rfl, belowDrewN hBc _⟩
                case measure => simp [intOf]; omega
      · obtain rfl : i = es.length := by omega
        have hnl : n = ad.length := by have := HSZ.out; have := HC.out; omega
        subst hnl
        go_wp2_with fail
        go_ret
        exact ⟨rfl, belowStep hB hB4⟩
theorem own : ownKnob Try.prog.godebug = none := by kernel_rfl
theorem laidOut : laidOutB Try.prog = true := by kernel_rfl
set_option maxRecDepth 100000 in
theorem lifted (os : Os) (started : os.Started) (H : Type) (enc : TypeId × Value → H) :
    ReturnsInHanded {} Try.checked os 3 .any (Rows.fnAdvancingSpec.pre6 enc Try.prog Try.f3 Rows.fnAdvancingRow.domain false) (Rows.fnAdvancingSpec.post enc Try.prog Try.f3 false true false false) := by
  refine returnsInHanded_of_change (C := Try.checked) own started (by kernel_rfl) Try.func3
    (ChangeSpec.witness6 (enc := enc) (C := Try.checked) false ⟨#[], #[.slice none 0 0], []⟩ 8 (by kernel_rfl) (by kernel_rfl) (by kernel_rfl) (by kernel_rfl)) ?_
  intro W base args ds gs before hval0 hW hcnd _
  have hval : ∀ (j : Nat) t v, Try.f3.params[j]? = some t → args[j]? = some v → Value.okWide Try.prog W .any base t v := hval0
  have hW' := hW
  obtain ⟨p, q, hA0, hV, rfl, hfz, hnd⟩ := hW
  have hA : DataW.TrodAll enc Try.prog W 0 (fun _ => true) true Try.f3.params.toList args.toList ds p := hA0
  rw [Try.params3] at hA hval
  obtain ⟨v0, vs0, d0, ds0, p0, q0, hargs, rfl, rfl, h0, r0⟩ := trodAll_cons hA
  obtain ⟨rfl, rfl, rfl⟩ := trodAll_nil r0
  obtain rfl : args = #[v0] := by cases args; simp_all
  obtain ⟨rfl, rfl⟩ := trodVars_none hV
  have lt0 : ∀ x ∈ p0, x.block < W.heap.size := by obtain ⟨m, hm⟩ := h0; exact DataW.trod_lt m _ _ _ hm
  obtain ⟨A0, c0, x0, rfl, i0, m0⟩ := arg_bytes (hval 0 22 v0 rfl rfl) h0
  clear hA0 hval0
  refine (walk A0 c0 x0 W i0 m0).mono fun e W' ⟨he, bel⟩ => ?_
  subst he
  exact ⟨_, rfl, _, _, _, [], _, [], hW', trodAll_mk1 (shut_bool Try.underlying4 _), (trodAll_cons_mk (Below.trod laidOut (by kernel_rfl) (of_decide_eq_true (by kernel_rfl)) h0 bel lt0) trodAll_mk0), rfl, bel.frame _, fun h => by cases h⟩
theorem fact_wf : Rows.fnAdvancingRow.wf (OpenSpec.ofChange Rows.fnAdvancingSpec) = true := by kernel_rfl
theorem fact_pars : Try.f3.params.all (Try.prog.readableRec ·) = true := by kernel_rfl
theorem fact_tie : namedTie Try.prog Rows.fnAdvancingRow.named Rows.fnAdvancingSpec.vars = true := by kernel_rfl
theorem fact_st : (Rows.fnAdvancingRow.stops == []) = true := by kernel_rfl
theorem fact_kn : (Rows.fnAdvancingRow.knobs == []) = true := by kernel_rfl
theorem fact_inp : (Rows.fnAdvancingRow.inPlace == Try.prog.inPlace 3) = true := by kernel_rfl
theorem fact_unf : (Rows.fnAdvancingRow.unfollowed == Try.prog.unfollowed 3) = true := by kernel_rfl
theorem fact_rec : (Rows.fnAdvancingRow.recurses == Try.prog.recurses 3) = true := by kernel_rfl
theorem fact_nam : (Rows.fnAdvancingRow.named == Try.prog.varsNamed 3) = true := by kernel_rfl
theorem fact_mp : (Rows.fnAdvancingRow.maps == (Try.f3.params.toList ++ Rows.fnAdvancingSpec.plain.varTypes Try.prog).any (Try.prog.mapsRec ·)) = true := by kernel_rfl
theorem fact_ifc : (Rows.fnAdvancingRow.ifaces == (Try.f3.params.toList ++ Rows.fnAdvancingSpec.plain.varTypes Try.prog).any (Try.prog.ifacesRec ·)) = true := by kernel_rfl
theorem fact_mo : (Rows.fnAdvancingRow.mapsOut == Try.prog.mapsAmong Try.f3.resultTypes.toList) = true := by kernel_rfl
theorem fact_lo : (Rows.fnAdvancingRow.loops == (Try.f3.params.toList ++ Rows.fnAdvancingSpec.plain.varTypes Try.prog).any (Try.prog.loopsFrom ·)) = true := by kernel_rfl
theorem fact_wk : (Rows.fnAdvancingRow.wideKeys == (Try.f3.params.toList ++ Rows.fnAdvancingSpec.plain.varTypes Try.prog ++ Try.f3.resultTypes.toList).any (Try.prog.wideKeysFrom ·)) = true := by kernel_rfl
theorem fact_vs : Rows.fnAdvancingSpec.vars.all (Try.prog.varReadable ·) = true := by kernel_rfl
theorem fact_res : Try.f3.resultTypes.all (fun t => Try.prog.readableRec t && decide (t < Try.prog.types.size)) = true := by kernel_rfl
theorem fact_io : (Rows.fnAdvancingRow.ifacesOut == Try.f3.resultTypes.toList.any (Try.prog.ifacesRec ·)) = true := by kernel_rfl
theorem fact_loo : (Rows.fnAdvancingRow.loopsOut == Try.f3.resultTypes.toList.any (Try.prog.loopsFrom ·)) = true := by kernel_rfl
theorem fact_pk : (Rows.fnAdvancingRow.plainKeys == Try.prog.plainKeys) = true := by kernel_rfl
theorem fact_sh : Rows.fnAdvancingRow.shortTexts.isNone = true := by kernel_rfl
theorem fact_li : (Rows.fnAdvancingRow.lifted == Try.prog.liftsFinal) = true := by rw [fact_finals]; rfl
theorem fact_mk : (Try.prog.make == some Rows.fnAdvancingRow.make) = true := by rw [fact_make]; rfl
theorem fact_kd : (Rows.fnAdvancingRow.kinds == (if Rows.fnAdvancingRow.domain.isEmpty then [] else Try.f3.params.toList.map fun t => match Try.prog.underlying t with | some (.int k) => some k | _ => none)) = true := by kernel_rfl
theorem fact_pi : (Rows.fnAdvancingRow.pinned == Rows.fnAdvancingRow.pinnedBy) = true := by kernel_rfl
theorem fact_ve : (Rows.fnAdvancingRow.veiled == (Try.f3.params.toList ++ Rows.fnAdvancingSpec.plain.varTypes Try.prog ++ Try.f3.resultTypes.toList).any (Try.prog.veiledRec ·)) = true := by kernel_rfl
theorem fact_vf : Rows.fnAdvancingRow.veiledFits Try.prog Try.f3.params.toList (Try.f3.params.toList ++ Rows.fnAdvancingSpec.plain.varTypes Try.prog ++ Try.f3.resultTypes.toList) = true := by kernel_rfl
set_option maxRecDepth 100000 in
theorem facts : joinedFacts Try.prog 3 Try.f3 Rows.fnAdvancingSpec Rows.fnAdvancingRow = true := facts_of fact_wf fact_laid fact_rowed fact_pars fact_tie fact_st fact_pst fact_kn fact_pkn fact_inp fact_unf fact_rec fact_nam fact_mp fact_ifc fact_mo fact_lo fact_wk fact_vs fact_res fact_io fact_loo fact_pk fact_sh fact_hd fact_me fact_li fact_mk fact_kd fact_pi fact_ve fact_vf
theorem fact_fn : Try.prog.funcNamed Rows.fnAdvancingRow.func = some 3 := by kernel_rfl
theorem fact_inst : Try.f3.isInstance Try.prog Rows.fnAdvancingRow.origin Rows.fnAdvancingRow.targs := of_decide_eq_true (by kernel_rfl)
theorem fact_wrap : Try.f3.isWrapper Try.prog Rows.fnAdvancingRow.wrapper Rows.fnAdvancingRow.mainSum := by unfold Func.isWrapper; first | (rw [if_pos (by decide +kernel)]; kernel_rfl) | (rw [if_neg (by decide +kernel)]; exact ⟨rfl, rfl⟩)
theorem over : Rows.fnAdvancingRow.holds Try.pinned (OpenSpec.ofChange Rows.fnAdvancingSpec) :=
  OpenClaim.holds_of_wide 3 Try.f3 rfl rfl rfl rfl rfl rfl rfl ⟨rfl, rfl, rfl, rfl, rfl⟩ rfl rfl rfl rfl rfl fact_fn Try.func3 facts fact_inst fact_wrap
    (fun os started H enc _ => lifted os started H enc)
theorem proved : Rows.FnAdvancingSaid := over
#print axioms proved
end Go.Proofs.Ytejacbgogcjbnaa.lawFnAdvancing
