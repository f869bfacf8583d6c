/- FnRanking: for every code the law returns true. No conditions. -/
import Derived.Test.YtejacbgogcjbnaaDj
import Derived.Test.YtejacbgogcjbnaaOpen
namespace Go.Proofs.Ytejacbgogcjbnaa.lawRanking
open Go.RowKit Go.ChangeShapes Go.WideShapes Go.ChangeAt
set_option maxRecDepth 100000

set_option maxHeartbeats 8000000 in
theorem walk (A : Option Addr) (c : Nat) (xs : List Int) (w : World) (hx : BytesAt w A xs) (_hm : xs.length ≤ maxLen) :
    Calls Try.prog 5 #[.slice A xs.length c] w fun e w' => e = .returned (.bool true) ∧ Below w.heap.size w w' := by
  by_cases hl : 4096 < xs.length
  · have hd : decide (4096 < xs.length) = true := by simpa using hl
    go_enter Try.func5, Try.ntmps5
    go_wp2_with (first | (go_at_call 6; refine (big_any _ _ _ _).mono ?_; rintro e w' ⟨rfl, rfl⟩))
    go_ret
    exact ⟨rfl, Below.refl _ _⟩
  have hd : decide (4096 < xs.length) = false := by simpa using hl
  go_enter Try.func5, Try.ntmps5
  go_wp2_with (first | (go_at_call 6; refine (big_any _ _ _ _).mono ?_; rintro e w' ⟨rfl, rfl⟩))
  refine (drawRanks A c xs _ hx (by omega)).mono ?_
  rintro e w1 ⟨A1, c1, es, rfl, hlc, hl40, hE1, hT, hB1⟩
  have HS := Lib.hid hT.short
  clear hT hd
  go_wp2_with fail
  refine (implRanks A1 c1 es _ hE1 (by omega) hlc HS.out).mono ?_
  rintro e w2 ⟨v2, rfl, hF2, -, hb2⟩
  have hE2 := hE1.below hb2
  have hB2 := belowStep hb2 hB1
  have hl1 : es.length ≤ 1048576 := by omega
  clear hb2 hB1
  by_cases hr : ranksRes es = []
  · rw [hr] at hF2
    have HR := Lib.hid hr
    obtain ⟨A2, c2, rfl, -, -⟩ := hF2.ints
    clear hF2 hr
    go_wp2_with fail
    refine (specRanks A1 c1 es _ hE2 hl1 HS.out).mono ?_
    rintro e w3 ⟨v3, rfl, hF3, hb3⟩
    rw [HR.out] at hF3
    obtain ⟨A3, c3, rfl, -, -⟩ := hF3.ints
    have hB3 := belowStep hb3 hB2
    clear hF3 hb3 hB2
    go_wp2_with fail
    go_ret
    exact ⟨rfl, hB3⟩
  · have hcp : comparable es = true := by
      cases h : comparable es
      · exact absurd (by rw [ranksRes, h]; rfl) hr
      · rfl
    have hrk : ranksRes es = ranksBy lessEE es := by rw [ranksRes, hcp, if_pos rfl]
    have hlen : (ranksRes es).length = es.length := by rw [hrk, ranksBy_len]
    have hpos : 0 < es.length := by
      rcases Nat.eq_zero_or_pos es.length with h0 | h0
      · exact absurd (List.eq_nil_of_length_eq_zero (by omega)) hr
      · exact h0
    obtain ⟨A2, c2, e2, hI2, -⟩ := hF2.ints
    rw [hlen] at e2
    subst e2
    have HRK := Lib.hid hrk
    have HLEN := Lib.hid hlen
    have HCP := Lib.hid hcp
    have hz0 : ((es.length : Int) == 0) = false := beq_eq_false_iff_ne.2 (by omega)
    clear hF2 hr hrk hlen hcp
    go_wp2_with fail
    refine (specRanks A1 c1 es _ hE2 hl1 HS.out).mono ?_
    rintro e w3 ⟨v3, rfl, hF3, hb3⟩
    obtain ⟨A3, c3, e3, -, -⟩ := hF3.ints
    rw [HLEN.out] at e3
    subst e3
    have hE3 := hE2.below hb3
    have hI3 := hI2.below hb3
    have hB3 := belowStep hb3 hB2
    clear hF3 hb3 hB2 hE2 hI2
    go_wp2_with fail
    clear hz0
    go_loopw [5] (fun q wr => ∃ i : Nat, i ≤ es.length ∧ q = .int .i64 i ∧ Below w3.heap.size w3 wr) (fun q _ => es.length - (intOf q).toNat)
    case atStart => exact ⟨0, Nat.zero_le _, rfl, Below.refl _ _⟩
    case round =>
      obtain ⟨i, hi, rfl, hB⟩ := hrel
      by_cases hlt : i < es.length
      · obtain ⟨b, off, e1, Ai, ci, ys, rfl, hb, hc0, hc1, hI, hcap, HX⟩ := (hE3.below hB).at_ hlt
        have p0 : (0 : Int) ≤ (i : Int) := by omega
        have p1 : (i : Int) < (es.length : Int) := by omega
        have hxw := hE3.below hB
        have hyl : ys.length ≤ 1048576 := by have := HS.out i hlt; rw [HX.out] at this; exact this
        obtain ⟨wo, rfl⟩ : ∃ wo : World, wo = wr := ⟨_, rfl⟩
        go_wp2_with fail
        go_loopw [6, 7] (fun q j wr => ∃ (k : Nat) (x : Int), k ≤ es.length ∧ j = .int .i64 k ∧ q = .int .i64 x ∧ 1 ≤ x ∧ x ≤ 1 + (k : Int) ∧ Hid (countTo lessEE es (e1, ys) k = x) ∧ Below wo.heap.size wo wr) (fun _ j _ => es.length - (intOf j).toNat)
        case atStart => exact ⟨0, 1, Nat.zero_le _, rfl, rfl, by omega, by omega, rfl, Below.refl _ _⟩
        case round =>
          obtain ⟨k, x, hk, rfl, rfl, x0, x1, HC, hb2⟩ := hrel
          by_cases hlk : k < es.length
          · obtain ⟨b', off', e2, Ak, ck, zs, e', hb', hd0, hd1, hIk, hcapk, HZ⟩ := (hxw.below hb2).at_ hlk
            injection e' with e'
            injection e' with ee1 ee2
            subst ee1 ee2
            have q0 : (0 : Int) ≤ (k : Int) := by omega
            have q1 : (k : Int) < (es.length : Int) := by omega
            have g0 : wr.cell? ⟨b, off + i * 2, none⟩ = some (.int .i64 e1) := (hb2.cell (p := ⟨b, off + i * 2, none⟩) hb).trans hc0
            have g1 : wr.cell? ⟨b, off + i * 2 + 1, none⟩ = some (.slice Ai ys.length ci) := (hb2.cell (p := ⟨b, off + i * 2 + 1, none⟩) hb).trans hc1
            have hIy := hI.below hb2
            have hzl : zs.length ≤ 1048576 := by have := HS.out k hlk; rw [HZ.out] at this; exact this
            have HE1 := Lib.hid (entLess_cmp HCP.out hlk hlt HZ.out HX.out)
            have HE2 := Lib.hid (entLess_cmp HCP.out hlt hlk HX.out HZ.out)
            cases hs : lessE zs ys
            · have HS1 := Lib.hid hs
              clear hs
              go_wp2_with fail
              go_region_held3 (fun w' => w'.cell? ⟨b, off + i * 2, none⟩ = some (.int .i64 e1) ∧ w'.cell? ⟨b, off + i * 2 + 1, none⟩ = some (.slice Ai ys.length ci) ∧ w'.cell? ⟨b, off + k * 2, none⟩ = some (.int .i64 e2) ∧ w'.cell? ⟨b, off + k * 2 + 1, none⟩ = some (.slice Ak zs.length ck))
                (first | go_keep | exact ⟨(hb3.cell (p := ⟨b, off + i * 2, none⟩) hb').trans g0, (hb3.cell (p := ⟨b, off + i * 2 + 1, none⟩) hb').trans g1, (hb3.cell (p := ⟨b, off + k * 2, none⟩) hb').trans hd0, (hb3.cell (p := ⟨b, off + k * 2 + 1, none⟩) hb').trans hd1⟩)
                (first | (go_at_call 19; refine (implEntryLess _ _ _ _ _ _ _ _ _ _ _ (by exact hIk) (by exact hIy) rfl rfl hzl hyl).mono ?_; rintro e w3 ⟨rfl, hb3⟩; rw [HE1.out.1, HS1.out]))
              have hb4 := belowStep hb3 hb2.drew
              go_wp2_with fail
              go_roundw
              case rel => exact ⟨k + 1, _, by omega, by go_num, rfl, by omega, by omega, countTo_no HZ.out HC.out HS1.out, hb4⟩
              case measure => simp [intOf]; omega
            · have HS1 := Lib.hid hs
              have HS2 := Lib.hid (lessE_asymm HE1.out.2 hs)
              clear hs
              go_wp2_with fail
              go_region_held3 (fun w' => w'.cell? ⟨b, off + i * 2, none⟩ = some (.int .i64 e1) ∧ w'.cell? ⟨b, off + i * 2 + 1, none⟩ = some (.slice Ai ys.length ci) ∧ w'.cell? ⟨b, off + k * 2, none⟩ = some (.int .i64 e2) ∧ w'.cell? ⟨b, off + k * 2 + 1, none⟩ = some (.slice Ak zs.length ck))
                (first | go_keep | exact ⟨(hb3.cell (p := ⟨b, off + i * 2, none⟩) hb').trans g0, (hb3.cell (p := ⟨b, off + i * 2 + 1, none⟩) hb').trans g1, (hb3.cell (p := ⟨b, off + k * 2, none⟩) hb').trans hd0, (hb3.cell (p := ⟨b, off + k * 2 + 1, none⟩) hb').trans hd1⟩)
                (first | (go_at_call 19; refine (implEntryLess _ _ _ _ _ _ _ _ _ _ _ (by exact hIk) (by exact hIy) rfl rfl hzl hyl).mono ?_; rintro e w3 ⟨rfl, hb3⟩; rw [HE1.out.1, HS1.out]))
              have hb4 := belowStep hb3 hb2.drew
              have h0 := (hb4.cell (p := ⟨b, off + i * 2, none⟩) hb).trans hc0
              have h1 := (hb4.cell (p := ⟨b, off + i * 2 + 1, none⟩) hb).trans hc1
              have h2 := (hb3.cell (p := ⟨b, off + k * 2, none⟩) hb').trans hd0
              have h3 := (hb3.cell (p := ⟨b, off + k * 2 + 1, none⟩) hb').trans hd1
              have hIk4 := (show IntsAt wr.drew Ak zs from hIk).below hb3
              have hIy4 := hI.below hb4
              have hb'' := Nat.lt_of_lt_of_le hb' hb3.size
              clear g0 g1 hd0 hd1 hIk hIy hb3
              go_wp2_with fail
              go_region_held3 (fun w' => w'.cell? ⟨b, off + i * 2, none⟩ = some (.int .i64 e1) ∧ w'.cell? ⟨b, off + i * 2 + 1, none⟩ = some (.slice Ai ys.length ci) ∧ w'.cell? ⟨b, off + k * 2, none⟩ = some (.int .i64 e2) ∧ w'.cell? ⟨b, off + k * 2 + 1, none⟩ = some (.slice Ak zs.length ck))
                (first | go_keep | exact ⟨(hb5.cell (p := ⟨b, off + i * 2, none⟩) hb'').trans h0, (hb5.cell (p := ⟨b, off + i * 2 + 1, none⟩) hb'').trans h1, (hb5.cell (p := ⟨b, off + k * 2, none⟩) hb'').trans h2, (hb5.cell (p := ⟨b, off + k * 2 + 1, none⟩) hb'').trans h3⟩)
                (first | (go_at_call 19; refine (implEntryLess _ _ _ _ _ _ _ _ _ _ _ (by exact hIy4) (by exact hIk4) rfl rfl hyl hzl).mono ?_; rintro e w5 ⟨rfl, hb5⟩; rw [HE2.out.1, HS2.out]))
              have hb6 := belowStep hb5 hb4.drew
              go_wp2_with fail
              go_roundw
              case rel => exact ⟨k + 1, _, by omega, by go_num, rfl, by omega, by omega, countTo_yes HZ.out HC.out HS1.out, hb6⟩
              case measure => simp [intOf]; omega
          · obtain rfl : k = es.length := by omega
            have hB2 := belowStep hb2 hB
            obtain ⟨b2, off2, y, rfl, hb3, hc3, HY⟩ := (hI3.below hB2).at_ (k := i) (by rw [HLEN.out]; exact hlt)
            obtain rfl : y = x := by
              rw [← HY.out, ← HC.out, HRK.out, ranksBy_get _ _ hlt, HX.out]
            have hne : (y != y) = false := by simp
            clear HC
            go_wp2_with fail
            clear hne
            go_roundw
            case rel => exact ⟨i + 1, by omega, by go_num, hB2⟩
            case measure => simp [intOf]; omega
      · obtain rfl : i = es.length := by omega
        clear hlt hi
        obtain ⟨m, hm⟩ : ∃ m, es.length = m + 1 := ⟨es.length - 1, by omega⟩
        have hsub : (es.length : Int) - 1 = (m : Int) := by omega
        have htl : (es.take m).length = m := by rw [List.length_take]; omega
        have hE4 := (hE3.below hB).take m
        have hI4 := hI3.below hB
        have hB4 := belowStep hB hB3
        have HM := Lib.hid hm
        have HTL := Lib.hid htl
        have hc := implRanks A1 c1 (es.take m) wr hE4 (by rw [htl]; omega) (by rw [htl]; omega) (HS.out.take m)
        rw [htl] at hc
        have HCT := Lib.hid (comparable_take HCP.out (m := m) (by omega))
        have m0 : (0 : Int) ≤ (m : Int) := by omega
        have m1 : (m : Int) ≤ (c1 : Int) := by omega
        have m2 : m ≤ c1 := by omega
        have m3 : (m : Int) ≤ (es.length : Int) := by omega
        have HC := Lib.hid hc
        clear hm htl hc
        go_wp2_with fail
        refine HC.out.mono ?_
        rintro e w9 ⟨v9, rfl, hF9, -, hb9⟩
        have hrl9 : (ranksRes (es.take m)).length = m := by rw [ranksRes, HCT.out, if_pos rfl, ranksBy_len, HTL.out]
        have hr9 : ranksRes (es.take m) = ranksBy lessEE (es.take m) := by rw [ranksRes, HCT.out, if_pos rfl]
        obtain ⟨A9, c9, e9, hI9, -⟩ := hF9.ints
        rw [hrl9] at e9
        subst e9
        have hI5 := hI4.below hb9
        have hB5 := belowStep hb9 hB4
        have HR9 := Lib.hid hr9
        have HL9 := Lib.hid hrl9
        clear hF9 hb9 hI4 hB4 hE4 hrl9 hr9 HC hsub
        go_wp2_with fail
        go_loopw [10] (fun q wr => ∃ (k nq : Nat), k ≤ m ∧ q = .int .i64 k ∧ wr = w9.drewN nq) (fun q _ => m - (intOf q).toNat)
        case atStart => exact ⟨0, 0, Nat.zero_le _, rfl, rfl⟩
        case round =>
          obtain ⟨k, n9, hk, rfl, rfl⟩ := hrel
          by_cases hlk : k < m
          · have hke : k < es.length := by have := HM.out; omega
            obtain ⟨b2, off2, y, rfl, hb2, hc2, HY⟩ := hI5.at_ (k := k) (by rw [HLEN.out]; exact hke)
            obtain ⟨b3, off3, z, rfl, hb3, hc3, HZ⟩ := hI9.at_ (k := k) (by rw [HL9.out]; exact hlk)
            have hd := ranks_less lessEE es (by omega) (i := k) (by have := HM.out; omega)
            rw [show es.length - 1 = m from by have := HM.out; omega, ← HRK.out, ← HR9.out, HY.out, HZ.out] at hd
            have hzb : 1 ≤ z ∧ z ≤ 13 := by
              have h1 := ranksBy_get lessEE (es.take m) (i := k) (by rw [HTL.out]; exact hlk)
              rw [← HR9.out, HZ.out] at h1
              have h2 := countTo_bd lessEE (es.take m) ((es.take m).getD k (0, [])) (es.take m).length
              rw [← h1, HTL.out] at h2
              have h3 := (entsOk_parts (by have := HCT.out; rw [comparable, Bool.and_eq_true] at this; exact this.1)).1
              rw [HTL.out] at h3
              omega
            have q0 : (0 : Int) ≤ (k : Int) := by omega
            have q1 : (k : Int) < (m : Int) := by omega
            have q2 : (k : Int) < (es.length : Int) := by omega
            have pk : decide (k < m) = true := decide_eq_true hlk
            have z1 := hzb.1
            have z2 := hzb.2
            clear hzb
            rcases hd with hd | hd
            · obtain rfl : y = z := by omega
              have hw : IntKind.i64.wrap (y - y) = 0 := by rw [IntWalk.i64_in _ (by omega)]; omega
              clear hd
              go_wp2_with fail
              go_quiet (fail)
              clear hw
              go_wp2_with fail
              go_roundw
              case rel => exact ⟨k + 1, n9 + nq, by omega, by go_num, rfl⟩
              case measure => simp [intOf]; omega
            · obtain rfl : y = z + 1 := by omega
              have hw : IntKind.i64.wrap (z + 1 - z) = 1 := by rw [IntWalk.i64_in _ (by omega)]; omega
              clear hd
              go_wp2_with fail
              go_quiet (fail)
              clear hw
              go_wp2_with fail
              go_roundw
              case rel => exact ⟨k + 1, n9 + nq, by omega, by go_num, rfl⟩
              case measure => simp [intOf]; omega
          · obtain rfl : k = m := by omega
            have pk : decide (k < k) = false := decide_eq_false (by omega)
            go_wp2_with fail
            go_ret
            exact ⟨rfl, belowDrewN hB5 _⟩
theorem own : ownKnob Try.prog.godebug = none := by kernel_rfl
theorem laidOut : laidOutB Try.prog = true := by kernel_rfl
set_option maxRecDepth 100000 in
theorem lifted (os : Os) (started : os.Started) (H : Type) (enc : TypeId × Value → H) :
    ReturnsInHanded {} Try.checked os 5 .any (Rows.fnRankingSpec.pre6 enc Try.prog Try.f5 Rows.fnRankingRow.domain false) (Rows.fnRankingSpec.post enc Try.prog Try.f5 false true false false) := by
  refine returnsInHanded_of_change (C := Try.checked) own started (by kernel_rfl) Try.func5
    (ChangeSpec.witness6 (enc := enc) (C := Try.checked) false ⟨#[], #[.slice none 0 0], []⟩ 8 (by kernel_rfl) (by kernel_rfl) (by kernel_rfl) (by kernel_rfl)) ?_
  intro W base args ds gs before hval0 hW hcnd _
  have hval : ∀ (j : Nat) t v, Try.f5.params[j]? = some t → args[j]? = some v → Value.okWide Try.prog W .any base t v := hval0
  have hW' := hW
  obtain ⟨p, q, hA0, hV, rfl, hfz, hnd⟩ := hW
  have hA : DataW.TrodAll enc Try.prog W 0 (fun _ => true) true Try.f5.params.toList args.toList ds p := hA0
  rw [Try.params5] at hA hval
  obtain ⟨v0, vs0, d0, ds0, p0, q0, hargs, rfl, rfl, h0, r0⟩ := trodAll_cons hA
  obtain ⟨rfl, rfl, rfl⟩ := trodAll_nil r0
  obtain rfl : args = #[v0] := by cases args; simp_all
  obtain ⟨rfl, rfl⟩ := trodVars_none hV
  have lt0 : ∀ x ∈ p0, x.block < W.heap.size := by obtain ⟨m, hm⟩ := h0; exact DataW.trod_lt m _ _ _ hm
  obtain ⟨A0, c0, x0, rfl, i0, m0⟩ := arg_bytes (hval 0 22 v0 rfl rfl) h0
  clear hA0 hval0
  refine (walk A0 c0 x0 W i0 m0).mono fun e W' ⟨he, bel⟩ => ?_
  subst he
  exact ⟨_, rfl, _, _, _, [], _, [], hW', trodAll_mk1 (shut_bool Try.underlying4 _), (trodAll_cons_mk (Below.trod laidOut (by kernel_rfl) (of_decide_eq_true (by kernel_rfl)) h0 bel lt0) trodAll_mk0), rfl, bel.frame _, fun h => by cases h⟩
theorem fact_wf : Rows.fnRankingRow.wf (OpenSpec.ofChange Rows.fnRankingSpec) = true := by kernel_rfl
theorem fact_pars : Try.f5.params.all (Try.prog.readableRec ·) = true := by kernel_rfl
theorem fact_tie : namedTie Try.prog Rows.fnRankingRow.named Rows.fnRankingSpec.vars = true := by kernel_rfl
theorem fact_st : (Rows.fnRankingRow.stops == []) = true := by kernel_rfl
theorem fact_kn : (Rows.fnRankingRow.knobs == []) = true := by kernel_rfl
theorem fact_inp : (Rows.fnRankingRow.inPlace == Try.prog.inPlace 5) = true := by kernel_rfl
theorem fact_unf : (Rows.fnRankingRow.unfollowed == Try.prog.unfollowed 5) = true := by kernel_rfl
theorem fact_rec : (Rows.fnRankingRow.recurses == Try.prog.recurses 5) = true := by kernel_rfl
theorem fact_nam : (Rows.fnRankingRow.named == Try.prog.varsNamed 5) = true := by kernel_rfl
theorem fact_mp : (Rows.fnRankingRow.maps == (Try.f5.params.toList ++ Rows.fnRankingSpec.plain.varTypes Try.prog).any (Try.prog.mapsRec ·)) = true := by kernel_rfl
theorem fact_ifc : (Rows.fnRankingRow.ifaces == (Try.f5.params.toList ++ Rows.fnRankingSpec.plain.varTypes Try.prog).any (Try.prog.ifacesRec ·)) = true := by kernel_rfl
theorem fact_mo : (Rows.fnRankingRow.mapsOut == Try.prog.mapsAmong Try.f5.resultTypes.toList) = true := by kernel_rfl
theorem fact_lo : (Rows.fnRankingRow.loops == (Try.f5.params.toList ++ Rows.fnRankingSpec.plain.varTypes Try.prog).any (Try.prog.loopsFrom ·)) = true := by kernel_rfl
theorem fact_wk : (Rows.fnRankingRow.wideKeys == (Try.f5.params.toList ++ Rows.fnRankingSpec.plain.varTypes Try.prog ++ Try.f5.resultTypes.toList).any (Try.prog.wideKeysFrom ·)) = true := by kernel_rfl
theorem fact_vs : Rows.fnRankingSpec.vars.all (Try.prog.varReadable ·) = true := by kernel_rfl
theorem fact_res : Try.f5.resultTypes.all (fun t => Try.prog.readableRec t && decide (t < Try.prog.types.size)) = true := by kernel_rfl
theorem fact_io : (Rows.fnRankingRow.ifacesOut == Try.f5.resultTypes.toList.any (Try.prog.ifacesRec ·)) = true := by kernel_rfl
theorem fact_loo : (Rows.fnRankingRow.loopsOut == Try.f5.resultTypes.toList.any (Try.prog.loopsFrom ·)) = true := by kernel_rfl
theorem fact_pk : (Rows.fnRankingRow.plainKeys == Try.prog.plainKeys) = true := by kernel_rfl
theorem fact_sh : Rows.fnRankingRow.shortTexts.isNone = true := by kernel_rfl
theorem fact_li : (Rows.fnRankingRow.lifted == Try.prog.liftsFinal) = true := by rw [fact_finals]; rfl
theorem fact_mk : (Try.prog.make == some Rows.fnRankingRow.make) = true := by rw [fact_make]; rfl
theorem fact_kd : (Rows.fnRankingRow.kinds == (if Rows.fnRankingRow.domain.isEmpty then [] else Try.f5.params.toList.map fun t => match Try.prog.underlying t with | some (.int k) => some k | _ => none)) = true := by kernel_rfl
theorem fact_pi : (Rows.fnRankingRow.pinned == Rows.fnRankingRow.pinnedBy) = true := by kernel_rfl
theorem fact_ve : (Rows.fnRankingRow.veiled == (Try.f5.params.toList ++ Rows.fnRankingSpec.plain.varTypes Try.prog ++ Try.f5.resultTypes.toList).any (Try.prog.veiledRec ·)) = true := by kernel_rfl
theorem fact_vf : Rows.fnRankingRow.veiledFits Try.prog Try.f5.params.toList (Try.f5.params.toList ++ Rows.fnRankingSpec.plain.varTypes Try.prog ++ Try.f5.resultTypes.toList) = true := by kernel_rfl
set_option maxRecDepth 100000 in
theorem facts : joinedFacts Try.prog 5 Try.f5 Rows.fnRankingSpec Rows.fnRankingRow = true := facts_of fact_wf fact_laid fact_rowed fact_pars fact_tie fact_st fact_pst fact_kn fact_pkn fact_inp fact_unf fact_rec fact_nam fact_mp fact_ifc fact_mo fact_lo fact_wk fact_vs fact_res fact_io fact_loo fact_pk fact_sh fact_hd fact_me fact_li fact_mk fact_kd fact_pi fact_ve fact_vf
theorem fact_fn : Try.prog.funcNamed Rows.fnRankingRow.func = some 5 := by kernel_rfl
theorem fact_inst : Try.f5.isInstance Try.prog Rows.fnRankingRow.origin Rows.fnRankingRow.targs := of_decide_eq_true (by kernel_rfl)
theorem fact_wrap : Try.f5.isWrapper Try.prog Rows.fnRankingRow.wrapper Rows.fnRankingRow.mainSum := by unfold Func.isWrapper; first | (rw [if_pos (by decide +kernel)]; kernel_rfl) | (rw [if_neg (by decide +kernel)]; exact ⟨rfl, rfl⟩)
theorem over : Rows.fnRankingRow.holds Try.pinned (OpenSpec.ofChange Rows.fnRankingSpec) :=
  OpenClaim.holds_of_wide 5 Try.f5 rfl rfl rfl rfl rfl rfl rfl ⟨rfl, rfl, rfl, rfl, rfl⟩ rfl rfl rfl rfl rfl fact_fn Try.func5 facts fact_inst fact_wrap
    (fun os started H enc _ => lifted os started H enc)
theorem proved : Rows.FnRankingSaid := over
#print axioms proved
end Go.Proofs.Ytejacbgogcjbnaa.lawRanking
