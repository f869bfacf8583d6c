/- MemberAt and FirstNonIdentity at the reference. Conditions: as each contract says. -/
import Derived.Test.YtpcnbjfkobeibaaSo
import Derived.Test.YtpcnbjfkobeibaaWn
namespace Go.Proofs.Ytpcnbjfkobeibaa
open Go.RowKit Grp

/-- The member of a rank, for all numbers. -/
def atO (n : Nat) (T : Tab) (k : Int) : Option (List Nat) := if 0 ≤ k ∧ k < (ordG n T 0 : Int) then atR n T k.toNat else none
theorem atO_yes {n : Nat} {T : Tab} {k : Nat} (h : k < ordG n T 0) : atO n T (k : Int) = atR n T k := by
  unfold atO
  rw [if_pos ⟨by omega, by omega⟩]
  rfl
theorem atO_no {n : Nat} {T : Tab} {k : Int} (h : ¬ (0 ≤ k ∧ k < (ordG n T 0 : Int))) : atO n T k = none := by unfold atO; rw [if_neg h]
theorem atO_eq {n : Nat} {T T' : Tab} {G : List Nat → Prop} (hc : Chain n T 0 G) (hc' : Chain n T' 0 G) (k : Int) : atO n T k = atO n T' k := by
  unfold atO
  rw [ordG_eq hc hc' (Nat.zero_le _), atR_eq hc hc']
theorem atO_len {n : Nat} {T : Tab} {G : List Nat → Prop} (hc : Chain n T 0 G) (hn : n ≤ 20) (k : Int) : ((atO n T k).getD []).length ≤ 20 := by
  by_cases h : 0 ≤ k ∧ k < (ordG n T 0 : Int)
  · obtain ⟨m, rfl⟩ := Int.eq_ofNat_of_zero_le h.1
    have hm : m < ordG n T 0 := by omega
    rw [atO_yes hm]
    obtain ⟨u, hu, hp⟩ := atR_some hc hm
    rw [hu]
    simp only [Option.getD_some]
    rw [hp.len]
    exact hn
  · rw [atO_no h]; exact Nat.zero_le _
noncomputable def atQ (n : Int) (ls : List (List Int)) (k : Int) : Option (List Nat) := if gsQ n ls then atO n.toNat (tQ n ls) k else none
theorem atQ_no {n : Int} {ls : List (List Int)} {k : Int} (h : gsQ n ls = false) : atQ n ls k = none := by unfold atQ; rw [h]; rfl
theorem atQ_yes {N : Nat} {ps : List (List Nat)} {k : Int} (h : gsQ (N : Int) (ps.map natI) = true) : atQ (N : Int) (ps.map natI) k = atO N (gT N ps) k := by
  unfold atQ
  rw [h, tQ_eq]
  rfl
theorem atQ_len (n : Int) (ls : List (List Int)) (k : Int) : ((atQ n ls k).getD []).length ≤ 20 := by
  cases h : gsQ n ls with
  | false => rw [atQ_no h]; exact Nat.zero_le _
  | true =>
    obtain ⟨N, ps, rfl, h0, hN, rfl, -, hP⟩ := gsOpen h
    rw [atQ_yes h]
    exact atO_len (gT_chain hP) hN k
/-- One level of the way to a rank: the value, and what remains. -/
theorem at_step {n : Nat} {T : Tab} {G : List Nat → Prop} (hc : Chain n T 0 G) {i : Nat} (hi : i < n) {u : List Nat} (hu : IsP n u) {k : Nat} (hk : k < ordG n T i) :
    ∃ q v, k / ordG n T (i + 1) = q ∧ q < (vals n T i u).length ∧ app (vals n T i u) q = v ∧ v ∈ vals n T i u ∧ actAt n T i (vals n T i u) k = (k % ordG n T (i + 1), some v) ∧ k % ordG n T (i + 1) < ordG n T (i + 1) := by
  have hpos : 0 < ordG n T (i + 1) := (ordF_le hc (n - (i + 1)) (i + 1) (by omega)).1
  rw [ordG_step hi] at hk
  have hq : k / ordG n T (i + 1) < (vals n T i u).length := by rw [vals_length hu]; exact Nat.div_lt_of_lt_mul (by rw [Nat.mul_comm]; exact hk)
  have he := List.getElem?_eq_getElem hq
  refine ⟨_, (vals n T i u)[k / ordG n T (i + 1)], rfl, hq, ?_, List.getElem_mem hq, ?_, Nat.mod_lt _ hpos⟩
  · unfold app
    rw [List.getD_eq_getElem?_getD, he]
    rfl
  · unfold actAt
    rw [he]
set_option maxRecDepth 100000 in
set_option maxHeartbeats 8000000 in
theorem specAt (n : Int) (g c : Nat) (ls : List (List Int)) (k : Int) (w : World) (h : LOwn w g ls) (hl : ls.length ≤ 1048576) (hs : ShortL ls) :
    Calls Try.prog 60 #[.int .i64 n, .slice (some ⟨g, 0, none⟩) ls.length c, .int .i64 k] w (ReadsOpt (atQ n ls k) w) := by
  have hg0 := specGs (some ⟨g, 0, none⟩) c n ls w h.at_ hl hs
  cases hgs : gsQ n ls with
  | false =>
    rw [atQ_no hgs]
    rw [hgs] at hg0
    have HG0 := Lib.hid hg0
    clear hg0 hgs hs
    go_enter Try.func60, Try.ntmps60
    go_wp2_with (first | (go_at_call 53; refine HG0.out.mono ?_; rintro e w1 ⟨rfl, n1, rfl⟩))
    exact bodyPost_ret (v := .tuple #[.slice (some ⟨w.heap.size, 0, none⟩) 0 0, .bool false]) (by simp [results, Try.results60, go_sem]) rfl ⟨_, rfl, Fresh.empty (Nat.le_refl _), (belowDrewN (Below.refl _ _) _).alloc (Nat.le_refl _) _⟩
  | true =>
    rw [hgs] at hg0
    obtain ⟨N, ps, rfl, h0, hN, rfl, h8, hP⟩ := gsOpen hgs
    rw [atQ_yes hgs]
    have hm : (ps.map natI).length = ps.length := List.length_map ..
    rw [hm] at hg0
    rw [hm]
    obtain ⟨O, hO⟩ : ∃ O, ordG N (gT N ps) 0 = O := ⟨_, rfl⟩
    have hob := ordG_bound (gT_chain hP) hN (Nat.zero_le _)
    rw [hO] at hob
    have q0 : IntKind.i64.wrap ((O : Int) - 1) = (O : Int) - 1 := IntWalk.i64_in _ (by omega)
    have q0' : wrap64 ((O : Int) - 1) = (O : Int) - 1 := by unfold wrap64; omega
    have HG0 := Lib.hid hg0
    have HL := Lib.hid h
    have HP := Lib.hid hP
    have HOG := Lib.hid hO
    by_cases hk : 0 ≤ k ∧ k < (O : Int)
    · obtain ⟨m, rfl⟩ := Int.eq_ofNat_of_zero_le hk.1
      have hmO : m < O := by omega
      have hin : inR (m : Int) 0 ((O : Int) - 1) = true := inR_iff.2 ⟨by omega, by omega⟩
      have HIN : Hid (∀ wx : World, Calls Try.prog 108 #[.int .i64 (m : Int), .int .i64 0, .int .i64 ((O : Int) - 1)] wx fun e w' => e = .returned (.bool true) ∧ wx = w') := fun wx => by have := inRange_any (m : Int) 0 ((O : Int) - 1) wx; rwa [hin] at this
      rw [atO_yes (by rw [hO]; exact hmO)]
      obtain ⟨R, hR⟩ : ∃ R, walkG N (gT N ps) (actAt N (gT N ps)) N 0 (idp N) m = R := ⟨_, rfl⟩
      have hRR : atR N (gT N ps) m = R.2 := by unfold atR; rw [hR]
      rw [hRR]
      have HR := Lib.hid hR
      clear hg0 hgs hs h hP hm hO hin hk hR hRR
      go_enter Try.func60, Try.ntmps60
      go_wp2_with (first
        | (go_at_call 53; refine HG0.out.mono ?_; rintro e w1 ⟨rfl, n1, rfl⟩)
        | (go_at_call 71; refine (newS N ps g ps.length c _ (by exact HL.out.below (belowDrewN (Below.refl _ _) _)) rfl HP.out h0 hN h8).mono ?_; rintro e w2 ⟨C, T, rfl, hC, hc, hone, hb2⟩
            ; have HC := Lib.hid hC; have HCH := Lib.hid hc; have hB2 := belowStep hb2 (belowDrewN (Below.refl w.heap.size w) _); clear hC hc hone hb2
            ; have HOR : Hid (ordG N T 0 = O) := (by unfold Hid; rw [ordG_eq HCH.out (gT_chain HP.out) (Nat.zero_le _), HOG.out]))
        | (go_at_call 110; refine (specOrder C N T _ HC.out HCH.out hN).mono ?_; rw [HOR.out]; rintro e w3 ⟨rfl, hb3⟩; have hB3 := belowStep hb3 hB2; have HC3 := Lib.hid (HC.out.below hb3))
        | (go_at_call 108; refine (HIN.out _).mono ?_; rintro e w' ⟨rfl, rfl⟩)
        | (go_at_call 120; refine (specPer C N T _ HC3.out HCH.out hN).mono ?_; rintro e w4 ⟨g4, ys, rfl, hg4, hg4l, hI4, hl4, hPF, hb4⟩
            ; have hB4 := belowStep hb4 hB3; have HC4 := Lib.hid (HC3.out.below hb4); have HI4 := Lib.hid hI4; have HL4 := Lib.hid hl4; have HPF := Lib.hid hPF; clear hI4 hl4 hPF)
        | (go_at_call 79; refine (specIdentity N _ (by omega)).mono ?_; rintro e w5 ⟨v5, rfl, hF5, hb5⟩; have HV5 := Lib.hid (hF5.perm (ok := fun _ => True) idp_len h0 (fun _ _ _ => trivial)); have hB5 := belowStep hb5 hB4; have HC5 := Lib.hid (HC4.out.below hb5); have HI5 := Lib.hid (HI4.out.below hb5); clear hF5))
      have HWK0 : Hid (Wk N T (actAt N T) 0 (idp N) m R) := by
        show walkG N T (actAt N T) N 0 (idp N) m = R
        rw [act_same HCH.out (gT_chain HP.out) N 0 _ _ (by omega), walk_eq HCH.out (gT_chain HP.out) (actAt N (gT N ps)) N 0 (idp N) (idp N) m (by omega) IsP.idp IsP.idp (Sim.refl HCH.out.1 (Nat.zero_le _) IsP.idp)]
        exact HR.out
      have hz5 := hB5.size
      clear HG0 HL HR HOG HIN HC HC3 HC4 HI4 q0 q0'
      go_loopw [2, 10, 11] (fun z y j wr => ∃ (i k : Nat) (u : List Nat), i ≤ N ∧ j = .int .i64 (i : Int) ∧ z = .int .i64 (k : Int) ∧ Hid (PermV (fun _ => True) wr y N u) ∧ Hid (IsP N u) ∧ Hid (Wk N T (actAt N T) i u k R) ∧ k < ordG N T i ∧ Below w5.heap.size w5 wr ∧ Hid (0 < i → Fresh w.heap.size wr y (natI u))) (fun _ _ j _ => N - (intOf j).toNat)
      case atStart => exact ⟨0, m, idp N, Nat.zero_le _, rfl, rfl, HV5, IsP.idp, HWK0, by rw [HOR.out]; exact hmO, Below.refl _ _, fun h => absurd h (Nat.lt_irrefl _)⟩
      case round =>
        obtain ⟨i, k, u, hi, rfl, rfl, HV, HU, HWK, hkO, hB, HF⟩ := hrel
        clear HV5 HWK0
        have HCr := Lib.hid (HC5.out.below hB)
        have hBz := hB.size
        by_cases hlt : i < N
        · obtain ⟨gu, cu, rfl, -, -⟩ := HV.out.ints
          obtain ⟨b2, off2, e2, hbl2, hc2⟩ := (HI5.out.below hB) i (by rw [HL4.out]; exact hlt)
          injection e2 with e2
          injection e2 with e3 e4
          subst e3 e4
          rw [HPF.out i (Nat.zero_le _) hlt, Nat.zero_add] at hc2
          obtain ⟨q, v, hq, hql, hqv, hv, hact, hrem⟩ := at_step HCH.out hlt HU.out hkO
          obtain ⟨Oi, hOi⟩ : ∃ Oi, ordG N T (i + 1) = Oi := ⟨_, rfl⟩
          have hOp := ordG_bound HCH.out hN (show i + 1 ≤ N by omega)
          rw [hOi] at hc2 hq hact hrem hOp
          have hkb := ordG_bound HCH.out hN hi
          have HWK5 : Hid (Wk N T (actAt N T) (i + 1) (Grp.step T i u v) (k % Oi) R) := HWK.out.go hlt hact hv
          have HU5 : Hid (IsP N (Grp.step T i u v)) := step_isP HCH.out hlt HU.out hv
          have HREM : Hid (k % Oi < ordG N T (i + 1)) := by unfold Hid; rw [hOi]; exact hrem
          have hst := fun (wx : World) (hb : Below wr.heap.size wr wx) => specStep (HCr.out.below hb) HCH.out hN (HV.out.below hb) HU.out hlt hv
          have HST := Lib.hid hst
          obtain ⟨V, hV⟩ : ∃ V, vals N T i u = V := ⟨_, rfl⟩
          have hcv := specVals HCr.out hN HV.out HU.out hlt
          rw [hV] at hcv hql hqv
          have HCV := Lib.hid hcv
          have HQV := Lib.hid hqv
          have HQL := Lib.hid hql
          have d1 : (k : Int).tdiv (Oi : Int) = (q : Int) := by rw [Int.tdiv_eq_ediv_of_nonneg (by omega), ← Int.natCast_ediv, hq]
          have d2 : (k : Int).tmod (Oi : Int) = ((k % Oi : Nat) : Int) := by rw [IntWalk.rem_in _ _ (by omega), ← Int.natCast_emod]
          have d3 : ¬ (Oi : Int) = 0 := by omega
          have d4 : ¬ Oi = 0 := by omega
          have d5 : ((Oi : Int) == 0) = false := by simpa using d4
          have hkb2 : k < 2432902008176640000 := Nat.lt_of_lt_of_le hkO hkb.2
          have hvl : V.length ≤ 20 := by rw [← hV, vals_length HU.out]; have := orb_le HCH.out hlt; omega
          have p0 : (0 : Int) ≤ (i : Int) := by omega
          have p1 : (i : Int) < (N : Int) := by omega
          have p2 : (0 : Int) ≤ (q : Int) := by omega
          have p3 : (q : Int) < (V.length : Int) := by omega
          have d6 : wrap64 (q : Int) = (q : Int) := by unfold wrap64; omega
          clear hV hcv hqv hql hv hact hrem hst hOi hq hkO hkb
          go_wp2_with (first
            | (go_at_call 81; refine HCV.out.mono ?_; rintro e w6 ⟨v6, rfl, ⟨g6, c6, rfl, hlc6, -, -, hI6⟩, hb6⟩
                ; obtain ⟨b6, off6, e6, hbl6, hc6⟩ := perm_at hI6 (i := q) HQL.out
                ; injection e6 with e6
                ; injection e6 with e7 e8
                ; subst e7 e8
                ; rw [HQV.out, Nat.zero_add] at hc6
                ; have hc26 : w6.cell? ⟨g4, i, none⟩ = some (.int .i64 (Oi : Int)) := (hb6.cell (p := ⟨g4, i, none⟩) hbl2).trans hc2
                ; clear hI6)
            | (go_at_call 82; refine (HST.out _ (by exact hb6)).mono ?_; rintro e w7 ⟨v7, rfl, hF7, hb7⟩
                ; have HV7 := Lib.hid (hF7.perm (ok := fun _ => True) HU5.out.len h0 (fun _ _ _ => trivial))
                ; have hb6z := hb6.size
                ; have HF7 := Lib.hid (hF7.mono (B' := w.heap.size) (by omega))
                ; have hB7 : Below w5.heap.size w5 w7 := belowStep hb7 (belowStep hb6 hB)
                ; have hc27 : w7.cell? ⟨g4, i, none⟩ = some (.int .i64 (Oi : Int)) := (hb7.cell (p := ⟨g4, i, none⟩) (World.block_lt_of_cell? _ _ hc26)).trans hc26
                ; clear hF7 hb7))
          go_roundw
          case rel => exact ⟨i + 1, k % Oi, _, by omega, by go_num, by first | rfl | rw [d2], HV7, HU5, HWK5, HREM.out, hB7, fun _ => HF7.out⟩
          case measure => simp [intOf]; omega
        · obtain rfl : i = N := by omega
          have HE : Hid (R.2 = some u) := by unfold Hid; rw [HWK.out.end_]
          have hF := HF.out h0
          obtain ⟨A9, c9, rfl, -, -⟩ := hF.ints
          have HFF : Hid (Fresh w.heap.size wr (.slice A9 (natI u).length c9) (natI (R.2.getD []))) := by unfold Hid; rw [HE.out]; exact hF
          have HES : Hid (R.2.isSome = true) := by unfold Hid; rw [HE.out]; rfl
          clear hF
          go_wp2_with fail
          exact bodyPost_ret (v := .tuple #[.slice A9 (natI u).length c9, .bool true]) (by simp [results, Try.results60, go_sem]) rfl ⟨_, by rw [HES.out], HFF.out, belowStep hB hB5⟩
    · have hin : inR k 0 ((O : Int) - 1) = false := inR_no.2 (by omega)
      have HIN : Hid (∀ wx : World, Calls Try.prog 108 #[.int .i64 k, .int .i64 0, .int .i64 ((O : Int) - 1)] wx fun e w' => e = .returned (.bool false) ∧ wx = w') := fun wx => by have := inRange_any k 0 ((O : Int) - 1) wx; rwa [hin] at this
      rw [atO_no (by rw [hO]; exact hk)]
      clear hg0 hgs hs h hP hm hO hin hk
      go_enter Try.func60, Try.ntmps60
      go_wp2_with (first
        | (go_at_call 53; refine HG0.out.mono ?_; rintro e w1 ⟨rfl, n1, rfl⟩)
        | (go_at_call 71; refine (newS N ps g ps.length c _ (by exact HL.out.below (belowDrewN (Below.refl _ _) _)) rfl HP.out h0 hN h8).mono ?_; rintro e w2 ⟨C, T, rfl, hC, hc, hone, hb2⟩
            ; have HC := Lib.hid hC; have HCH := Lib.hid hc; have hB2 := belowStep hb2 (belowDrewN (Below.refl w.heap.size w) _); clear hC hc hone hb2
            ; have HOR : Hid (ordG N T 0 = O) := (by unfold Hid; rw [ordG_eq HCH.out (gT_chain HP.out) (Nat.zero_le _), HOG.out]))
        | (go_at_call 110; refine (specOrder C N T _ HC.out HCH.out hN).mono ?_; rw [HOR.out]; rintro e w3 ⟨rfl, hb3⟩; have hB3 := belowStep hb3 hB2)
        | (go_at_call 108; refine (HIN.out _).mono ?_; rintro e w' ⟨rfl, rfl⟩))
      have hz3 := hB3.size
      exact bodyPost_ret (v := .tuple #[.slice (some ⟨w3.heap.size, 0, none⟩) 0 0, .bool false]) (by simp [results, Try.results60, go_sem]) rfl ⟨_, rfl, (Fresh.empty (Nat.le_refl w3.heap.size)).mono hz3, hB3.alloc hz3 _⟩
end Go.Proofs.Ytpcnbjfkobeibaa
