/- RandomMember at both packages. Conditions: as each contract says. -/
import Derived.Test.YtpcnbjfkobeibaaAi
namespace Go.Proofs.Ytpcnbjfkobeibaa
open Go.RowKit Grp

/-! A store into a block of another type. -/
section
variable {ok : Nat → Prop} {q p : Nat} {cs : Array Value} {t : TypeId} {z : Nat × Nat} {v : Value}
theorem gSetC (w : World) (q p : Nat) (v : Value) : w.grownBy (w.setCell ⟨q, p, none⟩ v) (some q) := ⟨rfl, rfl, rfl, by simp, fun k _ hne => heap_setCell_other w ⟨q, p, none⟩ k _ (fun e => hne (by rw [e]))⟩
theorem neOfType {w : World} {H : Nat} {ds : Array Value} {t' : TypeId} {y : Nat × Nat} (h : w.heap[H]? = some (.cells ds t' y)) (hq : w.heap[q]? = some (.cells cs t z)) (ht : t' ≠ t) : H ≠ q := by
  rintro rfl
  rw [h] at hq
  simp at hq
  exact ht hq.2.1
theorem Body.setOther {B n : Nat} {w : World} {s : Sh} {T : Tab} {Gs : Nat → List (List Nat)} (h : Body ok B n w s T Gs) (hq : w.heap[q]? = some (.cells cs t z)) (h1 : t ≠ 2) (h2 : t ≠ 23) (h3 : t ≠ 22) : Body ok B n (w.setCell ⟨q, p, none⟩ v) s T Gs := by
  have hk : KeepI ok w (w.setCell ⟨q, p, none⟩ v) := KeepI.set v hq h1
  refine ⟨?_, fun i hi => ?_, ?_, h.inj, h.ne, h.B1, h.B2, h.B3⟩
  · obtain ⟨rs, a, b⟩ := h.rb
    exact ⟨rs, rowS a (neOfType a hq h3.symm), b⟩
  · obtain ⟨ds, a, b⟩ := h.row i hi
    refine ⟨ds, rowS a (neOfType a hq h2.symm), fun y hy => ?_⟩
    obtain ⟨u, c, d⟩ := b y hy
    exact ⟨u, c, d.keep hk⟩
  · obtain ⟨gs, a, b⟩ := h.gb
    refine ⟨gs, rowS a (neOfType a hq h3.symm), fun i hi => ?_⟩
    obtain ⟨u, c, d, e⟩ := b i hi
    refine ⟨u, c, d.kept (gSetC w q p v) hk (fun b' hb' e' => ?_), e⟩
    injection e' with e'
    subst e'
    obtain ⟨ds, hd⟩ := d.block hb'
    exact neOfType hd hq h2.symm rfl
theorem CI.setOther {w : World} {C n : Nat} {T : Tab} (h : CI w C n T) (hq : w.heap[q]? = some (.cells cs t z)) (h1 : t ≠ 2) (h2 : t ≠ 23) (h3 : t ≠ 22) (h4 : t ≠ 81) : CI (w.setCell ⟨q, p, none⟩ v) C n T := by
  obtain ⟨B, s, Gs, a, b⟩ := h
  exact ⟨B, s, Gs, rowS a (neOfType a hq h4.symm), b.setOther hq h1 h2 h3⟩
theorem WalkAt.setOther {w : World} {W C n i : Nat} {u : List Nat} (h : WalkAt w W C n i u) (hq : w.heap[q]? = some (.cells cs t z)) (h1 : t ≠ 2) (h2 : t ≠ 72) : WalkAt (w.setCell ⟨q, p, none⟩ v) W C n i u := by
  obtain ⟨A, c, a, b⟩ := h
  exact ⟨A, c, rowS a (neOfType a hq h2.symm), b.keep (KeepI.set v hq h1)⟩
theorem Below.setBoth {B : Nat} {a w : World} (h : Below B a w) (hq : a.heap[q]? = some (.cells cs t (0, 0))) (hqB : q < B) : Below B (a.setCell ⟨q, p, none⟩ v) (w.setCell ⟨q, p, none⟩ v) := by
  refine ⟨h.os, h.tape, h.output, by simpa using h.size, fun k hk => ?_⟩
  by_cases e : k = q
  · subst e
    rw [heap_setCell_same a k p _ _ _ hq, heap_setCell_same w k p _ _ _ ((h.block k hk).trans hq)]
  · rw [heap_setCell_other a ⟨q, p, none⟩ k _ e, heap_setCell_other w ⟨q, p, none⟩ k _ e, h.block k hk]
end
theorem nextRnd_lt (s : Nat) : nextRnd s < 999999937 := Nat.mod_lt _ (by decide)
theorem nextRnd_arith {s : Nat} (h : s < 999999937) : wrap64 (48271 * (s : Int)) = 48271 * (s : Int) ∧ wrap64 ((s : Int) * 48271) = 48271 * (s : Int) ∧ wrap64 (48271 * (s : Int) + 11) = 48271 * (s : Int) + 11 ∧ (48271 * (s : Int) + 11).tmod 999999937 = (nextRnd s : Int) := by
  refine ⟨by unfold wrap64; omega, by unfold wrap64; omega, by unfold wrap64; omega, ?_⟩
  rw [IntWalk.rem_in _ _ (by omega)]
  unfold nextRnd
  omega
def GenAtI (w : World) (q s : Nat) : Prop := w.heap[q]? = some (.cells #[.int .i64 (s : Int)] 124 (0, 0))
set_option maxRecDepth 3000 in
set_option maxHeartbeats 1000000 in
theorem implDraw (q s : Nat) (w : World) (hq : GenAtI w q s) (hs : s < 999999937) :
    Calls Try.prog 119 #[.pointer (some ⟨q, 0, none⟩)] w fun e w' => e = .returned (.int .i64 (nextRnd s : Int)) ∧ ∃ n, w' = (w.setCell ⟨q, 0, none⟩ (.int .i64 (nextRnd s : Int))).drewN n := by
  have c0 : w.cell? ⟨q, 0, none⟩ = some (.int .i64 (s : Int)) := cell_of_row w q 0 _ _ (0, 0) hq
  have f0 : w.frozen? ⟨q, 0, none⟩ = false := row_free hq
  have c1 : ∀ v, (w.setCell ⟨q, 0, none⟩ v).cell? ⟨q, 0, none⟩ = some v := fun v => cell_of_row _ q 0 _ _ (0, 0) (heap_setCell_same w q 0 _ _ v hq)
  obtain ⟨r, hr⟩ : ∃ r, nextRnd s = r := ⟨_, rfl⟩
  obtain ⟨a1, -, a3, a4⟩ := nextRnd_arith hs
  rw [hr] at a4
  rw [hr]
  have hrl : r < 999999937 := by rw [← hr]; exact nextRnd_lt s
  have a5 : wrap64 (r : Int) = (r : Int) := by unfold wrap64; omega
  clear hq hr
  go_enter Try.func119, Try.ntmps119
  go_wp2_with fail
  go_ret
  exact ⟨rfl, 0, rfl⟩
/-- The first state. -/
def seedOf (x : Int) : Nat := (x % 999999937).toNat
theorem seedOf_lt (x : Int) : seedOf x < 999999937 := by unfold seedOf; omega
theorem seedOf_int (x : Int) : ((seedOf x : Nat) : Int) = x % 999999937 := by unfold seedOf; omega
theorem seed_cases (x : Int) : (0 ≤ x.tmod 999999937 ∧ x.tmod 999999937 = (seedOf x : Int)) ∨ (x.tmod 999999937 < 0 ∧ x.tmod 999999937 + 999999937 = (seedOf x : Int)) := by
  rw [seedOf_int, Int.tmod_eq_emod]
  split
  · left; omega
  · right
    have : (Int.natAbs 999999937 : Int) = 999999937 := rfl
    omega
def NewGenPost (s : Nat) (w : World) (e : Ending) (w' : World) : Prop := ∃ q, e = .returned (.pointer (some ⟨q, 0, none⟩)) ∧ w.heap.size ≤ q ∧ q < w'.heap.size ∧ GenAtI w' q s ∧ Below w.heap.size w w'
set_option maxRecDepth 3000 in
set_option maxHeartbeats 1000000 in
theorem implNewGen (x : Int) (w : World) : Calls Try.prog 117 #[.int .i64 x] w (NewGenPost (seedOf x) w) := by
  have hl := seedOf_lt x
  obtain ⟨s, hs⟩ : ∃ s, seedOf x = s := ⟨_, rfl⟩
  obtain ⟨r, hr⟩ : ∃ r, x.tmod 999999937 = r := ⟨_, rfl⟩
  have hc := seed_cases x
  rw [hs, hr] at hc
  rw [hs] at hl
  rw [hs]
  clear hs
  rcases hc with ⟨h1, rfl⟩ | ⟨h1, h2⟩
  · have a1 : wrap64 (s : Int) = (s : Int) := by unfold wrap64; omega
    have a2 : ¬ (s : Int) < 0 := by omega
    go_enter Try.func117, Try.ntmps117
    go_wp2_with fail
    go_ret
    exact ⟨w.heap.size, rfl, Nat.le_refl _, by simp, heap_alloc_new _ _, (by repeat (first | exact Below.refl _ _ | assumption | refine Below.setCell ?_ (by first | omega | (simp <;> omega)) _ | refine Below.alloc ?_ (by first | omega | (simp <;> omega)) _ | refine Below.drew ?_))⟩
  · have a1 : wrap64 r = r := by unfold wrap64; omega
    have a2 : wrap64 (r + 999999937) = (s : Int) := by unfold wrap64; omega
    go_enter Try.func117, Try.ntmps117
    go_wp2_with fail
    go_ret
    exact ⟨w.heap.size, rfl, Nat.le_refl _, by simp, heap_alloc_new _ _, (by repeat (first | exact Below.refl _ _ | assumption | refine Below.setCell ?_ (by first | omega | (simp <;> omega)) _ | refine Below.alloc ?_ (by first | omega | (simp <;> omega)) _ | refine Below.drew ?_))⟩
theorem specFirst (x : Int) (w : World) : Calls Try.prog 115 #[.int .i64 x] w fun e w' => e = .returned (.int .i64 (seedOf x : Int)) ∧ w = w' := by
  have hl := seedOf_lt x
  obtain ⟨s, hs⟩ : ∃ s, seedOf x = s := ⟨_, rfl⟩
  obtain ⟨r, hr⟩ : ∃ r, x.tmod 999999937 = r := ⟨_, rfl⟩
  have hc := seed_cases x
  rw [hs, hr] at hc
  rw [hs] at hl
  rw [hs]
  have a1 : wrap64 r = r := by unfold wrap64; omega
  have a2 : wrap64 (r + 999999937) = r + 999999937 := by unfold wrap64; omega
  have a3 : (r + 999999937).tmod 999999937 = (s : Int) := by rw [IntWalk.rem_in _ _ (by omega)]; omega
  have a4 : wrap64 (s : Int) = (s : Int) := by unfold wrap64; omega
  clear hs
  go_enter Try.func115, Try.ntmps115
  go_wp2_with fail
  go_ret
  exact ⟨rfl, rfl⟩
theorem specNextState (s : Nat) (w : World) (hs : s < 999999937) : Calls Try.prog 116 #[.int .i64 (s : Int)] w fun e w' => e = .returned (.int .i64 (nextRnd s : Int)) ∧ w = w' := by
  obtain ⟨r, hr⟩ : ∃ r, nextRnd s = r := ⟨_, rfl⟩
  obtain ⟨-, a2, a3, a4⟩ := nextRnd_arith hs
  rw [hr] at a4
  rw [hr]
  have hrl : r < 999999937 := by rw [← hr]; exact nextRnd_lt s
  have a5 : wrap64 (r : Int) = (r : Int) := by unfold wrap64; omega
  have a6 : (s : Int) * 48271 = 48271 * (s : Int) := Int.mul_comm _ _
  rw [a6] at a2
  have a7 : wrap64 ((s : Int) * 48271 + 11) = 48271 * (s : Int) + 11 := by rw [a6]; exact a3
  have a8 : ((s : Int) * 48271 + 11).tmod 999999937 = (r : Int) := by rw [a6]; exact a4
  clear hr
  go_enter Try.func116, Try.ntmps116
  go_wp2_with fail
  go_ret
  exact ⟨rfl, rfl⟩
theorem rnd_step {V : List Nat} (hV : 0 < V.length) (i s : Nat) : ∃ q v, nextRnd s % V.length = q ∧ q < V.length ∧ app V q = v ∧ v ∈ V ∧ actRnd i V s = (nextRnd s, some v) := by
  have hq : nextRnd s % V.length < V.length := Nat.mod_lt _ hV
  have he := List.getElem?_eq_getElem hq
  refine ⟨_, V[nextRnd s % V.length], rfl, hq, ?_, List.getElem_mem hq, ?_⟩
  · unfold app
    rw [List.getD_eq_getElem?_getD, he]
    rfl
  · unfold actRnd
    rw [he]
noncomputable def rndQ (n : Int) (ls : List (List Int)) (x : Int) : Option (List Nat) := if gsQ n ls then rndR n.toNat (tQ n ls) (seedOf x) else none
theorem rndQ_no {n : Int} {ls : List (List Int)} {x : Int} (h : gsQ n ls = false) : rndQ n ls x = none := by unfold rndQ; rw [h]; rfl
theorem rndQ_yes {N : Nat} {ps : List (List Nat)} {x : Int} (h : gsQ (N : Int) (ps.map natI) = true) : rndQ (N : Int) (ps.map natI) x = rndR N (gT N ps) (seedOf x) := by
  unfold rndQ
  rw [h, tQ_eq]
  rfl
theorem rndQ_len (n : Int) (ls : List (List Int)) (x : Int) : ((rndQ n ls x).getD []).length ≤ 20 := by
  cases h : gsQ n ls with
  | false => rw [rndQ_no h]; exact Nat.zero_le _
  | true =>
    obtain ⟨N, ps, rfl, h0, hN, rfl, -, hP⟩ := gsOpen h
    rw [rndQ_yes h]
    cases ho : rndR N (gT N ps) (seedOf x) with
    | none => exact Nat.zero_le _
    | some u =>
      have := walk_isP (gT_chain hP) N 0 (idp N) _ (by omega) IsP.idp u ho
      simp only [Option.getD_some]
      rw [this.len]
      exact hN
set_option maxRecDepth 100000 in
set_option maxHeartbeats 8000000 in
theorem specRnd (n : Int) (g c : Nat) (ls : List (List Int)) (x : Int) (w : World) (h : LOwn w g ls) (hl : ls.length ≤ 1048576) (hs : ShortL ls) :
    Calls Try.prog 58 #[.int .i64 n, .slice (some ⟨g, 0, none⟩) ls.length c, .int .i64 x] w (ReadsOpt (rndQ n ls x) w) := by
  have hg0 := specGs (some ⟨g, 0, none⟩) c n ls w h.at_ hl hs
  cases hgs : gsQ n ls with
  | false =>
    rw [rndQ_no hgs]
    rw [hgs] at hg0
    have HG0 := Lib.hid hg0
    clear hg0 hgs hs
    go_enter Try.func58, Try.ntmps58
    go_wp2_with (first | (go_at_call 53; refine HG0.out.mono ?_; rintro e w1 ⟨rfl, n1, rfl⟩))
    exact bodyPost_ret (v := .tuple #[.slice (some ⟨w.heap.size, 0, none⟩) 0 0, .bool false]) (by simp [results, Try.results58, go_sem]) rfl ⟨_, rfl, Fresh.empty (Nat.le_refl _), (belowDrewN (Below.refl _ _) _).alloc (Nat.le_refl _) _⟩
  | true =>
    rw [hgs] at hg0
    obtain ⟨N, ps, rfl, h0, hN, rfl, h8, hP⟩ := gsOpen hgs
    rw [rndQ_yes hgs]
    have hm : (ps.map natI).length = ps.length := List.length_map ..
    rw [hm] at hg0
    rw [hm]
    have hs0 := seedOf_lt x
    have hfs := specFirst x
    obtain ⟨s0, hs0e⟩ : ∃ s0, seedOf x = s0 := ⟨_, rfl⟩
    rw [hs0e] at hs0 hfs
    rw [hs0e]
    have HFS := Lib.hid hfs
    obtain ⟨R, hR⟩ : ∃ R, walkG N (gT N ps) actRnd N 0 (idp N) s0 = R := ⟨_, rfl⟩
    have hRR : rndR N (gT N ps) s0 = R.2 := by unfold rndR; rw [hR]
    rw [hRR]
    have HG0 := Lib.hid hg0
    have HL := Lib.hid h
    have HP := Lib.hid hP
    have HR := Lib.hid hR
    clear hg0 hgs hs h hP hm hR hRR hl hfs hs0e
    go_enter Try.func58, Try.ntmps58
    go_wp2_with (first
      | (go_at_call 53; refine HG0.out.mono ?_; rintro e w1 ⟨rfl, n1, rfl⟩)
      | (go_at_call 71; refine (newS N ps g ps.length c _ (by exact HL.out.below (belowDrewN (Below.refl _ _) _)) rfl HP.out h0 hN h8).mono ?_; rintro e w2 ⟨C, T, rfl, hC, hc, hone, hb2⟩
          ; have HC := Lib.hid hC; have HCH := Lib.hid hc; have hB2 := belowStep hb2 (belowDrewN (Below.refl w.heap.size w) _); clear hC hc hone hb2)
      | (go_at_call 115; refine (HFS.out _).mono ?_; rintro e w' ⟨rfl, rfl⟩)
      | (go_at_call 79; refine (specIdentity N _ (by omega)).mono ?_; rintro e w5 ⟨v5, rfl, hF5, hb5⟩; have HV5 := Lib.hid (hF5.perm (ok := fun _ => True) idp_len h0 (fun _ _ _ => trivial)); have hB5 := belowStep hb5 hB2; have HC5 := Lib.hid (HC.out.below hb5); clear hF5))
    have HWK0 : Hid (Wk N T actRnd 0 (idp N) s0 R) := by
      have := Wk.start HCH.out actRnd IsP.idp s0
      rwa [show walkG N (tabOf (GenL N ps)) actRnd N 0 (idp N) s0 = R from HR.out] at this
    have hz5 := hB5.size
    clear HG0 HL HR HC HFS
    go_loopw [9, 10, 11] (fun z y j wr => ∃ (i s : Nat) (u : List Nat), i ≤ N ∧ j = .int .i64 (i : Int) ∧ z = .int .i64 (s : Int) ∧ Hid (PermV (fun _ => True) wr y N u) ∧ Hid (IsP N u) ∧ Hid (Wk N T actRnd i u s R) ∧ s < 999999937 ∧ Below w5.heap.size w5 wr ∧ Hid (0 < i → Fresh w.heap.size wr y (natI u))) (fun _ _ j _ => N - (intOf j).toNat)
    case atStart => exact ⟨0, s0, idp N, Nat.zero_le _, rfl, rfl, HV5, IsP.idp, HWK0, hs0, Below.refl _ _, fun h => absurd h (Nat.lt_irrefl _)⟩
    case round =>
      obtain ⟨i, st, u, hi, rfl, rfl, HV, HU, HWK, hst9, hB, HF⟩ := hrel
      clear HV5 HWK0
      have HCr := Lib.hid (HC5.out.below hB)
      have hBz := hB.size
      by_cases hlt : i < N
      · obtain ⟨gu, cu, rfl, -, -⟩ := HV.out.ints
        have hvp := vals_pos HCH.out hlt HU.out
        obtain ⟨q, v, hq, hql, hqv, hv, hact⟩ := rnd_step hvp i st
        have HWK5 : Hid (Wk N T actRnd (i + 1) (Grp.step T i u v) (nextRnd st) R) := HWK.out.go hlt hact hv
        have HU5 : Hid (IsP N (Grp.step T i u v)) := step_isP HCH.out hlt HU.out hv
        have hst := fun (wx : World) (hb : Below wr.heap.size wr wx) => specStep (HCr.out.below hb) HCH.out hN (HV.out.below hb) HU.out hlt hv
        have HST := Lib.hid hst
        have HNS := Lib.hid (specNextState st)
        have hrl := nextRnd_lt st
        obtain ⟨V, hV⟩ : ∃ V, vals N T i u = V := ⟨_, rfl⟩
        have hcv := specVals HCr.out hN HV.out HU.out hlt
        rw [hV] at hcv hql hqv hq hvp
        obtain ⟨r, hr⟩ : ∃ r, nextRnd st = r := ⟨_, rfl⟩
        rw [hr] at hq hrl HNS HWK5
        have hvl : V.length ≤ 20 := by rw [← hV, vals_length HU.out]; have := orb_le HCH.out hlt; omega
        have HCV := Lib.hid hcv
        have HQV := Lib.hid hqv
        have HQL := Lib.hid hql
        have d2 : (r : Int).tmod (V.length : Int) = (q : Int) := by rw [IntWalk.rem_in _ _ (by omega), ← Int.natCast_emod, hq]
        have d3 : ¬ (V.length : Int) = 0 := by omega
        have d4 : ¬ V.length = 0 := by omega
        have d5 : ((V.length : Int) == 0) = false := by simpa using (show V ≠ [] by rintro rfl; simp at hvp)
        have p0 : (0 : Int) ≤ (i : Int) := by omega
        have p1 : (i : Int) < (N : Int) := by omega
        have p2 : (0 : Int) ≤ (q : Int) := by omega
        have p3 : (q : Int) < (V.length : Int) := by omega
        have d6 : wrap64 (q : Int) = (q : Int) := by unfold wrap64; omega
        clear hV hcv hqv hql hv hact hst hq hr
        go_wp2_with (first
          | (go_at_call 116; refine (HNS.out _ hst9).mono ?_; rintro e w' ⟨rfl, rfl⟩)
          | (go_at_call 81; refine HCV.out.mono ?_; rintro e w6 ⟨v6, rfl, ⟨g6, c6, rfl, hlc6, -, -, hI6⟩, hb6⟩
              ; obtain ⟨b6, off6, e6, hbl6, hc6⟩ := perm_at hI6 (i := q) HQL.out
              ; injection e6 with e6
              ; injection e6 with e7 e8
              ; subst e7 e8
              ; rw [HQV.out, Nat.zero_add] at hc6
              ; clear hI6)
          | (go_at_call 82; refine (HST.out _ (by exact hb6)).mono ?_; rintro e w7 ⟨v7, rfl, hF7, hb7⟩
              ; have HV7 := Lib.hid (hF7.perm (ok := fun _ => True) HU5.out.len h0 (fun _ _ _ => trivial))
              ; have hb6z := hb6.size
              ; have HF7 := Lib.hid (hF7.mono (B' := w.heap.size) (by omega))
              ; have hB7 : Below w5.heap.size w5 w7 := belowStep hb7 (belowStep hb6 hB)
              ; clear hF7 hb7))
        go_roundw
        case rel => exact ⟨i + 1, r, _, by omega, by go_num, rfl, HV7, HU5, HWK5, hrl, hB7, fun _ => HF7.out⟩
        case measure => simp [intOf]; omega
      · obtain rfl : i = N := by omega
        have HE : Hid (R.2 = some u) := by unfold Hid; rw [HWK.out.end_]
        have hF := HF.out h0
        obtain ⟨A9, c9, rfl, -, -⟩ := hF.ints
        have HFF : Hid (Fresh w.heap.size wr (.slice A9 (natI u).length c9) (natI (R.2.getD []))) := by unfold Hid; rw [HE.out]; exact hF
        have HES : Hid (R.2.isSome = true) := by unfold Hid; rw [HE.out]; rfl
        clear hF
        go_wp2_with fail
        exact bodyPost_ret (v := .tuple #[.slice A9 (natI u).length c9, .bool true]) (by simp [results, Try.results58, go_sem]) rfl ⟨_, by rw [HES.out], HFF.out, belowStep hB hB5⟩
set_option maxRecDepth 100000 in
set_option maxHeartbeats 8000000 in
theorem implRnd (n : Int) (g c : Nat) (ls : List (List Int)) (x : Int) (w : World) (h : LOwn w g ls) (hl : ls.length ≤ 1048576) (hs : ShortL ls) :
    Calls Try.prog 59 #[.int .i64 n, .slice (some ⟨g, 0, none⟩) ls.length c, .int .i64 x] w (ReadsOpt (rndQ n ls x) w) := by
  have hg0 := implGs (some ⟨g, 0, none⟩) c n ls w h.at_ hl hs
  cases hgs : gsQ n ls with
  | false =>
    rw [rndQ_no hgs]
    rw [hgs] at hg0
    have HG0 := Lib.hid hg0
    clear hg0 hgs hs
    go_enter Try.func59, Try.ntmps59
    go_wp2_with (first | (go_at_call 73; refine HG0.out.mono ?_; rintro e w1 ⟨rfl, hB1⟩))
    exact bodyPost_ret (v := .tuple #[.slice none 0 0, .bool false]) (by simp [results, Try.results59, go_sem]) rfl ⟨_, rfl, Fresh.nil _ _, hB1⟩
  | true =>
    rw [hgs] at hg0
    obtain ⟨N, ps, rfl, h0, hN, rfl, h8, hP⟩ := gsOpen hgs
    rw [rndQ_yes hgs]
    have hm : (ps.map natI).length = ps.length := List.length_map ..
    rw [hm] at hg0
    rw [hm]
    have hs0 := seedOf_lt x
    have hng := fun wx => implNewGen x wx
    obtain ⟨s0, hs0e⟩ : ∃ s0, seedOf x = s0 := ⟨_, rfl⟩
    rw [hs0e] at hs0 hng
    rw [hs0e]
    have HNG := Lib.hid hng
    obtain ⟨R, hR⟩ : ∃ R, walkG N (gT N ps) actRnd N 0 (idp N) s0 = R := ⟨_, rfl⟩
    have hRR : rndR N (gT N ps) s0 = R.2 := by unfold rndR; rw [hR]
    rw [hRR]
    have HG0 := Lib.hid hg0
    have HL := Lib.hid h
    have HP := Lib.hid hP
    have HR := Lib.hid hR
    clear hg0 hgs hs h hP hm hR hRR hl hng hs0e
    go_enter Try.func59, Try.ntmps59
    go_wp2_with (first
      | (go_at_call 73; refine HG0.out.mono ?_; rintro e w1 ⟨rfl, hB1⟩)
      | (go_at_call 117; refine (HNG.out _).mono ?_; rintro e wq ⟨q, rfl, hq1, hq2, hqg, hbq⟩; have hBq := belowStep hbq hB1; have HQG := Lib.hid hqg; clear hqg)
      | (go_at_call 76; refine (newI N ps g ps.length c _ (by exact HL.out.below hBq) rfl HP.out h0 hN h8).mono ?_; rintro e w2 ⟨C, T, rfl, hC, hc, hone, hb2⟩
          ; have HC := Lib.hid hC; have HCH := Lib.hid hc; have hB2 := belowStep hb2 hBq; have HQ2 : Hid (GenAtI w2 q s0) := rowB hb2 HQG.out; clear hC hc hone)
      | (go_at_call 84; refine (implIdentity N _ (by omega)).mono ?_; rintro e w3 ⟨v3, rfl, hF3, hb3⟩; have HF3 := Lib.hid hF3; have hB3 := belowStep hb3 hB2; have HC3 := Lib.hid (HC.out.below hb3); have HQ3 : Hid (GenAtI w3 q s0) := rowB hb3 HQ2.out; clear hF3)
      | (go_at_call 83; refine (implFrom C N v3 (idp N) _ (HF3.out.perm idp_len h0 (fun _ _ _ => trivial))).mono ?_; rintro e w4 ⟨rfl, hW, hb4⟩; have HW0 := Lib.hid hW; clear hW))
    have HWK0 : Hid (Wk N T actRnd 0 (idp N) s0 R) := by
      have := Wk.start HCH.out actRnd IsP.idp s0
      rwa [show walkG N (tabOf (GenL N ps)) actRnd N 0 (idp N) s0 = R from HR.out] at this
    have hzq : wq.heap.size ≤ w2.heap.size := hb2.size
    have hz23 : w2.heap.size ≤ w3.heap.size := hb3.size
    have hz01 : w.heap.size ≤ w1.heap.size := hB1.size
    clear HG0 HL HR HC HNG HQG HQ2 hb2 hb3 hbq hBq
    go_loopw [] (fun wr => ∃ (i st : Nat) (u : List Nat) (ws : World), i ≤ N ∧ Hid (WalkAt wr w3.heap.size C N i u) ∧ Hid (IsP N u) ∧ Hid (Wk N T actRnd i u st R) ∧ st < 999999937 ∧ Hid (CI ws C N T) ∧ ws.heap.size = w3.heap.size ∧ Hid (GenAtI ws q st) ∧ Below w3.heap.size ws wr ∧ Below w.heap.size w ws ∧ Hid (0 < i → WalkF wq.heap.size wr w3.heap.size C N i u)) (fun wr => N - lvlOf wr w3.heap.size)
    case atStart => exact ⟨0, s0, idp N, w3, Nat.zero_le _, HW0, IsP.idp, HWK0, hs0, HC3, rfl, HQ3, hb4, hB3, fun h => absurd h (Nat.lt_irrefl _)⟩
    case round =>
      obtain ⟨i, st, u, ws, hi, HW, HU, HWK, hst9, HCS, hzs, HQS, hB, hBs, HF⟩ := hrel
      clear HW0 HWK0 hb4 HC3 HQ3
      have hBsz : Below ws.heap.size ws wr := by rw [hzs]; exact hB
      have HCr := Lib.hid (HCS.out.below hBsz)
      have HQr : Hid (GenAtI wr q st) := rowB hBsz HQS.out
      obtain ⟨gw, cw, -, -, -, -, x1, -⟩ := HW.out.cells
      have hWl := HW.out.lt
      have hBz := hB.size
      by_cases hlt : i < N
      · have hvp := vals_pos HCH.out hlt HU.out
        obtain ⟨qq, v, hq, hql, hqv, hv, hact⟩ := rnd_step hvp i st
        have HWK5 : Hid (Wk N T actRnd (i + 1) (Grp.step T i u v) (nextRnd st) R) := HWK.out.go hlt hact hv
        have HU5 : Hid (IsP N (Grp.step T i u v)) := step_isP HCH.out hlt HU.out hv
        have htk := fun (wx : World) (hc : CI wx C N T) (hw : WalkAt wx w3.heap.size C N i u) => takeYes hc HCH.out hN hw HU.out hlt hv
        have HTK := Lib.hid htk
        have hrl := nextRnd_lt st
        have hdr := fun (wx : World) (hq : GenAtI wx q st) => implDraw q st wx hq hst9
        have hsr := implSorted C N w3.heap.size i T u wr HCr.out HCH.out hN HW.out HU.out hlt
        obtain ⟨V, hV⟩ : ∃ V, vals N T i u = V := ⟨_, rfl⟩
        rw [hV] at hsr hql hqv hq hvp
        obtain ⟨r, hr⟩ : ∃ r, nextRnd st = r := ⟨_, rfl⟩
        rw [hr] at hq hrl hdr HWK5
        have hvl : V.length ≤ 20 := by rw [← hV, vals_length HU.out]; have := orb_le HCH.out hlt; omega
        have HSR := Lib.hid hsr
        have HDR := Lib.hid hdr
        have HQV := Lib.hid hqv
        have HQL := Lib.hid hql
        have d2 : (r : Int).tmod (V.length : Int) = (qq : Int) := by rw [IntWalk.rem_in _ _ (by omega), ← Int.natCast_emod, hq]
        have d3 : ¬ (V.length : Int) = 0 := by omega
        have d4 : ¬ V.length = 0 := by omega
        have d5 : ((V.length : Int) == 0) = false := by simpa using (show V ≠ [] by rintro rfl; simp at hvp)
        have p0 : (0 : Int) ≤ (i : Int) := by omega
        have p1 : (i : Int) < (N : Int) := by omega
        have p2 : (0 : Int) ≤ (qq : Int) := by omega
        have p3 : (qq : Int) < (V.length : Int) := by omega
        have d6 : wrap64 (qq : Int) = (qq : Int) := by unfold wrap64; omega
        have HL0 := Lib.hid HW.out.lvl
        clear hV hsr hdr hqv hql hv hact htk hq hr
        go_wp2_with (first
          | (go_at_call 118; refine HSR.out.mono ?_; rintro e w6 ⟨g6, c6, rfl, hg6, hI6, hb6⟩
              ; obtain ⟨b6, off6, e6, hbl6, hc6⟩ := perm_at hI6 (i := qq) HQL.out
              ; injection e6 with e6
              ; injection e6 with e7 e8
              ; subst e7 e8
              ; rw [HQV.out, Nat.zero_add] at hc6
              ; have HQ6 : Hid (GenAtI w6 q st) := rowB hb6 HQr.out
              ; have HC6 := Lib.hid (HCr.out.below hb6)
              ; have HW6 := Lib.hid (HW.out.below hb6)
              ; clear hI6)
          | (go_at_call 119; refine (HDR.out _ HQ6.out).mono ?_; rintro e w7 ⟨rfl, nd, hw7⟩
              ; have hC7 : CI w7 C N T := (by rw [hw7]; exact (CI.setOther HC6.out HQ6.out (by decide) (by decide) (by decide) (by decide)).below (belowDrewN (Below.refl _ _) _))
              ; have hW7 : WalkAt w7 w3.heap.size C N i u := (by rw [hw7]; exact (WalkAt.setOther HW6.out HQ6.out (by decide) (by decide)).drewN nd)
              ; have hc7 : w7.cell? ⟨g6, qq, none⟩ = some (.int .i64 (v : Int)) := (by rw [hw7]; exact (World.cell?_of_block (a := ⟨g6, qq, none⟩) (heap_setCell_other w6 ⟨q, 0, none⟩ g6 _ (by dsimp only; omega))).trans hc6)
              ; have hB7 : Below w3.heap.size (ws.setCell ⟨q, 0, none⟩ (.int .i64 (r : Int))) w7 := (by rw [hw7]; exact belowDrewN (Below.setBoth (hB.trans (hb6.mono (Nat.le_of_lt hWl))) HQS.out (by omega)) nd)
              ; have hz7 : wq.heap.size ≤ w7.heap.size := (by have h1 := hB7.size; simp at h1; omega)
              ; have HC7 := Lib.hid hC7
              ; have HW7 := Lib.hid hW7
              ; clear hw7 hC7 hW7)
          | (go_at_call 74; refine (implLength _ _ _ _).mono ?_; rintro e w' ⟨rfl, rfl⟩)
          | (go_at_call 85; refine (HTK.out _ HC7.out HW7.out).mono ?_; rintro e w8 ⟨rfl, hw8, hb8⟩))
        have HF8 := Lib.hid (hw8.mono (B' := wq.heap.size) hz7)
        have hw8 := hw8.walk HU5.out.len h0
        have HW8 := Lib.hid hw8
        have HL8 := Lib.hid hw8.lvl
        have HC8 : Hid (CI (ws.setCell ⟨q, 0, none⟩ (.int .i64 (r : Int))) C N T) := CI.setOther HCS.out HQS.out (by decide) (by decide) (by decide) (by decide)
        have HQ8 : Hid (GenAtI (ws.setCell ⟨q, 0, none⟩ (.int .i64 (r : Int))) q r) := heap_setCell_same ws q 0 _ _ _ HQS.out
        have hB8 := hB7.trans hb8
        have hBs8 : Below w.heap.size w (ws.setCell ⟨q, 0, none⟩ (.int .i64 (r : Int))) := hBs.setCell (p := ⟨q, 0, none⟩) (by dsimp only; omega) _
        clear hw8
        go_roundw
        case rel => exact ⟨i + 1, r, _, _, by omega, HW8, HU5, HWK5, hrl, HC8, by simpa using hzs, HQ8, hB8, hBs8, fun _ => HF8.out⟩
        case measure => rw [HL0.out, HL8.out]; omega
      · obtain rfl : i = N := by omega
        have HE : Hid (R.2 = some u) := by unfold Hid; rw [HWK.out.end_]
        obtain ⟨A9, c9, hrow, hfr⟩ := HF.out h0
        have y2 : wr.cell? ⟨w3.heap.size, 2, none⟩ = some (.slice A9 i c9) := cell_of_row _ _ 2 _ _ (0, 0) hrow
        have HFF : Hid (Fresh w.heap.size wr (.slice A9 i c9) (natI (R.2.getD []))) := by unfold Hid; rw [HE.out]; exact hfr.mono (by omega)
        have HES : Hid (R.2.isSome = true) := by unfold Hid; rw [HE.out]; rfl
        clear hrow hfr
        go_wp2_with fail
        exact bodyPost_ret (v := .tuple #[.slice A9 i c9, .bool true]) (by simp [results, Try.results59, go_sem]) rfl ⟨_, by rw [HES.out], HFF.out, hBs.trans (hB.mono (by have := hB3.size; omega))⟩
end Go.Proofs.Ytpcnbjfkobeibaa
