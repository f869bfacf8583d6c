/- A permutation added to a chain, at the reference. Conditions: as the contract says. -/
import Derived.Test.YtpcnbjfkobeibaaProd
import Derived.Test.YtpcnbjfkobeibaaOrb
import Derived.Deep.RegionWith
namespace Go.Proofs.Ytpcnbjfkobeibaa
open Go.RowKit Grp

theorem append_gen {w : World} {ops : Array Oper} {rest : List Oper} {o : Oper} {a : Act} {Q : Exit → Act → World → Prop} (hgd : o.guard = none) (s x : Operand)
    (hop : o.op = Op.call { callee := Callee.builtin Builtin.append, args := #[s, x], argTypes := #[22, 22] })
    (B n : Nat) (v : Value) (l : List (List Nat)) (p : List Nat) (vp : Value) (hs : a.eval s = v) (hown : GenV (fun _ => True) B n w v l) (g : Nat) (hx : a.eval x = .slice (some ⟨g, 0, none⟩) 1 1) (hcell : w.cell? ⟨g, 0, none⟩ = some vp) (hvp : PermV (fun _ => True) w vp n p) (hl : l.length ≤ 1048576) (hB : B ≤ w.heap.size)
    (h : ∀ v' w', GenV (fun _ => True) B n w' v' (l ++ [p]) → Below B w w' → wpList Try.prog ops Q rest (a.put o.dst v') w') : wpList Try.prog ops Q (o :: rest) a w := by
  refine wpList_plain hgd fun K hK => ?_
  obtain ⟨A', c', w', hr, h1, h2, _⟩ := run_append_gen (ty := o.type) B n v l p vp hown g hcell hvp hl hB
  unfold Oper.wp execOp
  simp only [hop, resolve, invoke, builtin, Sem.run_bind, Sem.run_pure, Result.andThen_ok, List.map_toArray, List.map_cons, List.map_nil, hs, hx, hr]
  exact hK _ _ (h _ w' h1 ((Below.refl _ _).grown h2 hB (fun k hk => (hown.lt hk).1)))
theorem GenV.held {B n : Nat} {w w' : World} {v : Value} {l : List (List Nat)} (h : GenV (fun _ => True) B n w v l) (hb : ∀ b, v.ownBlock = some b → w'.heap[b]? = w.heap[b]?) (hk : KeepI (fun _ => True) w w') : GenV (fun _ => True) B n w' v l := by
  obtain ⟨cs, h1, h2⟩ := h
  refine ⟨cs, ⟨h1.1, ?_⟩, fun j hj => ?_⟩
  · rcases h1.2 with hn | ⟨g, cap, cur, rfl, hbg, hgg, rest⟩
    · exact .inl hn
    · exact .inr ⟨g, cap, cur, rfl, hbg, (hb g rfl).trans hgg, rest⟩
  · obtain ⟨u, a, b⟩ := h2 j hj
    exact ⟨u, a, b.keep hk⟩
theorem GenV.none {ok : Nat → Prop} {B n : Nat} {w : World} (hB : B ≤ w.heap.size) : GenV ok B n (w.alloc (.cells #[] 23)) (.slice (some ⟨w.heap.size, 0, none⟩) 0 0) [] :=
  ⟨[], World.ownsRow_made w #[] 0 hB (by unfold maxLen; omega) (by simp), fun i hi => by simp at hi⟩
def repsOf (T : Tab) (k y : Nat) : List (List Nat) := (orbTo T k y).map fun z => (T k z).getD []
theorem repsOf_no {T : Tab} {k y : Nat} (h : T k y = none) : repsOf T k (y + 1) = repsOf T k y := by rw [repsOf, orbTo_no h]; rfl
theorem repsOf_yes {T : Tab} {k y : Nat} {t : List Nat} (h : T k y = some t) : repsOf T k (y + 1) = repsOf T k y ++ [t] := by rw [repsOf, orbTo_yes h, List.map_append]; simp [repsOf, h]
theorem repsOf_len (T : Tab) (k y : Nat) : (repsOf T k y).length = (orbTo T k y).length := by simp [repsOf]
theorem repsOf_get {T : Tab} {k y i : Nat} (hi : i < (orbTo T k y).length) : ∃ t, T k ((orbTo T k y).getD i 0) = some t ∧ (repsOf T k y).getD i [] = t := by
  have hm : (orbTo T k y)[i] ∈ orbTo T k y := List.getElem_mem hi
  have hs : (T k (orbTo T k y)[i]).isSome = true := by
    have := (List.mem_filter.1 (show (orbTo T k y)[i] ∈ (List.range y).filter (fun z => (T k z).isSome) from hm)).2
    exact this
  obtain ⟨t, ht⟩ := Option.isSome_iff_exists.1 hs
  have e : (orbTo T k y).getD i 0 = (orbTo T k y)[i] := by rw [List.getD_eq_getElem?_getD, List.getElem?_eq_getElem hi]; rfl
  refine ⟨t, by rw [e]; exact ht, ?_⟩
  rw [List.getD_eq_getElem?_getD, repsOf, List.getElem?_map, List.getElem?_eq_getElem hi]
  simp [ht]
set_option maxRecDepth 100000 in
set_option maxHeartbeats 16000000 in
theorem specGen (B n C : Nat) (s : Sh) (hn : 0 < n) (hnl : n ≤ 20) : ∀ (m k : Nat), m + k = n → GenAt B n k C s := by
  intro m
  induction m with
  | zero =>
    intro k hk pr T Gs v p w hC hb ha hv hp hf hF hcnt
    obtain rfl : k = n := by omega
    have hs : sift T k (k - k) p = true := by rw [Nat.sub_self]; rfl
    have HADD := Lib.hid (Added.same hF (Nat.le_refl _) ((hF.has (Nat.le_refl _) hp hf).1 hs) hcnt)
    have HSP := Lib.hid (Sp.start hC hb ha)
    have t0 : w.cell? ⟨C, 0, none⟩ = some (.int .i64 (k : Int)) := cell_of_row w C 0 _ _ (0, 0) hC
    clear hC hb ha hv hp hf hF hcnt hs
    go_enter Try.func128, Try.ntmps128
    go_wp2_with fail
    exact bodyPost_ret (results_none rfl _ _ _) rfl ⟨rfl, T, Gs, HSP.out, HADD.out⟩
  | succ m ih =>
    intro k hk pr T Gs v p w hC hb ha hv hp hf hF hcnt
    have hkn : k < n := by omega
    have hG := ih (k + 1) (by omega)
    have HPROD := Lib.hid (fun pr' => specProd B n C k s hn hnl hkn hG (n + 1) pr')
    clear ih hG
    have hcall := specSift B n C k s T Gs v p w hC hb hv hp (fun i y t h1 h2 e => (hF.chain i h1 (by omega)).1.1 t (((hF.chain i h1 (by omega)).2.2 i (Nat.le_refl _) h2).1 y t e).1) (by omega) hn hnl
    have HCALL := Lib.hid hcall
    have t0 : w.cell? ⟨C, 0, none⟩ = some (.int .i64 (n : Int)) := cell_of_row w C 0 _ _ (0, 0) hC
    have p1 : (k : Int) < (n : Int) := by omega
    have p0 : (0 : Int) ≤ (k : Int) := by omega
    have HSP := Lib.hid (Sp.start hC hb ha)
    have HV := Lib.hid hv
    have HP := Lib.hid hp
    have HFX := Lib.hid hf
    have HFU := Lib.hid hF
    have HCN := Lib.hid hcnt
    have hle : (Gs k).length ≤ 1048575 := by have := hcnt k (Nat.le_refl _) (by omega); have := orbSum_le n T (n - k) k; have : (n - k) * n ≤ 20 * 20 := Nat.mul_le_mul (by omega) hnl; omega
    clear hC hb ha hv hp hf hF hcnt hcall
    go_enter Try.func128, Try.ntmps128
    go_wp2_with fail
    clear t0
    refine HCALL.out.mono ?_
    rintro e w1 ⟨v1, lev, rfl, hlev, hb1⟩
    have HS1 := Lib.hid (HSP.out.more hb1)
    have t0 : w1.cell? ⟨C, 0, none⟩ = some (.int .i64 (n : Int)) := cell_of_row w1 C 0 _ _ (0, 0) HS1.out.top
    cases hsf : sift T k (n - k) p with
    | true =>
      rw [hsf] at hlev
      obtain rfl : lev = n := hlev.2 rfl
      have HADD := Lib.hid (Added.same HFU.out (by omega) ((HFU.out.has (by omega) HP.out HFX.out).1 hsf) HCN.out)
      clear hlev hsf hb1
      go_wp2_with fail
      exact bodyPost_ret (results_none rfl _ _ _) rfl ⟨rfl, T, Gs, HS1.out, HADD.out⟩
    | false =>
      rw [hsf] at hlev
      have hne : lev ≠ n := fun e => by have := hlev.1 e; cases this
      have hbq : ((lev : Int) == (n : Int)) = false := beq_eq_false_iff_ne.2 (by omega)
      have hnot : ¬ GenL n (Gs k) p := fun h => by have := (HFU.out.has (by omega) HP.out HFX.out).2 h; rw [hsf] at this; cases this
      have HNOT := Lib.hid hnot
      have HV1 := Lib.hid (HV.out.below hb1)
      clear hlev hne hnot hsf
      go_wp2_with fail
      clear hbq t0
      obtain ⟨v0, hgc, hgen, hgf⟩ := HS1.out.body.readGb hkn
      obtain ⟨A0, c0, rfl, -⟩ := hgen.shape
      obtain ⟨gp, cp, rfl, -, -⟩ := HV1.out.ints
      have t1 : w1.cell? ⟨C, 2, none⟩ = some (.slice (some ⟨s.Gb, 0, none⟩) n s.cg) := cell_of_row w1 C 2 _ _ (0, 0) HS1.out.top
      obtain ⟨ll, hll⟩ : ∃ ll, (Gs k).length = ll := ⟨_, rfl⟩
      rw [hll] at hgc hgen hle
      have HLL := Lib.hid hll
      have HGEN := Lib.hid hgen
      have hBw1 := HS1.out.size
      have cn := World.new_ne _ _ hgc
      have cl := World.block_lt_of_cell? _ _ hgc
      have dn := World.new_ne _ _ t1
      have dl := World.block_lt_of_cell? _ _ t1
      dsimp only at cn cl dn dl
      have hle2 : ll ≤ 1048576 := by omega
      clear hll hgen
      go_upto_region 3 with fail
      go_cut [] from 11 to 94 (fun wx => Hid (Sp pr (tcS n s) B n C s w wx T (updG Gs k (Gs k ++ [p]))))
      case first =>
        go_region_law (first
          | (refine step_append_gen (by rfl) _ _ (by rfl) B n (.slice A0 ll c0) (Gs k) p (.slice (some ⟨gp, 0, none⟩) n cp) ll HLL.out (by rfl) (by exact HGEN.out.below (by exact (by repeat (first | exact Below.refl _ _ | assumption | refine Below.setCell ?_ (by first | omega | (simp <;> omega)) _ | refine Below.alloc ?_ (by first | omega | (simp <;> omega)) _ | refine Below.drew ?_)))) w1.heap.size (by rfl) (by simp) (by exact HV1.out.below (by exact (by repeat (first | exact Below.refl _ _ | assumption | refine Below.setCell ?_ (by first | omega | (simp <;> omega)) _ | refine Below.alloc ?_ (by first | omega | (simp <;> omega)) _ | refine Below.drew ?_)))) hle2 (by simp; omega) ?_; intro A2 c2 w2 hG2 hg2 hat2
              ; obtain ⟨hc2, hf2, hkp2⟩ := (HS1.out.body.below (by exact (by repeat (first | exact Below.refl _ _ | assumption | refine Below.setCell ?_ (by first | omega | (simp <;> omega)) _ | refine Below.alloc ?_ (by first | omega | (simp <;> omega)) _ | refine Below.drew ?_)))).gbKept hkn (by refine Eq.trans (Below.cell (p := ⟨s.Gb, k, none⟩) ?_ cl) hgc; exact (by repeat (first | exact Below.refl _ _ | assumption | refine Below.setCell ?_ (by first | omega | (simp <;> omega)) _ | refine Below.alloc ?_ (by first | omega | (simp <;> omega)) _ | refine Below.drew ?_))) hg2
              ; have hC2 := hkp2 (rowB (by exact (by repeat (first | exact Below.refl _ _ | assumption | refine Below.setCell ?_ (by first | omega | (simp <;> omega)) _ | refine Below.alloc ?_ (by first | omega | (simp <;> omega)) _ | refine Below.drew ?_))) HS1.out.top) (by decide)
              ; have t12 : w2.cell? ⟨C, 2, none⟩ = some (.slice (some ⟨s.Gb, 0, none⟩) n s.cg) := cell_of_row w2 C 2 _ _ (0, 0) hC2
              ; have HST := Lib.hid (Sp.gen (HS1.out.more (by exact (by repeat (first | exact Below.refl _ _ | assumption | refine Below.setCell ?_ (by first | omega | (simp <;> omega)) _ | refine Below.alloc ?_ (by first | omega | (simp <;> omega)) _ | refine Below.drew ?_)))) hkn (by refine Eq.trans (Below.cell (p := ⟨s.Gb, k, none⟩) ?_ cl) hgc; exact (by repeat (first | exact Below.refl _ _ | assumption | refine Below.setCell ?_ (by first | omega | (simp <;> omega)) _ | refine Below.alloc ?_ (by first | omega | (simp <;> omega)) _ | refine Below.drew ?_))) hg2 hG2 hat2)
              ; clear hG2 hg2 hat2 hkp2 hC2))
        all_goals
          go_wp2_with fail
          go_meet
          exact HST
      case rest =>
        have HS := hcut
        have HVC := Lib.hid (HV.out.keep HS.out.keep)
        have hBc := HS.out.size
        have hE0 := GenV.none (ok := fun _ => True) (B := wc.heap.size) (n := n) (w := wc) (Nat.le_refl _)
        have hbE : Below wc.heap.size wc (wc.alloc (.cells #[] 23)) := (by repeat (first | exact Below.refl _ _ | assumption | refine Below.setCell ?_ (by first | omega | (simp <;> omega)) _ | refine Below.alloc ?_ (by first | omega | (simp <;> omega)) _ | refine Below.drew ?_))
        clear hcut t1 hgc hgf cn cl dn dl HGEN HV1 HS1
        go_wp2_with fail
        go_loopw [8, 9] (fun u j wr => ∃ y : Nat, j = .int .i64 y ∧ y ≤ n ∧ GenV (fun _ => True) wc.heap.size n wr u (repsOf T k y) ∧ Below wc.heap.size wc wr) (fun _ j _ => n - (intOf j).toNat)
        case atStart => exact ⟨0, rfl, Nat.zero_le _, hE0, hbE⟩
        case round =>
          obtain ⟨y, rfl, hy, hK, hB⟩ := hrel
          clear hE0 hbE
          have HSR := Lib.hid (HS.out.more hB)
          have t0 : wr.cell? ⟨C, 0, none⟩ = some (.int .i64 (n : Int)) := cell_of_row wr C 0 _ _ (0, 0) HSR.out.top
          have t1 : wr.cell? ⟨C, 1, none⟩ = some (.slice (some ⟨s.Rb, 0, none⟩) n s.cr) := cell_of_row wr C 1 _ _ (0, 0) HSR.out.top
          by_cases hlt : y < n
          · have hrb := HSR.out.body.readRb hkn
            obtain ⟨u, hu, hrep, -⟩ := HSR.out.body.readRow hkn hlt
            have q0 : (0 : Int) ≤ (y : Int) := by omega
            have q1 : (y : Int) < (n : Int) := by omega
            cases hTy : T k y with
            | none =>
              rw [hTy] at hrep
              obtain rfl : u = .slice none 0 0 := hrep
              have HN := Lib.hid (repsOf_no hTy)
              clear hTy
              go_wp2_with fail
              go_roundw
              case rel => exact ⟨y + 1, by go_num, by omega, by rw [HN.out]; exact hK, hB⟩
              case measure => simp [intOf]; omega
            | some t =>
              rw [hTy] at hrep
              have hrep : PermV (fun _ => True) wr u n t := hrep
              obtain ⟨gt, ct, rfl, -, -⟩ := hrep.ints
              have HN := Lib.hid (repsOf_yes hTy)
              have hl2 : (repsOf T k y).length ≤ 1048576 := by rw [repsOf_len]; have := orbTo_len T k y; omega
              have HREP := Lib.hid hrep
              have hBz := hB.size
              clear hTy hrep
              go_wp2_with (first | (at_builtin; refine append_gen rfl (.tmp 67) (.tmp 78) rfl wc.heap.size n _ _ t (.slice (some ⟨gt, 0, none⟩) n ct) rfl (hK.below (by exact (by repeat (first | exact Below.refl _ _ | assumption | refine Below.setCell ?_ (by first | omega | (simp <;> omega)) _ | refine Below.alloc ?_ (by first | omega | (simp <;> omega)) _ | refine Below.drew ?_)))) wr.heap.size rfl (by simp) (HREP.out.below (by exact (by repeat (first | exact Below.refl _ _ | assumption | refine Below.setCell ?_ (by first | omega | (simp <;> omega)) _ | refine Below.alloc ?_ (by first | omega | (simp <;> omega)) _ | refine Below.drew ?_)))) hl2 (by simp; omega) ?_; intro v3 w3 hK3 hb3))
              have hB3 : Below wc.heap.size wc w3 := hB.trans (((Below.refl _ _).alloc hBz _).trans hb3)
              go_roundw
              case rel => exact ⟨y + 1, by go_num, by omega, by rw [HN.out]; exact hK3, hB3⟩
              case measure => simp [intOf]; omega
          · obtain rfl : y = n := by omega
            obtain ⟨Ak, ck, rfl, -⟩ := hK.shape
            obtain ⟨mk, hmk⟩ : ∃ mk, (repsOf T k y).length = mk := ⟨_, rfl⟩
            rw [hmk] at hK ⊢
            have hkl : mk = (orbTo T k y).length := by rw [← hmk, repsOf_len]
            have hmk20 : mk ≤ 20 := by have := orbTo_len T k y; omega
            have hRW : Rowed y k (Gs k ++ [p]) T (updG Gs k (Gs k ++ [p])) := by
              refine ⟨HFU.out.next.congr (fun _ _ => rfl) (fun i hi => by simp only [updG]; rw [if_neg (by omega)]), updG_same _ _ _, ⟨HFU.out.one k (Nat.le_refl _) hkn, fun z t e => ?_⟩, fun g hg => ?_, fun j hj hn => ?_⟩
              · have hch := HFU.out.chain k (Nat.le_refl _) (by omega)
                obtain ⟨x1, x2, x3⟩ := (hch.2.2 k (Nat.le_refl _) hkn).1 z t e
                exact ⟨by rw [← x3]; exact (hch.1.1 t x1).lt hkn, GenL.mono (fun s hs => List.mem_append.2 (.inl hs)) x1, x3⟩
              · have e : updG Gs k (Gs k ++ [p]) (k + 1) = Gs (k + 1) := by simp only [updG]; rw [if_neg (by omega)]
                rw [e] at hg
                exact GenL.mono (fun s hs => List.mem_append.2 (.inl hs)) (HFU.out.nest k (Nat.le_refl _) hkn g hg)
              · have e : updG Gs k (Gs k ++ [p]) j = Gs j := by simp only [updG]; rw [if_neg (by omega)]
                rw [e]; exact HCN.out j (by omega) hn
            have HKM := Lib.hid (KMid.start p (orbTo T k y) hRW)
            have HRW := Lib.hid hRW
            have HLP : Hid (∀ s, s ∈ Gs k ++ [p] → IsP y s ∧ Fix k s) := fun s hs => by
              rcases List.mem_append.1 hs with h1 | h1
              · exact HFU.out.gens k (Nat.le_refl _) (by omega) s h1
              · rw [List.mem_singleton.1 h1]; exact ⟨HP.out, HFX.out⟩
            have hll2 : (Gs k ++ [p]).length ≤ 1048576 := by rw [List.length_append, HLL.out, List.length_singleton]; omega
            obtain ⟨pr', hpr'⟩ : ∃ pr' : Nat → Prop, pr' = fun b => pr b ∨ (Value.slice Ak mk ck).ownBlock = some b := ⟨_, rfl⟩
            have hAW : Away pr' y wr s := by
              subst hpr'
              refine ⟨fun b hb => ?_, fun i hi hb => ?_, fun hb => ?_, fun i u b hi hc ho hb => ?_⟩
              · rcases hb with hb | hb
                · exact HSR.out.away.lt b hb
                · exact (hK.lt hb).2
              · rcases hb with hb | hb
                · exact HSR.out.away.R i hi hb
                · have h1 := (hK.lt hb).1
                  obtain ⟨cs, h2, _⟩ := HS.out.body.row i hi
                  have := row_lt h2
                  omega
              · rcases hb with hb | hb
                · exact HSR.out.away.G hb
                · have h1 := (hK.lt hb).1
                  obtain ⟨gs, h2⟩ := HS.out.body.gbRow
                  have := row_lt h2
                  omega
              · rcases hb with hb | hb
                · exact HSR.out.away.own i u b hi hc ho hb
                · have h1 := (hK.lt hb).1
                  obtain ⟨gs, h2⟩ := HS.out.body.gbRow
                  obtain ⟨u', h3, h4, _⟩ := HS.out.body.readGb hi
                  rw [cell_same h2 (rowB hB h2), h3] at hc
                  obtain rfl : u' = u := Option.some.inj hc
                  have := (h4.lt ho).2
                  omega
            have HSW := Lib.hid (Sp.start (pr := pr') HSR.out.top HSR.out.body hAW)
            have HSR' := HSR
            have HK := Lib.hid hK
            have HPR' := Lib.hid hpr'
            have HKL := Lib.hid hkl
            have HMK := Lib.hid hmk
            obtain ⟨wk, rfl⟩ : ∃ wk : World, wk = wr := ⟨_, rfl⟩
            clear hK hRW hAW hpr' hkl hmk
            go_wp2_with fail
            clear t0 t1
            go_loopw [10] (fun j wr => ∃ (i : Nat) (T1 : Tab) (Gs1 : Nat → List (List Nat)), j = .int .i64 i ∧ i ≤ mk ∧ Hid (Sp pr' (tcS y s) B y C s wk wr T1 Gs1) ∧ Hid (KMid y k (Gs k ++ [p]) T (updG Gs k (Gs k ++ [p])) p (orbTo T k y) i T1 Gs1)) (fun j _ => mk - (intOf j).toNat)
            case atStart => exact ⟨0, T, _, rfl, Nat.zero_le _, HSW, HKM⟩
            case round =>
              obtain ⟨i, T1, Gs1, rfl, hi, HS1, HKM1⟩ := hrel
              clear HSW HKM
              by_cases hli : i < mk
              · have hK1 := HK.out.held (w' := wr) (fun b hb => HS1.out.same b (by rw [HPR'.out]; exact .inr hb)) HS1.out.keep
                obtain ⟨ga, ug, rfl, hga, hcu, hpg, -⟩ := hK1.at_ hli
                obtain ⟨t, ht, hgt⟩ := repsOf_get (T := T) (k := k) (y := y) (i := i) (by rw [← HKL.out]; exact hli)
                rw [hgt] at hpg
                obtain ⟨gg, cg, rfl, hIg, hgl⟩ := hpg.ints
                have htM := HRW.out.row.mem _ t ht
                have hLs : ∀ s, s ∈ Gs k ++ [p] → IsP y s := fun s hs => (HLP.out s hs).1
                have htP := GenL.isP hLs htM.2.1
                have hpq : GenL y (Gs k ++ [p]) (comp t p) := (GenL.sub hLs).2.2.1 _ _ htM.2.1 (GenL.of (by simp))
                have hVR := (HVC.out.below hB).keep HS1.out.keep
                obtain ⟨gp', cp', e5, hIp', -⟩ := hVR.ints
                simp only [Value.slice.injEq, Option.some.injEq, Addr.mk.injEq, and_true, true_and] at e5
                obtain ⟨rfl, rfl⟩ := e5
                have q0 : (0 : Int) ≤ (i : Int) := by omega
                have q1 : (i : Int) < (mk : Int) := by omega
                have HIG := Lib.hid hIg
                have HIP := Lib.hid hIp'
                have HTP := Lib.hid htP
                have HPQ := Lib.hid hpq
                have HTT := Lib.hid ht
                clear hK1 hpg hIg hgl htM hLs htP hpq hVR hIp' ht hgt
                go_wp2_with fail
                refine (specCompose _ _ cg cp y t p _ (by exact HIG.out) (by exact HIP.out) HTP.out.len HP.out.len (by omega) (fun i hi => HTP.out.lt hi)).mono ?_
                rintro e w4 ⟨v4, rfl, hF4, hb4⟩
                have HPV4 := Lib.hid (hF4.perm (ok := fun _ => True) (n := y) (by rw [comp_len, HTP.out.len]) hn (fun _ _ _ => trivial))
                have HS4 := Lib.hid (HS1.out.more hb4)
                clear hF4 hb4 hcu
                go_wp2_with fail
                refine (HPROD.out pr' (Gs k ++ [p]) T1 Gs1 v4 (comp t p) w4 (by omega) HS4.out.top HS4.out.body HS4.out.away HPV4.out HKM1.out.st HLP.out hll2 HPQ.out).mono ?_
                rintro e w5 ⟨rfl, T2, Gs2, hS5, hpd⟩
                have HS5 := Lib.hid (HS4.out.trans hS5 (fun _ h => h))
                have HKM2 := Lib.hid (KMid.step HKM1.out hkn (fun s hs => (HLP.out s hs).1) HRW.out.row HTT.out hpd)
                clear hS5 hpd
                go_wp2_with fail
                go_roundw
                case rel => exact ⟨i + 1, T2, Gs2, by go_num, by omega, HS5, HKM2⟩
                case measure => simp [intOf]; omega
              · obtain rfl : i = mk := by omega
                have hkm := HKM1.out
                rw [HKL.out] at hkm
                have HADD := Lib.hid (KMid.end_ hkm hkn HFU.out (HCN.out k (Nat.le_refl _) (by omega)) HP.out HFX.out HNOT.out rfl (fun i hi => by simp only [updG]; rw [if_neg hi]) (fun z hz hs => List.mem_filter.2 ⟨List.mem_range.2 hz, hs⟩))
                have HSE := Lib.hid (HSR'.out.trans HS1.out (fun b hb => by rw [HPR'.out]; exact .inl hb))
                clear hkm
                go_wp2_with fail
                exact bodyPost_ret (results_none rfl _ _ _) rfl ⟨rfl, T1, Gs1, HSE.out, HADD.out⟩
end Go.Proofs.Ytpcnbjfkobeibaa
