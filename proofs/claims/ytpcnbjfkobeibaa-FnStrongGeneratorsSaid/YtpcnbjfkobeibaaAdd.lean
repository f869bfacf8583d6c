/- A permutation added to a chain, at the program. Conditions: as the contract says. -/
import Derived.Test.YtpcnbjfkobeibaaSt
import Derived.Test.YtpcnbjfkobeibaaOrb
import Derived.Deep.RegionLaw
import Derived.Deep.RegionWith
import Derived.Deep.RegionHeld3
import Derived.Deep.CutRange
import Derived.Deep.LoopGhost
namespace Go.Proofs.Ytpcnbjfkobeibaa
open Go.RowKit Grp

def AddPost (tt : TypeId) (tc : Array Value) (B n k C : Nat) (s : Sh) (T : Tab) (Gs : Nat → List (List Nat)) (p : List Nat) (w : World) (e : Ending) (w' : World) : Prop :=
  e = .returned (.tuple #[]) ∧ ∃ (T' : Tab) (Gs' : Nat → List (List Nat)), w'.heap[C]? = some (.cells tc tt (0, 0)) ∧ Body (fun _ => True) B n w' s T' Gs' ∧ Added n k T Gs p T' Gs' ∧ (∀ i, i < k → w'.cell? ⟨s.Gb, i, none⟩ = w.cell? ⟨s.Gb, i, none⟩) ∧ Below B w w' ∧ KeepI (fun _ => True) w w'
abbrev tcI (n : Nat) (s : Sh) : Array Value := #[.int .i64 (n : Int), .slice (some ⟨s.Gb, 0, none⟩) n s.cg, .slice (some ⟨s.Rb, 0, none⟩) n s.cr]
theorem orb_head {n k : Nat} {T : Tab} {t : List Nat} (hk : k < n) (h : T k k = some t) : 0 < (natI (orb n T k)).length := by
  rw [natI_len]
  have : k ∈ orb n T k := mem_orb.2 ⟨hk, by rw [h]; rfl⟩
  exact List.length_pos_of_mem this
set_option maxRecDepth 100000 in
set_option maxHeartbeats 16000000 in
theorem implAdd (B n C : Nat) (s : Sh) (hn : 0 < n) (hnl : n ≤ 20) : ∀ (m k : Nat), m + k = n → ∀ (T : Tab) (Gs : Nat → List (List Nat)) (v : Value) (p : List Nat) (w : World), w.heap[C]? = some (.cells (tcI n s) 81 (0, 0)) →
    Body (fun _ => True) B n w s T Gs → PermV (fun _ => True) w v n p → IsP n p → Fix k p → Full n T Gs k → (∀ j, k ≤ j → j ≤ n → (Gs j).length ≤ orbSum n T j (n - j)) →
    Calls Try.prog 132 #[.pointer (some ⟨C, 0, none⟩), .int .i64 (k : Int), v] w (AddPost 81 (tcI n s) B n k C s T Gs p w) := by
  intro m
  induction m with
  | zero =>
    intro k hk T Gs v p w hC hb hv hp hf hF hcnt
    obtain rfl : k = n := by omega
    have hs : sift T k (k - k) p = true := by rw [Nat.sub_self]; rfl
    have hmem := (hF.has (Nat.le_refl _) hp hf).1 hs
    have HADD := Lib.hid (Added.same hF (Nat.le_refl _) hmem hcnt)
    have hcall := implHas B k C k s T Gs v p w hC hb hv hp (fun i y t h1 h2 => by omega) (Nat.le_refl _) hn hnl
    rw [hs] at hcall
    have HC := Lib.hid hcall
    have HB := Lib.hid hb
    have HT := Lib.hid hC
    clear hC hb hv hp hf hF hcnt hs hmem hcall
    go_enter Try.func132, Try.ntmps132
    go_wp2_with fail
    refine HC.out.mono ?_
    rintro e w1 ⟨rfl, hb1⟩
    go_wp2_with fail
    obtain ⟨gs, hg1⟩ := HB.out.gbRow
    exact bodyPost_ret (results_none rfl _ _ _) rfl ⟨rfl, T, Gs, rowB hb1 HT.out, HB.out.below hb1, HADD.out, fun i _ => cell_same hg1 (rowB hb1 hg1), hb1.mono (Nat.le_trans HB.out.B2 (Nat.le_of_lt (row_lt hg1))), KeepI.below hb1⟩
  | succ m ih =>
    intro k hk T Gs v p w hC hb hv hp hf hF hcnt
    have hkn : k < n := by omega
    have HIH := Lib.hid ih
    clear ih
    have hcall := implHas B n C k s T Gs v p w hC hb hv hp (fun i y t h1 h2 e => (hF.chain i h1 (by omega)).1.1 t (((hF.chain i h1 (by omega)).2.2 i (Nat.le_refl _) h2).1 y t e).1) (by omega) hn hnl
    cases hsf : sift T k (n - k) p with
    | true =>
      rw [hsf] at hcall
      have hmem := (hF.has (by omega) hp hf).1 hsf
      have HADD := Lib.hid (Added.same hF (by omega) hmem hcnt)
      have HC := Lib.hid hcall
      have HB := Lib.hid hb
      have HT := Lib.hid hC
      clear hC hb hv hp hf hF hcnt hsf hmem hcall HIH
      go_enter Try.func132, Try.ntmps132
      go_wp2_with fail
      refine HC.out.mono ?_
      rintro e w1 ⟨rfl, hb1⟩
      go_wp2_with fail
      obtain ⟨gs, hg1⟩ := HB.out.gbRow
      exact bodyPost_ret (results_none rfl _ _ _) rfl ⟨rfl, T, Gs, rowB hb1 HT.out, HB.out.below hb1, HADD.out, fun i _ => cell_same hg1 (rowB hb1 hg1), hb1.mono (Nat.le_trans HB.out.B2 (Nat.le_of_lt (row_lt hg1))), KeepI.below hb1⟩
    | false =>
      rw [hsf] at hcall
      have hnot : ¬ GenL n (Gs k) p := fun h => by have := (hF.has (by omega) hp hf).2 h; rw [hsf] at this; cases this
      have HNOT := Lib.hid hnot
      have HC := Lib.hid hcall
      have hle : (Gs k).length ≤ 1048576 := by have := hcnt k (Nat.le_refl _) (by omega); have := orbSum_le n T (n - k) k; have : (n - k) * n ≤ 20 * 20 := Nat.mul_le_mul (by omega) hnl; omega
      have HP := Lib.hid hp
      have HFX := Lib.hid hf
      have HFU := Lib.hid hF
      have HCN := Lib.hid hcnt
      have HV := Lib.hid hv
      have HT := Lib.hid hC
      have HBD := Lib.hid hb
      have hBw : B ≤ w.heap.size := by obtain ⟨gs, h1⟩ := hb.gbRow; exact Nat.le_trans hb.B2 (Nat.le_of_lt (row_lt h1))
      clear hC hb hv hp hf hF hcnt hsf hnot hcall
      go_enter Try.func132, Try.ntmps132
      go_wp2_with fail
      refine HC.out.mono ?_
      rintro e w1 ⟨rfl, hb1⟩
      have HT1 := Lib.hid (rowB hb1 HT.out)
      have HB1 := Lib.hid (HBD.out.below hb1)
      have HV1 := Lib.hid (HV.out.keep (KeepI.below hb1))
      have hBw1 : B ≤ w1.heap.size := Nat.le_trans hBw hb1.size
      clear HC
      have t1 : w1.cell? ⟨C, 1, none⟩ = some (.slice (some ⟨s.Gb, 0, none⟩) n s.cg) := cell_of_row w1 C 1 _ _ (0, 0) HT1.out
      have t2 : w1.cell? ⟨C, 2, none⟩ = some (.slice (some ⟨s.Rb, 0, none⟩) n s.cr) := cell_of_row w1 C 2 _ _ (0, 0) HT1.out
      obtain ⟨v0, hgc, hgen, hgf⟩ := HB1.out.readGb hkn
      obtain ⟨A0, c0, rfl, -⟩ := hgen.shape
      obtain ⟨gp, cp, rfl, -, -⟩ := HV1.out.ints
      have p0 : (0 : Int) ≤ (k : Int) := by omega
      have p1 : (k : Int) < (n : Int) := by omega
      obtain ⟨ll, hll⟩ : ∃ ll, (Gs k).length = ll := ⟨_, rfl⟩
      rw [hll] at hgc hgen hle
      have HLL := Lib.hid hll
      have HGEN := Lib.hid hgen
      clear hll hgen
      have cn := World.new_ne _ _ hgc
      have cl := World.block_lt_of_cell? _ _ hgc
      have dn := World.new_ne _ _ t1
      have dl := World.block_lt_of_cell? _ _ t1
      dsimp only at cn cl dn dl
      obtain ⟨gs, hgbW, hgsl⟩ := HBD.out.gbRow2
      have hkgs := hgsl k hkn
      have HGW := Lib.hid hgbW
      clear hgbW hgsl
      go_upto_region 1 with fail
      go_cut [] from 15 to 127 (fun wx => ∃ (A2 : Option Addr) (c2 : Nat), St (fun _ => True) 81 (tcI n s) B n k C s w wx T (updG Gs k (Gs k ++ [p])) (.slice A2 (ll + 1) c2))
      case first =>
        go_region_law (first
          | (refine step_append_gen (by rfl) _ _ (by rfl) B n (.slice A0 ll c0) (Gs k) p (.slice (some ⟨gp, 0, none⟩) n cp) ll HLL.out (by rfl) (by exact HGEN.out.below (by exact (by repeat (first | exact Below.refl _ _ | assumption | refine Below.setCell ?_ (by first | omega | (simp <;> omega)) _ | refine Below.alloc ?_ (by first | omega | (simp <;> omega)) _ | refine Below.drew ?_)))) w1.heap.size (by rfl) (by simp) (by exact HV1.out.below (by exact (by repeat (first | exact Below.refl _ _ | assumption | refine Below.setCell ?_ (by first | omega | (simp <;> omega)) _ | refine Below.alloc ?_ (by first | omega | (simp <;> omega)) _ | refine Below.drew ?_)))) hle (by simp; omega) ?_; intro A2 c2 w2 hG2 hg2 hat2
              ; obtain ⟨hc2, hf2, hkp2⟩ := (HB1.out.below (by exact (by repeat (first | exact Below.refl _ _ | assumption | refine Below.setCell ?_ (by first | omega | (simp <;> omega)) _ | refine Below.alloc ?_ (by first | omega | (simp <;> omega)) _ | refine Below.drew ?_)))).gbKept hkn (by refine Eq.trans (Below.cell (p := ⟨s.Gb, k, none⟩) ?_ cl) hgc; exact (by repeat (first | exact Below.refl _ _ | assumption | refine Below.setCell ?_ (by first | omega | (simp <;> omega)) _ | refine Below.alloc ?_ (by first | omega | (simp <;> omega)) _ | refine Below.drew ?_))) hg2
              ; have hC2 : w2.heap[C]? = some (.cells (tcI n s) 81 (0, 0)) := hkp2 (rowB (by exact (by repeat (first | exact Below.refl _ _ | assumption | refine Below.setCell ?_ (by first | omega | (simp <;> omega)) _ | refine Below.alloc ?_ (by first | omega | (simp <;> omega)) _ | refine Below.drew ?_))) HT1.out) (by decide)
              ; have t12 : w2.cell? ⟨C, 1, none⟩ = some (.slice (some ⟨s.Gb, 0, none⟩) n s.cg) := cell_of_row w2 C 1 _ _ (0, 0) hC2
              ; have hset := (HB1.out.below (by exact (by repeat (first | exact Below.refl _ _ | assumption | refine Below.setCell ?_ (by first | omega | (simp <;> omega)) _ | refine Below.alloc ?_ (by first | omega | (simp <;> omega)) _ | refine Below.drew ?_)))).setGen hkn (by refine Eq.trans (Below.cell (p := ⟨s.Gb, k, none⟩) ?_ cl) hgc; exact (by repeat (first | exact Below.refl _ _ | assumption | refine Below.setCell ?_ (by first | omega | (simp <;> omega)) _ | refine Below.alloc ?_ (by first | omega | (simp <;> omega)) _ | refine Below.drew ?_))) hg2 hG2 hat2
              ; have hbl := Below.trans (hb1.mono hBw) (Below.trans (Below.mono (by exact (by repeat (first | exact Below.refl _ _ | assumption | refine Below.setCell ?_ (by first | omega | (simp <;> omega)) _ | refine Below.alloc ?_ (by first | omega | (simp <;> omega)) _ | refine Below.drew ?_))) hBw1) hset.2.2)
              ; have hkl := KeepI.trans (KeepI.below hb1) (KeepI.trans (KeepI.below (by exact (by repeat (first | exact Below.refl _ _ | assumption | refine Below.setCell ?_ (by first | omega | (simp <;> omega)) _ | refine Below.alloc ?_ (by first | omega | (simp <;> omega)) _ | refine Below.drew ?_)))) hset.2.1)
              ; have HST := Lib.hid (St.start HGW.out (hkp2 (rowB (by exact (by repeat (first | exact Below.refl _ _ | assumption | refine Below.setCell ?_ (by first | omega | (simp <;> omega)) _ | refine Below.alloc ?_ (by first | omega | (simp <;> omega)) _ | refine Below.drew ?_))) (rowB hb1 HGW.out)) (by decide)) hkgs hC2 (by decide) hset.1 hbl hkl)
              ; clear hG2 hg2 hat2 hkp2 hC2 hset hbl hkl))
        all_goals
          go_wp2_with fail
          go_meet
          exact ⟨A2, c2, HST.out⟩
      case rest =>
        obtain ⟨A2, c2, hSt⟩ := hcut
        have HST := Lib.hid hSt
        have t2c : wc.cell? ⟨C, 2, none⟩ = some (.slice (some ⟨s.Rb, 0, none⟩) n s.cr) := cell_of_row wc C 2 _ _ (0, 0) hSt.top
        have hrb := hSt.body.readRb hkn
        have hwc := hSt.keep.1
        have hR0 : Hid (RowIn n k (Gs k ++ [p]) T) := ⟨HFU.out.one k (Nat.le_refl _) hkn, fun y t e => by
          have hch := HFU.out.chain k (Nat.le_refl _) (by omega)
          obtain ⟨x1, x2, x3⟩ := (hch.2.2 k (Nat.le_refl _) hkn).1 y t e
          have htP := hch.1.1 t x1
          exact ⟨by rw [← x3]; exact htP.lt hkn, GenL.mono (fun s hs => List.mem_append.2 (.inl hs)) x1, x3⟩⟩
        have HLP : Hid (∀ s, s ∈ Gs k ++ [p] → IsP n s ∧ Fix k s) := fun s hs => by
          rcases List.mem_append.1 hs with h1 | h1
          · exact HFU.out.gens k (Nat.le_refl _) (by omega) s h1
          · rw [List.mem_singleton.1 h1]; exact ⟨HP.out, HFX.out⟩
        clear hSt t1 t2 hgf hgc cn cl dn dl HB1 HT1 HV1 HGEN HGW hkgs
        go_wp2_with fail
        clear t2c hrb
        refine (implOrbit B n k s T _ _ HST.out.body hkn hnl).mono ?_
        rintro e w3 ⟨v3, rfl, hF3, hb3⟩
        obtain ⟨gq, hQ3⟩ := QueueV.of hF3 (orb_head hkn (HFU.out.one k (Nat.le_refl _) hkn))
        have hlq := hQ3.low
        have HS3 := Lib.hid ((HST.out.weak (ok' := fun b => b ≠ gq) (fun b _ hb => by omega)).more hb3 HST.out.size)
        have hQ3 := hQ3.mono hwc
        have hP3 : Hid (Pend k (Gs k ++ [p]) T (orb n T k)) := fun y hy => .inl (mem_orb.2 ⟨by
          obtain ⟨t, ht⟩ := Option.isSome_iff_exists.1 hy
          exact (hR0.out.mem y t ht).1, hy⟩)
        have hI3 : Hid (∀ y, y ∈ orb n T k → (T k y).isSome = true) := fun y hy => (mem_orb.1 hy).2
        have hM3 : 2 * (n - (orb n T k).length) + (orb n T k).length ≤ 2 * n := by have := orb_len_le n T k; omega
        clear hF3 hb3 HST hlq hwc
        go_wp2_with fail
        go_loopg [7] (2 * n) (fun gk u wr => ∃ (T1 : Tab) (q : List Nat) (gq : Nat), Hid (St (fun b => b ≠ gq) 81 (tcI n s) B n k C s w wr T1 (updG Gs k (Gs k ++ [p])) (.slice A2 (ll + 1) c2)) ∧ QueueV w.heap.size wr u gq (natI q) ∧ Hid (RowIn n k (Gs k ++ [p]) T1) ∧ Hid (Pend k (Gs k ++ [p]) T1 q) ∧ Hid (∀ y, y ∈ q → (T1 k y).isSome = true) ∧ Hid (∀ i, i ≠ k → T1 i = T i) ∧ 2 * (n - (orb n T1 k).length) + q.length ≤ gk ∧ gk ≤ 2 * n)
        case atStart => exact ⟨T, orb n T k, gq, HS3, hQ3, hR0, hP3, hI3, fun _ _ => rfl, hM3, Nat.le_refl _⟩
        case round =>
          obtain ⟨T1, q, gq1, HS, hQ, HR, HPD, HI, HO, hM, hgkn⟩ := hrel
          clear HS3 hQ3 hR0 hP3 hI3 hM3
          cases q with
          | nil =>
            obtain ⟨off, cap, rfl⟩ := queue_nil hQ
            have HS1 := Lib.hid (HS.out.weak (ok' := fun _ => True) (fun _ _ _ => trivial))
            have HCL := Lib.hid (pend_all HPD.out)
            clear hM hgkn HI HPD hQ HS
            go_wp2_with fail
            refine (implOrbit B n k s T1 _ _ HS1.out.body hkn hnl).mono ?_
            rintro e w5 ⟨v5, rfl, hF5, hb5⟩
            have HS5 := Lib.hid (HS1.out.more hb5 HS1.out.size)
            obtain ⟨ys, hys⟩ : ∃ ys, orb n T1 k = ys := ⟨_, rfl⟩
            have hyp : 0 < ys.length := by have := orb_head (T := T1) hkn HR.out.one; rw [natI_len, hys] at this; exact this
            have hyn : ys.length ≤ n := by have := orb_len_le n T1 k; rw [hys] at this; exact this
            rw [hys] at hF5
            have hPY := hF5.perm (ok := fun _ => True) (n := ys.length) rfl hyp (fun _ _ _ => trivial)
            obtain ⟨g5, c5, rfl, -, -⟩ := hPY.ints
            obtain ⟨ms, hms⟩ : ∃ ms, ys.length = ms := ⟨_, rfl⟩
            rw [hms] at hPY hyp hyn ⊢
            have HMS := Lib.hid hms
            have HYS := Lib.hid hys
            have HPY := Lib.hid hPY
            have HLL1 : Hid ((Gs k ++ [p]).length = ll + 1) := by unfold Hid; rw [List.length_append, HLL.out]; rfl
            have hPR : Hid (Prods n k (Gs k ++ [p]) T1 T1 (updG Gs k (Gs k ++ [p])) (DoneTo ys 0 0)) := by
              refine Prods.congr (Prods.start HFU.out.next HO.out (fun i hi => by simp only [updG]; rw [if_neg (by omega)]) (updG_same _ _ _) (fun g hg => ?_) (fun j hj hn => HCN.out j (by omega) hn) (fun j hj => orbSum_congr _ _ fun i hi => HO.out i (by omega))) fun y j _ hd => ?_
              · exact GenL.mono (fun s hs => List.mem_append.2 (.inl hs)) (HFU.out.nest k (Nat.le_refl _) hkn g hg)
              · rcases hd with hd | ⟨_, hd⟩
                · cases hd
                · omega
            have hG0 : Hid (∀ i, i < k → updG Gs k (Gs k ++ [p]) i = Gs i) := fun i hi => by simp only [updG]; rw [if_neg (by omega)]
            clear hF5 hb5 HS1 hms hys hPY
            go_wp2_with fail
            go_loopw [91] (fun i wr => ∃ (a : Nat) (T3 : Tab) (Gs3 : Nat → List (List Nat)), i = .int .i64 a ∧ a ≤ ms ∧ Hid (St (fun _ => True) 81 (tcI n s) B n k C s w wr T3 Gs3 (.slice A2 (ll + 1) c2)) ∧ Hid (PermV (fun _ => True) wr (.slice (some ⟨g5, 0, none⟩) ms c5) ms ys) ∧ Hid (Prods n k (Gs k ++ [p]) T1 T3 Gs3 (DoneTo ys a 0)) ∧ Hid (∀ i, i < k → Gs3 i = Gs i)) (fun i _ => ms - (intOf i).toNat)
            case atStart => exact ⟨0, T1, _, rfl, Nat.zero_le _, HS5, HPY.out, hPR, hG0⟩
            case round =>
              obtain ⟨a, T3, Gs3, rfl, ha, HS, HPY3, HPR, HG3⟩ := hrel
              clear HS5 HPY hPR hG0
              by_cases hlt : a < ms
              · obtain ⟨g5', c5', e5, hI5, -⟩ := HPY3.out.ints
                simp only [Value.slice.injEq, Option.some.injEq, Addr.mk.injEq, and_true, true_and] at e5
                obtain ⟨rfl, rfl⟩ := e5
                obtain ⟨b, o1, e1, hb1', hca⟩ := perm_at hI5 (i := a) (by rw [HMS.out]; exact hlt)
                injection e1 with e1
                injection e1 with e2 e3
                subst e2 e3
                rw [Nat.zero_add] at hca
                obtain ⟨y, hy⟩ : ∃ y, app ys a = y := ⟨_, rfl⟩
                rw [hy] at hca
                have hyget : ys.getD a 0 = y := hy
                have hymem : y ∈ ys := by
                  rw [← hyget, List.getD_eq_getElem?_getD, List.getElem?_eq_getElem (by rw [HMS.out]; exact hlt)]
                  exact List.getElem_mem _
                have hyT : (T1 k y).isSome = true := by rw [← HYS.out] at hymem; exact (mem_orb.1 hymem).2
                obtain ⟨ty, hty⟩ := Option.isSome_iff_exists.1 hyT
                have hyn' := (HR.out.mem y ty hty).1
                have HTY := Lib.hid hty
                have HYG := Lib.hid hyget
                have HYT := Lib.hid hyT
                have t1c : wr.cell? ⟨C, 1, none⟩ = some (.slice (some ⟨s.Gb, 0, none⟩) n s.cg) := cell_of_row wr C 1 _ _ (0, 0) HS.out.top
                have hgc := HS.out.cell
                have q0 : (0 : Int) ≤ (a : Int) := by omega
                have q1 : (a : Int) < (ms : Int) := by omega
                clear hI5 hy hyget hymem hyT hty
                go_wp2_with fail
                clear t1c hgc hca
                go_loopw [103] (fun i wr => ∃ (j : Nat) (T4 : Tab) (Gs4 : Nat → List (List Nat)), i = .int .i64 j ∧ j ≤ ll + 1 ∧ Hid (St (fun _ => True) 81 (tcI n s) B n k C s w wr T4 Gs4 (.slice A2 (ll + 1) c2)) ∧ Hid (PermV (fun _ => True) wr (.slice (some ⟨g5, 0, none⟩) ms c5) ms ys) ∧ Hid (Prods n k (Gs k ++ [p]) T1 T4 Gs4 (DoneTo ys a j)) ∧ Hid (∀ i, i < k → Gs4 i = Gs i)) (fun i _ => ll + 1 - (intOf i).toNat)
                case atStart => exact ⟨0, T3, Gs3, rfl, Nat.zero_le _, HS, HPY3.out, HPR, HG3⟩
                case round =>
                  obtain ⟨j, T4, Gs4, rfl, hj, HS4, HPY4, HPR4, HG4⟩ := hrel
                  clear HS HPY3 HPR HG3
                  by_cases hlj : j < ll + 1
                  · have hgen := HS4.out.gen hkn
                    rw [HPR4.out.gens] at hgen
                    obtain ⟨ga, u, rfl, hga, hcu, hpg, hLl⟩ := hgen.at_ hlj
                    have hjL : j < (Gs k ++ [p]).length := by rw [hLl]; exact hlj
                    have hmem := getD_mem hjL
                    obtain ⟨gp1, hgp1⟩ : ∃ gp1, (Gs k ++ [p]).getD j [] = gp1 := ⟨_, rfl⟩
                    rw [hgp1] at hpg hmem
                    obtain ⟨gg, cg, rfl, hIg, hgl⟩ := hpg.ints
                    obtain ⟨b, o1, e1, hbg, hcg⟩ := perm_at hIg (i := y) (by rw [hgl]; exact hyn')
                    injection e1 with e1
                    injection e1 with e2 e3
                    subst e2 e3
                    rw [Nat.zero_add] at hcg
                    have hgP := (HLP.out _ hmem).1
                    have hzn := hgP.lt hyn'
                    have hzT := HCL.out y HYT.out gp1 hmem
                    obtain ⟨z, hz⟩ : ∃ z, app gp1 y = z := ⟨_, rfl⟩
                    rw [hz] at hcg hzn hzT
                    obtain ⟨tz, htz⟩ := Option.isSome_iff_exists.1 hzT
                    have hT4k := HPR4.out.tab k (Nat.le_refl _)
                    obtain ⟨u1, hu1, hrep1, -⟩ := HS4.out.body.readRow hkn hyn'
                    obtain ⟨u3, hu3, hrep3, -⟩ := HS4.out.body.readRow hkn hzn
                    rw [hT4k, HTY.out] at hrep1
                    rw [hT4k, htz] at hrep3
                    obtain ⟨gy, cy, rfl, hIy, hyl⟩ := PermV.ints hrep1
                    obtain ⟨gz, cz, rfl, hIz, hzl⟩ := PermV.ints hrep3
                    have hLs : ∀ s, s ∈ Gs k ++ [p] → IsP n s := fun s hs => (HLP.out s hs).1
                    have htyM := HR.out.mem y ty HTY.out
                    have htzM := HR.out.mem z tz htz
                    have htyP := GenL.isP hLs htyM.2.1
                    have htzP := GenL.isP hLs htzM.2.1
                    have hP' : IsP n (comp (comp ty gp1) (inv tz)) := (htyP.comp hgP).comp htzP.inv
                    have hsubL := GenL.sub hLs
                    have hF' : Fix (k + 1) (comp (comp ty gp1) (inv tz)) := by
                      have hgen1 : GenL n (Gs k ++ [p]) (comp (comp ty gp1) (inv tz)) := hsubL.2.2.1 _ _ (hsubL.2.2.1 _ _ htyM.2.1 (GenL.of hmem)) (hsubL.2.2.2 _ htzM.2.1)
                      have hfix : Fix k (comp (comp ty gp1) (inv tz)) := (hgen1 (Stab (IsP n) k) (Stab.sub (Sub.all n) (by omega)) fun s hs => ⟨(HLP.out s hs).1, (HLP.out s hs).2⟩).2
                      intro i hi
                      rcases Nat.lt_or_ge i k with h1 | h1
                      · exact hfix i h1
                      · obtain rfl : i = k := by omega
                        rw [(htyP.comp hgP).appc hkn, htyP.appc hkn, htyM.2.2, hz]
                        have := htzP.inv_app_self hkn
                        rwa [htzM.2.2] at this
                    have hIH1 : ∀ (v : Value) (w0 : World), w0.heap[C]? = some (.cells (tcI n s) 81 (0, 0)) → Body (fun _ => True) B n w0 s T4 Gs4 → PermV (fun _ => True) w0 v n (comp (comp ty gp1) (inv tz)) →
                        Calls Try.prog 132 #[.pointer (some ⟨C, 0, none⟩), .int .i64 (IntKind.i64.wrap ((k : Int) + 1)), v] w0 (AddPost 81 (tcI n s) B n (k + 1) C s T4 Gs4 (comp (comp ty gp1) (inv tz)) w0) := by
                      intro v w0 h1 h2 h3
                      have := HIH.out (k + 1) (by omega) T4 Gs4 v (comp (comp ty gp1) (inv tz)) w0 h1 h2 h3 hP' hF' HPR4.out.full HPR4.out.cnt
                      rw [show IntKind.i64.wrap ((k : Int) + 1) = ((k + 1 : Nat) : Int) from by rw [IntWalk.i64_in _ (by omega)]; omega]
                      exact this
                    have HIH1 := Lib.hid hIH1
                    have HTZ := Lib.hid htz
                    have HZZ := Lib.hid hz
                    have HGP := Lib.hid hgp1
                    have HJL := Lib.hid hjL
                    have HIG := Lib.hid hIg
                    have HIY := Lib.hid hIy
                    have HIZ := Lib.hid hIz
                    have HGPP := Lib.hid hgP
                    have HTYP := Lib.hid htyP
                    have HTZP := Lib.hid htzP
                    have HGL := Lib.hid hgl
                    have q0' : (0 : Int) ≤ (j : Int) := by omega
                    have q1' : (j : Int) < ((ll + 1 : Nat) : Int) := by omega
                    have q2 : (0 : Int) ≤ (y : Int) := by omega
                    have q3 : (y : Int) < (n : Int) := by omega
                    have q4 : (0 : Int) ≤ (z : Int) := by omega
                    have q5 : (z : Int) < (n : Int) := by omega
                    have q6 : (k : Int) < 20 := by omega
                    have dRk := World.new_ne _ _ hu1
                    have lRk := World.block_lt_of_cell? _ _ hu1
                    dsimp only at dRk lRk
                    clear hgen hpg hLl hmem hgp1 hz hzT htz hT4k hrep1 hrep3 hIg hIy hIz hyl hzl hgl hLs htyM htzM htyP htzP hP' hsubL hF' hIH1 hgP hjL
                    go_wp2_with fail
                    have tok0 : True := trivial
                    go_region_with (first
                      | (go_at_call 132; have _t := tok3; refine (HIH1.out _ _ (by exact rowB (by exact hB7.trans (by exact (by repeat (first | exact Below.refl _ _ | assumption | refine Below.setCell ?_ (by first | omega | (simp <;> omega)) _ | refine Below.alloc ?_ (by first | omega | (simp <;> omega)) _ | refine Below.drew ?_)))) HS4.out.top) (by exact (HS4.out.body.below hB7).below (by exact (by repeat (first | exact Below.refl _ _ | assumption | refine Below.setCell ?_ (by first | omega | (simp <;> omega)) _ | refine Below.alloc ?_ (by first | omega | (simp <;> omega)) _ | refine Below.drew ?_)))) (by exact HP7.out.below (by exact (by repeat (first | exact Below.refl _ _ | assumption | refine Below.setCell ?_ (by first | omega | (simp <;> omega)) _ | refine Below.alloc ?_ (by first | omega | (simp <;> omega)) _ | refine Below.drew ?_))))).mono ?_; rintro e w8 ⟨rfl, hpost⟩; have HPOST := Lib.hid hpost; clear hpost)
                      | (go_at_call 103; have _t := tok2; refine (implCompose _ _ c5' c6' n (comp ty gp1) (inv tz) _ (by exact HI5'.out) (by exact HI6'.out.below (by exact (by repeat (first | exact Below.refl _ _ | assumption | refine Below.setCell ?_ (by first | omega | (simp <;> omega)) _ | refine Below.alloc ?_ (by first | omega | (simp <;> omega)) _ | refine Below.drew ?_)))) (HTYP.out.comp HGPP.out).len HTZP.out.inv.len (by omega) (fun i hi => (HTYP.out.comp HGPP.out).lt hi)).mono ?_; rintro e w7 ⟨v7, rfl, hF7, hb7⟩; have tok3 : True := trivial; have hB7 : Below wr.heap.size wr w7 := belowStep hb7 hB6; have HP7 := Lib.hid (hF7.perm (ok := fun _ => True) (n := n) (by rw [comp_len, (HTYP.out.comp HGPP.out).len]) hn (fun _ _ _ => trivial)); clear hF7 hb7 tok2)
                      | (go_at_call 104; have _t := tok1; refine (implInverse _ cz n tz _ (by exact (show IntsAt w5' _ _ from HIZ.out.below hB5).below (by exact (by repeat (first | exact Below.refl _ _ | assumption | refine Below.setCell ?_ (by first | omega | (simp <;> omega)) _ | refine Below.alloc ?_ (by first | omega | (simp <;> omega)) _ | refine Below.drew ?_)))) HTZP.out (by omega)).mono ?_; rintro e w6 ⟨v6, rfl, hF6, hb6⟩; have tok2 : True := trivial; have hB6 : Below wr.heap.size wr w6 := belowStep hb6 hB5; obtain ⟨A6, c6', e6, hI6, -⟩ := hF6.ints; rw [natI_len, HTZP.out.inv.len] at e6; subst e6; have HI6' := Lib.hid hI6; have HI5' := Lib.hid (hI5'.below hb6); clear hF6 hb6 hI6 hI5' tok1)
                      | (go_at_call 103; have _t := tok0; refine (implCompose _ _ cy cg n ty gp1 _ (by exact HIY.out.below (by exact (by repeat (first | exact Below.refl _ _ | assumption | refine Below.setCell ?_ (by first | omega | (simp <;> omega)) _ | refine Below.alloc ?_ (by first | omega | (simp <;> omega)) _ | refine Below.drew ?_)))) (by exact HIG.out.below (by exact (by repeat (first | exact Below.refl _ _ | assumption | refine Below.setCell ?_ (by first | omega | (simp <;> omega)) _ | refine Below.alloc ?_ (by first | omega | (simp <;> omega)) _ | refine Below.drew ?_)))) HTYP.out.len HGL.out (by omega) (fun i hi => HTYP.out.lt hi)).mono ?_; rintro e w5' ⟨v5', rfl, hF5', hb5'⟩; have tok1 : True := trivial; have hB5 : Below wr.heap.size wr w5' := (by first | exact hb5' | exact ((Below.refl _ _).drew).trans hb5'); obtain ⟨A5', c5', e5', hI5', -⟩ := hF5'.ints; rw [natI_len, (HTYP.out.comp HGPP.out).len] at e5'; subst e5'; have hcg5 := (hB5.cell (p := ⟨gg, y, none⟩) hbg).trans hcg; have hu35 := (hB5.cell (p := ⟨s.R k, z, none⟩) lRk).trans hu3; clear hF5' hb5' tok0))
                    all_goals
                      obtain ⟨T5, Gs5, x1, x2, x3, x4, x5, x6⟩ := HPOST.out
                      have HS8 := Lib.hid ((HS4.out.more hB7 HS4.out.size).after x1 x2 x4 x5 x6)
                      have HPY8 := Lib.hid ((HPY4.out.below hB7).keep x6)
                      have hst := Prods.step HPR4.out (fun s hs => (HLP.out s hs).1) HR.out HJL.out HTY.out (by rw [HGP.out, HZZ.out]; exact HTZ.out) (by rw [HGP.out]; exact x3)
                      have HPN : Hid (Prods n k (Gs k ++ [p]) T1 T5 Gs5 (DoneTo ys a (j + 1))) := Prods.congr hst fun y' i _ hd => by
                        rcases DoneTo.step hd with h1 | h1
                        · exact .inl h1
                        · exact .inr ⟨h1.1.trans HYG.out, h1.2⟩
                      have HG5 : Hid (∀ i, i < k → Gs5 i = Gs i) := fun i hi => (x3.gens i (by omega)).trans (HG4.out i hi)
                      clear hst x1 x2 x3 x4 x5 x6 HPOST hu1 hu3 hcg hcu dRk lRk
                      go_wp2_with fail
                      go_roundw
                      case rel => exact ⟨j + 1, T5, Gs5, by go_num, by omega, HS8, HPY8.out, HPN, HG5⟩
                      case measure => simp [intOf]; omega
                  · obtain rfl : j = ll + 1 := by omega
                    have HPN : Hid (Prods n k (Gs k ++ [p]) T1 T4 Gs4 (DoneTo ys (a + 1) 0)) := Prods.congr HPR4.out fun y j hj hd => DoneTo.next (by rw [HMS.out]; exact hlt) (by rw [HLL1.out] at hj; exact hj) hd
                    go_wp2_with fail
                    go_roundw
                    case rel => exact ⟨a + 1, T4, Gs4, by go_num, by omega, HS4, HPY4.out, HPN, HG4⟩
                    case measure => simp [intOf]; omega
              · obtain rfl : a = ms := by omega
                have hadd : Added n k T Gs p T3 Gs3 := by
                  refine Prods.end_ HPR.out hkn HFU.out (HCN.out k (Nat.le_refl _) (by omega)) HP.out HFX.out HNOT.out rfl HR.out HCL.out (fun y j hy hj => ?_) (fun i hi => HO.out i (by omega)) HG3.out
                  have h1 : y ∈ ys := by rw [← HYS.out]; exact mem_orb.2 ⟨by
                    obtain ⟨t, ht⟩ := Option.isSome_iff_exists.1 hy
                    exact (HR.out.mem y t ht).1, hy⟩
                  have := DoneTo.all (i := j) h1
                  rwa [HMS.out] at this
                have HADD := Lib.hid hadd
                clear hadd
                go_wp2_with fail
                exact bodyPost_ret (results_none rfl _ _ _) rfl ⟨rfl, T3, Gs3, HS.out.top, HS.out.body, HADD.out, HS.out.low, HS.out.below, HS.out.keep⟩
          | cons h q =>
            obtain ⟨off, cap, rfl, hcap, hhd⟩ := queue_head hQ
            have hhT := HI.out h List.mem_cons_self
            obtain ⟨th, hth⟩ := Option.isSome_iff_exists.1 hhT
            have hhn := (HR.out.mem h th hth).1
            have t1c : wr.cell? ⟨C, 1, none⟩ = some (.slice (some ⟨s.Gb, 0, none⟩) n s.cg) := cell_of_row wr C 1 _ _ (0, 0) HS.out.top
            have hgc := HS.out.cell
            have HQ := Lib.hid hQ
            have HTH1 : Hid (∃ th, T1 k h = some th) := ⟨th, hth⟩
            have HP1 : Hid (Pend1 k (Gs k ++ [p]) T1 h q) := Pend.pop HPD.out
            have HI1 : Hid (∀ y, y ∈ q → (T1 k y).isSome = true) := fun y hy => HI.out y (List.mem_cons_of_mem _ hy)
            have hM1 : 2 * (n - (orb n T1 k).length) + q.length ≤ gk - 1 ∧ 0 < gk := by rw [List.length_cons] at hM; omega
            obtain ⟨hM1, hgk⟩ := hM1
            clear hQ hhT hth hM HPD HI
            go_wp2_with fail
            clear hhd t1c hgc
            go_loopw [7, 57] (fun u i wr => ∃ (T2 : Tab) (q2 : List Nat) (gq2 j : Nat), i = .int .i64 j ∧ j ≤ ll + 1 ∧ Hid (St (fun b => b ≠ gq2) 81 (tcI n s) B n k C s w wr T2 (updG Gs k (Gs k ++ [p])) (.slice A2 (ll + 1) c2)) ∧ QueueV w.heap.size wr u gq2 (natI (h :: q2)) ∧ Hid (RowIn n k (Gs k ++ [p]) T2) ∧ Hid (Pend1 k (Gs k ++ [p]) T2 h q2) ∧ Hid (CloTo k (Gs k ++ [p]) T2 h j) ∧ Hid (∀ y, y ∈ q2 → (T2 k y).isSome = true) ∧ Hid (∃ th, T2 k h = some th) ∧ Hid (∀ i, i ≠ k → T2 i = T i) ∧ 2 * (n - (orb n T2 k).length) + q2.length ≤ gk - 1) (fun _ i _ => ll + 1 - (intOf i).toNat)
            case atStart => exact ⟨T1, q, gq1, 0, rfl, Nat.zero_le _, HS, HQ.out, HR, HP1, (fun i hi => by omega), HI1, HTH1, HO, hM1⟩
            case round =>
              obtain ⟨T2, q2, gq2, j, rfl, hj, HS2, hQ2, HR2, HP2, HC2, HI2, HTH, HO2, hM2⟩ := hrel
              clear HS HQ HP1 HI1 hM1 HR HO
              obtain ⟨off2, cap2, rfl, hcap2, hhd2⟩ := queue_head hQ2
              obtain ⟨dsq, hdq⟩ := hQ2.block
              have hgqw := hQ2.low
              have HQ2 := Lib.hid hQ2
              have HDQ := Lib.hid hdq
              clear hQ2 hdq
              by_cases hlt : j < ll + 1
              · have hgen := HS2.out.gen hkn
                rw [updG_same] at hgen
                obtain ⟨ga, u, rfl, hga, hcu, hpg, hLl⟩ := hgen.at_ hlt
                have hmem := getD_mem (l := Gs k ++ [p]) (j := j) (by rw [hLl]; exact hlt)
                obtain ⟨gp1, hgp1⟩ : ∃ gp1, (Gs k ++ [p]).getD j [] = gp1 := ⟨_, rfl⟩
                rw [hgp1] at hpg hmem
                obtain ⟨gg, cg, rfl, hIg, hgl⟩ := hpg.ints
                obtain ⟨b, o1, e1, hb1, hc1⟩ := perm_at hIg (i := h) (by rw [hgl]; exact hhn)
                injection e1 with e1
                injection e1 with e2 e3
                subst e2 e3
                rw [Nat.zero_add] at hc1
                have hzn := (HLP.out _ hmem).1.lt hhn
                obtain ⟨z, hz⟩ : ∃ z, app gp1 h = z := ⟨_, rfl⟩
                rw [hz] at hc1 hzn
                obtain ⟨u2, hu2, hrep2, -⟩ := HS2.out.body.readRow hkn hzn
                have HZ := Lib.hid hz
                have HGP := Lib.hid hgp1
                have HMEM := Lib.hid hmem
                have HIG := Lib.hid hIg
                have HGL := Lib.hid hgl
                have q0 : (0 : Int) ≤ (j : Int) := by omega
                have q1 : (j : Int) < ((ll + 1 : Nat) : Int) := by omega
                have q2' : (0 : Int) ≤ (h : Int) := by omega
                have q3 : (h : Int) < (n : Int) := by omega
                have q4 : (0 : Int) ≤ (z : Int) := by omega
                have q5 : (z : Int) < (n : Int) := by omega
                clear hz hgp1 hmem hIg hgl hgen hpg hLl
                have heq := fun (wx : World) (a : Option Addr) (l c : Nat) => Lib.run_eql_slice_nil (P := Try.prog) wx 23 2 a l c 0 0 Try.underlying23
                cases hTz : T2 k z with
                | some tz =>
                  rw [hTz] at hrep2
                  obtain ⟨gt, ct, rfl, -, -⟩ := PermV.ints hrep2
                  have HCN2 : Hid (CloTo k (Gs k ++ [p]) T2 h (j + 1)) := CloTo.more HC2.out (by rw [HGP.out, HZ.out, hTz]; rfl)
                  clear hTz hrep2
                  go_wp2_with fail
                  go_roundw
                  case rel => exact ⟨T2, q2, gq2, j + 1, by go_num, by omega, HS2, HQ2.out, HR2, HP2, HCN2, HI2, HTH, HO2, hM2⟩
                  case measure => simp [intOf]; omega
                | none =>
                  rw [hTz] at hrep2
                  obtain rfl : u2 = .slice none 0 0 := hrep2
                  obtain ⟨th, hth⟩ := HTH.out
                  obtain ⟨u3, hu3, hrep3, -⟩ := HS2.out.body.readRow hkn hhn
                  rw [hth] at hrep3
                  have hthP := GenL.isP (fun s hs => (HLP.out s hs).1) (HR2.out.mem h th hth).2.1
                  obtain ⟨gt, ct, rfl, hIt, htl⟩ := PermV.ints hrep3
                  have HTZ := Lib.hid hTz
                  have HTHH := Lib.hid hth
                  have HTP := Lib.hid hthP
                  have HIT := Lib.hid hIt
                  have hgqlt := row_lt HDQ.out
                  clear hTz hth hthP hIt htl hrep3
                  go_wp2_with fail
                  refine (implCompose _ _ ct cg n th gp1 _ (by exact HIT.out) (by exact HIG.out) HTP.out.len HGL.out (by omega) (fun i hi => HTP.out.lt hi)).mono ?_
                  rintro e w4 ⟨v4, rfl, hF4, hb4⟩
                  have hS4 := HS2.out.more hb4 HS2.out.size
                  have hPV4 := hF4.perm (ok := fun b => b ≠ gq2) (n := n) (by rw [comp_len, HTP.out.len]) hn (fun b hb _ => by omega)
                  obtain ⟨u4, hu4, hrep4, hfr4⟩ := hS4.body.readRow hkn hzn
                  rw [HTZ.out] at hrep4
                  obtain rfl : u4 = .slice none 0 0 := hrep4
                  obtain ⟨g4, c4, e4, -, -⟩ := hPV4.ints
                  rw [e4] at hPV4 ⊢
                  have hdq4 := rowB hb4 HDQ.out
                  have hQ4 := HQ2.out.below hb4
                  have hS5 := hS4.row hkn hzn hPV4 (by decide)
                  obtain ⟨w5, hw5⟩ : ∃ w5, w4.setCell ⟨s.R k, z, none⟩ (.slice (some ⟨g4, 0, none⟩) n c4) = w5 := ⟨_, rfl⟩
                  obtain ⟨rcs, hrc, -⟩ := hS4.body.row k hkn
                  have hneq : gq2 ≠ s.R k := fun e => by rw [e, hrc] at hdq4; simp at hdq4
                  have hdq5 : w5.heap[gq2]? = some (.cells dsq 2 (0, 0)) := by rw [← hw5]; exact rowS hdq4 hneq
                  have hQ5 : QueueV w.heap.size w5 (.slice (some ⟨gq2, off2, none⟩) (q2.length + 1) cap2) gq2 (natI (h :: q2)) := by rw [← hw5]; exact hQ4.keep fun _ e => rowS e hneq
                  rw [hw5] at hS5
                  have hz5 : w.heap.size ≤ w5.heap.size := hS5.keep.1
                  have hq20 : q2.length ≤ 1048576 := by have := orb_len_le n T2 k; omega
                  have hnl1 : (natI (h :: q2)).length ≤ 1048576 := by rw [natI_len, List.length_cons]; omega
                  have HS5 := Lib.hid hS5
                  have HQ5 := Lib.hid hQ5
                  have HDQ5 := Lib.hid hdq5
                  clear hF4 hb4 hS4 hPV4 hdq4 hQ4 hS5 hrc hneq hdq5 hQ5 e4 hu2 hu3 hcu hc1 hhd2
                  go_wp2_with (first | (at_builtin; refine append_q rfl (.tmp 83) (.tmp 85) rfl w.heap.size _ gq2 (natI (h :: q2)) (z : Int) rfl (HQ5.out.below (by exact (by repeat (first | exact Below.refl _ _ | assumption | refine Below.setCell ?_ (by first | omega | (simp <;> omega)) _ | refine Below.alloc ?_ (by first | omega | (simp <;> omega)) _ | refine Below.drew ?_)))) w5.heap.size rfl (by simp) hnl1 (by simp; omega) ?_; intro v6 g6 w6 hQ6 hor6))
                  obtain ⟨hS6, hQ6⟩ := St.queued (HS5.out.more (by exact (by repeat (first | exact Below.refl _ _ | assumption | refine Below.setCell ?_ (by first | omega | (simp <;> omega)) _ | refine Below.alloc ?_ (by first | omega | (simp <;> omega)) _ | refine Below.drew ?_))) HS5.out.size) (rowB (by exact (by repeat (first | exact Below.refl _ _ | assumption | refine Below.setCell ?_ (by first | omega | (simp <;> omega)) _ | refine Below.alloc ?_ (by first | omega | (simp <;> omega)) _ | refine Below.drew ?_))) HDQ5.out) hgqw hBw (by decide) hQ6 hor6
                  rw [natI_snoc, List.cons_append] at hQ6
                  have hHS6 := Lib.hid hS6
                  have hne : h ≠ z := fun e => by have := HTHH.out; rw [e, HTZ.out] at this; cases this
                  have hR6 : Hid (RowIn n k (Gs k ++ [p]) (updT T2 k z (comp th gp1))) := by
                    have := RowIn.add HR2.out hkn (fun s hs => (HLP.out s hs).1) HTHH.out HMEM.out (by rw [HZ.out]; exact HTZ.out)
                    rw [HZ.out] at this; exact this
                  have hP6 : Hid (Pend1 k (Gs k ++ [p]) (updT T2 k z (comp th gp1)) h (q2 ++ [z])) := Pend1.add HP2.out z _
                  have hC6 : Hid (CloTo k (Gs k ++ [p]) (updT T2 k z (comp th gp1)) h (j + 1)) := CloTo.more (CloTo.upd HC2.out z _) (by rw [HGP.out, HZ.out, updT_same]; rfl)
                  have hI6 : Hid (∀ y, y ∈ q2 ++ [z] → (updT T2 k z (comp th gp1) k y).isSome = true) := fun y hy => by
                    rcases List.mem_append.1 hy with h1 | h1
                    · exact updT_some _ (HI2.out y h1)
                    · rw [List.mem_singleton.1 h1, updT_same]; rfl
                  have hT6 : Hid (∃ th', updT T2 k z (comp th gp1) k h = some th') := ⟨th, by rw [updT_other _ (fun e => hne e.2)]; exact HTHH.out⟩
                  have hO6 : Hid (∀ i, i ≠ k → updT T2 k z (comp th gp1) i = T i) := fun i hi => (updT_off _ hi).trans (HO2.out i hi)
                  have hlen6 : 2 * (n - (orb n (updT T2 k z (comp th gp1)) k).length) + (q2 ++ [z]).length ≤ gk - 1 := by
                    have h1 := orb_upd (t := comp th gp1) hzn HTZ.out
                    have h2 := orb_len_le n (updT T2 k z (comp th gp1)) k
                    rw [List.length_append, List.length_singleton]
                    omega
                  clear hS6 hor6 hne heq
                  go_roundw
                  case rel => exact ⟨_, q2 ++ [z], g6, j + 1, by go_num, by omega, hHS6, hQ6, hR6, hP6, hC6, hI6, hT6, hO6, hlen6⟩
                  case measure => simp [intOf]; omega
              · obtain rfl : j = ll + 1 := by omega
                have hPD2 : Hid (Pend k (Gs k ++ [p]) T2 q2) := Pend1.done HP2.out (by
                  have e : (Gs k ++ [p]).length = ll + 1 := by rw [List.length_append, HLL.out]; rfl
                  rw [e]; exact HC2.out)
                have htl := queue_tail HQ2.out
                have z1 : (1 : Int) ≤ (cap2 : Int) := by omega
                have z2 : (1 : Int) ≤ (q2.length : Int) + 1 := by omega
                have z3 : 1 ≤ cap2 := by omega
                have HTL := Lib.hid htl
                clear htl hhd2 hlt
                rcases Nat.eq_or_lt_of_le z3 with e1 | e1
                · subst e1
                  obtain rfl : q2 = [] := List.eq_nil_of_length_eq_zero (by omega)
                  have HQN := Lib.hid (HTL.out.2 rfl)
                  go_wp2_with fail
                  go_roundg (gk - 1)
                  case measure => omega
                  case rel => exact ⟨T2, [], gq2, HS2, HQN.out, HR2, hPD2, HI2, HO2, hM2, by omega⟩
                · have hne : ¬ cap2 = 1 := by omega
                  have hnf : (cap2 == 1) = false := by simp; omega
                  have HQN := Lib.hid HTL.out.1
                  go_wp2_with fail
                  go_roundg (gk - 1)
                  case measure => omega
                  case rel => exact ⟨T2, q2, gq2, HS2, HQN.out, HR2, hPD2, HI2, HO2, hM2, by omega⟩
end Go.Proofs.Ytpcnbjfkobeibaa
