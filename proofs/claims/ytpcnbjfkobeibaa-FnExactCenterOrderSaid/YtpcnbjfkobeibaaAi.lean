/- The values of a level, sorted, and the member of a rank, at the program. Conditions: as each contract says. -/
import Derived.Test.YtpcnbjfkobeibaaAs
import Derived.Test.YtpcnbjfkobeibaaShelf
import Derived.Sort.OwnSortedInts
namespace Go.Proofs.Ytpcnbjfkobeibaa
open Go.RowKit Grp Go.Maps

/-- slices.Sort over a list of the call's own. -/
theorem sortInts {B : Nat} (g cap n : Nat) (zs : List Int) (w : World) (hF : Fresh B w (.slice (some ⟨g, 0, none⟩) n cap) zs) (hn : zs.length = n) (hnl : n ≤ 1048576) :
    Calls Try.prog 142 #[.slice (some ⟨g, 0, none⟩) n cap] w fun e w' => e = .returned (.tuple #[]) ∧ Fresh B w' (.slice (some ⟨g, 0, none⟩) n cap) (zs.mergeSort fun x y => decide (x ≤ y)) ∧ w.grownBy w' (some g) := by
  subst hn
  rcases hF.2 with ⟨he, _⟩ | ⟨g', cap', cur, he, hbg, hg, h1, h2, h3, h4⟩
  · cases he
  injection he with e1 e2 e3
  injection e1 with e1
  injection e1 with e1
  subst e1 e3
  have hH := holds_of_blockI (ss := zs) hg (by simpa using h4)
  refine (Try.slices_Sort g 0 cap zs w hH (Array.getElem?_eq_some_iff.1 hg).1 (by omega)).mono ?_
  rintro e w' ⟨rfl, n, os, rfl⟩
  have hl : (zs.mergeSort fun x y => decide (x ≤ y)).length = zs.length := List.length_mergeSort zs
  refine ⟨rfl, ?_, grownBy_sortedI _⟩
  unfold Fresh
  have := ownsRow_sortedI (n := n) (os := os) hl hbg hg h1 h2 h3
  rwa [← hl] at this ⊢
theorem sorted_natI {cs vs : List Nat} (hc : cs.Nodup) (hv : Asc vs) (he : ∀ x, x ∈ cs ↔ x ∈ vs) : (natI cs).mergeSort (fun x y => decide (x ≤ y)) = natI vs := by
  have hp : cs.Perm vs := (List.perm_ext_iff_of_nodup hc hv.nodup).2 he
  have hp2 : (natI cs).Perm (natI vs) := hp.map _
  have tr : ∀ a b c : Int, decide (a ≤ b) = true → decide (b ≤ c) = true → decide (a ≤ c) = true := fun a b c h1 h2 => by simp only [decide_eq_true_eq] at *; omega
  have tot : ∀ a b : Int, (decide (a ≤ b) || decide (b ≤ a)) = true := fun a b => by simp only [Bool.or_eq_true, decide_eq_true_eq]; omega
  have hs : (natI vs).Pairwise fun a b => decide (a ≤ b) = true := by
    unfold natI
    rw [List.pairwise_map]
    exact List.Pairwise.imp (fun h => decide_eq_true (by omega)) hv
  refine List.Perm.eq_of_pairwise (le := fun a b : Int => decide (a ≤ b) = true) (fun a b _ _ h1 h2 => ?_) (List.pairwise_mergeSort tr tot _) hs ((List.mergeSort_perm _ _).trans hp2)
  simp only [decide_eq_true_eq] at h1 h2
  omega
def SortedPost (V : List Nat) (w : World) (e : Ending) (w' : World) : Prop := ∃ g c, e = .returned (.slice (some ⟨g, 0, none⟩) V.length c) ∧ w.heap.size ≤ g ∧ IntsAt w' (some ⟨g, 0, none⟩) (natI V) ∧ Below w.heap.size w w'
set_option maxRecDepth 100000 in
set_option maxHeartbeats 4000000 in
theorem implSorted {G : List Nat → Prop} (C n W i : Nat) (T : Tab) (u : List Nat) (w : World) (hC : CI w C n T) (hc : Chain n T 0 G) (hnl : n ≤ 20) (hw : WalkAt w W C n i u) (hu : IsP n u) (hi : i < n) :
    Calls Try.prog 118 #[.pointer (some ⟨W, 0, none⟩)] w (SortedPost (vals n T i u) w) := by
  have hvp := vals_pos hc hi hu
  obtain ⟨vs, hvs⟩ : ∃ vs, vals n T i u = vs := ⟨_, rfl⟩
  have HASC : Hid (Asc vs) := by rw [← hvs]; exact asc_vals
  have hvl : vs.length ≤ 20 := by rw [← hvs, vals_length hu]; exact Nat.le_trans (orbTo_len T i n) hnl
  have HU := Lib.hid hu
  have hcall : Calls Try.prog 135 #[.pointer (some ⟨W, 0, none⟩)] w (ValsPost n T i u w) := by
    obtain ⟨B, s, Gs, h1, h2⟩ := hC
    exact implValues B n C W i s T Gs u w h1 h2 hw hu hi hnl
  have HCALL := Lib.hid hcall
  rw [hvs] at hvp
  rw [hvs]
  have HVS := Lib.hid hvs
  clear hvs hu hC hc hw hcall
  go_enter Try.func118, Try.ntmps118
  go_wp2_with fail
  refine HCALL.out.mono ?_
  rintro e w1 ⟨M, D, rfl, hown, hM, hB1⟩
  have HH : Hid (∀ v, Maps.has D (kI v) = true ↔ v ∈ vs) := fun v => by rw [hM.has_vals HU.out, HVS.out]
  have HK : Hid (∀ kl, Maps.has D kl = true → ∃ v, v ∈ vs ∧ kl = kI v) := fun kl h => by
    obtain ⟨y, hy, e⟩ := (hM.2.1 kl).1 h
    exact ⟨app u y, by rw [← HVS.out, vals_of_orb HU.out]; exact ⟨y, hy, rfl⟩, e⟩
  clear hM HCALL
  go_wp2_with (first | (at_range; refine wpList_range_own _ rfl _ 113 rfl 2 2 lawK Try.underlying113 _ M 20 _ rfl hown ?_; intro w0 hrg0 hg0 hs0))
  go_frame
  have hB0 : Below w.heap.size w w0 := hB1.trans ((Below.refl _ _).grown hg0 hB1.size (fun j hj => by cases hj))
  have hMl : M < w0.heap.size := hrg0.owns.lt
  have hIl : w1.heap.size < w0.heap.size := hrg0.lt
  have HM0 : Hid (∀ v, v ∈ ([] : List Nat) ↔ v ∈ vs ∧ dnOf (Maps.has D) v = true) := fun v => by
    constructor
    · intro h; simp at h
    · rintro ⟨h1, h2⟩; unfold dnOf at h2; rw [(HH.out v).2 h1] at h2; cases h2
  have HN0 : Hid (([] : List Nat).Nodup) := List.nodup_nil
  have hF0 : Fresh w0.heap.size w0 (.slice none 0 0) (natI []) := Fresh.nil _ _
  have hr0 : w.heap.size ≤ w1.heap.size := hB1.size
  clear hown
  go_loopw [3] (fun lv wr => ∃ (left : Lit → Bool) (cnt : Nat) (cs : List Nat), wr.ranges Try.prog 2 (plainElem (H := Unit) Try.prog 2) M w1.heap.size 20 D left cnt ∧ Fresh w0.heap.size wr lv (natI cs) ∧ Hid (∀ v, v ∈ cs ↔ v ∈ vs ∧ dnOf left v = true) ∧ Hid cs.Nodup ∧ Hid (∀ kl, left kl = true → ∃ v, v ∈ vs ∧ kl = kI v) ∧ w0.heap.size ≤ wr.heap.size ∧ Below w.heap.size w wr)
    (fun _ wr => wr.rangeLeft M w1.heap.size)
  case atStart => exact ⟨_, _, [], hrg0, hF0, HM0, HN0, HK, Nat.le_refl _, hB0⟩
  case round =>
    obtain ⟨left, cnt, cs, hrg, hF, HM, HN, HL, hsz, hB⟩ := hrel
    clear hrg0 hF0 HM0 HN0 hB0 hg0 hs0
    have hcl : cs.length ≤ 20 := Nat.le_trans (length_le_of_subset cs vs HN.out fun x hx => ((HM.out x).1 hx).1) hvl
    go_wp2_with (first | (at_next; refine wpList_next_ranges_ii _ rfl _ rfl 2 2 .i64 .i64 lawK Try.underlying2 Try.underlying2 M w1.heap.size 20 _ _ _ rfl hrg ?_ ?_))
    · intro _ hl0
      have he : ∀ x, x ∈ cs ↔ x ∈ vs := fun x => by
        rw [HM.out x]
        exact ⟨fun h => h.1, fun h => ⟨h, by unfold dnOf; rw [hl0]; rfl⟩⟩
      have hsrt := sorted_natI HN.out HASC.out he
      have hlen : cs.length = vs.length := ((List.perm_ext_iff_of_nodup HN.out HASC.out.nodup).2 he).length_eq
      rcases hF.2 with ⟨rfl, hn⟩ | ⟨g, cap, cur, rfl, hbg, hg, -⟩
      · rw [natI_len] at hn
        omega
      · have hl2 : (natI cs).length = vs.length := by rw [natI_len, hlen]
        rw [hl2] at hF
        rw [hl2]
        have HCALL := Lib.hid (sortInts g cap vs.length (natI cs) wr hF hl2 (by omega))
        rw [hsrt] at HCALL
        clear hF hsrt hlen he hl2 hg
        go_wp2_with (first | (go_at_call 142; refine HCALL.out.mono ?_; rintro e w2 ⟨rfl, hF2, hg2⟩))
        go_ret
        exact ⟨g, cap, rfl, by omega, hF2.intsAt, hB.grown hg2 hB.size (fun j hj => by injection hj with hj; omega)⟩
    · intro a y w2 cnt2 hwa hwy hla hat hrg2 hlt hg2 hs2 hen
      obtain ⟨v, hv, ev⟩ := HL.out _ hla
      simp only [kI, Lit.int.injEq, true_and] at ev
      subst ev
      have hd : dnOf left v = false := by unfold dnOf kI; rw [hla]; rfl
      have he : ∀ z, dnOf (fun z => left z && !z.sameKey (.int .i64 (v : Int))) z = (dnOf left z || z == v) := fun z => by
        unfold dnOf kI
        dsimp only
        have : Lit.sameKey (.int .i64 (z : Int)) (.int .i64 (v : Int)) = (z == v) := by
          by_cases e : z = v
          · subst e; simp [Lit.sameKey]
          · have : (z == v) = false := by simpa using e
            rw [this]
            simp [Lit.sameKey]
            omega
        rw [this]
        cases left (.int .i64 (z : Int)) <;> simp
      have HM2 : Hid (∀ z, z ∈ cs ++ [v] ↔ z ∈ vs ∧ dnOf (fun z => left z && !z.sameKey (.int .i64 (v : Int))) z = true) := fun z => by
        rw [he z, List.mem_append, HM.out z, List.mem_singleton, Bool.or_eq_true, beq_iff_eq]
        constructor
        · rintro (⟨h1, h2⟩ | rfl)
          · exact ⟨h1, .inl h2⟩
          · exact ⟨hv, .inr rfl⟩
        · rintro ⟨h1, h2 | rfl⟩
          · exact .inl ⟨h1, h2⟩
          · exact .inr rfl
      have HN2 : Hid (cs ++ [v]).Nodup := by
        unfold Hid
        rw [List.nodup_append]
        refine ⟨HN.out, by simp, fun a ha b hb e => ?_⟩
        rw [List.mem_singleton] at hb
        subst hb e
        have := ((HM.out a).1 ha).2
        rw [hd] at this
        cases this
      have HL2 : Hid (∀ kl, (left kl && !kl.sameKey (.int .i64 (v : Int))) = true → ∃ v, v ∈ vs ∧ kl = kI v) := fun kl h => HL.out kl (by rw [Bool.and_eq_true] at h; exact h.1)
      have hB2 : Below w.heap.size w w2 := hB.grown hg2 hB.size (fun j hj => by injection hj with hj; omega)
      have hF2 := hF.grownNew hg2 (fun j hj => by injection hj with hj; omega)
      have hF2a := hF2.below ((Below.refl w2.heap.size w2).alloc (Nat.le_refl _) (.cells #[.int .i64 (v : Int)] 2))
      have hrg2a := hrg2.alloc (.cells #[.int .i64 (v : Int)] 2)
      have hlow := row_ne_low hF2a hMl
      have hite := row_ne_iter hF2a hrg2a
      have hrg2s : w0.heap.size ≤ w2.heap.size := Nat.le_trans hsz hg2.size
      have hl2 : (natI cs).length ≤ 1048576 := by rw [natI_len]; omega
      have hll := hrg.left_eq
      have HLL := Lib.hid hll
      clear hd he hat hwy hwa hla hs2 hF hll
      go_wp2_with (first
        | (at_builtin; refine append_one rfl (.tmp 12) (.tmp 14) rfl w0.heap.size _ _ (v : Int) rfl (hF2.below (by repeat (first | exact Below.refl _ _ | assumption | refine Below.setCell ?_ (by first | omega | (simp <;> omega)) _ | refine Below.alloc ?_ (by first | omega | (simp <;> omega)) _ | refine Below.drew ?_))) w2.heap.size rfl (by simp) hl2 (by simp; omega) ?_; intro v3 w3 hF3 hg3 hb3 ))
      have hrg3 := hrg2a.kept hg3 hlow hite
      have hB3 : Below w.heap.size w w3 := hB2.trans ((Below.mono ((Below.refl _ _).alloc (Nat.le_refl _) _) hB2.size).trans (Below.mono hb3 (by have := hB2.size; simp; omega)))
      have HF3 : Hid (Fresh w0.heap.size w3 v3 (natI (cs ++ [v]))) := by unfold Hid; simpa [natI] using hF3
      have hsz3 : w0.heap.size ≤ w3.heap.size := by have := hb3.size; simp at this; omega
      go_roundw
      case rel => exact ⟨_, cnt2, _, hrg3, HF3.out, HM2, HN2, HL2, hsz3, hB3⟩
      case measure => rw [hrg3.left_eq, HLL.out]; exact hlt
set_option maxRecDepth 100000 in
set_option maxHeartbeats 8000000 in
theorem implChainAt {G : List Nat → Prop} (C n : Nat) (T : Tab) (k : Int) (w : World) (hC : CI w C n T) (hc : Chain n T 0 G) (hn : n ≤ 20) (h0 : 0 < n) :
    Calls Try.prog 78 #[.pointer (some ⟨C, 0, none⟩), .int .i64 k] w (ReadsOpt (atO n T k) w) := by
  have hob := ordG_bound hc hn (Nat.zero_le _)
  have hord := implOrder C n 0 T w hC hc (Nat.zero_le _) hn
  obtain ⟨O, hO⟩ : ∃ O, ordG n T 0 = O := ⟨_, rfl⟩
  rw [hO] at hob hord
  have hord : Calls Try.prog 113 #[.pointer (some ⟨C, 0, none⟩), .int .i64 0] w (ReadsNat O w) := hord
  have HORD := Lib.hid hord
  have q0' : wrap64 ((O : Int) - 1) = (O : Int) - 1 := by unfold wrap64; omega
  have q0 : IntKind.i64.wrap ((O : Int) - 1) = (O : Int) - 1 := IntWalk.i64_in _ (by omega)
  obtain ⟨s, t0, -, -, -⟩ := hC.cells
  have hlC := hC.lt
  have HC := Lib.hid hC
  have HCH := Lib.hid hc
  by_cases hk : 0 ≤ k ∧ k < (O : Int)
  · obtain ⟨m, rfl⟩ := Int.eq_ofNat_of_zero_le hk.1
    have hmO : m < O := by omega
    have hin : inR (m : Int) 0 ((O : Int) - 1) = true := inR_iff.2 ⟨by omega, by omega⟩
    have HIN : Hid (∀ wx : World, Calls Try.prog 130 #[.int .i64 (m : Int), .int .i64 0, .int .i64 ((O : Int) - 1)] wx fun e w' => e = .returned (.bool true) ∧ wx = w') := fun wx => by have := within_any (m : Int) 0 ((O : Int) - 1) wx; rwa [hin] at this
    rw [atO_yes (by rw [hO]; exact hmO)]
    obtain ⟨R, hR⟩ : ∃ R, walkG n T (actAt n T) n 0 (idp n) m = R := ⟨_, rfl⟩
    have hRR : atR n T m = R.2 := by unfold atR; rw [hR]
    rw [hRR]
    have HWK0 : Hid (Wk n T (actAt n T) 0 (idp n) m R) := hR
    have HO := Lib.hid hO
    clear hC hc hord hin hk hR hRR hO
    go_enter Try.func78, Try.ntmps78
    go_wp2_with (first
      | (go_at_call 113; refine HORD.out.mono ?_; rintro e w2 ⟨rfl, hB2⟩; have t02 : w2.cell? ⟨C, 0, none⟩ = some (.int .i64 (n : Int)) := (hB2.cell (p := ⟨C, 0, none⟩) hlC).trans t0)
      | (go_at_call 130; refine (HIN.out _).mono ?_; rintro e w' ⟨rfl, rfl⟩)
      | (go_at_call 84; refine (implIdentity n _ (by omega)).mono ?_; rintro e w3 ⟨v3, rfl, hF3, hb3⟩; have HF3 := Lib.hid hF3; have hB3 := belowStep hb3 hB2; clear hF3)
      | (go_at_call 83; refine (implFrom C n v3 (idp n) _ (HF3.out.perm idp_len h0 (fun _ _ _ => trivial))).mono ?_; rintro e w4 ⟨rfl, hW, hb4⟩; have HW0 := Lib.hid hW; have HC3 := Lib.hid (HC.out.below hB3); clear hW))
    have hz3 := hB3.size
    clear t0 t02 HF3 HORD q0 q0'
    go_loopw [1] (fun z wr => ∃ (i k : Nat) (u : List Nat), i ≤ n ∧ z = .int .i64 (k : Int) ∧ Hid (WalkAt wr w3.heap.size C n i u) ∧ Hid (IsP n u) ∧ Hid (Wk n T (actAt n T) i u k R) ∧ k < ordG n T i ∧ Below w3.heap.size w3 wr ∧ Hid (0 < i → WalkF w.heap.size wr w3.heap.size C n i u)) (fun _ wr => n - lvlOf wr w3.heap.size)
    case atStart => exact ⟨0, m, idp n, Nat.zero_le _, rfl, HW0, IsP.idp, HWK0, by rw [HO.out]; exact hmO, hb4, fun h => absurd h (Nat.lt_irrefl _)⟩
    case round =>
      obtain ⟨i, k, u, hi, rfl, HW, HU, HWK, hkO, hB, HF⟩ := hrel
      clear HW0 HWK0 hb4
      have HCr := Lib.hid (HC3.out.below hB)
      obtain ⟨s, t0, -, -, -⟩ := HCr.out.cells
      obtain ⟨gw, cw, -, -, -, -, x1, -⟩ := HW.out.cells
      have hWl := HW.out.lt
      have hBz := hB.size
      by_cases hlt : i < n
      · obtain ⟨q, v, hq, hql, hqv, hv, hact, hrem⟩ := at_step HCH.out hlt HU.out hkO
        have hordi := fun (wx : World) (hb : Below wr.heap.size wr wx) => implOrder C n (i + 1) T wx (HCr.out.below hb) HCH.out (by omega) hn
        obtain ⟨Oi, hOi⟩ : ∃ Oi, ordG n T (i + 1) = Oi := ⟨_, rfl⟩
        have hOp := ordG_bound HCH.out hn (show i + 1 ≤ n by omega)
        rw [hOi] at hq hact hrem hOp hordi
        have hkb := ordG_bound HCH.out hn hi
        have HWK5 : Hid (Wk n T (actAt n T) (i + 1) (Grp.step T i u v) (k % Oi) R) := HWK.out.go hlt hact hv
        have HU5 : Hid (IsP n (Grp.step T i u v)) := step_isP HCH.out hlt HU.out hv
        have HREM : Hid (k % Oi < ordG n T (i + 1)) := by unfold Hid; rw [hOi]; exact hrem
        have htk := fun (wx : World) (hb : Below wr.heap.size wr wx) => takeYes (HCr.out.below hb) HCH.out hn (HW.out.below hb) HU.out hlt hv
        have HTK := Lib.hid htk
        obtain ⟨V, hV⟩ : ∃ V, vals n T i u = V := ⟨_, rfl⟩
        have hsr := fun (wx : World) (hb : Below wr.heap.size wr wx) => implSorted C n w3.heap.size i T u wx (HCr.out.below hb) HCH.out hn (HW.out.below hb) HU.out hlt
        rw [hV] at hql hqv hsr
        have HORDI : Hid (∀ wx : World, Below wr.heap.size wr wx → Calls Try.prog 113 #[.pointer (some ⟨C, 0, none⟩), .int .i64 ((i + 1 : Nat) : Int)] wx (ReadsNat Oi wx)) := hordi
        have HSR := Lib.hid hsr
        have HQV := Lib.hid hqv
        have HQL := Lib.hid hql
        have d1 : (k : Int).tdiv (Oi : Int) = (q : Int) := by rw [Int.tdiv_eq_ediv_of_nonneg (by omega), ← Int.natCast_ediv, hq]
        have d2 : (k : Int).tmod (Oi : Int) = ((k % Oi : Nat) : Int) := by rw [IntWalk.rem_in _ _ (by omega), ← Int.natCast_emod]
        have d3 : ¬ (Oi : Int) = 0 := by omega
        have d4 : ¬ Oi = 0 := by omega
        have d5 : ((Oi : Int) == 0) = false := by simpa using d4
        have hkb2 : k < 2432902008176640000 := Nat.lt_of_lt_of_le hkO hkb.2
        have hvl : V.length ≤ 20 := by rw [← hV, vals_length HU.out]; have := orb_le HCH.out hlt; omega
        have p0 : (0 : Int) ≤ (i : Int) := by omega
        have p1 : (i : Int) < (n : Int) := by omega
        have p2 : (0 : Int) ≤ (q : Int) := by omega
        have p3 : (q : Int) < (V.length : Int) := by omega
        have d6 : wrap64 (q : Int) = (q : Int) := by unfold wrap64; omega
        have q3 : IntKind.i64.wrap ((i : Int) + 1) = ((i + 1 : Nat) : Int) := by rw [show (i : Int) + 1 = ((i + 1 : Nat) : Int) by omega]; exact wrapNat (by omega)
        have HL0 := Lib.hid HW.out.lvl
        clear hV hsr hordi hqv hql hv hact hrem htk hOi hq hkO hkb
        go_wp2_with fail
        go_quiet (fail)
        go_wp2_with (first
          | (go_at_call 113; refine (HORDI.out _ (by exact belowDrewN (Below.refl _ _) _)).mono ?_; rintro e w5 ⟨rfl, hb5⟩; have hB5 : Below wr.heap.size wr w5 := belowStep hb5 (belowDrewN (Below.refl _ _) _))
          | (go_at_call 118; refine (HSR.out _ (by exact hB5)).mono ?_; rintro e w6 ⟨g6, c6, rfl, -, hI6, hb6⟩; have hB6 := belowStep hb6 hB5
              ; obtain ⟨b6, off6, e6, hbl6, hc6⟩ := perm_at hI6 (i := q) HQL.out
              ; injection e6 with e6
              ; injection e6 with e7 e8
              ; subst e7 e8
              ; rw [HQV.out, Nat.zero_add] at hc6
              ; clear hI6)
          | (go_at_call 85; refine (HTK.out _ (by exact hB6)).mono ?_; rintro e w7 ⟨rfl, hw7, hb7⟩))
        have hB6z := hB6.size
        have HF7 := Lib.hid (hw7.mono (B' := w.heap.size) (by omega))
        have hw7 := hw7.walk HU5.out.len h0
        have HW7 := Lib.hid hw7
        have HL7 := Lib.hid hw7.lvl
        have hB7 : Below w3.heap.size w3 w7 := (hB.trans (hB6.mono (Nat.le_of_lt hWl))).trans hb7
        clear hw7
        go_roundw
        case rel => exact ⟨i + 1, k % Oi, _, by omega, by first | rfl | rw [d2], HW7, HU5, HWK5, HREM.out, hB7, fun _ => HF7.out⟩
        case measure => rw [HL0.out, HL7.out]; omega
      · obtain rfl : i = n := by omega
        have HE : Hid (R.2 = some u) := by unfold Hid; rw [HWK.out.end_]
        obtain ⟨A9, c9, hrow, hfr⟩ := HF.out h0
        have y2 : wr.cell? ⟨w3.heap.size, 2, none⟩ = some (.slice A9 i c9) := cell_of_row _ _ 2 _ _ (0, 0) hrow
        have HFF : Hid (Fresh w.heap.size wr (.slice A9 i c9) (natI (R.2.getD []))) := by unfold Hid; rw [HE.out]; exact hfr
        have HES : Hid (R.2.isSome = true) := by unfold Hid; rw [HE.out]; rfl
        clear hrow hfr
        go_wp2_with fail
        go_quiet (fail)
        go_wp2_with fail
        exact bodyPost_ret (v := .tuple #[.slice A9 i c9, .bool true]) (by simp [results, Try.results78, go_sem]) rfl ⟨_, by rw [HES.out], HFF.out.below (belowDrewN (Below.refl _ _) _), belowDrewN (belowStep hB hB3) _⟩
  · have hin : inR k 0 ((O : Int) - 1) = false := inR_no.2 (by omega)
    have HIN : Hid (∀ wx : World, Calls Try.prog 130 #[.int .i64 k, .int .i64 0, .int .i64 ((O : Int) - 1)] wx fun e w' => e = .returned (.bool false) ∧ wx = w') := fun wx => by have := within_any k 0 ((O : Int) - 1) wx; rwa [hin] at this
    rw [atO_no (by rw [hO]; exact hk)]
    clear hC hc hord hin hk hO
    go_enter Try.func78, Try.ntmps78
    go_wp2_with (first
      | (go_at_call 113; refine HORD.out.mono ?_; rintro e w2 ⟨rfl, hB2⟩)
      | (go_at_call 130; refine (HIN.out _).mono ?_; rintro e w' ⟨rfl, rfl⟩))
    exact bodyPost_ret (v := .tuple #[.slice none 0 0, .bool false]) (by simp [results, Try.results78, go_sem]) rfl ⟨_, rfl, Fresh.nil _ _, hB2⟩
end Go.Proofs.Ytpcnbjfkobeibaa
