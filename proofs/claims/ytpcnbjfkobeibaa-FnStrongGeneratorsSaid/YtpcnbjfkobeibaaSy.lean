/- StabilizerOrder of the first points, at the program. Conditions: as the contract says. -/
import Derived.Test.YtpcnbjfkobeibaaSx
namespace Go.Proofs.Ytpcnbjfkobeibaa
open Go.RowKit Grp

/-- Before k the points stand by their own names, from k on there is none. -/
def NameTo (N k : Nat) (ys : List Int) : Prop := ∀ j, j < N → ys.getD j 0 = if j < k then (j : Int) else -1
theorem NameTo.done {N : Nat} {ys : List Int} (h : NameTo N N ys) (hl : ys.length = N) : ys = natI (idp N) := idp_of hl fun j hj => by rw [h j hj, if_pos hj]
theorem NameTo.more {N k : Nat} {ys : List Int} (h : NameTo N k ys) (hl : ys.length = N) (hk : k < N) : NameTo N (k + 1) (ys.set k (k : Int)) := fun j hj => by
  rw [set_getD _ _ _ _ (by omega)]
  by_cases e : j = k
  · subst e; rw [if_pos rfl, if_pos (by omega)]
  · rw [if_neg e, h j hj]
    by_cases e2 : j < k
    · rw [if_pos e2, if_pos (by omega)]
    · rw [if_neg e2, if_neg (by omega)]
def NoneTil (k : Nat) (ys : List Int) : Prop := ∀ j, j < k → ys.getD j 0 = -1
theorem NoneTil.more {N k : Nat} {ys : List Int} (h : NoneTil k ys) (hl : ys.length = N) (hk : k < N) : NoneTil (k + 1) (ys.set k (-1)) := fun j hj => by
  rw [set_getD _ _ _ _ (by omega)]
  by_cases e : j = k
  · rw [if_pos e]
  · rw [if_neg e]; exact h j (by omega)
theorem NoneTil.name {N : Nat} {ys : List Int} (h : NoneTil N ys) : NameTo N 0 ys := fun j hj => by rw [h j hj, if_neg (by omega)]
set_option maxRecDepth 100000 in
set_option maxHeartbeats 8000000 in
theorem implStab (N g c : Nat) (ps : List (List Nat)) (Aq : Option Addr) (cq i : Nat) (w : World) (h : LOwn w g (ps.map natI)) (hs : ShortL (ps.map natI)) (hgs : gsQ (N : Int) (ps.map natI) = true) (h0 : 0 < N) (hN : N ≤ 20) (h8 : ps.length ≤ 8) (hP : ∀ q, q ∈ ps → IsP N q)
    (hx : IntsAt w Aq (natI (idp i))) (hi : i ≤ N) :
    Calls Try.prog 56 #[.int .i64 (N : Int), .slice (some ⟨g, 0, none⟩) ps.length c, .slice Aq i cq] w (ReadsNat (ordG N (gT N ps) i) w) := by
  obtain ⟨i0, hif, hz0, hz1, hz2⟩ := info_parts intInfo
  have hg0 := implGs (some ⟨g, 0, none⟩) c (N : Int) (ps.map natI) w h.at_ (by rw [List.length_map]; omega) hs
  rw [hgs, List.length_map] at hg0
  have HG0 := Lib.hid hg0
  have HL := Lib.hid h
  have HP := Lib.hid hP
  have HX := Lib.hid hx
  have hpt : ∀ (wx : World), Below w.heap.size w wx → ∀ k, k < i → ∃ b off, Aq = some ⟨b, off, none⟩ ∧ b < w.heap.size ∧ wx.cell? ⟨b, off + k, none⟩ = some (.int .i64 (k : Int)) := fun wx hb k hk => by
    obtain ⟨b, off, e, hbl, hc⟩ := perm_at HX.out (i := k) (by rw [idp_len]; exact hk)
    rw [app_idp hk] at hc
    exact ⟨b, off, e, hbl, (hb.cell (p := ⟨b, off + k, none⟩) hbl).trans hc⟩
  have HPT := Lib.hid hpt
  clear hg0 h hs hgs hP hx hpt
  go_enter Try.func56, Try.ntmps56
  go_wp2_with fail
  refine HG0.out.mono ?_
  rintro e w1 ⟨rfl, hB1⟩
  have hz1' : w.heap.size ≤ w1.heap.size := hB1.size
  clear HG0
  go_wp2_with (first | (at_make; refine wpList_make_full _ rfl _ _ 23 rfl w1.heap.size 2 i0 (.int .i64 0) 1 Try.underlying23 hif hz0 hz1 _ _ _ _ N rfl rfl rfl rfl ?_ ?_ ?_ ?_))
  · rw [hz2]; omega
  · unfold maxLen; omega
  · simp
  intro w2 hown hgrow
  rw [made_ints] at hown
  have hB2' : Below w1.heap.size w1 w2 := (Below.refl _ _).grown hgrow (Nat.le_refl _) (by simp)
  have HF2 : Hid (Filled w1.heap.size w2 w1.heap.size N (List.replicate N 0)) := ⟨by simp, hown⟩
  have hB2 := belowStep hB2' hB1
  clear hgrow hown
  go_wp2_with (first | (go_at_call 74; refine (implLength _ _ _ _).mono ?_; rintro e w' ⟨rfl, rfl⟩))
  go_loop [28] (fun z => ∃ k : Nat, k ≤ i ∧ z = .int .i64 (k : Int)) (fun z => i - (intOf z).toNat)
  case atStart => exact ⟨0, Nat.zero_le _, rfl⟩
  case round =>
    obtain ⟨k, hk, rfl⟩ := hrel
    by_cases hlt : k < i
    · obtain ⟨b, off, rfl, hbl, hc⟩ := HPT.out w2 hB2 k hlt
      have HPO := Lib.hid (implPoint N k w2 (by omega) hN)
      have p0 : (0 : Int) ≤ (k : Int) := by omega
      have p1 : (k : Int) < (i : Int) := by omega
      rcases Nat.eq_zero_or_pos k with hk0 | hk0
      · have hnp : ¬ (0 : Int) < (k : Int) := by omega
        clear hk0
        go_wp2_with fail
        refine HPO.out.mono ?_
        rintro e w3 ⟨rfl, rfl⟩
        go_wp2_with fail
        go_round
        case rel => exact ⟨k + 1, by omega, by go_num⟩
        case measure => simp [intOf]; omega
      · obtain ⟨b', off', e', hbl', hc'⟩ := HPT.out w2 hB2 (k - 1) (by omega)
        injection e' with e'
        injection e' with e1 e2
        subst e1 e2
        have hnp : (0 : Int) < (k : Int) := by omega
        have hkm : IntKind.i64.wrap ((k : Int) - 1) = ((k - 1 : Nat) : Int) := by rw [IntWalk.i64_in _ (by omega)]; omega
        have q0 : (0 : Int) ≤ ((k - 1 : Nat) : Int) := by omega
        have q1 : ((k - 1 : Nat) : Int) < (i : Int) := by omega
        obtain ⟨y, hy⟩ : ∃ y, k - 1 = y := ⟨_, rfl⟩
        rw [hy] at hkm hc' q0 q1
        have q2 : ¬ (k : Int) ≤ (y : Int) := by omega
        clear hk0 hy
        go_wp2_with fail
        refine HPO.out.mono ?_
        rintro e w3 ⟨rfl, rfl⟩
        go_wp2_with fail
        go_round
        case rel => exact ⟨k + 1, by omega, by go_num⟩
        case measure => simp [intOf]; omega
    · obtain rfl : k = i := by omega
      have HN0 : Hid (NoneTil 0 (List.replicate N 0)) := fun j hj => absurd hj (Nat.not_lt_zero _)
      go_wp2_with fail
      go_loopw [52] (fun z wr => ∃ (m : Nat) (ys : List Int), m ≤ N ∧ z = .int .i64 (m : Int) ∧ Hid (Filled w1.heap.size wr w1.heap.size N ys) ∧ Hid (NoneTil m ys) ∧ Below w.heap.size w wr) (fun z _ => N - (intOf z).toNat)
      case atStart => exact ⟨0, _, Nat.zero_le _, rfl, HF2, HN0, hB2⟩
      case round =>
        obtain ⟨m, ys, hm, rfl, HF, HY, hB⟩ := hrel
        clear HF2 HN0
        by_cases hlt : m < N
        · have hcell := HF.out.cell hlt
          have hfr := HF.out.2.frozenAt m
          have HFN := Lib.hid (HF.out.store m (-1))
          have HYN : Hid (NoneTil (m + 1) (ys.set m (-1))) := HY.out.more HF.out.1 hlt
          have p0 : (0 : Int) ≤ (m : Int) := by omega
          have p1 : (m : Int) < (N : Int) := by omega
          go_wp2_with fail
          go_roundw
          case rel => exact ⟨m + 1, _, by omega, by go_num, HFN, HYN, hB.setCell (by simp; omega) _⟩
          case measure => simp [intOf]; omega
        · obtain rfl : m = N := by omega
          have HN0 : Hid (NameTo m 0 ys) := HY.out.name
          clear HY
          go_wp2_with fail
          go_loopw [61] (fun z wr => ∃ (j : Nat) (ys : List Int), j ≤ k ∧ z = .int .i64 (j : Int) ∧ Hid (Filled w1.heap.size wr w1.heap.size m ys) ∧ Hid (NameTo m j ys) ∧ Below w.heap.size w wr) (fun z _ => k - (intOf z).toNat)
          case atStart => exact ⟨0, _, Nat.zero_le _, rfl, HF, HN0, hB⟩
          case round =>
            clear HF HN0 hB
            obtain ⟨j, ys, hj, rfl, HF, HY, hB⟩ := hrel
            by_cases hlt : j < k
            · obtain ⟨b, off, e, hbl, hc⟩ := HPT.out _ hB j hlt
              subst e
              have hcell := HF.out.cell (show j < m by omega)
              have hfr := HF.out.2.frozenAt j
              have HFN := Lib.hid (HF.out.store j (j : Int))
              have HYN : Hid (NameTo m (j + 1) (ys.set j (j : Int))) := HY.out.more HF.out.1 (by omega)
              have p0 : (0 : Int) ≤ (j : Int) := by omega
              have p1 : (j : Int) < (k : Int) := by omega
              have p2 : (j : Int) < (m : Int) := by omega
              go_wp2_with fail
              go_roundw
              case rel => exact ⟨j + 1, _, by omega, by go_num, HFN, HYN, hB.setCell (by simp; omega) _⟩
              case measure => simp [intOf]; omega
            · obtain rfl : j = k := by omega
              have HYM : Hid (NameTo m (max 0 j) ys) := by rw [show max 0 j = j from by omega]; exact HY
              clear HY
              go_wp2_with fail
              go_loopw [72, 8] (fun z nx wr => ∃ (q : Nat) (ys : List Int), q ≤ m ∧ z = .int .i64 (q : Int) ∧ nx = .int .i64 ((max q j : Nat) : Int) ∧ Hid (Filled w1.heap.size wr w1.heap.size m ys) ∧ Hid (NameTo m (max q j) ys) ∧ Below w.heap.size w wr) (fun z _ _ => m - (intOf z).toNat)
              case atStart => exact ⟨0, _, Nat.zero_le _, rfl, by rw [show max 0 j = j from by omega], HF, HYM, hB⟩
              case round =>
                clear HF HYM hB
                obtain ⟨q, ys, hq, rfl, rfl, HF, HY, hB⟩ := hrel
                by_cases hlt : q < m
                · have hcell := HF.out.cell hlt
                  have hv := HY.out q hlt
                  have hfr := HF.out.2.frozenAt q
                  have p0 : (0 : Int) ≤ (q : Int) := by omega
                  have p1 : (q : Int) < (m : Int) := by omega
                  rcases Nat.lt_or_ge q j with hqj | hqj
                  · have hmx : max q j = j := by omega
                    have hmx2 : max (q + 1) j = j := by omega
                    rw [if_pos (by omega)] at hv
                    rw [hv] at hcell
                    have hnn : ¬ (q : Int) < 0 := by omega
                    have HY2 : Hid (NameTo m (max (q + 1) j) ys) := by rw [hmx2, ← hmx]; exact HY
                    have HMX : Hid (((max (q + 1) j : Nat) : Int) = ((max q j : Nat) : Int)) := by rw [hmx2, hmx]; rfl
                    obtain ⟨mx, hmxe⟩ : ∃ mx, max q j = mx := ⟨_, rfl⟩
                    rw [hmxe] at HMX ⊢
                    clear hv hmx hmx2 hmxe HY
                    go_wp2_with fail
                    go_roundw
                    case rel => exact ⟨q + 1, ys, by omega, by go_num, by rw [HMX.out], HF, HY2, hB⟩
                    case measure => simp [intOf]; omega
                  · have hmx : max q j = q := by omega
                    have hmx2 : max (q + 1) j = q + 1 := by omega
                    rw [if_neg (by omega)] at hv
                    rw [hv] at hcell
                    have HFN := Lib.hid (HF.out.store q (q : Int))
                    have HY1 := HY.out
                    rw [hmx] at HY1
                    have HYN : Hid (NameTo m (max (q + 1) j) (ys.set q (q : Int))) := by rw [hmx2]; exact HY1.more HF.out.1 hlt
                    have HMX : Hid (((max (q + 1) j : Nat) : Int) = (q : Int) + 1) := by rw [hmx2]; unfold Hid; omega
                    rw [hmx]
                    clear hv hmx hmx2 HY HY1
                    go_wp2_with fail
                    go_roundw
                    case rel => exact ⟨q + 1, _, by omega, by go_num, by rw [HMX.out], HFN, HYN, hB.setCell (by simp; omega) _⟩
                    case measure => simp [intOf]; omega
                · obtain rfl : q = m := by omega
                  have hmx : max q j = q := by omega
                  have HY1 := HY.out
                  rw [hmx] at HY1
                  have hye := HY1.done HF.out.1
                  have HNI : Hid (IntsAt wr (some ⟨w1.heap.size, 0, none⟩) (natI (idp q))) := by rw [← hye]; exact HF.out.ints
                  rw [hmx]
                  clear HY HY1 hye hmx HF
                  have HR0 : Hid (∃ V B, FrL wr.heap.size wr (.slice none 0 0) (ps.take 0) V B) := ⟨_, _, by rw [List.take_zero]; exact FrL.nil _ _ (Nat.le_refl _)⟩
                  obtain ⟨w4, hw4⟩ : ∃ w4, w4 = wr := ⟨_, rfl⟩
                  subst hw4
                  go_wp2_with fail
                  go_loopw [89, 15] (fun z v wr => ∃ (a : Nat) (Ar : Option Addr) (cr : Nat), a ≤ ps.length ∧ z = .int .i64 (a : Int) ∧ v = .slice Ar a cr ∧ Hid (∃ V B, FrL w4.heap.size wr (.slice Ar a cr) (ps.take a) V B) ∧ Below w4.heap.size w4 wr) (fun z _ _ => ps.length - (intOf z).toNat)
                  case atStart => exact ⟨0, none, 0, Nat.zero_le _, rfl, rfl, HR0, Below.refl _ _⟩
                  case round =>
                    clear HR0
                    obtain ⟨a, Ar, cr, ha, rfl, rfl, HR, hBr⟩ := hrel
                    have hBw := belowStep hBr hB
                    by_cases hlt : a < ps.length
                    · obtain ⟨b, off, u, e1, hbl, hcu, hpv⟩ := (HL.out.perms h0 (fun p hp => (HP.out p hp).len)) a hlt
                      injection e1 with e1
                      injection e1 with e2 e3
                      subst e2 e3
                      obtain ⟨gu, cu, rfl, hIu, -⟩ := hpv.ints
                      obtain ⟨p, hpe⟩ : ∃ p, ps.getD a [] = p := ⟨_, rfl⟩
                      have hmem : ps.getD a [] ∈ ps := getD_mem hlt
                      rw [hpe] at hIu hmem
                      have hip := HP.out p hmem
                      have hcw : wr.cell? ⟨g, 0 + a, none⟩ = some (.slice (some ⟨gu, 0, none⟩) q cu) := (hBw.cell (p := ⟨g, 0 + a, none⟩) hbl).trans hcu
                      rw [Nat.zero_add] at hcw
                      have hcall := implConj (some ⟨gu, 0, none⟩) (some ⟨w1.heap.size, 0, none⟩) cu q q p (idp q) wr (hIu.below hBw) (HNI.out.below hBr) hip IsP.idp hN
                      rw [conj_idp hip] at hcall
                      have HCALL := Lib.hid hcall
                      have hpl : (natI p).length = q := by rw [natI_len, hip.len]
                      have HPL := Lib.hid hpl
                      have HTM : Hid (ps.take (a + 1) = ps.take a ++ [p]) := by
                        unfold Hid
                        rw [List.take_add_one, List.getElem?_eq_getElem hlt, ← hpe, List.getD_eq_getElem?_getD, List.getElem?_eq_getElem hlt]
                        rfl
                      obtain ⟨V3, B3, hF3⟩ := HR.out
                      obtain ⟨l3, hl3⟩ : ∃ l3, ps.take a = l3 := ⟨_, rfl⟩
                      have hl3l : l3.length = a := by rw [← hl3, List.length_take]; omega
                      rw [hl3] at hF3 HTM
                      have htop := hF3.top
                      have HF3 := Lib.hid hF3
                      have HLL := Lib.hid hl3l
                      have hl3m : l3.length ≤ 1048576 := by omega
                      have p0 : (0 : Int) ≤ (a : Int) := by omega
                      have p1 : (a : Int) < (ps.length : Int) := by omega
                      clear hcall hIu hpv hcu hmem hip hpl hpe hl3 hF3 hl3l HR
                      go_wp2_with fail
                      refine HCALL.out.mono ?_
                      rintro e w9 ⟨v9, rfl, hF9, hb9⟩
                      obtain ⟨A9, c9, rfl, -, -⟩ := hF9.ints
                      have HF9b : Hid (Fresh (B3 l3.length) w9 (.slice A9 (natI p).length c9) (natI p)) := hF9.mono htop
                      rw [HPL.out] at HF9b ⊢
                      have HF39 := Lib.hid (HF3.out.below hb9)
                      have hz9 : w4.heap.size ≤ w9.heap.size := (belowStep hb9 hBr).size
                      clear hF9
                      go_wp2_with (first | (at_builtin; refine append_fr rfl (.tmp 93) (.tmp 97) rfl w4.heap.size _ l3 V3 B3 p (.slice A9 q c9) rfl (by exact HF39.out.below (by exact (by repeat (first | exact Below.refl _ _ | assumption | refine Below.setCell ?_ (by first | omega | (simp <;> omega)) _ | refine Below.alloc ?_ (by first | omega | (simp <;> omega)) _ | refine Below.drew ?_)))) w9.heap.size rfl (by simp) (by exact HF9b.out.below (by exact (by repeat (first | exact Below.refl _ _ | assumption | refine Below.setCell ?_ (by first | omega | (simp <;> omega)) _ | refine Below.alloc ?_ (by first | omega | (simp <;> omega)) _ | refine Below.drew ?_)))) hl3m (by simp; omega) ?_; intro A10 c10 w10 hF10 hg10 hat10))
                      have hB10 : Below w4.heap.size w4 w10 := (HF39.out.below (by exact (by repeat (first | exact Below.refl _ _ | assumption | refine Below.setCell ?_ (by first | omega | (simp <;> omega)) _ | refine Below.alloc ?_ (by first | omega | (simp <;> omega)) _ | refine Below.drew ?_)))).grew ((belowStep hb9 hBr).alloc hz9 _) hg10 (Nat.le_refl _) (by simp; omega)
                      rw [HLL.out] at hF10
                      have HF10 := Lib.hid hF10
                      clear hF10 hg10 hat10
                      rw [HLL.out]
                      go_roundw
                      case rel => exact ⟨a + 1, A10, c10, by omega, by go_num, rfl, ⟨_, _, by rw [HTM.out]; exact HF10.out⟩, hB10⟩
                      case measure => simp [intOf]; omega
                    · obtain rfl : a = ps.length := by omega
                      obtain ⟨V3, B3, hF3⟩ := HR.out
                      rw [List.take_length] at hF3
                      obtain ⟨A3, c3, e3, hPA⟩ := hF3.permsAt HP.out h0
                      injection e3 with e4 e5 e6
                      subst e4 e6
                      have HPA := Lib.hid hPA
                      clear hF3 e5 hPA HR
                      go_wp2_with fail
                      refine (newA q ps Ar ps.length cr _ HPA.out rfl HP.out h0 hN (by omega)).mono ?_
                      rintro e w9 ⟨C, T, rfl, hC, hc, hone, hb9⟩
                      have hord := implOrder C q j T w9 hC hc hi hN
                      rw [ordG_eq hc (gT_chain HP.out) hi] at hord
                      have HORD := Lib.hid hord
                      clear hC hc hone hord
                      go_wp2_with (first | (go_at_call 74; refine (implLength _ _ _ _).mono ?_; rintro e w' ⟨rfl, rfl⟩))
                      refine HORD.out.mono ?_
                      rintro e w10 ⟨rfl, hb10⟩
                      go_wp2_with fail
                      go_ret
                      exact ⟨rfl, belowStep hb10 (belowStep hb9 hBw)⟩
end Go.Proofs.Ytpcnbjfkobeibaa
