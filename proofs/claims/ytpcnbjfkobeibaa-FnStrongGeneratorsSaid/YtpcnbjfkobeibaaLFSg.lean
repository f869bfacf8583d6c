/- FnStrongGenerators: for every code the law returns true. No conditions. -/
import Derived.Test.YtpcnbjfkobeibaaSy
import Derived.Test.YtpcnbjfkobeibaaDe
import Derived.Test.YtpcnbjfkobeibaaOpen
namespace Go.Proofs.Ytpcnbjfkobeibaa.lawFSg
open Go.RowKit Go.ChangeShapes Go.WideShapes Go.ChangeAt Grp
set_option maxRecDepth 100000

set_option maxHeartbeats 4000000 in
theorem implSgM (n : Int) (g c : Nat) (ls : List (List Int)) (w : World) (h : LMay n w g ls) (hl : ls.length ≤ 1048576) (hs : ShortL ls) :
    Calls Try.prog 39 #[.int .i64 n, .slice (some ⟨g, 0, none⟩) ls.length c] w (ReadsLists (sgQ n ls) w) := by
  cases hgs : gsQ n ls with
  | true => exact implSg n g c ls w (h.2 hgs) hl hs
  | false =>
    have hg0 := implGs (some ⟨g, 0, none⟩) c n ls w h.1 hl hs
    rw [sgQ_no hgs]
    rw [hgs] at hg0
    have HG0 := Lib.hid hg0
    clear hg0 hgs hs
    go_enter Try.func39, Try.ntmps39
    go_wp2_with (first | (go_at_call 73; refine HG0.out.mono ?_; rintro e w1 ⟨rfl, hB1⟩))
    go_ret
    exact ⟨_, rfl, (FrL.nil w.heap.size w1 hB1.size).fls, hB1⟩
set_option maxHeartbeats 4000000 in
theorem specSgM (n : Int) (g c : Nat) (ls : List (List Int)) (w : World) (h : LMay n w g ls) (hl : ls.length ≤ 1048576) (hs : ShortL ls) :
    Calls Try.prog 38 #[.int .i64 n, .slice (some ⟨g, 0, none⟩) ls.length c] w (ReadsLists (sgQ n ls) w) := by
  cases hgs : gsQ n ls with
  | true => exact specSg n g c ls w (h.2 hgs) hl hs
  | false =>
    have hE0 : FrL w.heap.size (w.alloc (.cells #[] 23)) (.slice (some ⟨w.heap.size, 0, none⟩) 0 0) [] (fun _ => .slice none 0 0) (fun _ => w.heap.size) := FrL.empty _ w (Nat.le_refl _)
    have hBE : Below w.heap.size w (w.alloc (.cells #[] 23)) := (by repeat (first | exact Below.refl _ _ | assumption | refine Below.setCell ?_ (by first | omega | (simp <;> omega)) _ | refine Below.alloc ?_ (by first | omega | (simp <;> omega)) _ | refine Below.drew ?_))
    have hg0 := fun (wx : World) (hb : Below w.heap.size w wx) => specGs (some ⟨g, 0, none⟩) c n ls wx (h.1.below hb) hl hs
    rw [sgQ_no hgs]
    rw [hgs] at hg0
    have HG0 := Lib.hid hg0
    clear hg0 hgs hs
    go_enter Try.func38, Try.ntmps38
    go_wp2_with (first | (go_at_call 53; refine (HG0.out _ (by exact (by repeat (first | exact Below.refl _ _ | assumption | refine Below.setCell ?_ (by first | omega | (simp <;> omega)) _ | refine Below.alloc ?_ (by first | omega | (simp <;> omega)) _ | refine Below.drew ?_)))).mono ?_; rintro e w1 ⟨rfl, n1, rfl⟩))
    go_ret
    exact ⟨_, rfl, (hE0.below (belowDrewN (Below.refl _ _) n1)).fls, belowDrewN hBE n1⟩
theorem FLs.rowAt {lo hi : Nat} {w : World} {A : Option Addr} {m c n : Nat} {l : List (List Nat)} (h : FLs lo hi w (.slice A m c) (l.map natI)) (hP : ∀ q, q ∈ l → IsP n q) {k : Nat} (hk : k < l.length) :
    ∃ g Ak ck, A = some ⟨g, 0, none⟩ ∧ g < w.heap.size ∧ w.cell? ⟨g, k, none⟩ = some (.slice Ak n ck) ∧ Fresh 0 w (.slice Ak n ck) (natI (l.getD k [])) ∧ IntsAt w Ak (natI (l.getD k [])) ∧ n ≤ ck ∧ l.getD k [] ∈ l := by
  obtain ⟨A', c', V, B, e, h2, -⟩ := h
  injection e with e1
  subst e1
  obtain ⟨g, e2, h3, h4, -⟩ := h2.row k (by rw [List.length_map]; exact hk)
  have h5 := h2.own k (by rw [List.length_map]; exact hk)
  have e3 : (l.map natI).getD k [] = natI (l.getD k []) := by
    rw [List.getD_eq_getElem?_getD, List.getElem?_map, List.getD_eq_getElem?_getD, List.getElem?_eq_getElem hk]
    rfl
  rw [e3] at h5
  have hm : l.getD k [] ∈ l := getD_mem hk
  have hl : (natI (l.getD k [])).length = n := by rw [natI_len, (hP _ hm).len]
  obtain ⟨Ak, ck, hc, hv, hI⟩ := h5.capped
  rw [hl] at hc hv
  rw [hv] at h4 h5
  exact ⟨g, Ak, ck, e2, h3, h4, h5.mono (Nat.zero_le _), hI, hc, hm⟩
theorem idp_snoc (i : Nat) : natI (idp i) ++ [(i : Int)] = natI (idp (i + 1)) := by
  unfold natI idp
  rw [List.range_succ, List.map_append]
  rfl
/-- What the law holds on the strong generators. -/
structure SgFacts (N : Nat) (ps l : List (List Nat)) : Prop where
  isP : ∀ q, q ∈ l → IsP N q
  gen : ∀ q, q ∈ l → GenL N ps q
  ord : ordG N (gT N l) 0 = ordG N (gT N ps) 0
theorem sgFacts {N : Nat} {ps : List (List Nat)} (hP : ∀ q, q ∈ ps → IsP N q) : SgFacts N ps (sgR N (gT N ps)) := by
  have hc := gT_chain hP
  have h1 : ∀ q, q ∈ sgR N (gT N ps) → IsP N q := fun q hq => hc.1.1 q (sgR_mem hc q hq)
  exact ⟨h1, fun q hq => sgR_mem hc q hq, sgR_ord hc (gT_chain h1) (Nat.zero_le _)⟩
set_option maxHeartbeats 16000000 in
theorem walk (A : Option Addr) (c : Nat) (xs : List Int) (w : World) (hx : BytesAt w A xs) (_hm : xs.length ≤ maxLen) :
    Calls Try.prog 12 #[.slice A xs.length c] w fun e w' => e = .returned (.bool true) ∧ Below w.heap.size w w' := by
  by_cases hl : 4096 < xs.length
  · have hd : decide (4096 < xs.length) = true := by simpa using hl
    go_enter Try.func12, Try.ntmps12
    go_wp2_with (first | (go_at_call 41; refine (big_any _ _ _ _).mono ?_; rintro e w' ⟨rfl, rfl⟩))
    go_ret
    exact ⟨rfl, Below.refl _ _⟩
  have hd : decide (4096 < xs.length) = false := by simpa using hl
  go_enter Try.func12, Try.ntmps12
  go_wp2_with (first | (go_at_call 41; refine (big_any _ _ _ _).mono ?_; rintro e w' ⟨rfl, rfl⟩))
  refine (drewG A c xs _ hx (by omega)).mono ?_
  rintro e w1 ⟨n, ga, ca, la, rfl, hL, hB1⟩
  have hll : la.length ≤ 1048576 := by have := hL.2.1; omega
  have HS := Lib.hid hL.short
  have HL := Lib.hid hL.may
  obtain ⟨hrl, hrs⟩ := sgQ_len n la
  obtain ⟨r, hr⟩ : ∃ r, sgQ n la = r := ⟨_, rfl⟩
  rw [hr] at hrl hrs
  have c1 := implSgM n ga ca la w1 HL.out hll HS.out
  have c2 := fun (wx : World) (hb : Below w1.heap.size w1 wx) => specSgM n ga ca la wx (HL.out.below hb) hll HS.out
  have c3 := fun (wx : World) (hb : Below w1.heap.size w1 wx) => specGs (some ⟨ga, 0, none⟩) ca n la wx (HL.out.1.below hb) hll HS.out
  rw [hr] at c1 c2
  have C1 := Lib.hid c1
  have C2 := Lib.hid c2
  have C3 := Lib.hid c3
  have HR := Lib.hid hr
  have HRS := Lib.hid hrs
  clear hL c1 c2 c3 hr hrs hd
  go_wp2_with fail
  refine C1.out.mono ?_
  rintro e w2 ⟨v2, rfl, hF2, hb2⟩
  obtain ⟨A2, c2, rfl⟩ := hF2.shape
  have HF2 := Lib.hid hF2
  obtain ⟨m, hm⟩ : ∃ m, r.length = m := ⟨_, rfl⟩
  rw [hm] at HF2 hrl ⊢
  have HM := Lib.hid hm
  clear hF2 hm
  go_wp2_with fail
  refine (C2.out _ hb2).mono ?_
  rintro e w3 ⟨v3, rfl, hF3, hb3⟩
  obtain ⟨A3, c3, rfl⟩ := hF3.shape
  have HF3 := Lib.hid hF3
  rw [HM.out] at HF3 ⊢
  have HF2 := Lib.hid (HF2.out.below hb3)
  have hB3 := belowStep hb3 hb2
  have HLK := Lib.hid (likeL A2 A3 c2 c3 m r w3 HF2.out.lat HF3.out.lat HM.out hrl HRS.out)
  clear hF3
  go_wp2_with fail
  refine HLK.out.mono ?_
  rintro e w4 ⟨rfl, hb4⟩
  have hB4 := belowStep hb4 hB3
  have HF2 := Lib.hid (HF2.out.below hb4)
  clear HLK HF3
  have HG := C3.out _ hB4
  cases hgs : gsQ n la with
  | false =>
    rw [hgs] at HG
    have HG := Lib.hid HG
    have hm0 : m = 0 := by rw [← HM.out, ← HR.out, sgQ_no hgs]; rfl
    subst hm0
    clear hgs
    go_wp2_with fail
    refine HG.out.mono ?_
    rintro e w5 ⟨rfl, n5, rfl⟩
    go_wp2_with fail
    go_ret
    exact ⟨rfl, belowStep (belowStep (belowDrewN (Below.refl _ _) n5) hB4) hB1⟩
  | true =>
    rw [hgs] at HG
    have HG := Lib.hid HG
    have hLO := HL.out.2 hgs
    obtain ⟨N, ps, rfl, h0, hN, rfl, h8, hP⟩ := gsOpen hgs
    have hlm : (ps.map natI).length = ps.length := List.length_map ..
    have hsf := sgFacts hP
    have hre : r = (sgR N (gT N ps)).map natI := by rw [← HR.out, sgQ_yes hgs]
    obtain ⟨sl, hsl⟩ : ∃ sl, sgR N (gT N ps) = sl := ⟨_, rfl⟩
    rw [hsl] at hre hsf
    subst hre
    have hslm : sl.length = m := by rw [← HM.out, List.length_map]
    have hch := gT_chain hP
    have HCH := Lib.hid hch
    have HP := Lib.hid hP
    have HLO := Lib.hid hLO
    have HSF := Lib.hid hsf
    have HSM := Lib.hid hslm
    have D1 : Hid (∀ wx : World, Below w1.heap.size w1 wx → Calls Try.prog 54 #[.int .i64 (N : Int), .slice (some ⟨ga, 0, none⟩) ps.length ca] wx (CompPost (szTo N (gT N ps) N) wx)) := fun wx hb => specSizesG N ga ca ps wx (hLO.below hb) HS.out hgs h0 hN h8 hP
    have D2 : Hid (∀ wx : World, Below w1.heap.size w1 wx → Calls Try.prog 55 #[.int .i64 (N : Int), .slice (some ⟨ga, 0, none⟩) ps.length ca] wx (ReadsNat (ordG N (gT N ps) 0) wx)) := fun wx hb => specOrderG N ga ca ps wx (hLO.below hb) HS.out hgs h0 hN h8 hP
    have D3 : Hid (∀ (wx : World) (Aq : Option Addr) (cq i : Nat), Below w1.heap.size w1 wx → IntsAt wx Aq (natI (idp i)) → i ≤ N → Calls Try.prog 56 #[.int .i64 (N : Int), .slice (some ⟨ga, 0, none⟩) ps.length ca, .slice Aq i cq] wx (ReadsNat (ordG N (gT N ps) i) wx)) := fun wx Aq cq i hb hx hi => implStab N ga ca ps Aq cq i wx (hLO.below hb) HS.out hgs h0 hN h8 hP hx hi
    have D4 : Hid (∀ (wx : World) (Aq : Option Addr) (cq : Nat) (q : List Nat), Below w1.heap.size w1 wx → Fresh 0 wx (.slice Aq N cq) (natI q) → IntsAt wx Aq (natI q) → N ≤ cq → q ∈ sl → Calls Try.prog 43 #[.int .i64 (N : Int), .slice (some ⟨ga, 0, none⟩) ps.length ca, .slice Aq N cq] wx (ReadsBool true wx)) := fun wx Aq cq q hb hF hI hc hq => by
      have hiq := hsf.isP q hq
      have hql : (natI q).length = N := by rw [natI_len, hiq.len]
      have := implIsm (N : Int) ga ca (ps.map natI) Aq cq (natI q) wx (HL.out.below hb) hll HS.out ⟨hI, by rw [hql]; exact hc, fun _ _ => by rw [hql]; exact hF⟩ (by rw [hql]; omega)
      rwa [(ismQ_iff hP hiq (okQ_natI hgs hiq h0 hN)).2 (hsf.gen q hq), hql, hlm] at this
    have D5 : Hid (m ≤ 8 → ∀ (wx : World), Below w4.heap.size w4 wx → Calls Try.prog 57 #[.int .i64 (N : Int), .slice (some ⟨ga, 0, none⟩) ps.length ca, .slice A2 m c2] wx (ReadsBool true wx)) := fun hm8 wx hb => by
      have hf := HF2.out.below hb
      exact implSame N ga ca ps A2 m c2 sl wx (hLO.below (belowStep hb hB4)) HS.out hgs h0 hN h8 hP hf.lat (hf.permsAt hsf.isP h0) hslm hm8 hsf.isP hsf.gen hsf.ord
    rw [hlm] at HG ⊢
    clear hgs hLO hsl hsf hslm hch hP C1 C2 C3
    go_wp2_with fail
    refine HG.out.mono ?_
    rintro e w5 ⟨rfl, n5, rfl⟩
    have hb5 := belowDrewN (Below.refl w4.heap.size w4) n5
    have hB5 := belowStep hb5 hB4
    obtain ⟨w5, hw5⟩ : ∃ w5, w4.drewN n5 = w5 := ⟨_, rfl⟩
    rw [hw5] at hb5 hB5 ⊢
    clear hw5 HG
    go_wp2_with fail
    refine (D1.out _ hB5).mono ?_
    rintro e w6 ⟨v6, rfl, hF6, hb6⟩
    obtain ⟨A6, c6, hc6, rfl, hI6⟩ := hF6.capped
    have HI6 := Lib.hid hI6
    have hszl : (natI (szTo N (gT N ps) N)).length = N := by rw [natI_len, szTo_len]
    rw [hszl]
    have hB6 := belowStep hb6 hB5
    have hB46 := belowStep hb6 hb5
    clear hF6 hc6 hI6 hszl
    go_wp2_with fail
    refine (D2.out _ hB6).mono ?_
    rintro e w7 ⟨rfl, hb7⟩
    have hB7 := belowStep hb7 hB6
    have hB47 := belowStep hb7 hB46
    have HI7 := Lib.hid (HI6.out.below hb7)
    have hF0 : Hid (Fresh w7.heap.size (w7.alloc (.cells #[] 2)) (.slice (some ⟨w7.heap.size, 0, none⟩) 0 0) (natI (idp 0))) := Fresh.empty (Nat.le_refl _)
    clear HI6 D1 D2
    go_wp2_with fail
    go_loopw [7, 8, 9] (fun o v z wr => ∃ (i : Nat) (Aq : Option Addr) (cq : Nat), i ≤ N ∧ o = .int .i64 ((ordG N (gT N ps) i : Nat) : Int) ∧ v = .slice Aq i cq ∧ z = .int .i64 (i : Int) ∧ Hid (Fresh w7.heap.size wr (.slice Aq i cq) (natI (idp i))) ∧ Below w7.heap.size w7 wr) (fun _ _ z _ => N - (intOf z).toNat)
    case atStart => exact ⟨0, _, 0, Nat.zero_le _, rfl, rfl, rfl, hF0, (Below.refl _ _).alloc (Nat.le_refl _) _⟩
    case round =>
      obtain ⟨i, Aq, cq, hi, rfl, rfl, rfl, HF, hB⟩ := hrel
      clear hF0
      have hBw := belowStep hB hB7
      have hBz := hB.size
      have hIq : IntsAt wr Aq (natI (idp i)) := by
        obtain ⟨A', c', e, hI, -⟩ := HF.out.ints
        injection e with e1
        subst e1
        exact hI
      have HST := Lib.hid (D3.out wr Aq cq i hBw hIq hi)
      obtain ⟨o, ho⟩ : ∃ o, ordG N (gT N ps) i = o := ⟨_, rfl⟩
      rw [ho] at HST ⊢
      have hoo : ((o : Int) != (o : Int)) = false := by simp
      clear hIq
      by_cases hlt : i < N
      · have hst := ordG_step (T := gT N ps) hlt
        rw [ho] at hst
        obtain ⟨s, hs⟩ : ∃ s, (orb N (gT N ps) i).length = s := ⟨_, rfl⟩
        rw [hs] at hst
        have hbd := ordG_bound HCH.out hN (show i ≤ N by omega)
        rw [ho] at hbd
        have hs0 : s ≠ 0 := fun e => by rw [e, Nat.zero_mul] at hst; omega
        obtain ⟨b, off, e6, hbl, hc⟩ := perm_at HI7.out (i := i) (by rw [szTo_len]; exact hlt)
        rw [szTo_at hlt, hs] at hc
        obtain ⟨o2, ho2⟩ : ∃ o2, ordG N (gT N ps) (i + 1) = o2 := ⟨_, rfl⟩
        have hbd2 := (ordG_bound HCH.out hN (show i + 1 ≤ N by omega)).2
        rw [ho2] at hst hbd2
        have HBD := Lib.hid hbd2
        have HW2 : Hid (wrap64 (o2 : Int) = (o2 : Int)) := by unfold Hid wrap64; omega
        clear hbd2
        have hdiv : Int.tdiv (o : Int) (s : Int) = (o2 : Int) := by
          rw [hst, Int.natCast_mul]
          exact Int.mul_tdiv_cancel_left _ (by omega)
        have hdiv2 : (o : Int) / (s : Int) = (o2 : Int) := by
          rw [hst, Int.natCast_mul]
          exact Int.mul_ediv_cancel_left _ (by omega)
        have hsn : ¬ (s : Int) = 0 := by omega
        have HO2 := Lib.hid ho2
        have p0 : (0 : Int) ≤ (i : Int) := by omega
        have p1 : (i : Int) < (N : Int) := by omega
        subst e6
        have HDV := Lib.hid hst
        have hil : (natI (idp i)).length ≤ 1048576 := by rw [natI_len, idp_len]; omega
        clear hst hs ho ho2
        go_wp2_with fail
        refine HST.out.mono ?_
        rintro e w8 ⟨rfl, hb8⟩
        have HF8 := Lib.hid (HF.out.below hb8)
        have hB8 := belowStep hb8 hB
        have hz8 := hB8.size
        have hcw : w8.cell? ⟨b, off + i, none⟩ = some (.int .i64 (s : Int)) := (hB8.cell (p := ⟨b, off + i, none⟩) hbl).trans hc
        go_wp2_with (first | (at_builtin; refine append_one rfl (.tmp 52) (.tmp 54) rfl w7.heap.size _ (natI (idp i)) (i : Int) rfl (by exact HF8.out.below (by exact (by repeat (first | exact Below.refl _ _ | assumption | refine Below.setCell ?_ (by first | omega | (simp <;> omega)) _ | refine Below.alloc ?_ (by first | omega | (simp <;> omega)) _ | refine Below.drew ?_)))) w8.heap.size rfl (by simp) hil (by simp; omega) ?_; intro v9 w9 hF9 hg9 hb9; have hb89 : Below w7.heap.size w8 w9 := ((Below.refl _ _).alloc hz8 _).trans hb9; have hcw9 : w9.cell? ⟨b, off + i, none⟩ = some (.int .i64 (s : Int)) := (hb89.cell (p := ⟨b, off + i, none⟩) hbl).trans hcw; clear hg9))
        rw [idp_snoc] at hF9
        obtain ⟨A9, c9, e9, -, -⟩ := hF9.ints
        rw [natI_len, idp_len] at e9
        subst e9
        go_roundw
        case rel => exact ⟨i + 1, A9, c9, by omega, by rw [HO2.out]; exact congrArg (Value.int .i64) HW2.out, rfl, by go_num, hF9, hB8.trans hb89⟩
        case measure => simp [intOf]; omega
      · obtain rfl : i = N := by omega
        have HF9 := Lib.hid HF.out
        clear hoo ho HF HST
        obtain ⟨w9, hw9⟩ : ∃ w9, w9 = wr := ⟨_, rfl⟩
        subst hw9
        have hB49 := belowStep hB hB47
        go_wp2_with fail
        go_loopw [10] (fun z wr => ∃ k : Nat, k ≤ m ∧ z = .int .i64 (k : Int) ∧ Below w9.heap.size w9 wr) (fun z _ => m - (intOf z).toNat)
        case atStart => exact ⟨0, Nat.zero_le _, rfl, Below.refl _ _⟩
        case round =>
          obtain ⟨k, hk, rfl, hBk⟩ := hrel
          have hBkw := belowStep hBk hBw
          have hBk4 := belowStep hBk hB49
          by_cases hlt : k < m
          · obtain ⟨gs, Ak, ck, rfl, hgl, hck, hFk, hIk, hcap, hmem⟩ := FLs.rowAt (HF2.out.below hBk4) HSF.out.isP (k := k) (by rw [HSM.out]; exact hlt)
            have HC := Lib.hid (D4.out wr Ak ck _ hBkw hFk hIk hcap hmem)
            have p0 : (0 : Int) ≤ (k : Int) := by omega
            have p1 : (k : Int) < (m : Int) := by omega
            clear hFk hIk hcap hmem
            go_wp2_with fail
            refine HC.out.mono ?_
            rintro e w10 ⟨rfl, hb10⟩
            go_wp2_with fail
            go_roundw
            case rel => exact ⟨k + 1, by omega, by go_num, belowStep hb10 hBk⟩
            case measure => simp [intOf]; omega
          · obtain rfl : k = m := by omega
            have hIq : IntsAt wr Aq (natI (idp i)) := by
              obtain ⟨A', c', e, hI, -⟩ := (HF9.out.below hBk).ints
              injection e with e1
              subst e1
              exact hI
            have hst := D3.out wr Aq cq i hBkw hIq (Nat.le_refl _)
            rw [ordG_end] at hst
            have HST : Hid (Calls Try.prog 56 #[.int .i64 (i : Int), .slice (some ⟨ga, 0, none⟩) ps.length ca, .slice Aq i cq] wr fun e w' => e = .returned (.int .i64 1) ∧ Below wr.heap.size wr w') := hst
            clear hIq hst
            by_cases h8k : k ≤ 8
            · have HSG := Lib.hid (D5.out h8k)
              have hk8 : ¬ (8 : Int) < (k : Int) := by omega
              clear D3 D4 D5
              go_wp2_with fail
              refine HST.out.mono ?_
              rintro e w10 ⟨rfl, hb10⟩
              go_wp2_with fail
              refine (HSG.out _ (belowStep hb10 hBk4)).mono ?_
              rintro e w11 ⟨rfl, hb11⟩
              go_wp2_with fail
              go_ret
              exact ⟨rfl, belowStep (belowStep hb11 (belowStep hb10 hBkw)) hB1⟩
            · have hk8 : (8 : Int) < (k : Int) := by omega
              clear D3 D4 D5
              go_wp2_with fail
              refine HST.out.mono ?_
              rintro e w10 ⟨rfl, hb10⟩
              go_wp2_with fail
              go_ret
              exact ⟨rfl, belowStep (belowStep hb10 hBkw) hB1⟩
theorem own : ownKnob Try.prog.godebug = none := by kernel_rfl
theorem laidOut : laidOutB Try.prog = true := by kernel_rfl
set_option maxRecDepth 100000 in
theorem lifted (os : Os) (started : os.Started) (H : Type) (enc : TypeId × Value → H) :
    ReturnsInHanded {} Try.checked os 12 .any (Rows.fnStrongGeneratorsSpec.pre6 enc Try.prog Try.f12 Rows.fnStrongGeneratorsRow.domain false) (Rows.fnStrongGeneratorsSpec.post enc Try.prog Try.f12 false true false false) := by
  refine returnsInHanded_of_change (C := Try.checked) own started (by kernel_rfl) Try.func12
    (ChangeSpec.witness6 (enc := enc) (C := Try.checked) false ⟨#[], #[.slice none 0 0], []⟩ 8 (by kernel_rfl) (by kernel_rfl) (by kernel_rfl) (by kernel_rfl)) ?_
  intro W base args ds gs before hval0 hW hcnd _
  have hval : ∀ (j : Nat) t v, Try.f12.params[j]? = some t → args[j]? = some v → Value.okWide Try.prog W .any base t v := hval0
  have hW' := hW
  obtain ⟨p, q, hA0, hV, rfl, hfz, hnd⟩ := hW
  have hA : DataW.TrodAll enc Try.prog W 0 (fun _ => true) true Try.f12.params.toList args.toList ds p := hA0
  rw [Try.params12] at hA hval
  obtain ⟨v0, vs0, d0, ds0, p0, q0, hargs, rfl, rfl, h0, r0⟩ := trodAll_cons hA
  obtain ⟨rfl, rfl, rfl⟩ := trodAll_nil r0
  obtain rfl : args = #[v0] := by cases args; simp_all
  obtain ⟨rfl, rfl⟩ := trodVars_none hV
  have lt0 : ∀ x ∈ p0, x.block < W.heap.size := by obtain ⟨m, hm⟩ := h0; exact DataW.trod_lt m _ _ _ hm
  obtain ⟨A0, c0, x0, rfl, i0, m0⟩ := arg_bytes (hval 0 37 v0 rfl rfl) h0
  clear hA0 hval0
  refine (walk A0 c0 x0 W i0 m0).mono fun e W' ⟨he, bel⟩ => ?_
  subst he
  exact ⟨_, rfl, _, _, _, [], _, [], hW', trodAll_mk1 (shut_bool Try.underlying4 _), (trodAll_cons_mk (Below.trod laidOut (by kernel_rfl) (of_decide_eq_true (by kernel_rfl)) h0 bel lt0) trodAll_mk0), rfl, bel.frame _, fun h => by cases h⟩
theorem fact_wf : Rows.fnStrongGeneratorsRow.wf (OpenSpec.ofChange Rows.fnStrongGeneratorsSpec) = true := by kernel_rfl
theorem fact_pars : Try.f12.params.all (Try.prog.readableRec ·) = true := by kernel_rfl
theorem fact_tie : namedTie Try.prog Rows.fnStrongGeneratorsRow.named Rows.fnStrongGeneratorsSpec.vars = true := by kernel_rfl
theorem fact_st : (Rows.fnStrongGeneratorsRow.stops == []) = true := by kernel_rfl
theorem fact_kn : (Rows.fnStrongGeneratorsRow.knobs == []) = true := by kernel_rfl
theorem fact_inp : (Rows.fnStrongGeneratorsRow.inPlace == Try.prog.inPlace 12) = true := by kernel_rfl
theorem fact_unf : (Rows.fnStrongGeneratorsRow.unfollowed == Try.prog.unfollowed 12) = true := by kernel_rfl
theorem fact_rec : (Rows.fnStrongGeneratorsRow.recurses == Try.prog.recurses 12) = true := by kernel_rfl
theorem fact_nam : (Rows.fnStrongGeneratorsRow.named == Try.prog.varsNamed 12) = true := by kernel_rfl
theorem fact_mp : (Rows.fnStrongGeneratorsRow.maps == (Try.f12.params.toList ++ Rows.fnStrongGeneratorsSpec.plain.varTypes Try.prog).any (Try.prog.mapsRec ·)) = true := by kernel_rfl
theorem fact_ifc : (Rows.fnStrongGeneratorsRow.ifaces == (Try.f12.params.toList ++ Rows.fnStrongGeneratorsSpec.plain.varTypes Try.prog).any (Try.prog.ifacesRec ·)) = true := by kernel_rfl
theorem fact_mo : (Rows.fnStrongGeneratorsRow.mapsOut == Try.prog.mapsAmong Try.f12.resultTypes.toList) = true := by kernel_rfl
theorem fact_lo : (Rows.fnStrongGeneratorsRow.loops == (Try.f12.params.toList ++ Rows.fnStrongGeneratorsSpec.plain.varTypes Try.prog).any (Try.prog.loopsFrom ·)) = true := by kernel_rfl
theorem fact_wk : (Rows.fnStrongGeneratorsRow.wideKeys == (Try.f12.params.toList ++ Rows.fnStrongGeneratorsSpec.plain.varTypes Try.prog ++ Try.f12.resultTypes.toList).any (Try.prog.wideKeysFrom ·)) = true := by kernel_rfl
theorem fact_vs : Rows.fnStrongGeneratorsSpec.vars.all (Try.prog.varReadable ·) = true := by kernel_rfl
theorem fact_res : Try.f12.resultTypes.all (fun t => Try.prog.readableRec t && decide (t < Try.prog.types.size)) = true := by kernel_rfl
theorem fact_io : (Rows.fnStrongGeneratorsRow.ifacesOut == Try.f12.resultTypes.toList.any (Try.prog.ifacesRec ·)) = true := by kernel_rfl
theorem fact_loo : (Rows.fnStrongGeneratorsRow.loopsOut == Try.f12.resultTypes.toList.any (Try.prog.loopsFrom ·)) = true := by kernel_rfl
theorem fact_pk : (Rows.fnStrongGeneratorsRow.plainKeys == Try.prog.plainKeys) = true := by kernel_rfl
theorem fact_sh : Rows.fnStrongGeneratorsRow.shortTexts.isNone = true := by kernel_rfl
theorem fact_li : (Rows.fnStrongGeneratorsRow.lifted == Try.prog.liftsFinal) = true := by rw [fact_finals]; rfl
theorem fact_mk : (Try.prog.make == some Rows.fnStrongGeneratorsRow.make) = true := by rw [fact_make]; rfl
theorem fact_kd : (Rows.fnStrongGeneratorsRow.kinds == (if Rows.fnStrongGeneratorsRow.domain.isEmpty then [] else Try.f12.params.toList.map fun t => match Try.prog.underlying t with | some (.int k) => some k | _ => none)) = true := by kernel_rfl
theorem fact_pi : (Rows.fnStrongGeneratorsRow.pinned == Rows.fnStrongGeneratorsRow.pinnedBy) = true := by kernel_rfl
theorem fact_ve : (Rows.fnStrongGeneratorsRow.veiled == (Try.f12.params.toList ++ Rows.fnStrongGeneratorsSpec.plain.varTypes Try.prog ++ Try.f12.resultTypes.toList).any (Try.prog.veiledRec ·)) = true := by kernel_rfl
theorem fact_vf : Rows.fnStrongGeneratorsRow.veiledFits Try.prog Try.f12.params.toList (Try.f12.params.toList ++ Rows.fnStrongGeneratorsSpec.plain.varTypes Try.prog ++ Try.f12.resultTypes.toList) = true := by kernel_rfl
set_option maxRecDepth 100000 in
theorem facts : joinedFacts Try.prog 12 Try.f12 Rows.fnStrongGeneratorsSpec Rows.fnStrongGeneratorsRow = true := facts_of fact_wf fact_laid fact_rowed fact_pars fact_tie fact_st fact_pst fact_kn fact_pkn fact_inp fact_unf fact_rec fact_nam fact_mp fact_ifc fact_mo fact_lo fact_wk fact_vs fact_res fact_io fact_loo fact_pk fact_sh fact_hd fact_me fact_li fact_mk fact_kd fact_pi fact_ve fact_vf
theorem fact_fn : Try.prog.funcNamed Rows.fnStrongGeneratorsRow.func = some 12 := by kernel_rfl
theorem fact_inst : Try.f12.isInstance Try.prog Rows.fnStrongGeneratorsRow.origin Rows.fnStrongGeneratorsRow.targs := of_decide_eq_true (by kernel_rfl)
theorem fact_wrap : Try.f12.isWrapper Try.prog Rows.fnStrongGeneratorsRow.wrapper Rows.fnStrongGeneratorsRow.mainSum := by unfold Func.isWrapper; first | (rw [if_pos (by decide +kernel)]; kernel_rfl) | (rw [if_neg (by decide +kernel)]; exact ⟨rfl, rfl⟩)
theorem over : Rows.fnStrongGeneratorsRow.holds Try.pinned (OpenSpec.ofChange Rows.fnStrongGeneratorsSpec) :=
  OpenClaim.holds_of_wide 12 Try.f12 rfl rfl rfl rfl rfl rfl rfl ⟨rfl, rfl, rfl, rfl, rfl⟩ rfl rfl rfl rfl rfl fact_fn Try.func12 facts fact_inst fact_wrap
    (fun os started H enc _ => lifted os started H enc)
theorem proved : Rows.FnStrongGeneratorsSaid := over
#print axioms proved
end Go.Proofs.Ytpcnbjfkobeibaa.lawFSg
