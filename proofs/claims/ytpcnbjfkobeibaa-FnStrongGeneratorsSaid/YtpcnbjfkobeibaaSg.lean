/- StrongGeneratingSet at both packages. Conditions: as each contract says. -/
import Derived.Test.YtpcnbjfkobeibaaFs
import Derived.Test.YtpcnbjfkobeibaaFr
import Derived.Test.YtpcnbjfkobeibaaWg
namespace Go.Proofs.Ytpcnbjfkobeibaa
open Go.RowKit Grp

theorem FrL.mono2 {base base' : Nat} {w : World} {v : Value} {l : List (List Nat)} {V : Nat → Value} {B : Nat → Nat} (h : FrL base w v l V B) (hB : base' ≤ base) : FrL base' w v l V B := by
  obtain ⟨cs, h1, h2⟩ := h.own
  refine ⟨⟨cs, ⟨h1.1, ?_⟩, h2⟩, h.elt, h.cap, h.up, Nat.le_trans hB h.low, h.top⟩
  rcases h1.2 with hn | ⟨g, cap, cur, rfl, hbg, rest⟩
  · exact .inl hn
  · exact .inr ⟨g, cap, cur, rfl, Nat.le_trans hB hbg, rest⟩
noncomputable def sgQ (n : Int) (ls : List (List Int)) : List (List Int) := if gsQ n ls then (sgR n.toNat (tQ n ls)).map natI else []
theorem sgQ_no {n : Int} {ls : List (List Int)} (h : gsQ n ls = false) : sgQ n ls = [] := by unfold sgQ; rw [h]; rfl
theorem sgQ_yes {N : Nat} {ps : List (List Nat)} (h : gsQ (N : Int) (ps.map natI) = true) : sgQ (N : Int) (ps.map natI) = (sgR N (gT N ps)).map natI := by
  unfold sgQ
  rw [h, tQ_eq]
  rfl
theorem sgQ_len (n : Int) (ls : List (List Int)) : (sgQ n ls).length ≤ 1048576 ∧ ShortL (sgQ n ls) := by
  cases h : gsQ n ls with
  | false => rw [sgQ_no h]; exact ⟨Nat.zero_le _, fun i hi => by simp at hi⟩
  | true =>
    obtain ⟨N, ps, rfl, h0, hN, rfl, -, hP⟩ := gsOpen h
    rw [sgQ_yes h]
    have h1 := sgTo_len N (gT N ps) hN N
    rw [sgTo_end] at h1
    refine ⟨by rw [List.length_map]; omega, fun i hi => ?_⟩
    rw [List.length_map] at hi
    rw [List.getD_eq_getElem?_getD, List.getElem?_map, List.getElem?_eq_getElem hi]
    simp only [Option.map_some, Option.getD_some]
    rw [natI_len, (sgR_isP (gT_chain hP) _ (List.getElem_mem hi)).len]
    omega
theorem PreI.some_ {n : Nat} {u : List Nat} {w w' : World} {e : Ending} (h : PreI n (some u) w e w') : ∃ v, e = .returned (.tuple #[v, .bool true]) ∧ Fresh w.heap.size w' v (natI u) ∧ Below w.heap.size w w' := by
  obtain ⟨⟨u9, v9, ho9, he, hF9, -⟩ | ⟨v9, ho9, -⟩, hb9⟩ := h
  · injection ho9 with ho9
    subst ho9
    exact ⟨v9, he, hF9, hb9⟩
  · cases ho9
theorem PreI.none_ {n : Nat} {w w' : World} {e : Ending} (h : PreI n none w e w') : ∃ v, e = .returned (.tuple #[v, .bool false]) ∧ Below w.heap.size w w' := by
  obtain ⟨⟨u9, v9, ho9, -⟩ | ⟨v9, -, he, -⟩, hb9⟩ := h
  · cases ho9
  · exact ⟨v9, he, hb9⟩
theorem fitsTo {i y N : Nat} (hi : i < N) (hy : y < N) (hN : N ≤ 20) : Fits (natI (idp i) ++ [(y : Int)]) := fun x hx => by
  rcases List.mem_append.1 hx with h | h
  · unfold natI at h
    rw [List.mem_map] at h
    obtain ⟨a, ha, rfl⟩ := h
    unfold idp at ha
    have := List.mem_range.1 ha
    omega
  · rw [List.mem_singleton.1 h]
    omega
set_option maxRecDepth 100000 in
set_option maxHeartbeats 16000000 in
theorem implSg (n : Int) (g c : Nat) (ls : List (List Int)) (w : World) (h : LOwn w g ls) (hl : ls.length ≤ 1048576) (hs : ShortL ls) :
    Calls Try.prog 39 #[.int .i64 n, .slice (some ⟨g, 0, none⟩) ls.length c] w (ReadsLists (sgQ n ls) w) := by
  have hg0 := implGs (some ⟨g, 0, none⟩) c n ls w h.at_ hl hs
  cases hgs : gsQ n ls with
  | false =>
    rw [sgQ_no hgs]
    rw [hgs] at hg0
    have HG0 := Lib.hid hg0
    clear hg0 hgs hs
    go_enter Try.func39, Try.ntmps39
    go_wp2_with (first | (go_at_call 73; refine HG0.out.mono ?_; rintro e w1 ⟨rfl, hB1⟩))
    go_ret
    exact ⟨_, rfl, (FrL.nil w.heap.size w1 hB1.size).fls, hB1⟩
  | true =>
    rw [hgs] at hg0
    obtain ⟨N, ps, rfl, h0, hN, rfl, h8, hP⟩ := gsOpen hgs
    rw [sgQ_yes hgs]
    have hm : (ps.map natI).length = ps.length := List.length_map ..
    rw [hm] at hg0
    rw [hm]
    obtain ⟨M, hM⟩ : ∃ M, sgR N (gT N ps) = M := ⟨_, rfl⟩
    rw [hM]
    have HM := Lib.hid hM
    have HG0 := Lib.hid hg0
    have HL := Lib.hid h
    have HP := Lib.hid hP
    clear hg0 hgs hs h hP hm hM hl
    go_enter Try.func39, Try.ntmps39
    go_wp2_with (first
      | (go_at_call 73; refine HG0.out.mono ?_; rintro e w1 ⟨rfl, hB1⟩)
      | (go_at_call 76; refine (newI N ps g ps.length c _ (by exact HL.out.below hB1) rfl HP.out h0 hN h8).mono ?_; rintro e w2 ⟨C, T, rfl, hC, hc, hone, hb2⟩
          ; have HC := Lib.hid hC; have HCH := Lib.hid hc; have HONE := Lib.hid hone; have hB2 := belowStep hb2 hB1; clear hC hc hone hb2
          ; have HMM : Hid (sgR N T = M) := (by unfold Hid; rw [sgR_eq HCH.out (gT_chain HP.out), HM.out])))
    have HF0 : Hid (∃ V B, FrL w2.heap.size w2 (.slice none 0 0) (sgTo N T 0) V B) := ⟨_, _, by rw [sgTo_zero]; exact FrL.nil _ _ (Nat.le_refl _)⟩
    clear HG0 HL HP HM
    go_loopw [6, 20] (fun lv z wr => ∃ (i : Nat), i ≤ N ∧ z = .int .i64 (i : Int) ∧ Hid (∃ V B, FrL w2.heap.size wr lv (sgTo N T i) V B) ∧ Below w2.heap.size w2 wr) (fun _ z _ => N - (intOf z).toNat)
    case atStart => exact ⟨0, Nat.zero_le _, rfl, HF0, Below.refl _ _⟩
    case round =>
      obtain ⟨wo, rfl⟩ : ∃ wo : World, wo = wr := ⟨_, rfl⟩
      obtain ⟨i, hi, rfl, HF, hBo⟩ := hrel
      clear HF0
      have hBoz := hBo.size
      obtain ⟨V, B, hF⟩ := HF.out
      obtain ⟨Al, cl, rfl, -⟩ := hF.shape
      by_cases hlt : i < N
      · obtain ⟨s, t0, t2, hrb, hor⟩ := (HC.out.below hBo).cells
        have hri := hrb i hlt
        have HOR := Lib.hid (hor hN i hlt)
        have horl := orb_len_le N T i
        have HORB := Lib.hid (sg_orb HCH.out HONE.out hlt)
        have HGE : Hid (∀ y, y ∈ orb N T i → y < N ∧ i ≤ y ∧ ∃ u, preR N T (idTo i y) = some u) := fun y hy => ⟨(mem_orb.1 hy).1, orb_ge HCH.out hlt hy, (pre_orb HCH.out HONE.out hlt).2 hy⟩
        obtain ⟨ob, hob⟩ : ∃ ob, orb N T i = ob := ⟨_, rfl⟩
        rw [hob] at HOR horl HORB HGE
        obtain ⟨l0, hl0⟩ : ∃ l0, sgTo N T i = l0 := ⟨_, rfl⟩
        have hl0l := sgTo_len N T hN i
        rw [hl0] at hF hl0l
        rw [hl0]
        have HSM : Hid (sgTo N T (i + 1) = l0 ++ ob.filterMap (sgF N T i)) := by unfold Hid; rw [sgTo_more, hl0, HORB.out]
        have HFF := Lib.hid hF
        have p0 : (0 : Int) ≤ (i : Int) := by omega
        have p1 : (i : Int) < (N : Int) := by omega
        clear hrb hor hob hl0 hF HF
        go_wp2_with (first | (go_at_call 91; refine HOR.out.mono ?_; rintro e w5 ⟨v5, rfl, hF5, hb5⟩; obtain ⟨A5, c5, rfl, -, -⟩ := hF5.ints; rw [natI_len]))
        have hol : (natI ob).length = ob.length := natI_len ob
        have HF5 : Hid (Fresh wo.heap.size w5 (.slice A5 ob.length c5) (natI ob)) := by unfold Hid; rw [← hol]; exact hF5
        have HI0 : Hid (∃ V B, FrL w2.heap.size w5 (.slice Al l0.length cl) (l0 ++ (ob.take 0).filterMap (sgF N T i)) V B) := ⟨V, B, by simpa using HFF.out.below hb5⟩
        have hB5 := belowStep hb5 hBo
        clear hF5 t0 t2 hri hol
        go_loopw [6, 32] (fun lv z wr => ∃ (j : Nat), j ≤ ob.length ∧ z = .int .i64 (j : Int) ∧ Hid (∃ V B, FrL w2.heap.size wr lv (l0 ++ (ob.take j).filterMap (sgF N T i)) V B) ∧ Hid (Fresh wo.heap.size wr (.slice A5 ob.length c5) (natI ob)) ∧ Below w2.heap.size w2 wr) (fun _ z _ => ob.length - (intOf z).toNat)
        case atStart => exact ⟨0, Nat.zero_le _, rfl, HI0, HF5, hB5⟩
        case round =>
          obtain ⟨j, hj, rfl, HF, HF5, hBj⟩ := hrel
          obtain ⟨V3, B3, hF3⟩ := HF.out
          obtain ⟨Am, cm, rfl, -⟩ := hF3.shape
          have hBjz := hBj.size
          by_cases hjl : j < ob.length
          · obtain ⟨b6, off6, rfl, hbl6, hc6⟩ := perm_at HF5.out.intsAt (i := j) hjl
            obtain ⟨y, hy⟩ : ∃ y, app ob j = y := ⟨_, rfl⟩
            rw [hy] at hc6
            have hym : y ∈ ob := by
              rw [← hy]
              unfold app
              rw [List.getD_eq_getElem?_getD, List.getElem?_eq_getElem hjl]
              exact List.getElem_mem hjl
            obtain ⟨hyN, hyi, u, hu⟩ := HGE.out y hym
            have hmore := fm_more (sgF N T i) ob j hjl
            rw [hy] at hmore
            obtain ⟨l3, hl3⟩ : ∃ l3, l0 ++ (ob.take j).filterMap (sgF N T i) = l3 := ⟨_, rfl⟩
            have hl3l : l3.length ≤ 1048576 := by
              rw [← hl3, List.length_append]
              have := List.length_filterMap_le (sgF N T i) (ob.take j)
              rw [List.length_take] at this
              omega
            rw [hl3] at hF3
            rw [hl3]
            have q0 : (0 : Int) ≤ (j : Int) := by omega
            have q1 : (j : Int) < (ob.length : Int) := by omega
            by_cases hiy : i < y
            · have hiy2 : (i : Int) < (y : Int) := by omega
              have HLN : Hid (l0 ++ (ob.take (j + 1)).filterMap (sgF N T i) = l3 ++ [u]) := by
                unfold Hid
                rw [hmore, ← List.append_assoc, hl3]
                unfold sgF
                rw [if_pos hiy, hu]
                rfl
              obtain ⟨pl, hpl⟩ : ∃ pl, natI (idp i) ++ [(y : Int)] = pl := ⟨_, rfl⟩
              have hplf : Fits pl := by rw [← hpl]; exact fitsTo hlt hyN hN
              have hpll : pl.length ≤ N := by rw [← hpl, List.length_append, natI_len, idp_len, List.length_singleton]; omega
              have hu2 : preR N T pl = some u := by rw [← hpl]; exact hu
              have HPL := Lib.hid hpl
              have hpre := fun (wx : World) (A : Option Addr) (c' : Nat) (hb : Below wr.heap.size wr wx) (hI : IntsAt wx A pl) => implWithPrefix C N T A c' pl.length pl wx ((HC.out.below hBj).below hb) HCH.out hN h0 hI hplf rfl hpll
              rw [hu2] at hpre
              have HPRE : Hid (∀ (wx : World) (A : Option Addr) (c' : Nat), Below wr.heap.size wr wx → IntsAt wx A pl → Calls Try.prog 90 #[.pointer (some ⟨C, 0, none⟩), .slice A pl.length c'] wx fun e w' => ∃ v, e = .returned (.tuple #[v, .bool true]) ∧ Fresh wx.heap.size w' v (natI u) ∧ Below wx.heap.size wx w') := fun wx A c' hb hI => (hpre wx A c' hb hI).mono fun e w' hp => PreI.some_ hp
              have HF3 := Lib.hid hF3
              have hidl : (natI (idp i)).length ≤ 1048576 := by rw [natI_len, idp_len]; omega
              clear hpre hu2 hu hmore hl3 hy hF3 hpl hplf hpll
              go_wp2_with (first
                | (go_at_call 84; refine (implIdentity i _ (by omega)).mono ?_; rintro e w7 ⟨v7, rfl, hF7, hb7⟩
                    ; have hb7z := hb7.size; have hF7 := Lib.hid hF7)
                | (at_builtin; refine append_one rfl (.tmp 42) (.tmp 44) rfl wr.heap.size _ _ (y : Int) rfl (hF7.out.below (by repeat (first | exact Below.refl _ _ | assumption | refine Below.setCell ?_ (by first | omega | (simp <;> omega)) _ | refine Below.alloc ?_ (by first | omega | (simp <;> omega)) _ | refine Below.drew ?_))) w7.heap.size rfl (by simp) hidl (by simp; omega) ?_; intro v8 w8 hF8 hg8 hb8
                    ; have hB8 : Below wr.heap.size wr w8 := (hb7.alloc hb7z _).trans hb8
                    ; rw [HPL.out] at hF8
                    ; obtain ⟨A8, c8, rfl, hI8, -⟩ := hF8.ints
                    ; have HI8 := Lib.hid hI8; clear hI8 hF8)
                | (go_at_call 90; refine (HPRE.out _ A8 c8 hB8 HI8.out).mono ?_; rintro e w9 ⟨v9, rfl, hF9, hb9⟩
                    ; obtain ⟨A9, c9, rfl, -, -⟩ := hF9.ints
                    ; have hB9 := belowStep hb9 hB8
                    ; have hB9z := hB9.size
                    ; have HF9 : Hid (Fresh (B3 l3.length) w9 (.slice A9 (natI u).length c9) (natI u)) := (hF9.mono (Nat.le_trans HF3.out.top hB8.size))
                    ; have HF39 := Lib.hid (HF3.out.below hB9); clear hF9)
                | (at_builtin; refine append_fr rfl (.tmp 49) (.tmp 51) rfl w2.heap.size _ l3 V3 B3 u (.slice A9 (natI u).length c9) rfl (by exact HF39.out.below (by exact (by repeat (first | exact Below.refl _ _ | assumption | refine Below.setCell ?_ (by first | omega | (simp <;> omega)) _ | refine Below.alloc ?_ (by first | omega | (simp <;> omega)) _ | refine Below.drew ?_)))) w9.heap.size rfl (by simp) (by exact HF9.out.below (by exact (by repeat (first | exact Below.refl _ _ | assumption | refine Below.setCell ?_ (by first | omega | (simp <;> omega)) _ | refine Below.alloc ?_ (by first | omega | (simp <;> omega)) _ | refine Below.drew ?_)))) hl3l (by simp; omega) ?_; intro A10 c10 w10 hF10 hg10 _
                    ; have HB10 : Hid (Below w2.heap.size w2 w10) := (HF39.out.below (by exact (by repeat (first | exact Below.refl _ _ | assumption | refine Below.setCell ?_ (by first | omega | (simp <;> omega)) _ | refine Below.alloc ?_ (by first | omega | (simp <;> omega)) _ | refine Below.drew ?_)))).grew ((belowStep hB9 hBj).alloc (by omega) _) hg10 (Nat.le_refl _) (by simp; omega)
                    ; have HF510 : Hid (Fresh wo.heap.size w10 (.slice (some ⟨b6, off6, none⟩) ob.length c5) (natI ob)) := ((HF5.out.below hB9).below (by exact (by repeat (first | exact Below.refl _ _ | assumption | refine Below.setCell ?_ (by first | omega | (simp <;> omega)) _ | refine Below.alloc ?_ (by first | omega | (simp <;> omega)) _ | refine Below.drew ?_)))).keptRow (HF39.out.below (by exact (by repeat (first | exact Below.refl _ _ | assumption | refine Below.setCell ?_ (by first | omega | (simp <;> omega)) _ | refine Below.alloc ?_ (by first | omega | (simp <;> omega)) _ | refine Below.drew ?_)))) hg10
                    ; have HF10 := Lib.hid hF10; clear hF10 hg10))
              go_roundw
              case rel => exact ⟨j + 1, by omega, by go_num, ⟨_, _, by rw [HLN.out]; exact HF10.out⟩, HF510, HB10.out⟩
              case measure => simp [intOf]; omega
            · have hiy2 : ¬ (i : Int) < (y : Int) := by omega
              have HLN : Hid (l0 ++ (ob.take (j + 1)).filterMap (sgF N T i) = l3) := by
                unfold Hid
                rw [hmore, ← List.append_assoc, hl3]
                unfold sgF
                rw [if_neg hiy]
                simp
              have HF3 := Lib.hid hF3
              clear hu hmore hl3 hy hF3
              go_wp2_with fail
              go_roundw
              case rel => exact ⟨j + 1, by omega, by go_num, ⟨V3, B3, by rw [HLN.out]; exact HF3.out⟩, HF5, hBj⟩
              case measure => simp [intOf]; omega
          · obtain rfl : j = ob.length := by omega
            have HNX : Hid (∃ V B, FrL w2.heap.size wr (.slice Am (l0 ++ (ob.take ob.length).filterMap (sgF N T i)).length cm) (sgTo N T (i + 1)) V B) := ⟨V3, B3, by rw [HSM.out]; rw [List.take_of_length_le (Nat.le_refl _)] at hF3 ⊢; exact hF3⟩
            clear hF3 HF
            go_wp2_with fail
            go_roundw
            case rel => exact ⟨i + 1, by omega, by go_num, HNX, hBj⟩
            case measure => simp [intOf]; omega
      · obtain rfl : i = N := by omega
        have HFE : Hid (FrL w.heap.size wo (.slice Al (sgTo i T i).length cl) M V B) := by
          unfold Hid
          rw [sgTo_end] at hF ⊢
          rw [HMM.out] at hF ⊢
          exact hF.mono2 hB2.size
        clear hF HF
        go_wp2_with fail
        go_ret
        exact ⟨_, rfl, HFE.out.fls, belowStep hBo hB2⟩
/-! The reference's list begins ahead of the chain: the chain bears the growth of a row that lies below it. -/
theorem Body.grownLow {ok : Nat → Prop} {B n q : Nat} {w w' : World} {s : Sh} {T : Tab} {Gs : Nat → List (List Nat)} {cs : Array Value} {t : TypeId} (h : Body ok B n w s T Gs) (hg : w.grownBy w' (some q)) (hq : w.heap[q]? = some (.cells cs t (0, 0))) (ht : t ≠ 2) (hB : q < B) : Body ok B n w' s T Gs := by
  have hk : KeepI ok w w' := KeepI.grown hg hq ht
  have keep : ∀ {H : Nat} {o : Obj}, w.heap[H]? = some o → B ≤ H → w'.heap[H]? = some o := fun hH hb => (hg.block _ (row_lt hH) (fun e => by injection e with e; omega)).trans hH
  refine ⟨?_, fun i hi => ?_, ?_, h.inj, h.ne, h.B1, h.B2, h.B3⟩
  · obtain ⟨rs, a, b⟩ := h.rb
    exact ⟨rs, keep a h.B1, b⟩
  · obtain ⟨ds, a, b⟩ := h.row i hi
    refine ⟨ds, keep a (h.B3 i hi), fun y hy => ?_⟩
    obtain ⟨u, c, d⟩ := b y hy
    exact ⟨u, c, d.keep hk⟩
  · obtain ⟨gs, a, b⟩ := h.gb
    refine ⟨gs, keep a h.B2, fun i hi => ?_⟩
    obtain ⟨u, c, d, e⟩ := b i hi
    refine ⟨u, c, d.kept hg hk (fun b' hb' e' => ?_), e⟩
    injection e' with e'
    have := (d.lt hb').1
    omega
theorem grownThenQ {w2 wr w' : World} {q : Nat} (hg : w2.grownBy wr (some q)) (hb : Below wr.heap.size wr w') : w2.grownBy w' (some q) :=
  ⟨hb.os.trans hg.os, hb.tape.trans hg.tape, hb.output.trans hg.output, Nat.le_trans hg.size hb.size, fun k hk hne => (hb.block k (Nat.lt_of_lt_of_le hk hg.size)).trans (hg.block k hk hne)⟩
theorem grownRow {w2 wr w' : World} {q : Nat} {row : Option Nat} (hg : w2.grownBy wr (some q)) (h2 : wr.grownBy w' row) (hr : ∀ b, row = some b → b = q ∨ w2.heap.size ≤ b) : w2.grownBy w' (some q) :=
  ⟨h2.os.trans hg.os, h2.tape.trans hg.tape, h2.output.trans hg.output, Nat.le_trans hg.size h2.size, fun k hk hne => (h2.block k (Nat.lt_of_lt_of_le hk hg.size) (fun e => by
    rcases hr k e.symm with h | h
    · exact hne (by rw [h])
    · omega)).trans (hg.block k hk hne)⟩
def CSl (w : World) (C n m : Nat) (T : Tab) : Prop := ∃ B s Gs, m ≤ B ∧ TopS w C n s ∧ Body (fun _ => True) B n w s T Gs
theorem CSl.cs {w : World} {C n m : Nat} {T : Tab} (h : CSl w C n m T) : CS w C n T := by
  obtain ⟨B, s, Gs, -, a, b⟩ := h
  exact ⟨B, s, Gs, a, b⟩
theorem CSl.grownLow {w w' : World} {C n m q : Nat} {T : Tab} {cs : Array Value} (h : CSl w C n m T) (hg : w.grownBy w' (some q)) (hq : w.heap[q]? = some (.cells cs 23 (0, 0))) (hm : q < m) : CSl w' C n m T := by
  obtain ⟨B, s, Gs, hB, a, b⟩ := h
  refine ⟨B, s, Gs, hB, (hg.block _ (row_lt a) (fun e => ?_)).trans a, b.grownLow hg hq (by decide) (by omega)⟩
  injection e with e
  subst e
  rw [a] at hq
  simp at hq
def NewSl (N : Nat) (ps : List (List Nat)) (w : World) (e : Ending) (w' : World) : Prop := ∃ (C : Nat) (T : Tab), e = .returned (.pointer (some ⟨C, 0, none⟩)) ∧ CSl w' C N w.heap.size T ∧ Chain N T 0 (GenL N ps) ∧ (∀ j, j < N → T j j = some (idp N)) ∧ Below w.heap.size w w'
theorem newSl (N : Nat) (ps : List (List Nat)) (g m c : Nat) (w : World) (h : LOwn w g (ps.map natI)) (hm : ps.length = m) (hP : ∀ p, p ∈ ps → IsP N p) (h0 : 0 < N) (hN : N ≤ 20) (h8 : ps.length ≤ 8) :
    Calls Try.prog 71 #[.int .i64 (N : Int), .slice (some ⟨g, 0, none⟩) m c] w (NewSl N ps w) := by
  subst hm
  refine (specBuild N _ c ps w (h.perms h0 fun p hp => (hP p hp).len) hP h0 hN (by omega)).mono ?_
  rintro e w' ⟨C, s, T, Gs, h1, h2, h3, h4, h5, h6⟩
  exact ⟨C, T, h1, ⟨_, s, Gs, Nat.le_refl _, h2, h3⟩, h4.gen h5, fun j hj => h4.one j (Nat.zero_le _) hj, h6⟩
set_option maxRecDepth 100000 in
set_option maxHeartbeats 16000000 in
theorem specSg (n : Int) (g c : Nat) (ls : List (List Int)) (w : World) (h : LOwn w g ls) (hl : ls.length ≤ 1048576) (hs : ShortL ls) :
    Calls Try.prog 38 #[.int .i64 n, .slice (some ⟨g, 0, none⟩) ls.length c] w (ReadsLists (sgQ n ls) w) := by
  have hg0 := fun (wx : World) (hb : Below w.heap.size w wx) => specGs (some ⟨g, 0, none⟩) c n ls wx (h.below hb).at_ hl hs
  have hE0 := FrL.empty w.heap.size w (Nat.le_refl _)
  have hBE : Below w.heap.size w (w.alloc (.cells #[] 23)) := (Below.refl _ _).alloc (Nat.le_refl _) _
  cases hgs : gsQ n ls with
  | false =>
    rw [sgQ_no hgs]
    rw [hgs] at hg0
    have HG0 := Lib.hid hg0
    clear hg0 hgs hs
    go_enter Try.func38, Try.ntmps38
    go_wp2_with (first | (go_at_call 53; refine (HG0.out _ (by exact (by repeat (first | exact Below.refl _ _ | assumption | refine Below.setCell ?_ (by first | omega | (simp <;> omega)) _ | refine Below.alloc ?_ (by first | omega | (simp <;> omega)) _ | refine Below.drew ?_)))).mono ?_; rintro e w1 ⟨rfl, n1, rfl⟩))
    go_ret
    exact ⟨_, rfl, (hE0.below (belowDrewN (Below.refl _ _) n1)).fls, belowDrewN hBE n1⟩
  | true =>
    rw [hgs] at hg0
    obtain ⟨N, ps, rfl, h0, hN, rfl, h8, hP⟩ := gsOpen hgs
    rw [sgQ_yes hgs]
    have hm : (ps.map natI).length = ps.length := List.length_map ..
    rw [hm] at hg0
    rw [hm]
    obtain ⟨M, hM⟩ : ∃ M, sgR N (gT N ps) = M := ⟨_, rfl⟩
    rw [hM]
    have HM := Lib.hid hM
    have HG0 := Lib.hid hg0
    have HL := Lib.hid h
    have HP := Lib.hid hP
    clear hg0 hgs hs h hP hm hM hl
    go_enter Try.func38, Try.ntmps38
    go_wp2_with (first
      | (go_at_call 53; refine (HG0.out _ (by exact (by repeat (first | exact Below.refl _ _ | assumption | refine Below.setCell ?_ (by first | omega | (simp <;> omega)) _ | refine Below.alloc ?_ (by first | omega | (simp <;> omega)) _ | refine Below.drew ?_)))).mono ?_; rintro e w1 ⟨rfl, n1, rfl⟩)
      | (go_at_call 71; refine (newSl N ps g ps.length c _ (by exact HL.out.below (belowDrewN hBE _)) rfl HP.out h0 hN h8).mono ?_; rintro e w2 ⟨C, T, rfl, hC, hc, hone, hb2⟩))
    have hE2 := (hE0.below (belowDrewN (Below.refl _ _) n1)).below hb2
    have hq2 : w2.heap[w.heap.size]? = some (.cells #[] 23 (0, 0)) := rowB hb2 (rowB (belowDrewN (Below.refl _ _) n1) (heap_alloc_new w _))
    have hB2 := belowStep hb2 (belowDrewN hBE n1)
    have hqm : w.heap.size < ((w.alloc (.cells #[] 23)).drewN n1).heap.size := by simp
    obtain ⟨mm, hmm⟩ : ∃ mm, ((w.alloc (.cells #[] 23)).drewN n1).heap.size = mm := ⟨_, rfl⟩
    rw [hmm] at hqm hC
    have HC := Lib.hid hC
    have HCH := Lib.hid hc
    have HONE := Lib.hid hone
    have HQ2 := Lib.hid hq2
    have HMM : Hid (sgR N T = M) := by unfold Hid; rw [sgR_eq HCH.out (gT_chain HP.out), HM.out]
    have HF0 : Hid (∃ V B, FrL w.heap.size w2 (.slice (some ⟨w.heap.size, 0, none⟩) 0 0) (sgTo N T 0) V B) := ⟨_, _, by rw [sgTo_zero]; exact hE2⟩
    have HO0 : Hid (∀ b, (Value.slice (some ⟨w.heap.size, 0, none⟩) 0 0).ownBlock = some b → b = w.heap.size ∨ w2.heap.size ≤ b) := fun b hb => by
      simp [Value.ownBlock] at hb
      exact .inl hb.symm
    clear HG0 HL HP HM hE0 hE2 hb2 hmm hC hc hone hq2 hBE
    have HG2 : Hid (w2.grownBy w2 (some w.heap.size)) := World.grownBy.refl _ _
    have hz2 := hB2.size
    go_wp2_with fail
    go_loopw [5, 7] (fun lv z wr => ∃ (i : Nat), i ≤ N ∧ z = .int .i64 (i : Int) ∧ Hid (∃ V B, FrL w.heap.size wr lv (sgTo N T i) V B) ∧ Hid (∀ b, lv.ownBlock = some b → b = w.heap.size ∨ w2.heap.size ≤ b) ∧ Hid (w2.grownBy wr (some w.heap.size)) ∧ Below w.heap.size w wr) (fun _ z _ => N - (intOf z).toNat)
    case atStart => exact ⟨0, Nat.zero_le _, rfl, HF0, HO0, HG2, hB2⟩
    case round =>
      obtain ⟨i, hi, rfl, HF, HO, HG, hBo⟩ := hrel
      clear HF0 HO0 HG2 hB2
      obtain ⟨V, B, hF⟩ := HF.out
      obtain ⟨Al, cl, rfl, -⟩ := hF.shape
      by_cases hlt : i < N
      · obtain ⟨l0, hl0⟩ : ∃ l0, sgTo N T i = l0 := ⟨_, rfl⟩
        have hl0l := sgTo_len N T hN i
        have HSM : Hid (sgTo N T (i + 1) = l0 ++ (List.range N).filterMap (sgF N T i)) := by unfold Hid; rw [sgTo_more, hl0]
        have HF1 : Hid (∃ V B, FrL w.heap.size wr (.slice Al (sgTo N T i).length cl) (l0 ++ (List.range (i + 1)).filterMap (sgF N T i)) V B) := ⟨V, B, by rw [fm_low N T i (i + 1) (Nat.le_refl _), List.append_nil, ← hl0]; exact hF⟩
        rw [hl0] at HF1 hl0l HO
        rw [hl0]
        have p0 : (0 : Int) ≤ (i : Int) := by omega
        have p1 : (i : Int) < (N : Int) := by omega
        have q3 : IntKind.i64.wrap ((i : Int) + 1) = ((i + 1 : Nat) : Int) := by rw [show (i : Int) + 1 = ((i + 1 : Nat) : Int) by omega]; exact wrapNat (by omega)
        clear hF HF hl0
        go_wp2_with fail
        go_loopw [5, 8] (fun lv z wr => ∃ (k : Nat), i < k ∧ k ≤ N ∧ z = .int .i64 (k : Int) ∧ Hid (∃ V B, FrL w.heap.size wr lv (l0 ++ (List.range k).filterMap (sgF N T i)) V B) ∧ Hid (∀ b, lv.ownBlock = some b → b = w.heap.size ∨ w2.heap.size ≤ b) ∧ Hid (w2.grownBy wr (some w.heap.size)) ∧ Below w.heap.size w wr) (fun _ z _ => N - (intOf z).toNat)
        case atStart => exact ⟨i + 1, by omega, by omega, by go_num, HF1, HO, HG, hBo⟩
        case round =>
          obtain ⟨k, hik, hk, rfl, HF, HO, HG, hBk⟩ := hrel
          clear HF1
          obtain ⟨V3, B3, hF3⟩ := HF.out
          obtain ⟨Am, cm, rfl, -⟩ := hF3.shape
          have hBkz := hBk.size
          have hGz : w2.heap.size ≤ wr.heap.size := HG.out.size
          by_cases hkl : k < N
          · have hmore := fm_range (sgF N T i) k
            obtain ⟨l3, hl3⟩ : ∃ l3, l0 ++ (List.range k).filterMap (sgF N T i) = l3 := ⟨_, rfl⟩
            have hl3l : l3.length ≤ 1048576 := by
              rw [← hl3, List.length_append]
              have := List.length_filterMap_le (sgF N T i) (List.range k)
              rw [List.length_range] at this
              omega
            rw [hl3] at hF3 HO
            rw [hl3]
            obtain ⟨pl, hpl⟩ : ∃ pl, natI (idp i) ++ [(k : Int)] = pl := ⟨_, rfl⟩
            have hpll : pl.length ≤ 1048576 := by rw [← hpl, List.length_append, natI_len, idp_len, List.length_singleton]; omega
            have HPL := Lib.hid hpl
            have hCr := (HC.out.grownLow HG.out HQ2.out hqm).cs
            have hpre := fun (wx : World) (A : Option Addr) (c' : Nat) (hb : Below wr.heap.size wr wx) (hI : IntsAt wx A pl) => specPre C N T A c' pl.length pl wx (hCr.below hb) HCH.out hN h0 hI rfl hpll
            obtain ⟨o, ho⟩ : ∃ o, preR N T pl = o := ⟨_, rfl⟩
            rw [ho] at hpre
            have hsf : sgF N T i k = o := by unfold sgF; rw [if_pos hik, ← ho, ← hpl]; rfl
            rw [hsf] at hmore
            have HF3 := Lib.hid hF3
            have hidl : (natI (idp i)).length ≤ 1048576 := by rw [natI_len, idp_len]; omega
            have k0 : (0 : Int) ≤ (k : Int) := by omega
            have k1 : (k : Int) < (N : Int) := by omega
            cases o with
            | none =>
              have HLN : Hid (l0 ++ (List.range (k + 1)).filterMap (sgF N T i) = l3) := by
                unfold Hid
                rw [hmore, ← List.append_assoc, hl3]
                simp
              have HPRE : Hid (∀ (wx : World) (A : Option Addr) (c' : Nat), Below wr.heap.size wr wx → IntsAt wx A pl → Calls Try.prog 89 #[.pointer (some ⟨C, 0, none⟩), .slice A pl.length c'] wx fun e w' => ∃ v, e = .returned (.tuple #[v, .bool false]) ∧ Below wx.heap.size wx w') := fun wx A c' hb hI => (hpre wx A c' hb hI).mono fun e w' hp => PreI.none_ hp
              clear hpre hmore hl3 hF3 hpl hpll ho hsf hCr
              go_wp2_with (first
                | (go_at_call 79; refine (specIdentity i _ (by omega)).mono ?_; rintro e w7 ⟨v7, rfl, hF7, hb7⟩
                    ; have hb7z := hb7.size; have hF7 := Lib.hid hF7)
                | (at_builtin; refine append_one rfl (.tmp 35) (.tmp 37) rfl wr.heap.size _ _ (k : Int) rfl (hF7.out.below (by repeat (first | exact Below.refl _ _ | assumption | refine Below.setCell ?_ (by first | omega | (simp <;> omega)) _ | refine Below.alloc ?_ (by first | omega | (simp <;> omega)) _ | refine Below.drew ?_))) w7.heap.size rfl (by simp) hidl (by simp; omega) ?_; intro v8 w8 hF8 hg8 hb8
                    ; have hB8 : Below wr.heap.size wr w8 := (hb7.alloc hb7z _).trans hb8
                    ; rw [HPL.out] at hF8
                    ; obtain ⟨A8, c8, rfl, hI8, -⟩ := hF8.ints
                    ; have HI8 := Lib.hid hI8; clear hI8 hF8)
                | (go_at_call 89; refine (HPRE.out _ A8 c8 hB8 HI8.out).mono ?_; rintro e w9 ⟨v9, rfl, hb9⟩; have hB9 := belowStep hb9 hB8))
              have HF9 : Hid (∃ V B, FrL w.heap.size w9 (.slice Am l3.length cm) (l0 ++ (List.range (k + 1)).filterMap (sgF N T i)) V B) := ⟨V3, B3, by rw [HLN.out]; exact HF3.out.below hB9⟩
              have HG9 : Hid (w2.grownBy w9 (some w.heap.size)) := grownThenQ HG.out hB9
              go_roundw
              case rel => exact ⟨k + 1, by omega, by omega, by go_num, HF9, HO, HG9, belowStep hB9 hBk⟩
              case measure => simp [intOf]; omega
            | some u =>
              have HLN : Hid (l0 ++ (List.range (k + 1)).filterMap (sgF N T i) = l3 ++ [u]) := by
                unfold Hid
                rw [hmore, ← List.append_assoc, hl3]
                rfl
              have HPRE : Hid (∀ (wx : World) (A : Option Addr) (c' : Nat), Below wr.heap.size wr wx → IntsAt wx A pl → Calls Try.prog 89 #[.pointer (some ⟨C, 0, none⟩), .slice A pl.length c'] wx fun e w' => ∃ v, e = .returned (.tuple #[v, .bool true]) ∧ Fresh wx.heap.size w' v (natI u) ∧ Below wx.heap.size wx w') := fun wx A c' hb hI => (hpre wx A c' hb hI).mono fun e w' hp => PreI.some_ hp
              clear hpre hmore hl3 hF3 hpl hpll ho hsf hCr
              go_wp2_with (first
                | (go_at_call 79; refine (specIdentity i _ (by omega)).mono ?_; rintro e w7 ⟨v7, rfl, hF7, hb7⟩
                    ; have hb7z := hb7.size; have hF7 := Lib.hid hF7)
                | (at_builtin; refine append_one rfl (.tmp 35) (.tmp 37) rfl wr.heap.size _ _ (k : Int) rfl (hF7.out.below (by repeat (first | exact Below.refl _ _ | assumption | refine Below.setCell ?_ (by first | omega | (simp <;> omega)) _ | refine Below.alloc ?_ (by first | omega | (simp <;> omega)) _ | refine Below.drew ?_))) w7.heap.size rfl (by simp) hidl (by simp; omega) ?_; intro v8 w8 hF8 hg8 hb8
                    ; have hB8 : Below wr.heap.size wr w8 := (hb7.alloc hb7z _).trans hb8
                    ; rw [HPL.out] at hF8
                    ; obtain ⟨A8, c8, rfl, hI8, -⟩ := hF8.ints
                    ; have HI8 := Lib.hid hI8; clear hI8 hF8)
                | (go_at_call 89; refine (HPRE.out _ A8 c8 hB8 HI8.out).mono ?_; rintro e w9 ⟨v9, rfl, hF9, hb9⟩
                    ; obtain ⟨A9, c9, rfl, -, -⟩ := hF9.ints
                    ; have hB9 := belowStep hb9 hB8
                    ; have hB9z := hB9.size
                    ; have HF9 : Hid (Fresh (B3 l3.length) w9 (.slice A9 (natI u).length c9) (natI u)) := (hF9.mono (Nat.le_trans HF3.out.top hB8.size))
                    ; have HF39 := Lib.hid (HF3.out.below hB9); clear hF9)
                | (at_builtin; refine append_fr rfl (.tmp 43) (.tmp 45) rfl w.heap.size _ l3 V3 B3 u (.slice A9 (natI u).length c9) rfl (by exact HF39.out.below (by exact (by repeat (first | exact Below.refl _ _ | assumption | refine Below.setCell ?_ (by first | omega | (simp <;> omega)) _ | refine Below.alloc ?_ (by first | omega | (simp <;> omega)) _ | refine Below.drew ?_)))) w9.heap.size rfl (by simp) (by exact HF9.out.below (by exact (by repeat (first | exact Below.refl _ _ | assumption | refine Below.setCell ?_ (by first | omega | (simp <;> omega)) _ | refine Below.alloc ?_ (by first | omega | (simp <;> omega)) _ | refine Below.drew ?_)))) hl3l (by simp; omega) ?_; intro A10 c10 w10 hF10 hg10 hat10
                    ; have HB10 : Hid (Below w.heap.size w w10) := (HF39.out.below (by exact (by repeat (first | exact Below.refl _ _ | assumption | refine Below.setCell ?_ (by first | omega | (simp <;> omega)) _ | refine Below.alloc ?_ (by first | omega | (simp <;> omega)) _ | refine Below.drew ?_)))).grew ((belowStep hB9 hBk).alloc (by omega) _) hg10 (Nat.le_refl _) (by simp; omega)
                    ; have HG10 : Hid (w2.grownBy w10 (some w.heap.size)) := grownRow (grownThenQ HG.out (hB9.alloc hB9z _)) hg10 (fun b hb => HO.out b hb)
                    ; have HO10 : Hid (∀ b, (Value.slice A10 (l3.length + 1) c10).ownBlock = some b → b = w.heap.size ∨ w2.heap.size ≤ b) := (by
                        intro b hb
                        rcases hat10 with h1 | h1
                        · rw [h1] at hb
                          exact HO.out b hb
                        · rw [h1] at hb
                          injection hb with hb
                          simp at hb
                          exact .inr (by omega))
                    ; have HF10 := Lib.hid hF10; clear hF10 hg10 hat10))
              go_roundw
              case rel => exact ⟨k + 1, by omega, by omega, by go_num, ⟨_, _, by rw [HLN.out]; exact HF10.out⟩, HO10, HG10, HB10.out⟩
              case measure => simp [intOf]; omega
          · obtain rfl : k = N := by omega
            have HNX : Hid (∃ V B, FrL w.heap.size wr (.slice Am (l0 ++ (List.range k).filterMap (sgF k T i)).length cm) (sgTo k T (i + 1)) V B) := ⟨V3, B3, by rw [HSM.out]; exact hF3⟩
            clear hF3 HF
            go_wp2_with fail
            go_roundw
            case rel => exact ⟨i + 1, by omega, by go_num, HNX, HO, HG, hBk⟩
            case measure => simp [intOf]; omega
      · obtain rfl : i = N := by omega
        have HFE : Hid (FrL w.heap.size wr (.slice Al (sgTo i T i).length cl) M V B) := by
          unfold Hid
          rw [sgTo_end] at hF ⊢
          rw [HMM.out] at hF ⊢
          exact hF
        clear hF HF
        go_wp2_with fail
        go_ret
        exact ⟨_, rfl, HFE.out.fls, hBo⟩
end Go.Proofs.Ytpcnbjfkobeibaa
