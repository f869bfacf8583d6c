/- The podium, at both packages. Conditions: as each contract says. -/
import Derived.Test.YtpaaolnkmopiiaaPod
namespace Go.Proofs.Ytpaaolnkmopiiaa
open Go.RowKit

theorem podium_no {es : List Ent} (h : comparable es = false) : podiumRes es = [] := by simp [podiumRes, h]
theorem podium_yes {es : List Ent} (h : comparable es = true) : podiumRes es = firstTo es (ranksBy lessEE es) 3 := by simp [podiumRes, h]
theorem podium_nil : firstTo [] (ranksBy lessEE []) 3 = [] := by decide
theorem implFirst3 (A : Option Addr) (c : Nat) (es : List Ent) (Ar : Option Addr) (cr : Nat) (rk : List Int) (w : World) (hx : EntsAt w A es) (hr : IntsAt w Ar rk) (he12 : es.length ≤ 12) (hrl : rk.length = es.length)
    (hs : Short es) (n : Nat) (hn : rk.length = n) :
    Calls Try.prog 58 #[.slice A es.length c, .slice Ar n cr, .int .i64 3] w (IntsPost (firstTo es rk 3) w) := by
  have h := implFirst A c es Ar cr rk 3 w hx hr he12 hrl (by omega) hs n hn
  rw [show ((3 : Nat) : Int) = 3 from rfl] at h
  exact h
def Sep (v : Value) (A : Option Addr) : Prop := ∀ h b off, v.ownBlock = some h → A = some ⟨b, off, none⟩ → h ≠ b
theorem IntsAt.sep {w w' : World} {A : Option Addr} {xs : List Int} {v : Value} (h : IntsAt w A xs) (hg : w.grownBy w' v.ownBlock) (hs : Sep v A) : IntsAt w' A xs := by
  intro k hk
  obtain ⟨b, off, e, hb, hc⟩ := h k hk
  exact ⟨b, off, e, Nat.lt_of_lt_of_le hb hg.size, (World.cell?_of_block (a := ⟨b, off + k, none⟩) (hg.block b hb (fun e2 => hs b b off e2.symm e rfl))).trans hc⟩
theorem append_one_at {w : World} {ops : Array Oper} {rest : List Oper} {o : Oper} {a : Act} {Q : Exit → Act → World → Prop} (hgd : o.guard = none) (s x : Operand)
    (hop : o.op = Op.call { callee := Callee.builtin Builtin.append, args := #[s, x], argTypes := #[26, 26] })
    (B : Nat) (v : Value) (xs : List Int) (n : Int) (hs : a.eval s = v) (hown : Fresh B w v xs) (g : Nat) (hx : a.eval x = .slice (some ⟨g, 0, none⟩) 1 1)
    (hcell : w.cell? ⟨g, 0, none⟩ = some (.int .i64 n)) (hl : xs.length ≤ 1048576) (hB : B ≤ w.heap.size)
    (h : ∀ v' w', Fresh B w' v' (xs ++ [n]) → w.grownBy w' v.ownBlock → Below B w w' → (v'.ownBlock = v.ownBlock ∨ v'.ownBlock = some w.heap.size) → wpList Try.prog ops Q rest (a.put o.dst v') w') : wpList Try.prog ops Q (o :: rest) a w := by
  obtain ⟨i0, hi, hz0, hz1, hz2⟩ := info_parts intInfo
  refine wpList_append_own_at _ hgd s x 26 hop B 2 i0 (.int .i64 0) 1 8 Try.underlying26 hi hz0 hz1 hz2 rfl (by decide) v xs.length (xs.map (Value.int .i64)) hs hown ⟨g, 0, none⟩ 1 1 [.int .i64 n] hx rfl ?_ ?_ ?_ ?_ hB ?_
  · intro j u hj
    match j, hj with
    | 0, hj => simp at hj; subst hj; simpa [Addr.add] using hcell
  · intro u hu; simp at hu; subst hu; rfl
  · unfold maxLen; omega
  · omega
  · intro v' w' hown' hgrow _ hat
    refine h v' w' ?_ hgrow ((Below.refl _ _).grown hgrow hB hown.block) hat
    simpa [Fresh] using hown'
set_option maxRecDepth 3000 in
set_option maxHeartbeats 1000000 in
theorem implPodium (A : Option Addr) (c : Nat) (es : List Ent) (w : World) (hx : EntsAt w A es) (hl : es.length ≤ 1048576) (hlc : es.length ≤ c) (hs : Short es) :
    Calls Try.prog 51 #[.slice A es.length c] w (IntsPost (podiumRes es) w) := by
  have HS := Lib.hid hs
  clear hs
  have hqn := fun (wx : World) (A : Option Addr) (n c : Nat) => Lib.run_eql_slice_nil (P := Try.prog) wx 26 2 A n c 0 0 Try.underlying26
  cases hcp : comparable es
  · have HP := Lib.hid (podium_no hcp)
    go_enter Try.func51, Try.ntmps51
    go_wp2_with fail
    refine (implRanks A c es _ hx hl hlc HS.out).mono ?_
    rintro e w1 ⟨v1, rfl, hF1, hnil, hb1⟩
    obtain rfl := hnil hcp
    clear hF1 hcp hnil
    go_wp2_with fail
    go_ret
    exact ⟨_, rfl, by rw [HP.out]; exact Fresh.nil _ _, hb1⟩
  · have HP := Lib.hid (podium_yes hcp)
    have hcp2 := hcp
    rw [comparable, Bool.and_eq_true] at hcp2
    have hl12 := (entsOk_parts hcp2.1).1
    clear hcp2
    go_enter Try.func51, Try.ntmps51
    go_wp2_with fail
    refine (implRanks A c es _ hx hl hlc HS.out).mono ?_
    rintro e w1 ⟨v1, rfl, hF1, hnil, hb1⟩
    rw [ranksRes, hcp, if_pos rfl] at hF1
    clear hcp hnil
    obtain ⟨A1, c1, rfl, hI1, -⟩ := hF1.ints
    have hx1 := hx.below hb1
    have hrl := ranksBy_len lessEE es
    obtain ⟨rk, hrk⟩ : ∃ rk, ranksBy lessEE es = rk := ⟨_, rfl⟩
    rw [hrk] at hI1 hrl ⊢
    have HRK := Lib.hid hrk
    have HRL := Lib.hid hrl
    clear hF1 hrk hrl
    cases A1 with
    | none =>
      have hz : rk.length = 0 := by
        rcases Nat.eq_zero_or_pos rk.length with h0 | h0
        · exact h0
        · obtain ⟨b, off, e, _⟩ := hI1 0 h0
          cases e
      have hes : es = [] := List.eq_nil_of_length_eq_zero (by have := HRL.out; omega)
      have HP2 : Hid (podiumRes es = []) := by unfold Hid; rw [HP.out, hes]; exact podium_nil
      clear hes hz
      go_wp2_with fail
      go_ret
      exact ⟨_, rfl, by rw [HP2.out]; exact Fresh.nil _ _, hb1⟩
    | some ad =>
      have hq2 := fun wx : World => Lib.run_eql_slice_nil (P := Try.prog) wx 26 2 (some ad) rk.length c1 0 0 Try.underlying26
      clear hqn
      go_wp2_with fail
      refine (implFirst3 A c es _ c1 rk _ hx1 hI1 hl12 HRL.out HS.out rk.length rfl).mono ?_
      rintro e w2 ⟨v2, rfl, hF2, hb2⟩
      go_wp2_with fail
      go_ret
      exact ⟨v2, rfl, by rw [HP.out, HRK.out]; exact hF2.mono hb1.size, belowStep hb2 hb1⟩
set_option maxRecDepth 3000 in
set_option maxHeartbeats 2000000 in
theorem specPodium (A : Option Addr) (c : Nat) (es : List Ent) (w : World) (hx : EntsAt w A es) (hl : es.length ≤ 1048576) (hs : Short es) :
    Calls Try.prog 50 #[.slice A es.length c] w (IntsPost (podiumRes es) w) := by
  have HS := Lib.hid hs
  clear hs
  have hE : Fresh w.heap.size (w.alloc (.cells #[] 2)) (.slice (some ⟨w.heap.size, 0, none⟩) 0 0) [] := Fresh.empty (Nat.le_refl _)
  have hB0 : Below w.heap.size w (w.alloc (.cells #[] 2)) := (by repeat (first | exact Below.refl _ _ | assumption | refine Below.setCell ?_ (by first | omega | (simp <;> omega)) _ | refine Below.alloc ?_ (by first | omega | (simp <;> omega)) _ | refine Below.drew ?_))
  have hx0 := hx.below hB0
  cases hcp : comparable es
  · have HP := Lib.hid (podium_no hcp)
    go_enter Try.func50, Try.ntmps50
    go_wp2_with fail
    refine (specComparable A c es _ (by exact hx0) hl HS.out).mono ?_
    rintro e w1 ⟨rfl, hb1⟩
    rw [hcp]
    clear hcp
    have hF1 := hE.below hb1
    go_wp2_with fail
    go_ret
    exact ⟨_, rfl, by rw [HP.out]; exact hF1, belowStep hb1 hB0⟩
  · have HP := Lib.hid (podium_yes hcp)
    have hcp2 := hcp
    rw [comparable, Bool.and_eq_true] at hcp2
    have hl12 := (entsOk_parts hcp2.1).1
    have HOK := Lib.hid (entsOk_parts hcp2.1).2
    clear hcp2
    go_enter Try.func50, Try.ntmps50
    go_wp2_with fail
    refine (specComparable A c es _ (by exact hx0) hl HS.out).mono ?_
    rintro e w1 ⟨rfl, hb1⟩
    rw [hcp]
    have HCP := Lib.hid hcp
    clear hcp
    have hF1 := hE.below hb1
    have hB1 := belowStep hb1 hB0
    have hx1 := hx.below hB1
    clear hE hb1 hx0
    go_wp2_with fail
    refine (specL26Ranks A c es _ hx1 HCP.out).mono ?_
    rintro e w2 ⟨v2, rfl, hF2, hb2⟩
    obtain ⟨Ar, cr, rfl, hI2, hAr⟩ := hF2.ints
    have hw1z : w.heap.size < w1.heap.size := by have := hF1.under w.heap.size rfl; exact this
    have hsep : Hid (Sep (.slice (some ⟨w.heap.size, 0, none⟩) 0 0) Ar) := by
      intro h b off e1 e2 e3
      have e4 : w.heap.size = h := by simpa [Value.ownBlock] using e1
      rcases hAr with rfl | ⟨g, rfl, hg, _⟩
      · cases e2
      · have e5 : g = b := by have := Option.some.inj e2; simpa using congrArg Addr.block this
        omega
    have hrl := ranksBy_len lessEE es
    obtain ⟨rk, hrk⟩ : ∃ rk, ranksBy lessEE es = rk := ⟨_, rfl⟩
    rw [hrk] at hI2 hrl ⊢
    have HRK := Lib.hid hrk
    have hF1b := hF1.below hb2
    have hB2 := belowStep hb2 hB1
    have hx2 := hx1.below hb2
    have HRL := Lib.hid hrl
    obtain ⟨n, hn⟩ : ∃ n, rk.length = n := ⟨_, rfl⟩
    rw [hn]
    have HN := Lib.hid (hn.symm.trans hrl)
    clear hF2 hF1 hb2 hx1 hB1 hrk hrl hn hAr hx2
    go_wp2_with fail
    go_loopw [3, 5] (fun v r wr => ∃ (m : Nat) (l : List Int), m ≤ 3 ∧ r = .int .i64 ((m + 1 : Nat) : Int) ∧ Fresh w.heap.size wr v l ∧ Hid (firstTo es rk m = l) ∧ Below w.heap.size w wr ∧ IntsAt wr Ar rk ∧ Hid (Sep v Ar)) (fun _ r _ => 4 - (intOf r).toNat)
    case atStart => exact ⟨0, [], Nat.zero_le _, rfl, hF1b, rfl, hB2, hI2, hsep⟩
    case round =>
      obtain ⟨m, l, hm, rfl, hF, HL, hB, hI2w, hsp⟩ := hrel
      clear hF1b
      by_cases hlt : m < 3
      · have p1 : ((m + 1 : Nat) : Int) ≤ 3 := by omega
        obtain ⟨r, hrr⟩ : ∃ r : Int, ((m + 1 : Nat) : Int) = r := ⟨_, rfl⟩
        have r0 : 1 ≤ r := by omega
        have r1 : r ≤ 12 := by omega
        rw [hrr] at p1 ⊢
        have HR := Lib.hid hrr
        clear hrr
        have HL2 : Hid (MidTo es rk m 0 = l) := by unfold Hid; rw [MidTo_zero]; exact HL.out
        obtain ⟨wo, rfl⟩ : ∃ wo : World, wo = wr := ⟨_, rfl⟩
        go_wp2_with fail
        go_loopw [3, 6] (fun v j wr => ∃ (k : Nat) (l : List Int), k ≤ es.length ∧ j = .int .i64 k ∧ Fresh w.heap.size wr v l ∧ Hid (MidTo es rk m k = l) ∧ Below w.heap.size w wr ∧ IntsAt wr Ar rk ∧ Hid (Sep v Ar)) (fun _ j _ => es.length - (intOf j).toNat)
        case atStart => exact ⟨0, l, Nat.zero_le _, rfl, hF, HL2, hB, hI2w, hsp⟩
        case round =>
          obtain ⟨k, l, hk, rfl, hF, HL, hB, hI2w, hsp⟩ := hrel
          by_cases hlk : k < es.length
          · obtain ⟨b, off, e1, Ai, ci, ys, rfl, hb, hc0, hc1, hI, hcap, HX⟩ := (hx.below hB).at_ hlk
            obtain ⟨br, offr, q, rfl, hbr, hcr, HQ⟩ := hI2w.at_ (show k < rk.length by have := HRL.out; omega)
            have q0 : (0 : Int) ≤ (k : Int) := by omega
            have q1 : (k : Int) < (es.length : Int) := by omega
            have q2 : (k : Int) < (n : Int) := by have := HN.out; omega
            have HV := Lib.hid (entOk_parts (show entOk e1 ys = true by have := HOK.out k hlk; rw [HX.out] at this; exact this))
            have hyl : ys.length ≤ 1048576 := by have := HV.out.1; omega
            have hll : l.length ≤ 1048576 := by rw [← HL.out]; exact MidTo_len es rk m k (by omega) (by omega) hl12
            by_cases hqr : q = r
            · have hq1 : (q == r) = true := by simpa using hqr
              by_cases hbest : bestOf ys = -1
              · have hb1 : (bestOf ys != -1) = false := by simpa using hbest
                have HLN : Hid (MidTo es rk m (k + 1) = l) := MidTo_no HX.out HQ.out (.inr hbest) HL.out
                clear hqr hbest
                go_wp2_with fail
                refine (specBest Ai ci ys _ (by exact hI) hyl HV.out.2).mono ?_
                rintro e w' ⟨rfl, rfl⟩
                go_wp2_with fail
                clear hq1 hb1
                go_roundw
                case rel => exact ⟨k + 1, _, by omega, by go_num, hF, HLN, hB, hI2w, hsp⟩
                case measure => simp [intOf]; omega
              · have hb1 : (bestOf ys != -1) = true := by simpa using hbest
                have HLN : Hid (MidTo es rk m (k + 1) = l ++ [e1]) := MidTo_yes HX.out (by rw [HQ.out, hqr, HR.out]) hbest HL.out
                have hBz := hB.size
                clear hqr hbest
                go_wp2_with fail
                refine (specBest Ai ci ys _ (by exact hI) hyl HV.out.2).mono ?_
                rintro e w' ⟨rfl, rfl⟩
                go_wp2_with (first | (at_builtin; refine append_one_at rfl (.tmp 39) (.tmp 45) rfl w.heap.size _ l e1 rfl (hF.below (by repeat (first | exact Below.refl _ _ | assumption | refine Below.setCell ?_ (by first | omega | (simp <;> omega)) _ | refine Below.alloc ?_ (by first | omega | (simp <;> omega)) _ | refine Below.drew ?_))) wr.heap.size rfl (by simp) hll (by simp; omega) ?_; intro v4 w4 hF4 hg4 hb4 hat4))
                clear hq1 hb1
                have hbA : Below wr.heap.size wr (wr.alloc (.cells #[.int .i64 e1] 2)) := (by repeat (first | exact Below.refl _ _ | assumption | refine Below.setCell ?_ (by first | omega | (simp <;> omega)) _ | refine Below.alloc ?_ (by first | omega | (simp <;> omega)) _ | refine Below.drew ?_))
                have hI4 := (hI2w.below hbA).sep hg4 hsp.out
                have hs4 : Hid (Sep v4 (some ⟨br, offr, none⟩)) := by
                  intro h b off f1 e2 e3
                  rcases hat4 with h4 | h4
                  · exact hsp.out h b off (h4 ▸ f1) e2 e3
                  · rw [h4] at f1
                    have e5 : br = b := by have := Option.some.inj e2; simpa using congrArg Addr.block this
                    have e6 : (wr.alloc (.cells #[.int .i64 e1] 2)).heap.size = h := by simpa using f1
                    simp at e6
                    omega
                clear hat4 hg4
                go_roundw
                case rel => exact ⟨k + 1, _, by omega, by go_num, hF4, HLN, (hB.alloc hB.size _).trans hb4, hI4, hs4⟩
                case measure => simp [intOf]; omega
            · have hq1 : (q == r) = false := by simpa using hqr
              have HLN : Hid (MidTo es rk m (k + 1) = l) := MidTo_no HX.out HQ.out (.inl (by rw [HR.out]; exact hqr)) HL.out
              clear hqr
              go_wp2_with fail
              clear hq1
              go_roundw
              case rel => exact ⟨k + 1, _, by omega, by go_num, hF, HLN, hB, hI2w, hsp⟩
              case measure => simp [intOf]; omega
          · obtain rfl : k = es.length := by omega
            have HLN : Hid (firstTo es rk (m + 1) = l) := HL.out
            clear HL HL2
            go_wp2_with fail
            go_roundw
            case rel => exact ⟨m + 1, l, by omega, by have := HR.out; subst this; go_num, hF, HLN, hB, hI2w, hsp⟩
            case measure => have := HR.out; simp [intOf]; omega
      · obtain rfl : m = 3 := by omega
        have p1 : ¬ ((3 + 1 : Nat) : Int) ≤ 3 := by omega
        go_wp2_with fail
        go_ret
        exact ⟨_, rfl, by rw [HP.out, HRK.out, HL.out]; exact hF, hB⟩
end Go.Proofs.Ytpaaolnkmopiiaa
