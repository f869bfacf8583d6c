/- Who advances from a round, at the reference. Conditions: as each contract says. -/
import Derived.Test.YtpaaolnkmopiiaaRs
namespace Go.Proofs.Ytpaaolnkmopiiaa
open Go.RowKit

theorem kept8 {B H b p q br : Nat} {K1 A1 Q : Value} {w w' : World} {r : RR} (hb : Below B w w') (hH : H < B) (hbB : b < B) (hrB : br < B) (h0 : w.cell? ⟨H, 0, none⟩ = some (.int .i64 r.att)) (h1 : w.cell? ⟨H, 1, none⟩ = some (.int .i64 r.lim)) (h2 : w.cell? ⟨H, 2, none⟩ = some (.int .i64 r.catt)) (h3 : w.cell? ⟨H, 3, none⟩ = some (.int .i64 r.cut)) (h4 : w.cell? ⟨H, 4, none⟩ = some (.int .i64 r.adv))
    (g0 : w.cell? ⟨b, p, none⟩ = some K1) (g1 : w.cell? ⟨b, p + 1, none⟩ = some A1) (g2 : w.cell? ⟨br, q, none⟩ = some Q) :
    w'.cell? ⟨H, 0, none⟩ = some (.int .i64 r.att) ∧ w'.cell? ⟨H, 1, none⟩ = some (.int .i64 r.lim) ∧ w'.cell? ⟨H, 2, none⟩ = some (.int .i64 r.catt) ∧ w'.cell? ⟨H, 3, none⟩ = some (.int .i64 r.cut) ∧ w'.cell? ⟨H, 4, none⟩ = some (.int .i64 r.adv) ∧ w'.cell? ⟨b, p, none⟩ = some K1 ∧ w'.cell? ⟨b, p + 1, none⟩ = some A1 ∧ w'.cell? ⟨br, q, none⟩ = some Q :=
  ⟨(hb.cell (p := ⟨H, 0, none⟩) hH).trans h0, (hb.cell (p := ⟨H, 1, none⟩) hH).trans h1, (hb.cell (p := ⟨H, 2, none⟩) hH).trans h2, (hb.cell (p := ⟨H, 3, none⟩) hH).trans h3, (hb.cell (p := ⟨H, 4, none⟩) hH).trans h4, (hb.cell (p := ⟨b, p, none⟩) hbB).trans g0, (hb.cell (p := ⟨b, p + 1, none⟩) hbB).trans g1, (hb.cell (p := ⟨br, q, none⟩) hrB).trans g2⟩
theorem fieldTimes (w : World) (e : Int) (A : Option Addr) (n c : Nat) : (Instr.field 44 (.agg #[.int .i64 e, .slice A n c]) 1).run Try.prog w = .ok (.slice A n c) w := by kernel_rfl
set_option maxRecDepth 3000 in
set_option maxHeartbeats 8000000 in
theorem specAdv (r : RR) (A : Option Addr) (c : Nat) (es : List Ent) (w : World) (hx : EntsAt w A es) (hl : es.length ≤ 1048576) (hs : Short es) :
    Calls Try.prog 14 #[.agg #[.int .i64 r.att, .int .i64 r.lim, .int .i64 r.catt, .int .i64 r.cut, .int .i64 r.adv], .slice A es.length c] w (IntsPost (advRes r es) w) := by
  have HS := Lib.hid hs
  clear hs
  obtain ⟨w0, hw0⟩ : ∃ w0, w.alloc (.cells #[.int .i64 r.att, .int .i64 r.lim, .int .i64 r.catt, .int .i64 r.cut, .int .i64 r.adv] 28) = w0 := ⟨_, rfl⟩
  have hB0 : Below w.heap.size w w0 := by rw [← hw0]; exact (by repeat (first | exact Below.refl _ _ | assumption | refine Below.setCell ?_ (by first | omega | (simp <;> omega)) _ | refine Below.alloc ?_ (by first | omega | (simp <;> omega)) _ | refine Below.drew ?_))
  have HX0 : Hid (RX w0 w.heap.size r) := by rw [← hw0]; exact RX.new w r
  have hE : Fresh w0.heap.size (w0.alloc (.cells #[] 2)) (.slice (some ⟨w0.heap.size, 0, none⟩) 0 0) [] := Fresh.empty (Nat.le_refl _)
  have hB00 : Below w0.heap.size w0 (w0.alloc (.cells #[] 2)) := (by repeat (first | exact Below.refl _ _ | assumption | refine Below.setCell ?_ (by first | omega | (simp <;> omega)) _ | refine Below.alloc ?_ (by first | omega | (simp <;> omega)) _ | refine Below.drew ?_))
  have hx0 := hx.below hB0
  have hx00 := hx0.below hB00
  obtain ⟨hH, b0, b1, b2, b3, b4⟩ := HX0.out.below hB00
  clear hx
  cases h1 : r.ok
  · have HN : Hid (roundOk r es = false) := by unfold Hid; rw [roundOk, h1]; rfl
    go_enter Try.func14, Try.ntmps14
    go_wp2_with fail
    refine (specIsValidRR r _).mono ?_
    rintro e w1 ⟨rfl, hb1⟩
    rw [h1]
    clear b0 b1 b2 b3 b4
    have hF1 := hE.below hb1
    go_wp2_with fail
    go_ret
    exact ⟨_, rfl, by rw [adv_no HN.out]; exact hF1.mono hB0.size, belowStep (belowStep hb1 hB00) hB0⟩
  cases h2 : entsOk es
  · have HN : Hid (roundOk r es = false) := by unfold Hid; rw [roundOk, h1, h2]; rfl
    go_enter Try.func14, Try.ntmps14
    go_wp2_with fail
    refine (specIsValidRR r _).mono ?_
    rintro e w1 ⟨rfl, hb1⟩
    rw [h1]
    clear b0 b1 b2 b3 b4
    have hF1 := hE.below hb1
    have hB1 := belowStep hb1 hB00
    have hx1 := hx00.below hb1
    clear hb1
    go_wp2_with fail
    refine (specAve A c es _ (by exact hx1) hl HS.out).mono ?_
    rintro e w2 ⟨rfl, hb2⟩
    rw [h2]
    have hF2 := hF1.below hb2
    go_wp2_with fail
    go_ret
    exact ⟨_, rfl, by rw [adv_no HN.out]; exact hF2.mono hB0.size, belowStep (belowStep hb2 hB1) hB0⟩
  · have HN : Hid (roundOk r es = true) := by unfold Hid; rw [roundOk, h1, h2]; rfl
    have hl12 := (entsOk_parts h2).1
    have HOK : Hid (AllOk es) := (entsOk_parts h2).2
    have HR := Lib.hid h1
    have ha12 := (RR.ok_bd h1).2.2.2.2.2.2.2.1
    have ha0 := (RR.ok_bd h1).2.2.2.2.2.2.1
    obtain ⟨m0, hm0⟩ : ∃ m : Nat, r.adv = (m : Int) := ⟨r.adv.toNat, by omega⟩
    have HM := Lib.hid hm0
    have HM2 : Hid (r.adv.toNat = m0) := by unfold Hid; omega
    have hm12 : m0 ≤ 12 := by omega
    clear ha12 ha0 hm0
    have hfd := fieldTimes
    go_enter Try.func14, Try.ntmps14
    go_wp2_with fail
    refine (specIsValidRR r _).mono ?_
    rintro e w1 ⟨rfl, hb1⟩
    rw [h1]
    clear b0 b1 b2 b3 b4
    have hF1 := hE.below hb1
    have hB1 := belowStep hb1 hB00
    have hx1 := hx00.below hb1
    clear hb1
    go_wp2_with fail
    refine (specAve A c es _ (by exact hx1) hl HS.out).mono ?_
    rintro e w2 ⟨rfl, hb2⟩
    rw [h2]
    have hF2 := hF1.below hb2
    have hB2 := belowStep hb2 hB1
    have hx2 := hx1.below hb2
    clear hb2 h1 h2 hF1 hE hB00 hx00
    obtain ⟨hH2, b0, b1, b2, b3, b4⟩ := HX0.out.below hB2
    go_wp2_with fail
    refine (specL27Ranks r A c es _ hx2 HR.out hl12 HOK.out.res).mono ?_
    rintro e w3 ⟨v3, rfl, hF3, hb3⟩
    rw [← round_yes HN.out] at hF3
    clear b0 b1 b2 b3 b4
    obtain ⟨Ar, cr, rfl, hI3, hAr⟩ := hF3.ints
    have hz02 : w0.heap.size < w2.heap.size := hF2.under w0.heap.size rfl
    have hsep : Hid (Sep (.slice (some ⟨w0.heap.size, 0, none⟩) 0 0) Ar) := by
      intro h b off e1 e2 e3
      have e4 : w0.heap.size = h := by simpa [Value.ownBlock] using e1
      rcases hAr with rfl | ⟨g, rfl, hg, _⟩
      · cases e2
      · have e5 : g = b := by have := Option.some.inj e2; simpa using congrArg Addr.block this
        omega
    have hrl := roundRes_size HN.out
    have hay := adv_yes HN.out
    rw [HM2.out] at hay
    obtain ⟨rk, hrk⟩ : ∃ rk, roundRes r es = rk := ⟨_, rfl⟩
    rw [hrk] at hI3 hrl hay ⊢
    have HAY := Lib.hid hay
    have HNM := Lib.hid (len_map_norm r es)
    obtain ⟨ns, hns⟩ : ∃ ns, es.map (normE r) = ns := ⟨_, rfl⟩
    have HNS := Lib.hid hns
    rw [hns] at HAY HNM
    have hF3b := hF2.below hb3
    have hB3 := belowStep hb3 hB2
    have HRL := Lib.hid hrl
    obtain ⟨n, hn⟩ : ∃ n, rk.length = n := ⟨_, rfl⟩
    rw [hn]
    have HNN := Lib.hid (hn.symm.trans hrl)
    clear hF2 hF3 hb3 hx2 hB2 hrk hrl hn hAr hay hns hz02 hx1 hB1
    go_wp2_with fail
    go_loopw [5, 7] (fun v q wr => ∃ (m : Nat) (l : List Int), m ≤ m0 ∧ q = .int .i64 ((m + 1 : Nat) : Int) ∧ Fresh w0.heap.size wr v l ∧ Hid (firstTo ns rk m = l) ∧ Below w0.heap.size w0 wr ∧ IntsAt wr Ar rk ∧ Hid (Sep v Ar)) (fun _ q _ => m0 + 1 - (intOf q).toNat)
    case atStart => exact ⟨0, [], Nat.zero_le _, rfl, hF3b, rfl, hB3, hI3, hsep⟩
    case round =>
      obtain ⟨m, l, hm, rfl, hF, HL, hB, hI2w, hsp⟩ := hrel
      clear hF3b
      obtain ⟨hHr, b0, b1, b2, b3, b4⟩ := HX0.out.below hB
      by_cases hlt : m < m0
      · have p1 : ((m + 1 : Nat) : Int) ≤ r.adv := by have := HM.out; omega
        obtain ⟨q0, hrr⟩ : ∃ q0 : Int, ((m + 1 : Nat) : Int) = q0 := ⟨_, rfl⟩
        have r0 : 1 ≤ q0 := by omega
        have r1 : q0 ≤ 12 := by omega
        rw [hrr] at p1 ⊢
        have HRR := Lib.hid hrr
        clear hrr
        have HL2 : Hid (MidTo ns rk m 0 = l) := by unfold Hid; rw [MidTo_zero]; exact HL.out
        obtain ⟨wo, rfl⟩ : ∃ wo : World, wo = wr := ⟨_, rfl⟩
        go_wp2_with fail
        clear b0 b1 b2 b3 b4 hHr
        go_loopw [5, 8] (fun v j wr => ∃ (k : Nat) (l : List Int), k ≤ es.length ∧ j = .int .i64 k ∧ Fresh w0.heap.size wr v l ∧ Hid (MidTo ns rk m k = l) ∧ Below w0.heap.size w0 wr ∧ IntsAt wr Ar rk ∧ Hid (Sep v Ar)) (fun _ j _ => es.length - (intOf j).toNat)
        case atStart => exact ⟨0, l, Nat.zero_le _, rfl, hF, HL2, hB, hI2w, hsp⟩
        case round =>
          obtain ⟨k, l, hk, rfl, hF, HL, hB, hI2w, hsp⟩ := hrel
          obtain ⟨hHr, b0, b1, b2, b3, b4⟩ := HX0.out.below hB
          by_cases hlk : k < es.length
          · obtain ⟨b, off, e1, Ai, ci, ys, rfl, hb, hc0, hc1, hI, hcap, HX⟩ := (hx0.below hB).at_ hlk
            obtain ⟨br, offr, q, rfl, hbr, hcr, HQ⟩ := hI2w.at_ (show k < rk.length by have := HRL.out; omega)
            have qq0 : (0 : Int) ≤ (k : Int) := by omega
            have qq1 : (k : Int) < (es.length : Int) := by omega
            have qq2 : (k : Int) < (n : Int) := by have := HNN.out; omega
            have HV := Lib.hid (entOk_parts (show entOk e1 ys = true by have := HOK.out k hlk; rw [HX.out] at this; exact this))
            have HNX : Hid (ns.getD k (0, []) = (e1, normL r ys)) := by unfold Hid; rw [← HNS.out]; exact norm_get r es hlk HX.out
            have hll : l.length ≤ 1048576 := by rw [← HL.out]; exact MidTo_len ns rk m k (by omega) (by omega) (by have := HNM.out; omega)
            have hdr : Below wr.heap.size wr wr.drew := (Below.refl _ _).drew
            by_cases hqr : q = q0
            · have hq1 : (q == q0) = true := by simpa using hqr
              by_cases hbest : bestOf (normL r ys) = -1
              all_goals
                have HBST := Lib.hid hbest
                clear hbest
                go_wp2_with fail
                go_region_held3 (fun w' => w'.cell? ⟨w.heap.size, 0, none⟩ = some (.int .i64 r.att) ∧ w'.cell? ⟨w.heap.size, 1, none⟩ = some (.int .i64 r.lim) ∧ w'.cell? ⟨w.heap.size, 2, none⟩ = some (.int .i64 r.catt) ∧ w'.cell? ⟨w.heap.size, 3, none⟩ = some (.int .i64 r.cut) ∧ w'.cell? ⟨w.heap.size, 4, none⟩ = some (.int .i64 r.adv) ∧ w'.cell? ⟨b, off + k * 2, none⟩ = some (.int .i64 e1) ∧ w'.cell? ⟨b, off + k * 2 + 1, none⟩ = some (.slice Ai ys.length ci) ∧ w'.cell? ⟨br, offr + k, none⟩ = some (.int .i64 q))
                  (first | exact kept8 hq3 hHr hb hbr b0 b1 b2 b3 b4 hc0 hc1 hcr | exact kept8 hdr hHr hb hbr b0 b1 b2 b3 b4 hc0 hc1 hcr | go_keep)
                  (first
                    | (go_at_call 56; refine (specNorm r e1 Ai ci ys _ (hI.below hdr) HV.out.1 HV.out.2 HR.out).mono ?_; rintro e w3 ⟨v3, rfl, hF3, hb3⟩; have hq3 : Below wr.heap.size wr w3 := hdr.trans hb3; obtain ⟨A3, c3, he3, hI3, -⟩ := hF3.ints; obtain ⟨n3, hn3⟩ : ∃ n3, (normL r ys).length = n3 := ⟨_, rfl⟩; rw [hn3] at he3; subst he3; have HN3 := Lib.hid hn3; clear hn3)
                    | (go_at_call 55; refine (specBestM A3 c3 n3 (normL r ys) HN3.out _ hI3 (by rw [← HN3.out]; exact normL_len5 r HV.out.1) (normL_isRes r HV.out.2)).mono ?_; rintro e w4 ⟨rfl, rfl⟩; (try rw [HBST.out])))
              · have HLN : Hid (MidTo ns rk m (k + 1) = l) := MidTo_no HNX.out HQ.out (.inr HBST.out) HL.out
                have hB4 := belowStep hq3 hB
                have hF4 := hF.below hq3
                have hI4 := hI2w.below hq3
                clear hF3 hI3 hb3 hq3 b0 b1 b2 b3 b4 hF hI2w
                go_wp2_with fail
                go_roundw
                case rel => exact ⟨k + 1, _, by omega, by go_num, hF4, HLN, hB4, hI4, hsp⟩
                case measure => simp [intOf]; omega
              · have HLN : Hid (MidTo ns rk m (k + 1) = l ++ [e1]) := MidTo_yes HNX.out (by rw [HQ.out, hqr, HRR.out]) HBST.out HL.out
                have hb1 : (bestOf (normL r ys) != -1) = true := by simpa using HBST.out
                have hB4 := belowStep hq3 hB
                have hF4 := hF.below hq3
                have hI4 := hI2w.below hq3
                have hBz := hB4.size
                have hg0 := (hq3.cell (p := ⟨b, off + k * 2, none⟩) hb).trans hc0
                have hbr3 := Nat.lt_of_lt_of_le hbr hq3.size
                clear hF3 hI3 hb3 hq3 b0 b1 b2 b3 b4 hF hI2w
                go_wp2_with (first | (at_builtin; refine append_one_at rfl (.tmp 51) (.tmp 57) rfl w0.heap.size _ l e1 rfl (hF4.below (by repeat (first | exact Below.refl _ _ | assumption | refine Below.setCell ?_ (by first | omega | (simp <;> omega)) _ | refine Below.alloc ?_ (by first | omega | (simp <;> omega)) _ | refine Below.drew ?_))) w3.heap.size rfl (by simp) hll (by simp; omega) ?_; intro v5 w5 hF5 hg5 hb5 hat5))
                clear hb1
                have hbA : Below w3.heap.size w3 (w3.alloc (.cells #[.int .i64 e1] 2)) := (by repeat (first | exact Below.refl _ _ | assumption | refine Below.setCell ?_ (by first | omega | (simp <;> omega)) _ | refine Below.alloc ?_ (by first | omega | (simp <;> omega)) _ | refine Below.drew ?_))
                have hI5 := (hI4.below hbA).sep hg5 hsp.out
                have hs5 : Hid (Sep v5 (some ⟨br, offr, none⟩)) := by
                  intro h b off f1 e2 e3
                  rcases hat5 with h4 | h4
                  · exact hsp.out h b off (h4 ▸ f1) e2 e3
                  · rw [h4] at f1
                    have e5 : br = b := by have := Option.some.inj e2; simpa using congrArg Addr.block this
                    have e6 : (w3.alloc (.cells #[.int .i64 e1] 2)).heap.size = h := by simpa using f1
                    simp at e6
                    omega
                clear hat5 hg5
                go_roundw
                case rel => exact ⟨k + 1, _, by omega, by go_num, hF5, HLN, (hB4.alloc hB4.size _).trans hb5, hI5, hs5⟩
                case measure => simp [intOf]; omega
            · have hq1 : (q == q0) = false := by simpa using hqr
              have HLN : Hid (MidTo ns rk m (k + 1) = l) := MidTo_no HNX.out HQ.out (.inl (by rw [HRR.out]; exact hqr)) HL.out
              clear hqr
              go_wp2_with fail
              go_quiet (fail)
              clear hq1 b0 b1 b2 b3 b4
              have hB4 := belowDrewN hB nq
              have hF4 : Fresh w0.heap.size (wr.drewN nq) _ l := hF
              have hI4 := hI2w.drewN nq
              go_wp2_with fail
              go_roundw
              case rel => exact ⟨k + 1, _, by omega, by go_num, hF4, HLN, hB4, hI4, hsp⟩
              case measure => simp [intOf]; omega
          · obtain rfl : k = es.length := by omega
            have HLN : Hid (firstTo ns rk (m + 1) = l) := by have h := HL.out; rw [← HNM.out] at h; exact h
            clear HL HL2 b0 b1 b2 b3 b4
            go_wp2_with fail
            go_roundw
            case rel => exact ⟨m + 1, l, by omega, by have := HRR.out; subst this; go_num, hF, HLN, hB, hI2w, hsp⟩
            case measure => have := HRR.out; simp [intOf]; omega
      · obtain rfl : m = m0 := by omega
        have p1 : ¬ ((m + 1 : Nat) : Int) ≤ r.adv := by have := HM.out; omega
        go_wp2_with fail
        go_ret
        exact ⟨_, rfl, by rw [HAY.out, HL.out]; exact hF.mono hB0.size, belowStep hB hB0⟩
end Go.Proofs.Ytpaaolnkmopiiaa
