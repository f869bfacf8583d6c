/- A round's ranks, at the reference. Conditions: as each contract says. -/
import Derived.Test.YtejacbgogcjbnaaRd
import Derived.Deep.RegionHeld3
import Derived.Deep.CutRange
namespace Go.Proofs.Ytejacbgogcjbnaa
open Go.RowKit

def AllRes (es : List Ent) : Prop := ∀ i, i < es.length → (es.getD i (0, [])).2.length ≤ 5 ∧ (es.getD i (0, [])).2.all isRes = true
theorem AllOk.res {es : List Ent} (h : AllOk es) : AllRes es := fun i hi => ⟨(entOk_parts (h i hi)).1, (entOk_parts (h i hi)).2⟩
theorem normL_len5 (r : RR) {xs : List Int} (h : xs.length ≤ 5) : (normL r xs).length ≤ 5 := by have := normL_len r xs; omega
theorem kept9 {B H b p q : Nat} {K1 A1 K2 A2 : Value} {w w' : World} {r : RR} (hb : Below B w w') (hH : H < B) (hbB : b < B) (h0 : w.cell? ⟨H, 0, none⟩ = some (.int .i64 r.att)) (h1 : w.cell? ⟨H, 1, none⟩ = some (.int .i64 r.lim)) (h2 : w.cell? ⟨H, 2, none⟩ = some (.int .i64 r.catt)) (h3 : w.cell? ⟨H, 3, none⟩ = some (.int .i64 r.cut)) (h4 : w.cell? ⟨H, 4, none⟩ = some (.int .i64 r.adv))
    (g0 : w.cell? ⟨b, p, none⟩ = some K1) (g1 : w.cell? ⟨b, p + 1, none⟩ = some A1) (g2 : w.cell? ⟨b, q, none⟩ = some K2) (g3 : w.cell? ⟨b, q + 1, none⟩ = some A2) :
    w'.cell? ⟨H, 0, none⟩ = some (.int .i64 r.att) ∧ w'.cell? ⟨H, 1, none⟩ = some (.int .i64 r.lim) ∧ w'.cell? ⟨H, 2, none⟩ = some (.int .i64 r.catt) ∧ w'.cell? ⟨H, 3, none⟩ = some (.int .i64 r.cut) ∧ w'.cell? ⟨H, 4, none⟩ = some (.int .i64 r.adv) ∧ w'.cell? ⟨b, p, none⟩ = some K1 ∧ w'.cell? ⟨b, p + 1, none⟩ = some A1 ∧ w'.cell? ⟨b, q, none⟩ = some K2 ∧ w'.cell? ⟨b, q + 1, none⟩ = some A2 :=
  ⟨(hb.cell (p := ⟨H, 0, none⟩) hH).trans h0, (hb.cell (p := ⟨H, 1, none⟩) hH).trans h1, (hb.cell (p := ⟨H, 2, none⟩) hH).trans h2, (hb.cell (p := ⟨H, 3, none⟩) hH).trans h3, (hb.cell (p := ⟨H, 4, none⟩) hH).trans h4, (hb.cell (p := ⟨b, p, none⟩) hbB).trans g0, (hb.cell (p := ⟨b, p + 1, none⟩) hbB).trans g1, (hb.cell (p := ⟨b, q, none⟩) hbB).trans g2, (hb.cell (p := ⟨b, q + 1, none⟩) hbB).trans g3⟩
theorem len_map_norm (r : RR) (es : List Ent) : (es.map (normE r)).length = es.length := by simp
theorem countN_yes {r : RR} {es : List Ent} {f : Ent} {k : Nat} {c : Int} {e2 : Int} {zs : List Int} (hk : k < es.length) (ho : es.getD k (0, []) = (e2, zs)) (hc : countTo (aheadE r) (es.map (normE r)) f k = c) (h : aheadE r (e2, normL r zs) f = true) : countTo (aheadE r) (es.map (normE r)) f (k + 1) = c + 1 :=
  countTo_yes (norm_get r es hk ho) hc h
theorem countN_no {r : RR} {es : List Ent} {f : Ent} {k : Nat} {c : Int} {e2 : Int} {zs : List Int} (hk : k < es.length) (ho : es.getD k (0, []) = (e2, zs)) (hc : countTo (aheadE r) (es.map (normE r)) f k = c) (h : aheadE r (e2, normL r zs) f = false) : countTo (aheadE r) (es.map (normE r)) f (k + 1) = c :=
  countTo_no (norm_get r es hk ho) hc h
set_option maxRecDepth 3000 in
set_option maxHeartbeats 8000000 in
theorem specL27Ranks (r : RR) (A : Option Addr) (c : Nat) (es : List Ent) (w : World) (hx : EntsAt w A es) (hr : r.ok = true) (hl12 : es.length ≤ 12) (hok : AllRes es) :
    Calls Try.prog 26 #[.agg #[.int .i64 r.att, .int .i64 r.lim, .int .i64 r.catt, .int .i64 r.cut, .int .i64 r.adv], .slice A es.length c] w (IntsPost (ranksBy (aheadE r) (es.map (normE r))) w) := by
  have HOK := Lib.hid hok
  have HR := Lib.hid hr
  clear hok hr
  obtain ⟨w0, hw0⟩ : ∃ w0, w.alloc (.cells #[.int .i64 r.att, .int .i64 r.lim, .int .i64 r.catt, .int .i64 r.cut, .int .i64 r.adv] 25) = w0 := ⟨_, rfl⟩
  have hB0 : Below w.heap.size w w0 := by rw [← hw0]; exact (by repeat (first | exact Below.refl _ _ | assumption | refine Below.setCell ?_ (by first | omega | (simp <;> omega)) _ | refine Below.alloc ?_ (by first | omega | (simp <;> omega)) _ | refine Below.drew ?_))
  have HX0 : Hid (RX w0 w.heap.size r) := by rw [← hw0]; exact RX.new w r
  have hx0 := hx.below hB0
  have hE : Fresh w0.heap.size (w0.alloc (.cells #[] 2)) (.slice (some ⟨w0.heap.size, 0, none⟩) 0 0) [] := Fresh.empty (Nat.le_refl _)
  have hB00 : Below w0.heap.size w0 (w0.alloc (.cells #[] 2)) := (by repeat (first | exact Below.refl _ _ | assumption | refine Below.setCell ?_ (by first | omega | (simp <;> omega)) _ | refine Below.alloc ?_ (by first | omega | (simp <;> omega)) _ | refine Below.drew ?_))
  clear hx
  go_enter Try.func26, Try.ntmps26
  go_wp2_with fail
  go_loopw [5, 6] (fun v j wr => ∃ (i : Nat) (l : List Int), i ≤ es.length ∧ j = .int .i64 i ∧ Fresh w0.heap.size wr v l ∧ Hid (ranksTo (aheadE r) (es.map (normE r)) i = l) ∧ Below w0.heap.size w0 wr) (fun _ j _ => es.length - (intOf j).toNat)
  case atStart => exact ⟨0, [], Nat.zero_le _, rfl, hE, rfl, hB00⟩
  case round =>
    obtain ⟨i, l, hi, rfl, hF, HL, hB⟩ := hrel
    clear hE hB00
    by_cases hlt : i < es.length
    · obtain ⟨b, off, e1, Ai, ci, ys, rfl, hb, hc0, hc1, hI, hcap, HX⟩ := (hx0.below hB).at_ hlt
      have p0 : (0 : Int) ≤ (i : Int) := by omega
      have p1 : (i : Int) < (es.length : Int) := by omega
      have hxw := hx0.below hB
      have HV := Lib.hid (show ys.length ≤ 5 ∧ ys.all isRes = true by have := HOK.out i hlt; rw [HX.out] at this; exact this)
      have HNX : Hid ((es.map (normE r)).getD i (0, []) = (e1, normL r ys)) := norm_get r es hlt HX.out
      have hll : l.length ≤ 1048576 := by rw [← HL.out, ranksTo_len]; omega
      have HXo := Lib.hid (HX0.out.below hB)
      have hHo := HXo.out.1
      obtain ⟨wo, rfl⟩ : ∃ wo : World, wo = wr := ⟨_, rfl⟩
      go_wp2_with fail
      go_loopw [7, 8] (fun q j wr => ∃ (k : Nat) (x : Int), k ≤ es.length ∧ j = .int .i64 k ∧ q = .int .i64 x ∧ 1 ≤ x ∧ x ≤ 1 + (k : Int) ∧ Hid (countTo (aheadE r) (es.map (normE r)) (e1, normL r ys) k = x) ∧ Below wo.heap.size wo wr) (fun _ j _ => es.length - (intOf j).toNat)
      case atStart => exact ⟨0, 1, Nat.zero_le _, rfl, rfl, by omega, by omega, rfl, Below.refl _ _⟩
      case round =>
        obtain ⟨k, x, hk, rfl, rfl, x0, x1, HC, hb2⟩ := hrel
        by_cases hlk : k < es.length
        · obtain ⟨b', off', e2, Ak, ck, zs, e', hb', hd0, hd1, hIk, hcapk, HZ⟩ := (hxw.below hb2).at_ hlk
          injection e' with e'
          injection e' with ee1 ee2
          subst ee1 ee2
          have q0 : (0 : Int) ≤ (k : Int) := by omega
          have q1 : (k : Int) < (es.length : Int) := by omega
          have g0 : wr.cell? ⟨b, off + i * 2, none⟩ = some (.int .i64 e1) := (hb2.cell (p := ⟨b, off + i * 2, none⟩) hb).trans hc0
          have g1 : wr.cell? ⟨b, off + i * 2 + 1, none⟩ = some (.slice Ai ys.length ci) := (hb2.cell (p := ⟨b, off + i * 2 + 1, none⟩) hb).trans hc1
          have hIy := hI.below hb2
          obtain ⟨hHr, b0, b1, b2, b3, b4⟩ := HXo.out.below hb2
          have HVZ := Lib.hid (show zs.length ≤ 5 ∧ zs.all isRes = true by have := HOK.out k hlk; rw [HZ.out] at this; exact this)
          have hdr : Below wr.heap.size wr wr.drew := (Below.refl _ _).drew
          have HNk := Lib.hid (fun (wx : World) (hh : IntsAt wx Ak zs) => specNorm r e2 Ak ck zs wx hh HVZ.out.1 HVZ.out.2 HR.out)
          have HNi := Lib.hid (fun (wx : World) (hh : IntsAt wx Ai ys) => specNorm r e1 Ai ci ys wx hh HV.out.1 HV.out.2 HR.out)
          cases hs : aheadE r (e2, normL r zs) (e1, normL r ys)
          all_goals
            have HS := Lib.hid hs
            clear hs
            go_wp2_with fail
            go_region_held3 (fun w' => w'.cell? ⟨w.heap.size, 0, none⟩ = some (.int .i64 r.att) ∧ w'.cell? ⟨w.heap.size, 1, none⟩ = some (.int .i64 r.lim) ∧ w'.cell? ⟨w.heap.size, 2, none⟩ = some (.int .i64 r.catt) ∧ w'.cell? ⟨w.heap.size, 3, none⟩ = some (.int .i64 r.cut) ∧ w'.cell? ⟨w.heap.size, 4, none⟩ = some (.int .i64 r.adv) ∧ w'.cell? ⟨b, off + i * 2, none⟩ = some (.int .i64 e1) ∧ w'.cell? ⟨b, off + i * 2 + 1, none⟩ = some (.slice Ai ys.length ci) ∧ w'.cell? ⟨b, off + k * 2, none⟩ = some (.int .i64 e2) ∧ w'.cell? ⟨b, off + k * 2 + 1, none⟩ = some (.slice Ak zs.length ck))
              (first | exact kept9 hq5 hHr hb' b0 b1 b2 b3 b4 g0 g1 hd0 hd1 | exact kept9 hq4 hHr hb' b0 b1 b2 b3 b4 g0 g1 hd0 hd1 | exact kept9 hq3 hHr hb' b0 b1 b2 b3 b4 g0 g1 hd0 hd1 | exact kept9 hdr hHr hb' b0 b1 b2 b3 b4 g0 g1 hd0 hd1 | go_keep)
              (first
                | (go_at_call 56; refine (specAhead r e2 A3 c3 (normL r zs) e1 A4 c4 (normL r ys) n3 n4 _ (by first | exact hI3.below hb4 | exact hI3) (by first | exact hI4.below hb3 | exact hI4) HN3.out HN4.out (by rw [← HN3.out]; exact normL_len5 r HVZ.out.1) (by rw [← HN4.out]; exact normL_len5 r HV.out.1) (normL_isRes r HVZ.out.2) (normL_isRes r HV.out.2)).mono ?_; rintro e w5 ⟨rfl, hb5⟩; rw [HS.out]; have hq5 : Below wr.heap.size wr w5 := (by first | exact hq4.trans (hb5.mono hq4.size) | exact hq3.trans (hb5.mono hq3.size)))
                | (go_at_call 28; (with_reducible refine (HNi.out _ ?_).mono ?_); (first | exact hIy.below hq3 | exact hIy.below hdr); rintro e w4 ⟨v4, rfl, hF4, hb4⟩; have hq4 : Below wr.heap.size wr w4 := (by first | exact hq3.trans (hb4.mono hq3.size) | exact hdr.trans hb4); obtain ⟨A4, c4, he4, hI4, -⟩ := hF4.ints; obtain ⟨n4, hn4⟩ : ∃ n4, (normL r ys).length = n4 := ⟨_, rfl⟩; rw [hn4] at he4; subst he4; have HN4 := Lib.hid hn4; clear hn4)
                | (go_at_call 28; (with_reducible refine (HNk.out _ ?_).mono ?_); (first | exact hIk.below hq4 | exact hIk.below hdr); rintro e w3 ⟨v3, rfl, hF3, hb3⟩; have hq3 : Below wr.heap.size wr w3 := (by first | exact hq4.trans (hb3.mono hq4.size) | exact hdr.trans hb3); obtain ⟨A3, c3, he3, hI3, -⟩ := hF3.ints; obtain ⟨n3, hn3⟩ : ∃ n3, (normL r zs).length = n3 := ⟨_, rfl⟩; rw [hn3] at he3; subst he3; have HN3 := Lib.hid hn3; clear hn3))
            all_goals
              have hb6 := belowStep hq5 hb2
              clear hq3 hq4 hb3 hb4 hF3 hF4 hI3 hI4 b0 b1 b2 b3 b4 g0 g1
              go_wp2_with fail
              go_roundw
              case rel => exact ⟨k + 1, _, by omega, by go_num, rfl, by omega, by omega, by first | exact countN_no hlk HZ.out HC.out HS.out | exact countN_yes hlk HZ.out HC.out HS.out, hb6⟩
              case measure => simp [intOf]; omega
        · obtain rfl : k = es.length := by omega
          have HLN : Hid (ranksTo (aheadE r) (es.map (normE r)) (i + 1) = l ++ [x]) := ranksTo_more HNX.out HL.out (by rw [len_map_norm]; exact HC.out)
          have hF2 := hF.below hb2
          have hB2 := belowStep hb2 hB
          have hBz := hB2.size
          clear hF
          go_wp2_with (first | (at_builtin; refine append_one rfl (.tmp 38) (.tmp 40) rfl w0.heap.size _ l x rfl (hF2.below (by repeat (first | exact Below.refl _ _ | assumption | refine Below.setCell ?_ (by first | omega | (simp <;> omega)) _ | refine Below.alloc ?_ (by first | omega | (simp <;> omega)) _ | refine Below.drew ?_))) wr.heap.size rfl (by simp) hll (by simp; omega) ?_; intro v4 w4 hF4 hg4 hb4))
          go_roundw
          case rel => exact ⟨i + 1, _, by omega, by go_num, hF4, HLN, (hB2.alloc hB2.size _).trans hb4⟩
          case measure => simp [intOf]; omega
    · obtain rfl : i = es.length := by omega
      go_wp2_with fail
      go_ret
      exact ⟨_, rfl, by rw [ranksBy, len_map_norm, HL.out]; exact hF.mono hB0.size, belowStep hB hB0⟩
set_option maxRecDepth 3000 in
set_option maxHeartbeats 2000000 in
theorem specRoundRanks (r : RR) (A : Option Addr) (c : Nat) (es : List Ent) (w : World) (hx : EntsAt w A es) (hl : es.length ≤ 1048576) (hs : Short es) :
    Calls Try.prog 9 #[.agg #[.int .i64 r.att, .int .i64 r.lim, .int .i64 r.catt, .int .i64 r.cut, .int .i64 r.adv], .slice A es.length c] w (IntsPost (roundRes r es) w) := by
  have HS := Lib.hid hs
  clear hs
  obtain ⟨w0, hw0⟩ : ∃ w0, w.alloc (.cells #[.int .i64 r.att, .int .i64 r.lim, .int .i64 r.catt, .int .i64 r.cut, .int .i64 r.adv] 25) = w0 := ⟨_, rfl⟩
  have hB0 : Below w.heap.size w w0 := by rw [← hw0]; exact (by repeat (first | exact Below.refl _ _ | assumption | refine Below.setCell ?_ (by first | omega | (simp <;> omega)) _ | refine Below.alloc ?_ (by first | omega | (simp <;> omega)) _ | refine Below.drew ?_))
  have HX0 : Hid (RX w0 w.heap.size r) := by rw [← hw0]; exact RX.new w r
  have hx0 := hx.below hB0
  clear hx
  obtain ⟨hH, b0, b1, b2, b3, b4⟩ := HX0.out
  cases h1 : r.ok
  · have HN : Hid (roundOk r es = false) := by unfold Hid; rw [roundOk, h1]; rfl
    go_enter Try.func9, Try.ntmps9
    go_wp2_with fail
    refine (specIsValidRR r _).mono ?_
    rintro e w1 ⟨rfl, hb1⟩
    rw [h1]
    clear b0 b1 b2 b3 b4
    go_wp2_with fail
    go_ret
    exact ⟨_, rfl, by rw [round_no HN.out]; exact Fresh.empty (Nat.le_trans hB0.size hb1.size), (belowStep hb1 hB0).alloc (Nat.le_trans hB0.size hb1.size) _⟩
  cases h2 : entsOk es
  · have HN : Hid (roundOk r es = false) := by unfold Hid; rw [roundOk, h1, h2]; rfl
    go_enter Try.func9, Try.ntmps9
    go_wp2_with fail
    refine (specIsValidRR r _).mono ?_
    rintro e w1 ⟨rfl, hb1⟩
    rw [h1]
    clear b0 b1 b2 b3 b4
    obtain ⟨hH1, b0, b1, b2, b3, b4⟩ := HX0.out.below hb1
    have hB1 := belowStep hb1 hB0
    have hx1 := hx0.below hb1
    clear hb1
    go_wp2_with fail
    refine (specAve A c es _ (by exact hx1) hl HS.out).mono ?_
    rintro e w2 ⟨rfl, hb2⟩
    rw [h2]
    clear b0 b1 b2 b3 b4
    go_wp2_with fail
    go_ret
    exact ⟨_, rfl, by rw [round_no HN.out]; exact Fresh.empty (Nat.le_trans hB1.size hb2.size), (belowStep hb2 hB1).alloc (Nat.le_trans hB1.size hb2.size) _⟩
  · have HN : Hid (roundOk r es = true) := by unfold Hid; rw [roundOk, h1, h2]; rfl
    have hl12 := (entsOk_parts h2).1
    have HOK : Hid (AllOk es) := (entsOk_parts h2).2
    have HR := Lib.hid h1
    go_enter Try.func9, Try.ntmps9
    go_wp2_with fail
    refine (specIsValidRR r _).mono ?_
    rintro e w1 ⟨rfl, hb1⟩
    rw [h1]
    clear b0 b1 b2 b3 b4
    have HX1 := Lib.hid (HX0.out.below hb1)
    obtain ⟨hH1, b0, b1, b2, b3, b4⟩ := HX1.out
    have hB1 := belowStep hb1 hB0
    have hx1 := hx0.below hb1
    clear hb1
    go_wp2_with fail
    refine (specAve A c es _ (by exact hx1) hl HS.out).mono ?_
    rintro e w2 ⟨rfl, hb2⟩
    rw [h2]
    clear b0 b1 b2 b3 b4 h1 h2
    have HX2 := Lib.hid (HX1.out.below hb2)
    have hB2 := belowStep hb2 hB1
    have hx2 := hx1.below hb2
    clear hb2
    obtain ⟨hH2, b0, b1, b2, b3, b4⟩ := HX2.out
    go_wp2_with fail
    refine (specL27Ranks r A c es _ hx2 HR.out hl12 HOK.out.res).mono ?_
    rintro e w3 ⟨v3, rfl, hF3, hb3⟩
    clear b0 b1 b2 b3 b4
    go_wp2_with fail
    go_ret
    exact ⟨_, rfl, by rw [round_yes HN.out]; exact hF3.mono hB2.size, belowStep hb3 hB2⟩
end Go.Proofs.Ytejacbgogcjbnaa
