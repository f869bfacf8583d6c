/- The first of ranked entries, at both packages. Conditions: as each contract says. -/
import Derived.Test.YtejacbgogcjbnaaRki
namespace Go.Proofs.Ytejacbgogcjbnaa
open Go.RowKit

theorem firstTo_step {es : List Ent} {rk : List Int} {m : Nat} {l : List Int} (h : firstTo es rk m ++ pickTo es rk ((m + 1 : Nat) : Int) es.length = l) : firstTo es rk (m + 1) = l := h
def MidTo (es : List Ent) (rk : List Int) (m k : Nat) : List Int := firstTo es rk m ++ pickTo es rk ((m + 1 : Nat) : Int) k
theorem MidTo_zero (es : List Ent) (rk : List Int) (m : Nat) : MidTo es rk m 0 = firstTo es rk m := by simp [MidTo, pickTo]
theorem MidTo_yes {es : List Ent} {rk : List Int} {m k : Nat} {c : Int} {xs l : List Int} (he : es.getD k (0, []) = (c, xs)) (hr : rk.getD k 0 = ((m + 1 : Nat) : Int)) (hb : bestOf xs ≠ -1) (hl : MidTo es rk m k = l) : MidTo es rk m (k + 1) = l ++ [c] := by
  unfold MidTo at *
  rw [pickTo_yes he hr hb rfl, ← List.append_assoc, hl]
theorem MidTo_no {es : List Ent} {rk : List Int} {m k : Nat} {c q : Int} {xs l : List Int} (he : es.getD k (0, []) = (c, xs)) (hr : rk.getD k 0 = q) (hb : q ≠ ((m + 1 : Nat) : Int) ∨ bestOf xs = -1) (hl : MidTo es rk m k = l) : MidTo es rk m (k + 1) = l := by
  unfold MidTo at *
  rw [pickTo_no he hr hb rfl, hl]
theorem MidTo_len (es : List Ent) (rk : List Int) (m k : Nat) (hm : m ≤ 12) (hk : k ≤ 12) (he : es.length ≤ 12) : (MidTo es rk m k).length ≤ 1048576 := by
  have h1 := firstTo_len es rk m
  have h2 := pickTo_len es rk ((m + 1 : Nat) : Int) k
  have h3 : m * es.length ≤ 12 * 12 := Nat.mul_le_mul hm he
  rw [MidTo, List.length_append]
  omega
set_option maxRecDepth 3000 in
set_option maxHeartbeats 2000000 in
theorem implFirst (A : Option Addr) (c : Nat) (es : List Ent) (Ar : Option Addr) (cr : Nat) (rk : List Int) (most : Nat) (w : World) (hx : EntsAt w A es) (hr : IntsAt w Ar rk) (he12 : es.length ≤ 12) (hrl : rk.length = es.length) (hm12 : most ≤ 12)
    (hs : Short es) (n : Nat) (hn : rk.length = n) :
    Calls Try.prog 23 #[.slice A es.length c, .slice Ar n cr, .int .i64 (most : Int)] w (IntsPost (firstTo es rk most) w) := by
  have HS := Lib.hid hs
  have HRL := Lib.hid hrl
  have HN := Lib.hid (hn.symm.trans hrl)
  clear hs
  have hE : Fresh w.heap.size w (.slice none 0 0) [] := Fresh.nil _ _
  clear hrl hn
  go_enter Try.func23, Try.ntmps23
  go_wp2_with fail
  go_loopw [7, 8] (fun v r wr => ∃ (m : Nat) (l : List Int), m ≤ most ∧ r = .int .i64 ((m + 1 : Nat) : Int) ∧ Fresh w.heap.size wr v l ∧ Hid (firstTo es rk m = l) ∧ Below w.heap.size w wr) (fun _ r _ => most + 1 - (intOf r).toNat)
  case atStart => exact ⟨0, [], Nat.zero_le _, rfl, hE, rfl, Below.refl _ _⟩
  case round =>
    obtain ⟨m, l, hm, rfl, hF, HL, hB⟩ := hrel
    clear hE
    by_cases hlt : m < most
    · have p1 : ((m + 1 : Nat) : Int) ≤ (most : Int) := by omega
      obtain ⟨r, hrr⟩ : ∃ r : Int, ((m + 1 : Nat) : Int) = r := ⟨_, rfl⟩
      have r0 : 1 ≤ r := by omega
      have r1 : r ≤ 12 := by omega
      rw [hrr] at p1 ⊢
      have HR := Lib.hid hrr
      clear hrr
      have HL2 : Hid (MidTo es rk m 0 = l) := by unfold Hid; rw [MidTo_zero]; exact HL.out
      obtain ⟨wo, rfl⟩ : ∃ wo : World, wo = wr := ⟨_, rfl⟩
      go_wp2_with fail
      go_loopw [7, 18] (fun v j wr => ∃ (k : Nat) (l : List Int), k ≤ es.length ∧ j = .int .i64 k ∧ Fresh w.heap.size wr v l ∧ Hid (MidTo es rk m k = l) ∧ Below w.heap.size w wr) (fun _ j _ => es.length - (intOf j).toNat)
      case atStart => exact ⟨0, l, Nat.zero_le _, rfl, hF, HL2, hB⟩
      case round =>
        obtain ⟨k, l, hk, rfl, hF, HL, hB⟩ := hrel
        by_cases hlk : k < es.length
        · obtain ⟨b, off, e1, Ai, ci, ys, rfl, hb, hc0, hc1, hI, hcap, HX⟩ := (hx.below hB).at_ hlk
          obtain ⟨br, offr, q, rfl, hbr, hcr, HQ⟩ := (hr.below hB).at_ (show k < rk.length by have := HRL.out; omega)
          have q0 : (0 : Int) ≤ (k : Int) := by omega
          have q1 : (k : Int) < (es.length : Int) := by omega
          have q2 : (k : Int) < (n : Int) := by have := HN.out; omega
          have hyl : ys.length ≤ 1048576 := by have := HS.out k hlk; rw [HX.out] at this; exact this
          have hbo : Below wr.heap.size wr (wr.alloc (.cells #[.int .i64 e1, .slice Ai ys.length ci] 32)) := (by repeat (first | exact Below.refl _ _ | assumption | refine Below.setCell ?_ (by first | omega | (simp <;> omega)) _ | refine Below.alloc ?_ (by first | omega | (simp <;> omega)) _ | refine Below.drew ?_))
          have hI2 := hI.below hbo
          have hF2 := hF.below hbo
          have hcr2 : (wr.alloc (.cells #[.int .i64 e1, .slice Ai ys.length ci] 32)).cell? ⟨br, offr + k, none⟩ = some (.int .i64 q) := (hbo.cell (p := ⟨br, offr + k, none⟩) hbr).trans hcr
          have hB2 := belowStep hbo hB
          have hll : l.length ≤ 1048576 := by rw [← HL.out]; exact MidTo_len es rk m k (by omega) (by omega) he12
          by_cases hqr : q = r
          · have hq1 : (q == r) = true := by simpa using hqr
            by_cases hbest : bestOf ys = -1
            · have hb1 : (bestOf ys != -1) = false := by simpa using hbest
              have HLN : Hid (MidTo es rk m (k + 1) = l) := MidTo_no HX.out HQ.out (.inr hbest) HL.out
              clear hqr hbest
              go_wp2_with fail
              refine (implBest Ai ci ys _ (by exact hI2) hyl).mono ?_
              rintro e w' ⟨rfl, rfl⟩
              go_wp2_with fail
              clear hq1 hb1
              go_roundw
              case rel => exact ⟨k + 1, _, by omega, by go_num, hF2, HLN, hB2⟩
              case measure => simp [intOf]; omega
            · have hb1 : (bestOf ys != -1) = true := by simpa using hbest
              have HLN : Hid (MidTo es rk m (k + 1) = l ++ [e1]) := MidTo_yes HX.out (by rw [HQ.out, hqr, HR.out]) hbest HL.out
              have hBz := hB2.size
              clear hqr hbest hF
              go_wp2_with fail
              refine (implBest Ai ci ys _ (by exact hI2) hyl).mono ?_
              rintro e w' ⟨rfl, rfl⟩
              go_wp2_with (first | (at_builtin; refine append_one rfl (.tmp 35) (.tmp 38) rfl w.heap.size _ l e1 rfl (hF2.below (by repeat (first | exact Below.refl _ _ | assumption | refine Below.setCell ?_ (by first | omega | (simp <;> omega)) _ | refine Below.alloc ?_ (by first | omega | (simp <;> omega)) _ | refine Below.drew ?_))) (wr.heap.size + 1) rfl (by simp) hll (by simp at hBz ⊢; omega) ?_; intro v4 w4 hF4 hg4 hb4))
              clear hq1 hb1
              go_roundw
              case rel => exact ⟨k + 1, _, by omega, by go_num, hF4, HLN, (hB2.alloc hBz _).trans hb4⟩
              case measure => simp [intOf]; omega
          · have hq1 : (q == r) = false := by simpa using hqr
            have HLN : Hid (MidTo es rk m (k + 1) = l) := MidTo_no HX.out HQ.out (.inl (by rw [HR.out]; exact hqr)) HL.out
            clear hqr
            go_wp2_with fail
            clear hq1
            go_roundw
            case rel => exact ⟨k + 1, _, by omega, by go_num, hF2, HLN, hB2⟩
            case measure => simp [intOf]; omega
        · obtain rfl : k = es.length := by omega
          have HLN : Hid (firstTo es rk (m + 1) = l) := HL.out
          clear HL HL2
          go_wp2_with fail
          go_roundw
          case rel => exact ⟨m + 1, l, by omega, by have := HR.out; subst this; go_num, hF, HLN, hB⟩
          case measure => have := HR.out; simp [intOf]; omega
    · obtain rfl : m = most := by omega
      have p1 : ¬ ((m + 1 : Nat) : Int) ≤ (m : Int) := by omega
      go_wp2_with fail
      go_ret
      exact ⟨_, rfl, by rw [HL.out]; exact hF, hB⟩
end Go.Proofs.Ytejacbgogcjbnaa
