/- The record indices, at both packages. Conditions: as each contract says. -/
import Derived.Test.YtdjkelhmdondcaaBest
import Derived.Test.YtdjkelhmdondcaaMark
namespace Go.Proofs.Ytdjkelhmdondcaa
open Go.RowKit

def isRec (x l : Int) : Bool := !(x == -1) && !lessR l x
def recTo (xs : List Int) : Nat → List Int
  | 0 => []
  | k + 1 => if isRec (xs.getD k 0) (bestOf (xs.take k)) then recTo xs k ++ [(k : Int)] else recTo xs k
theorem recTo_len (xs : List Int) (k : Nat) : (recTo xs k).length ≤ k := by
  induction k with
  | zero => simp [recTo]
  | succ k ih => 
    unfold recTo
    split
    · rw [List.length_append, List.length_singleton]; omega
    · omega
theorem recTo_yes {xs : List Int} {k : Nat} {x l : Int} (hx : xs.getD k 0 = x) (hl : bestOf (xs.take k) = l) (h : isRec x l = true) : recTo xs (k + 1) = recTo xs k ++ [(k : Int)] := by rw [recTo, hx, hl, if_pos h]
theorem recTo_no {xs : List Int} {k : Nat} {x l : Int} (hx : xs.getD k 0 = x) (hl : bestOf (xs.take k) = l) (h : isRec x l = false) : recTo xs (k + 1) = recTo xs k := by rw [recTo, hx, hl, if_neg (by simp [h])]
def okHist (xs : List Int) : Bool := decide (xs.length ≤ 60) && xs.all isRes
def records (xs : List Int) : List Int := if okHist xs then recTo xs xs.length else []
theorem records_len (xs : List Int) (h : xs.length ≤ 1048576) : (records xs).length ≤ 1048576 := by
  unfold records
  split
  · have := recTo_len xs xs.length; omega
  · simp
theorem cmpR_le (x l : Int) (hx : x ≠ -1) : decide (cmpR x l ≤ 0) = !lessR l x := by
  unfold cmpR lessR
  by_cases h1 : x = l
  · subst h1; simp
  · by_cases h3 : l = -1
    · subst h3; simp [hx]
    · by_cases h4 : x < l
      · have h5 : ¬ l < x := by omega
        simp [h1, hx, h3, h4, h5]
      · have h5 : l < x := by omega
        simp [h1, hx, h3, h4, h5]
theorem better_rec {x l : Int} (h : isRec x l = true) : better l x = x := by
  simp only [isRec, Bool.and_eq_true, Bool.not_eq_true', beq_eq_false_iff_ne, lessR] at h
  unfold better lessR
  by_cases h3 : l = -1
  · subst h3; simp [h.1]
  · by_cases h4 : x < l
    · simp [h.1, h4]
    · have h2 := h.2
      simp [h3, h.1] at h2
      have : x = l := by omega
      simp [this]
theorem better_norec {x l : Int} (h : isRec x l = false) : better l x = l := by
  unfold better
  cases hb : lessR x l
  · rfl
  · exfalso
    simp only [lessR, Bool.and_eq_true, Bool.not_eq_true', beq_eq_false_iff_ne, Bool.or_eq_true, beq_iff_eq, decide_eq_true_eq] at hb
    obtain ⟨h1, h2⟩ := hb
    simp only [isRec, lessR] at h
    rcases h2 with h2 | h2
    · subst h2; simp [h1] at h
    · have h5 : ¬ l < x := by omega
      simp [h1, h5] at h

theorem implBestN (A : Option Addr) (c n : Nat) (xs : List Int) (hn : xs.length = n) (w : World) (hx : IntsAt w A xs) (hl : xs.length ≤ 1048576) :
    Calls Try.prog 102 #[.slice A n c] w fun e w' => e = .returned (.int .i64 (bestOf xs)) ∧ w = w' := by
  subst hn
  exact implBest A c xs w hx hl

set_option maxHeartbeats 1000000 in
theorem implRecords (A : Option Addr) (c : Nat) (xs : List Int) (w : World) (hx : IntsAt w A xs) (hl : xs.length ≤ 1048576) (hlc : xs.length ≤ c) :
    Calls Try.prog 55 #[.slice A xs.length c] w fun e w' => ∃ v, e = .returned v ∧ Fresh w.heap.size w' v (records xs) ∧ Below w.heap.size w w' := by
  by_cases h60 : xs.length ≤ 60
  · have hp : ¬ (60 : Int) < (xs.length : Int) := by omega
    have hd : decide ((60 : Int) < (xs.length : Int)) = false := by simpa using hp
    cases hv : xs.all isRes
    · have hany : xs.any (fun x => !isRes x) = true := by rw [← Bool.not_eq_false, ← Bool.not_eq_true']; rw [all_not_any]; simp [hv]
      go_enter Try.func55, Try.ntmps55
      go_wp2_with (first | (go_at_call 89; refine (containsRes2 A c xs _ hx hl).mono ?_; rintro e w' ⟨rfl, rfl⟩))
      go_ret
      exact ⟨_, rfl, by simpa [records, okHist, hv] using Fresh.nil _ _, Below.refl _ _⟩
    · have hany : xs.any (fun x => !isRes x) = false := by rw [← Bool.not_eq_true']; rw [all_not_any]; exact hv
      have HV := Lib.hid hv
      clear hv
      go_enter Try.func55, Try.ntmps55
      go_wp2_with (first | (go_at_call 89; refine (containsRes2 A c xs _ hx hl).mono ?_; rintro e w' ⟨rfl, rfl⟩))
      go_loopw [3, 4, 5, 15] (fun v _ _ j wr => ∃ k : Nat, k ≤ xs.length ∧ j = .int .i64 k ∧ Fresh w.heap.size wr v (recTo xs k) ∧ Below w.heap.size w wr) (fun _ _ _ j _ => xs.length - (intOf j).toNat)
      case atStart => exact ⟨0, Nat.zero_le _, rfl, Fresh.nil _ _, Below.refl _ _⟩
      case round =>
        obtain ⟨k, hk, rfl, hF, hB⟩ := hrel
        by_cases hlt : k < xs.length
        · obtain ⟨b, off, x, rfl, hb, hc, HX⟩ := (hx.below hB).at_ hlt
          have hlenk : (xs.take k).length = k := by rw [List.length_take]; omega
          have HLK := Lib.hid hlenk
          obtain ⟨l, hL⟩ : ∃ l, bestOf (xs.take k) = l := ⟨_, rfl⟩
          have HL := Lib.hid hL
          clear hlenk hL
          have hkc : (k : Int) ≤ (c : Int) := by omega
          have hk0 : (0 : Int) ≤ (k : Int) := by omega
          by_cases h1 : x = -1
          · have e1 : (x != -1) = false := by rw [h1]; rfl
            have H1 := Lib.hid h1
            clear h1
            have hno : isRec x l = false := by simp [isRec, H1.out]
            have HN := Lib.hid hno
            clear hno
            go_wp2_with fail
            go_roundw
            case rel => exact ⟨k + 1, by omega, by go_num, by rw [recTo_no HX.out HL.out HN.out]; exact hF, hB⟩
            case measure => simp [intOf]; omega
          · have e1 : (x != -1) = true := by simpa using h1
            have H1 := Lib.hid h1
            clear h1
            cases hr : isRec x l
            · have hle : ¬ cmpR x l ≤ 0 := by
                have := cmpR_le x l H1.out
                simp only [isRec, Bool.and_eq_false_iff, Bool.not_eq_false', beq_iff_eq, H1.out, false_or] at hr
                rw [hr] at this
                simpa using this
              have HR := Lib.hid hr
              clear hr
              go_wp2_with (first | (go_at_call 102; refine (implBestN _ c k (xs.take k) HLK.out _ (by exact (hx.below hB).take k) (by rw [HLK.out]; omega)).mono ?_; rintro e w' ⟨rfl, rfl⟩; rw [HL.out]) | (go_at_call 88; refine (compareResults_any _ _ _).mono ?_; rintro e w' ⟨rfl, rfl⟩))
              go_roundw
              case rel => exact ⟨k + 1, by omega, by go_num, by rw [recTo_no HX.out HL.out HR.out]; exact hF, hB⟩
              case measure => simp [intOf]; omega
            · have hle : cmpR x l ≤ 0 := by
                have := cmpR_le x l H1.out
                simp only [isRec, Bool.and_eq_true, Bool.not_eq_true'] at hr
                rw [hr.2] at this
                simpa using this
              have HR := Lib.hid hr
              clear hr
              go_wp2_with (first | (go_at_call 102; refine (implBestN _ c k (xs.take k) HLK.out _ (by exact (hx.below hB).take k) (by rw [HLK.out]; omega)).mono ?_; rintro e w' ⟨rfl, rfl⟩; rw [HL.out]) | (go_at_call 88; refine (compareResults_any _ _ _).mono ?_; rintro e w' ⟨rfl, rfl⟩) | (at_builtin; refine append_one rfl (.tmp 31) (.tmp 33) rfl w.heap.size _ (recTo xs k) k rfl (hF.below (by repeat (first | exact Below.refl _ _ | assumption | refine Below.setCell ?_ (by first | omega | (simp <;> omega)) _ | refine Below.alloc ?_ (by first | omega | (simp <;> omega)) _ | refine Below.drew ?_))) wr.heap.size rfl (by simp) (by have := recTo_len xs k; omega) (by have := hB.size; simp; omega) ?_; intro v1 w1 hF1 hg1 hb1))
              go_roundw
              case rel => exact ⟨k + 1, by omega, by go_num, by rw [recTo_yes HX.out HL.out HR.out]; exact hF1, (hB.alloc hB.size _).trans hb1⟩
              case measure => simp [intOf]; omega
        · have hke : k = xs.length := by omega
          subst hke
          go_wp2
          go_ret
          exact ⟨_, rfl, by simpa [records, okHist, HV.out, h60] using hF, hB⟩
  · have hp : (60 : Int) < (xs.length : Int) := by omega
    have hd : decide ((60 : Int) < (xs.length : Int)) = true := by simpa using hp
    go_enter Try.func55, Try.ntmps55
    go_wp2_with fail
    go_ret
    exact ⟨_, rfl, by simpa [records, okHist, h60] using Fresh.nil _ _, Below.refl _ _⟩

set_option maxHeartbeats 1000000 in
theorem specRecords (A : Option Addr) (c : Nat) (xs : List Int) (w : World) (hx : IntsAt w A xs) (hl : xs.length ≤ 1048576) :
    Calls Try.prog 58 #[.slice A xs.length c] w fun e w' => ∃ v, e = .returned v ∧ Fresh w.heap.size w' v (records xs) ∧ Below w.heap.size w w' := by
  have hE : Fresh w.heap.size (w.alloc (.cells #[] 2)) (.slice (some ⟨w.heap.size, 0, none⟩) 0 0) [] := Fresh.empty (Nat.le_refl _)
  have hB0 : Below w.heap.size w (w.alloc (.cells #[] 2)) := (by repeat (first | exact Below.refl _ _ | assumption | refine Below.setCell ?_ (by first | omega | (simp <;> omega)) _ | refine Below.alloc ?_ (by first | omega | (simp <;> omega)) _ | refine Below.drew ?_))
  by_cases h60 : xs.length ≤ 60
  · have hp : ¬ (60 : Int) < (xs.length : Int) := by omega
    go_enter Try.func58, Try.ntmps58
    go_wp2_with fail
    go_loopw [3, 4, 5] (fun v r j wr => ∃ k : Nat, k ≤ xs.length ∧ j = .int .i64 k ∧ r = .int .i64 (bestOf (xs.take k)) ∧ Fresh w.heap.size wr v (recTo xs k) ∧ Below w.heap.size w wr ∧ Hid ((xs.take k).all isRes = true)) (fun _ _ j _ => xs.length - (intOf j).toNat)
    case atStart => exact ⟨0, Nat.zero_le _, rfl, rfl, hE, hB0, by simp [Hid]⟩
    case round =>
      obtain ⟨k, hk, rfl, rfl, hF, hB, HA⟩ := hrel
      clear hE hB0
      by_cases hlt : k < xs.length
      · obtain ⟨b, off, x, rfl, hb, hc0, HX⟩ := hx.at_ hlt
        have hc : wr.cell? ⟨b, off + k, none⟩ = some (.int .i64 x) := (hB.cell (p := ⟨b, off + k, none⟩) hb).trans hc0
        have hm := bestOf_more xs k hlt HX.out
        have hvl := best_isRes _ HA.out
        obtain ⟨l, hL⟩ : ∃ l, bestOf (xs.take k) = l := ⟨_, rfl⟩
        rw [hL] at hm hvl ⊢
        have HL := Lib.hid hL
        have HM := Lib.hid hm
        have HVL := Lib.hid hvl
        clear hL hm hvl
        cases hv : isRes x
        · have hbad : Hid (records xs = []) := by
            have : xs.all isRes = false := by
              rw [← Bool.not_eq_true]; intro hall
              have := all_at hall hlt HX.out
              rw [hv] at this; cases this
            simp [Hid, records, okHist, this]
          go_wp2_with (first | (go_at_call 86; refine (specIsRes _ _).mono ?_; rintro e w' ⟨rfl, rfl⟩))
          go_ret
          exact ⟨_, rfl, by rw [hbad.out]; exact Fresh.empty hB.size, hB.alloc hB.size _⟩
        · have hall : Hid ((xs.take (k + 1)).all isRes = true) := by
            unfold Hid; rw [take_get xs k hlt, List.all_append, HA.out, HX.out]; simp [hv]
          have HV := Lib.hid hv
          by_cases h1 : x = -1
          · have e1 : (x != -1) = false := by rw [h1]; rfl
            have H1 := Lib.hid h1
            clear h1
            have hno : isRec x l = false := by simp [isRec, H1.out]
            have HN := Lib.hid hno
            clear hno
            go_wp2_with (first | (go_at_call 86; refine (specIsRes _ _).mono ?_; rintro e w' ⟨rfl, rfl⟩))
            go_roundw
            case rel => exact ⟨k + 1, by omega, by go_num, by rw [HM.out, better_norec HN.out], by rw [recTo_no HX.out HL.out HN.out]; exact hF, hB, hall⟩
            case measure => simp [intOf]; omega
          · have e1 : (x != -1) = true := by simpa using h1
            have H1 := Lib.hid h1
            clear h1
            cases hr : isRec x l
            · have hle : resLess l x = true := by
                simp only [isRec, Bool.and_eq_false_iff, Bool.not_eq_false', beq_iff_eq, H1.out, false_or] at hr
                rw [resLess, HVL.out, HV.out, hr]; rfl
              have HR := Lib.hid hr
              clear hr
              go_wp2_with (first | (go_at_call 86; refine (specIsRes _ _).mono ?_; rintro e w' ⟨rfl, rfl⟩) | (go_at_call 29; refine (specResLess _ _ _).mono ?_; rintro e w' ⟨rfl, rfl⟩))
              go_roundw
              case rel => exact ⟨k + 1, by omega, by go_num, by rw [HM.out, better_norec HR.out], by rw [recTo_no HX.out HL.out HR.out]; exact hF, hB, hall⟩
              case measure => simp [intOf]; omega
            · have hle : resLess l x = false := by
                simp only [isRec, Bool.and_eq_true, Bool.not_eq_true'] at hr
                rw [resLess, hr.2]; simp
              have HR := Lib.hid hr
              clear hr
              go_wp2_with (first | (go_at_call 86; refine (specIsRes _ _).mono ?_; rintro e w' ⟨rfl, rfl⟩) | (go_at_call 29; refine (specResLess _ _ _).mono ?_; rintro e w' ⟨rfl, rfl⟩) | (at_builtin; refine append_one rfl (.tmp 38) (.tmp 40) rfl w.heap.size _ (recTo xs k) k rfl (hF.below (by repeat (first | exact Below.refl _ _ | assumption | refine Below.setCell ?_ (by first | omega | (simp <;> omega)) _ | refine Below.alloc ?_ (by first | omega | (simp <;> omega)) _ | refine Below.drew ?_))) wr.heap.size rfl (by simp) (by have := recTo_len xs k; omega) (by have := hB.size; simp; omega) ?_; intro v1 w1 hF1 hg1 hb1; have hcx : w1.cell? ⟨b, off + k, none⟩ = some (.int .i64 x) := (((hB.alloc hB.size _).trans hb1).cell (p := ⟨b, off + k, none⟩) hb).trans hc0))
              go_roundw
              case rel => exact ⟨k + 1, by omega, by go_num, by rw [HM.out, better_rec HR.out], by rw [recTo_yes HX.out HL.out HR.out]; exact hF1, (hB.alloc hB.size _).trans hb1, hall⟩
              case measure => simp [intOf]; omega
      · have hke : k = xs.length := by omega
        subst hke
        have hok : Hid (okHist xs = true) := by
          have := HA.out
          rw [List.take_of_length_le (Nat.le_refl _)] at this
          simp [Hid, okHist, h60, this]
        go_wp2
        go_ret
        exact ⟨_, rfl, by simpa [records, hok.out] using hF, hB⟩
  · have hp : (60 : Int) < (xs.length : Int) := by omega
    go_enter Try.func58, Try.ntmps58
    go_wp2_with fail
    go_ret
    exact ⟨_, rfl, by simpa [records, okHist, h60] using hE, hB0⟩
end Go.Proofs.Ytdjkelhmdondcaa
