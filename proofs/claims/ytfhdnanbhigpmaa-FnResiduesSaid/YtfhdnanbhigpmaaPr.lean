/- Packing of residues, at both packages. Conditions: as each contract says. -/
import Derived.Test.YtfhdnanbhigpmaaPn
namespace Go.Proofs.Ytfhdnanbhigpmaa
open Go.RowKit

def rpart (ys : List Int) (m : Nat) : Nat → Int
  | 0 => 0
  | e + 1 => 4 * rpart ys m e + ys.getD (m + e) 3
theorem rpart_four (ys : List Int) (m : Nat) (h : m % 4 = 0) : rpart ys m 4 = rsd ys (m / 4) := by
  simp only [rpart, rsd]
  rw [show 4 * (m / 4) = m from by omega, Nat.add_zero]
  omega
def Small3 (ys : List Int) : Prop := ∀ k, k < ys.length → 0 ≤ ys.getD k 0 ∧ ys.getD k 0 ≤ 3
theorem Small3.any {ys : List Int} (h : Small3 ys) (k : Nat) : 0 ≤ ys.getD k 3 ∧ ys.getD k 3 ≤ 3 := by
  rcases Nat.lt_or_ge k ys.length with hk | hk
  · rw [getD_any 3 0 hk]; exact h k hk
  · rw [List.getD_eq_getElem?_getD, List.getElem?_eq_none hk]; decide
theorem rpart_bd {ys : List Int} (h : Small3 ys) (m e : Nat) (he : e ≤ 3) : 0 ≤ rpart ys m e ∧ rpart ys m e ≤ 63 := by
  have a0 := h.any m
  have a1 := h.any (m + 1)
  have a2 := h.any (m + 2)
  match e, he with
  | 0, _ => simp [rpart]
  | 1, _ => simp only [rpart, Nat.add_zero]; omega
  | 2, _ => simp only [rpart, Nat.add_zero]; omega
  | 3, _ => simp only [rpart, Nat.add_zero]; omega
theorem rsd_bd {ys : List Int} (h : Small3 ys) (j : Nat) : 0 ≤ rsd ys j ∧ rsd ys j ≤ 255 := by
  have a0 := h.any (4 * j)
  have a1 := h.any (4 * j + 1)
  have a2 := h.any (4 * j + 2)
  have a3 := h.any (4 * j + 3)
  unfold rsd
  omega
set_option maxRecDepth 100000 in
set_option maxHeartbeats 2000000 in
theorem specRsd (A : Option Addr) (c : Nat) (xs : List Int) (w : World) (hx : IntsAt w A xs) (hl : xs.length ≤ 3000) (hv : Small3 xs) :
    Calls Try.prog 107 #[.slice A xs.length c] w fun e w' => e = .returned (.string (strOfNums (bytesBy (rsd xs) ((xs.length + 3) / 4)))) ∧ Below w.heap.size w w' := by
  have H2 := Lib.hid hv
  clear hv
  have hE : BFresh w.heap.size (w.alloc (.cells #[] 5)) (.slice (some ⟨w.heap.size, 0, none⟩) 0 0) [] := BFresh.empty (Nat.le_refl _)
  have hB0 : Below w.heap.size w (w.alloc (.cells #[] 5)) := (by repeat (first | exact Below.refl _ _ | assumption | refine Below.setCell ?_ (by first | omega | (simp <;> omega)) _ | refine Below.alloc ?_ (by first | omega | (simp <;> omega)) _ | refine Below.drew ?_))
  go_enter Try.func107, Try.ntmps107
  go_wp2_with fail
  go_loopw [3, 4] (fun v i wr => ∃ (m : Nat) (ys : List Int), m ≤ xs.length + 3 ∧ Hid (m % 4 = 0) ∧ i = .int .i64 m ∧ BFresh w.heap.size wr v ys ∧ Below w.heap.size w wr ∧ Hid (bytesBy (rsd xs) (m / 4) = ys)) (fun _ i _ => xs.length + 4 - (intOf i).toNat)
  case atStart => exact ⟨0, [], Nat.zero_le _, rfl, rfl, hE, hB0, rfl⟩
  case round =>
    obtain ⟨m, ys, hm, HM, rfl, hF, hB, HY⟩ := hrel
    clear hE hB0
    have hyl : ys.length ≤ 4194304 := by rw [← HY.out, bytesBy_len]; omega
    by_cases hlt : m < xs.length
    · have p0 : (0 : Int) ≤ (m : Int) := by omega
      have p1 : (m : Int) < (xs.length : Int) := by omega
      have HMN : Hid ((m + 4) % 4 = 0) := by unfold Hid; have := HM.out; omega
      have hxw := hx.below hB
      obtain ⟨wo, rfl⟩ : ∃ wo : World, wo = wr := ⟨_, rfl⟩
      go_wp2_with fail
      go_loop [5, 6] (fun x k => ∃ e : Nat, e ≤ 4 ∧ k = .int .i64 ((m + e : Nat) : Int) ∧ x = .int .i64 (rpart xs m e)) (fun _ k => m + 4 - (intOf k).toNat)
      case atStart => exact ⟨0, by omega, rfl, rfl⟩
      case round =>
        obtain ⟨e, he, rfl, rfl⟩ := hrel
        obtain ⟨q, hq⟩ : ∃ q, m + e = q := ⟨_, rfl⟩
        rw [hq]
        by_cases he4 : e < 4
        · have hb := rpart_bd H2.out m e (by omega)
          have hn := Lib.hid (show rpart xs m (e + 1) = 4 * rpart xs m e + xs.getD (m + e) 3 from rfl)
          obtain ⟨x, hxx⟩ : ∃ x, rpart xs m e = x := ⟨_, rfl⟩
          rw [hxx] at hb
          have HX := Lib.hid hxx
          rw [hxx]
          have x0 := hb.1
          have x1 := hb.2
          have q1 : (q : Int) < (m : Int) + 4 := by omega
          have q0 : (0 : Int) ≤ (q : Int) := by omega
          have HQ := Lib.hid hq
          clear hxx hb hq
          by_cases hqx : q < xs.length
          · obtain ⟨b, off, y, rfl, hb, hc, HYY⟩ := hxw.at_ hqx
            have by_ := H2.out.any q
            rw [getD_any 3 0 hqx, HYY.out] at by_
            have y0 := by_.1
            have y1 := by_.2
            have q2 : (q : Int) < (xs.length : Int) := by omega
            have hnn : Hid (rpart xs m (e + 1) = 4 * x + y) := by unfold Hid; rw [hn.out, HX.out, HQ.out, getD_any 3 0 hqx, HYY.out]
            clear by_
            go_wp2_with fail
            go_round
            case rel => exact ⟨e + 1, by omega, by rw [← Nat.add_assoc, HQ.out]; go_num, by rw [hnn.out]⟩
            case measure => simp [intOf]; have := HQ.out; omega
          · have q2 : ¬ (q : Int) < (xs.length : Int) := by omega
            have hnn : Hid (rpart xs m (e + 1) = 4 * x + 3) := by
              unfold Hid; rw [hn.out, HX.out, HQ.out, List.getD_eq_getElem?_getD, List.getElem?_eq_none (by omega)]; rfl
            go_wp2_with fail
            go_round
            case rel => exact ⟨e + 1, by omega, by rw [← Nat.add_assoc, HQ.out]; go_num, by rw [hnn.out]⟩
            case measure => simp [intOf]; have := HQ.out; omega
        · obtain rfl : e = 4 := by omega
          have q1 : ¬ (q : Int) < (m : Int) + 4 := by omega
          have hz := rsd_bd H2.out (m / 4)
          have hrp := rpart_four xs m HM.out
          rw [hrp]
          obtain ⟨z, hzz⟩ : ∃ z, rsd xs (m / 4) = z := ⟨_, rfl⟩
          rw [hzz] at hz ⊢
          have HYN : Hid (bytesBy (rsd xs) ((m + 4) / 4) = ys ++ [z]) := by unfold Hid; rw [show (m + 4) / 4 = m / 4 + 1 from by omega, bytesBy_more, HY.out, hzz]
          have z0 := hz.1
          have z1 := hz.2
          have hw : IntKind.u8.wrap z = z := IntWalk.u8_in _ (by omega)
          have hBz := hB.size
          clear hrp hzz hz hq
          go_wp2_with (first | (at_builtin; refine append_by1 rfl (.tmp 35) (.tmp 38) rfl w.heap.size _ ys z rfl (hF.al _) _ rfl (by simp) hyl (by simp; omega) ?_; intro v1 w1 hF1 hg1 hb1))
          clear hw
          go_roundw
          case rel => exact ⟨m + 4, _, by omega, HMN, by go_num, hF1, (hB.alloc hB.size _).trans hb1, HYN⟩
          case measure => simp [intOf]; omega
    · have p1 : ¬ (m : Int) < (xs.length : Int) := by omega
      have HE : Hid (strOfNums ys = strOfNums (bytesBy (rsd xs) ((xs.length + 3) / 4))) := by unfold Hid; rw [← HY.out, show m / 4 = (xs.length + 3) / 4 from by have := HM.out; omega]
      have hcv := hF.str
      go_wp2_with fail
      go_ret
      exact ⟨ret_str HE.out, hB⟩

def thirds (xs : List Int) : List Int := xs.map fun x => x % 3
theorem thirds_len (xs : List Int) : (thirds xs).length = xs.length := by simp [thirds]
theorem thirds_small (xs : List Int) : Small3 (thirds xs) := by
  intro k hk
  rw [getD_at _ _ hk]
  simp only [thirds, List.getElem_map]
  omega
theorem thirds_more (xs : List Int) (k : Nat) (hk : k < xs.length) {x : Int} (hx : xs.getD k 0 = x) : thirds (xs.take (k + 1)) = thirds (xs.take k) ++ [x % 3] := by
  rw [take_get xs k hk, hx]; simp [thirds]
def big63 : Int := 9223372036854775807
def resS (xs : List Int) : ByteArray := if allIn xs big63 then strOfNums (bytesBy (rsd (thirds xs)) ((xs.length + 3) / 4)) else ⟨#[]⟩
theorem allIn_no_len {xs : List Int} {m : Int} (h : ¬ xs.length ≤ 3000) : allIn xs m = false := by simp [allIn, h]
theorem allIn_no_neg {xs : List Int} {m : Int} {k : Nat} (hk : k < xs.length) {x : Int} (hx : xs.getD k 0 = x) (h : x < 0) : allIn xs m = false := by
  rw [Bool.eq_false_iff]
  intro h2
  have := ((allIn_at h2).2 k hk).1
  rw [hx] at this
  omega
theorem allIn_yes {xs : List Int} (hl : xs.length ≤ 3000) (hf : Fits xs) (h : ∀ k, k < xs.length → 0 ≤ xs.getD k 0) : allIn xs big63 = true := by
  simp only [allIn, Bool.and_eq_true, decide_eq_true_eq, List.all_eq_true]
  refine ⟨hl, fun x hx => inR_iff.2 ?_⟩
  obtain ⟨k, hk, rfl⟩ := List.mem_iff_getElem.1 hx
  have h1 := h k hk
  have h2 := hf.at_ k
  rw [getD_at _ _ hk] at h1 h2
  exact ⟨h1, h2.2⟩
def NonNegTo (xs : List Int) (k : Nat) : Prop := ∀ j, j < k → 0 ≤ xs.getD j 0
theorem NonNegTo.more {xs : List Int} {k : Nat} (h : NonNegTo xs k) {x : Int} (hx : xs.getD k 0 = x) (h0 : 0 ≤ x) : NonNegTo xs (k + 1) := by
  intro j hj
  rcases Nat.lt_or_ge j k with h1 | h1
  · exact h j h1
  · rw [show j = k from by omega, hx]; exact h0
set_option maxRecDepth 100000 in
set_option maxHeartbeats 2000000 in
theorem implRes (A : Option Addr) (c : Nat) (xs : List Int) (w : World) (hx : IntsAt w A xs) (hl : xs.length ≤ 1048576) :
    Calls Try.prog 15 #[.slice A xs.length c] w fun e w' => e = .returned (.tuple #[.string (resS xs), .bool (allIn xs big63)]) ∧ Below w.heap.size w w' := by
  cases h : allIn xs big63
  · have HK := Lib.hid h
    go_enter Try.func15, Try.ntmps15
    go_wp2_with fail
    refine (implAllIn A c xs big63 _ hx hl).mono ?_
    rintro e w1 ⟨rfl, hb1⟩
    rw [h]
    clear h
    go_wp2_with fail
    go_ret2
    exact ⟨ret_sb (by rw [resS, HK.out]; rfl) rfl, hb1⟩
  · have HK := Lib.hid h
    obtain ⟨h1, h2⟩ := allIn_at h
    go_enter Try.func15, Try.ntmps15
    go_wp2_with fail
    refine (implAllIn A c xs big63 _ hx hl).mono ?_
    rintro e w1 ⟨rfl, hb1⟩
    rw [h]
    clear h
    have hx1 := hx.below hb1
    have H2 := Lib.hid h2
    clear h2
    have hE : Fresh w.heap.size w1 (.slice none 0 0) [] := Fresh.nil _ _
    go_wp2_with fail
    go_loopw [4, 12] (fun v i wr => ∃ (k : Nat) (ys : List Int), k ≤ xs.length ∧ i = .int .i64 k ∧ Fresh w.heap.size wr v ys ∧ Below w.heap.size w wr ∧ Hid (thirds (xs.take k) = ys)) (fun _ i _ => xs.length - (intOf i).toNat)
    case atStart => exact ⟨0, [], Nat.zero_le _, rfl, hE, hb1, rfl⟩
    case round =>
      obtain ⟨k, ys, hk, rfl, hF, hB, HY⟩ := hrel
      clear hE hb1
      have hyl : ys.length ≤ 1048576 := by rw [← HY.out, thirds_len, List.length_take]; omega
      by_cases hlt : k < xs.length
      · obtain ⟨b, off, x, rfl, hb, hc, HX⟩ := (hx.below hB).at_ hlt
        have p0 : (0 : Int) ≤ (k : Int) := by omega
        have p1 : (k : Int) < (xs.length : Int) := by omega
        have x0 : 0 ≤ x := by have := (H2.out k hlt).1; rwa [HX.out] at this
        have HYN : Hid (thirds (xs.take (k + 1)) = ys ++ [x % 3]) := by unfold Hid; rw [thirds_more xs k hlt HX.out, HY.out]
        have hBz := hB.size
        go_wp2_with (first | (at_builtin; refine append_one rfl (.tmp 16) (.tmp 19) rfl w.heap.size _ ys (x % 3) rfl (hF.below (by repeat (first | exact Below.refl _ _ | assumption | refine Below.setCell ?_ (by first | omega | (simp <;> omega)) _ | refine Below.alloc ?_ (by first | omega | (simp <;> omega)) _ | refine Below.drew ?_))) wr.heap.size rfl (by simp) hyl (by simp; omega) ?_; intro v1 w1 hF1 hg1 hb1))
        go_roundw
        case rel => exact ⟨k + 1, _, by omega, by go_num, hF1, (hB.alloc hB.size _).trans hb1, HYN⟩
        case measure => simp [intOf]; omega
      · have p1 : ¬ (k : Int) < (xs.length : Int) := by omega
        have hke : k = xs.length := by omega
        subst hke
        have hy := HY.out
        rw [List.take_of_length_le (Nat.le_refl _)] at hy
        obtain ⟨Ah, ch, rfl, hIh, -⟩ := hF.ints
        have hyl3 : ys.length ≤ 3000 := by rw [← hy, thirds_len]; exact h1
        have HS : Hid (Small3 ys) := by unfold Hid; rw [← hy]; exact thirds_small xs
        have HE : Hid (strOfNums (bytesBy (rsd ys) ((ys.length + 3) / 4)) = resS xs) := by unfold Hid; rw [resS, HK.out, if_pos rfl, ← hy, thirds_len]
        clear hy
        go_wp2_with fail
        refine (packed2 Ah ch ys _ hIh hyl3 HS.out).mono ?_
        rintro e w2 ⟨rfl, hb2⟩
        rw [HE.out]
        go_wp2_with fail
        go_ret2
        exact ⟨ret_sb rfl rfl, belowStep hb2 hB⟩
end Go.Proofs.Ytfhdnanbhigpmaa
