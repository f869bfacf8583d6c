/- Residues unpacked, at both packages. Conditions: as each contract says. RecoverDistances, spec. Conditions: as each contract says. impl.BuildTable with the patterns that it gives. Conditions: as each contract says. RecoverDistances, impl. Conditions: as each contract says. -/
import Derived.Test.YtfhdnanbhigpmaaUn
import Derived.Test.YtfhdnanbhigpmaaPk2
import Derived.Test.YtfhdnanbhigpmaaYf
import Derived.Test.YtfhdnanbhigpmaaJs
import Derived.Test.YtfhdnanbhigpmaaRp
import Derived.Test.YtfhdnanbhigpmaaAll
namespace Go.Proofs.Ytfhdnanbhigpmaa
section
open Go.RowKit

/-- The residues in a string's bytes. -/
def rsAt (s : ByteArray) (i : Nat) : Int := if i % 4 = 0 then byteAt s (i / 4) / 64 % 4 else if i % 4 = 1 then byteAt s (i / 4) / 16 % 4 else if i % 4 = 2 then byteAt s (i / 4) / 4 % 4 else byteAt s (i / 4) % 4
def rsb (s : ByteArray) (n : Nat) : List Int := (List.range n).map (rsAt s)
theorem rsb_len (s : ByteArray) (n : Nat) : (rsb s n).length = n := by simp [rsb]
theorem rsb_more (s : ByteArray) (n : Nat) : rsb s (n + 1) = rsb s n ++ [rsAt s n] := by simp [rsb, List.range_succ]
theorem rsAt_bd (s : ByteArray) (n : Nat) : 0 ≤ rsAt s n ∧ rsAt s n ≤ 3 := by unfold rsAt; split; omega; split; omega; split <;> omega
theorem rsb_at (s : ByteArray) {n k : Nat} (hk : k < n) : (rsb s n).getD k 0 = rsAt s k := by simp [rsb, List.getD_eq_getElem?_getD, hk]
theorem rsb_bd (s : ByteArray) (n : Nat) : ∀ k, k < (rsb s n).length → 0 ≤ (rsb s n).getD k 0 ∧ (rsb s n).getD k 0 ≤ 3 := by
  intro k hk
  rw [rsb_len] at hk
  rw [rsb_at s hk]
  exact rsAt_bd s k
def rsS (xs : List Int) : ByteArray := strOfNums (bytesBy (rsd xs) ((xs.length + 3) / 4))
def rsNo3 (s : ByteArray) (n : Nat) : Bool := (rsb s n).all fun x => decide (x ≤ 2)
def rsOk (s : ByteArray) (n : Nat) : Bool := decide (s.size = (n + 3) / 4) && (rsNo3 s n && decide (rsS (rsb s n) = s))
theorem rsNo3_iff {s : ByteArray} {n : Nat} : rsNo3 s n = true ↔ ∀ k, k < n → rsAt s k ≤ 2 := by
  unfold rsNo3 rsb
  simp only [List.all_eq_true, List.mem_map, List.mem_range, decide_eq_true_eq]
  exact ⟨fun h k hk => h _ ⟨k, hk, rfl⟩, fun h x hx => by obtain ⟨k, hk, rfl⟩ := hx; exact h k hk⟩
theorem rsOk_size {s : ByteArray} {n : Nat} (h : s.size ≠ (n + 3) / 4) : rsOk s n = false := by simp [rsOk, h]
theorem rsOk_three {s : ByteArray} {n k : Nat} (hk : k < n) (h : rsAt s k = 3) : rsOk s n = false := by
  have : rsNo3 s n = false := by
    rw [Bool.eq_false_iff]
    intro q
    have := rsNo3_iff.1 q k hk
    omega
  simp [rsOk, this]

theorem mask3i (x : Int) (h0 : 0 ≤ x) (h1 : x < 256) : bits BinOp.and IntKind.i64 x 3 = x % 4 := bits_mask .i64 8 (by decide) (fun n h0 h1 => IntWalk.i64_in n (by omega)) 2 (by decide) x h0 h1
theorem rsAt_0 {s : ByteArray} {k j : Nat} (hj : k / 4 = j) (hs : j < s.size) (h : k % 4 = 0) : rsAt s k = (s[j].toNat : Int) / 64 % 4 := by
  rw [rsAt, if_pos h, hj, byteAt_is s j hs]
theorem rsAt_1 {s : ByteArray} {k j : Nat} (hj : k / 4 = j) (hs : j < s.size) (h : k % 4 = 1) : rsAt s k = (s[j].toNat : Int) / 16 % 4 := by
  rw [rsAt, if_neg (by omega), if_pos h, hj, byteAt_is s j hs]
theorem rsAt_2 {s : ByteArray} {k j : Nat} (hj : k / 4 = j) (hs : j < s.size) (h : k % 4 = 2) : rsAt s k = (s[j].toNat : Int) / 4 % 4 := by
  rw [rsAt, if_neg (by omega), if_neg (by omega), if_pos h, hj, byteAt_is s j hs]
theorem rsAt_3 {s : ByteArray} {k j : Nat} (hj : k / 4 = j) (hs : j < s.size) (h : k % 4 = 3) : rsAt s k = (s[j].toNat : Int) % 4 := by
  rw [rsAt, if_neg (by omega), if_neg (by omega), if_neg (by omega), hj, byteAt_is s j hs]
def UnP (s : ByteArray) (n : Nat) (w : World) (e : Ending) (w' : World) : Prop := ∃ xs v, e = .returned (.tuple #[v, .bool (rsOk s n)]) ∧ (rsOk s n = true → xs = rsb s n) ∧ Fresh w.heap.size w' v xs ∧ Below w.heap.size w w'
theorem ret_vb2 {a b : Value} {p q : Bool} (h : a = b) (h2 : p = q) : Ending.returned (.tuple #[a, .bool p]) = .returned (.tuple #[b, .bool q]) := by rw [h, h2]
theorem str_eq2 (a b : ByteArray) : (a.toList == b.toList) = decide (a = b) := by
  rw [Bool.eq_iff_iff]
  simp only [beq_iff_eq, decide_eq_true_eq]
  constructor
  · intro h
    rw [ByteArray.toList_eq, ByteArray.toList_eq] at h
    exact ByteArray.ext (Array.toList_inj.1 h)
  · intro h; rw [h]
set_option maxRecDepth 100000 in
set_option maxHeartbeats 4000000 in
theorem specUn2 (s : ByteArray) (n : Nat) (w : World) (hs : s.size ≤ 1048576) (hn : n ≤ 3000) : Calls Try.prog 74 #[.string s, .int .i64 (n : Int)] w (UnP s n w) := by
  have hE : Fresh w.heap.size (w.alloc (.cells #[] 2)) (.slice (some ⟨w.heap.size, 0, none⟩) 0 0) [] := Fresh.empty (Nat.le_refl _)
  have hB0 : Below w.heap.size w (w.alloc (.cells #[] 2)) := (by repeat (first | exact Below.refl _ _ | assumption | refine Below.setCell ?_ (by first | omega | (simp <;> omega)) _ | refine Below.alloc ?_ (by first | omega | (simp <;> omega)) _ | refine Below.drew ?_))
  by_cases hsz : s.size = (n + 3) / 4
  rotate_left
  · have hne : ((s.size : Int) != ((n : Int) + 3) / 4) = true := by simp; omega
    have HK := Lib.hid (rsOk_size hsz)
    clear hsz
    go_enter Try.func74, Try.ntmps74
    go_wp2_with fail
    go_ret2
    exact ⟨[], _, ret_vb2 rfl HK.out.symm, (fun h => by rw [HK.out] at h; cases h), hE, hB0⟩
  have hne : ((s.size : Int) != ((n : Int) + 3) / 4) = false := by simp; omega
  have HSZ := Lib.hid hsz
  clear hsz
  go_enter Try.func74, Try.ntmps74
  go_wp2_with fail
  clear hne
  go_loopw [6, 7] (fun v i wr => ∃ (k : Nat) (ys : List Int), k ≤ n ∧ i = .int .i64 k ∧ Fresh w.heap.size wr v ys ∧ Below w.heap.size w wr ∧ Hid (rsb s k = ys) ∧ Hid (∀ j, j < k → rsAt s j ≤ 2)) (fun _ i _ => n - (intOf i).toNat)
  case atStart => exact ⟨0, [], Nat.zero_le _, rfl, hE, hB0, rfl, fun j hj => absurd hj (Nat.not_lt_zero _)⟩
  case round =>
    obtain ⟨k, ys, hk, rfl, hF, hB, HY, HN⟩ := hrel
    clear hE hB0
    have hyl : ys.length ≤ 1048576 := by rw [← HY.out, rsb_len]; omega
    by_cases hlt : k < n
    · obtain ⟨j, hj⟩ : ∃ j, k / 4 = j := ⟨_, rfl⟩
      have hjs : j < s.size := by have := HSZ.out; omega
      have c0 : (0 : Int) ≤ (s[j].toNat : Int) := by omega
      have c1 : (s[j].toNat : Int) ≤ 255 := by have := s[j].toNat_lt; omega
      have p0 : (0 : Int) ≤ (k : Int) := by omega
      have p1 : (k : Int) < (n : Int) := by omega
      have q0 : (0 : Int) ≤ (j : Int) := by omega
      have q1 : (j : Int) < (s.size : Int) := by omega
      have hd : (k : Int) / 4 = (j : Int) := by omega
      have hBz := hB.size
      have HYN : Hid (rsb s (k + 1) = ys ++ [rsAt s k]) := by unfold Hid; rw [rsb_more, HY.out]
      have hrb := rsAt_bd s k
      obtain ⟨r, hr⟩ : ∃ r, k % 4 = r := ⟨_, rfl⟩
      have hr4 : r < 4 := by omega
      have hr2 : (k : Int) % 4 = (r : Int) := by omega
      match r, hr4 with
      | 0, _ =>
        have hv := rsAt_0 hj hjs hr
        obtain ⟨v, hvv⟩ : ∃ v, rsAt s k = v := ⟨_, rfl⟩
        rw [hvv] at hv HYN hrb
        have hm : bits BinOp.and IntKind.i64 ((s[j].toNat : Int) / 64) 3 = v := (mask3i _ (by omega) (by omega)).trans hv.symm
        have d0 : (0 : Int) ≤ (s[j].toNat : Int) / 64 := by omega
        have d1 : (s[j].toNat : Int) / 64 ≤ 255 := by omega
        have HVV := Lib.hid hvv
        clear hj hr hv hvv
        by_cases h3 : v = 3
        · subst h3
          have HNO : Hid (rsOk s n = false) := rsOk_three hlt HVV.out
          have hE2 : Fresh w.heap.size (wr.alloc (.cells #[] 2)) (.slice (some ⟨wr.heap.size, 0, none⟩) 0 0) [] := Fresh.empty hBz
          have hB2 : Below w.heap.size w (wr.alloc (.cells #[] 2)) := hB.alloc hBz _
          go_wp2_with fail
          go_ret2
          exact ⟨[], _, ret_vb2 rfl HNO.out.symm, (fun h => by rw [HNO.out] at h; cases h), hE2, hB2⟩
        · have hv3 : (v == 3) = false := by simpa using h3
          have HN2 : Hid (∀ j, j < k + 1 → rsAt s j ≤ 2) := fun j hj => by
            rcases Nat.lt_or_ge j k with h | h
            · exact HN.out j h
            · obtain rfl : j = k := by omega
              rw [HVV.out]; omega
          clear h3 hrb
          go_wp2_with (first | (at_builtin; refine append_one rfl (.tmp 37) (.tmp 39) rfl w.heap.size _ ys v rfl (hF.below (by repeat (first | exact Below.refl _ _ | assumption | refine Below.setCell ?_ (by first | omega | (simp <;> omega)) _ | refine Below.alloc ?_ (by first | omega | (simp <;> omega)) _ | refine Below.drew ?_))) wr.heap.size rfl (by simp) hyl (by simp; omega) ?_; intro v1 w1 hF1 hg1 hb1))
          clear hd hr2 hm
          go_roundw
          case rel => exact ⟨k + 1, _, by omega, by go_num, hF1, (hB.alloc hB.size _).trans hb1, HYN, HN2⟩
          case measure => simp [intOf]; omega
      | 1, _ =>
        have hv := rsAt_1 hj hjs hr
        obtain ⟨v, hvv⟩ : ∃ v, rsAt s k = v := ⟨_, rfl⟩
        rw [hvv] at hv HYN hrb
        have hm : bits BinOp.and IntKind.i64 ((s[j].toNat : Int) / 16) 3 = v := (mask3i _ (by omega) (by omega)).trans hv.symm
        have d0 : (0 : Int) ≤ (s[j].toNat : Int) / 16 := by omega
        have d1 : (s[j].toNat : Int) / 16 ≤ 255 := by omega
        have HVV := Lib.hid hvv
        clear hj hr hv hvv
        by_cases h3 : v = 3
        · subst h3
          have HNO : Hid (rsOk s n = false) := rsOk_three hlt HVV.out
          have hE2 : Fresh w.heap.size (wr.alloc (.cells #[] 2)) (.slice (some ⟨wr.heap.size, 0, none⟩) 0 0) [] := Fresh.empty hBz
          have hB2 : Below w.heap.size w (wr.alloc (.cells #[] 2)) := hB.alloc hBz _
          go_wp2_with fail
          go_ret2
          exact ⟨[], _, ret_vb2 rfl HNO.out.symm, (fun h => by rw [HNO.out] at h; cases h), hE2, hB2⟩
        · have hv3 : (v == 3) = false := by simpa using h3
          have HN2 : Hid (∀ j, j < k + 1 → rsAt s j ≤ 2) := fun j hj => by
            rcases Nat.lt_or_ge j k with h | h
            · exact HN.out j h
            · obtain rfl : j = k := by omega
              rw [HVV.out]; omega
          clear h3 hrb
          go_wp2_with (first | (at_builtin; refine append_one rfl (.tmp 37) (.tmp 39) rfl w.heap.size _ ys v rfl (hF.below (by repeat (first | exact Below.refl _ _ | assumption | refine Below.setCell ?_ (by first | omega | (simp <;> omega)) _ | refine Below.alloc ?_ (by first | omega | (simp <;> omega)) _ | refine Below.drew ?_))) wr.heap.size rfl (by simp) hyl (by simp; omega) ?_; intro v1 w1 hF1 hg1 hb1))
          clear hd hr2 hm
          go_roundw
          case rel => exact ⟨k + 1, _, by omega, by go_num, hF1, (hB.alloc hB.size _).trans hb1, HYN, HN2⟩
          case measure => simp [intOf]; omega
      | 2, _ =>
        have hv := rsAt_2 hj hjs hr
        obtain ⟨v, hvv⟩ : ∃ v, rsAt s k = v := ⟨_, rfl⟩
        rw [hvv] at hv HYN hrb
        have hm : bits BinOp.and IntKind.i64 ((s[j].toNat : Int) / 4) 3 = v := (mask3i _ (by omega) (by omega)).trans hv.symm
        have d0 : (0 : Int) ≤ (s[j].toNat : Int) / 4 := by omega
        have d1 : (s[j].toNat : Int) / 4 ≤ 255 := by omega
        have HVV := Lib.hid hvv
        clear hj hr hv hvv
        by_cases h3 : v = 3
        · subst h3
          have HNO : Hid (rsOk s n = false) := rsOk_three hlt HVV.out
          have hE2 : Fresh w.heap.size (wr.alloc (.cells #[] 2)) (.slice (some ⟨wr.heap.size, 0, none⟩) 0 0) [] := Fresh.empty hBz
          have hB2 : Below w.heap.size w (wr.alloc (.cells #[] 2)) := hB.alloc hBz _
          go_wp2_with fail
          go_ret2
          exact ⟨[], _, ret_vb2 rfl HNO.out.symm, (fun h => by rw [HNO.out] at h; cases h), hE2, hB2⟩
        · have hv3 : (v == 3) = false := by simpa using h3
          have HN2 : Hid (∀ j, j < k + 1 → rsAt s j ≤ 2) := fun j hj => by
            rcases Nat.lt_or_ge j k with h | h
            · exact HN.out j h
            · obtain rfl : j = k := by omega
              rw [HVV.out]; omega
          clear h3 hrb
          go_wp2_with (first | (at_builtin; refine append_one rfl (.tmp 37) (.tmp 39) rfl w.heap.size _ ys v rfl (hF.below (by repeat (first | exact Below.refl _ _ | assumption | refine Below.setCell ?_ (by first | omega | (simp <;> omega)) _ | refine Below.alloc ?_ (by first | omega | (simp <;> omega)) _ | refine Below.drew ?_))) wr.heap.size rfl (by simp) hyl (by simp; omega) ?_; intro v1 w1 hF1 hg1 hb1))
          clear hd hr2 hm
          go_roundw
          case rel => exact ⟨k + 1, _, by omega, by go_num, hF1, (hB.alloc hB.size _).trans hb1, HYN, HN2⟩
          case measure => simp [intOf]; omega
      | 3, _ =>
        have hv := rsAt_3 hj hjs hr
        obtain ⟨v, hvv⟩ : ∃ v, rsAt s k = v := ⟨_, rfl⟩
        rw [hvv] at hv HYN hrb
        have hm : bits BinOp.and IntKind.i64 (s[j].toNat : Int) 3 = v := (mask3i _ (by omega) (by omega)).trans hv.symm
        have HVV := Lib.hid hvv
        clear hj hr hv hvv
        by_cases h3 : v = 3
        · subst h3
          have HNO : Hid (rsOk s n = false) := rsOk_three hlt HVV.out
          have hE2 : Fresh w.heap.size (wr.alloc (.cells #[] 2)) (.slice (some ⟨wr.heap.size, 0, none⟩) 0 0) [] := Fresh.empty hBz
          have hB2 : Below w.heap.size w (wr.alloc (.cells #[] 2)) := hB.alloc hBz _
          go_wp2_with fail
          go_ret2
          exact ⟨[], _, ret_vb2 rfl HNO.out.symm, (fun h => by rw [HNO.out] at h; cases h), hE2, hB2⟩
        · have hv3 : (v == 3) = false := by simpa using h3
          have HN2 : Hid (∀ j, j < k + 1 → rsAt s j ≤ 2) := fun j hj => by
            rcases Nat.lt_or_ge j k with h | h
            · exact HN.out j h
            · obtain rfl : j = k := by omega
              rw [HVV.out]; omega
          clear h3 hrb
          go_wp2_with (first | (at_builtin; refine append_one rfl (.tmp 37) (.tmp 39) rfl w.heap.size _ ys v rfl (hF.below (by repeat (first | exact Below.refl _ _ | assumption | refine Below.setCell ?_ (by first | omega | (simp <;> omega)) _ | refine Below.alloc ?_ (by first | omega | (simp <;> omega)) _ | refine Below.drew ?_))) wr.heap.size rfl (by simp) hyl (by simp; omega) ?_; intro v1 w1 hF1 hg1 hb1))
          clear hd hr2 hm
          go_roundw
          case rel => exact ⟨k + 1, _, by omega, by go_num, hF1, (hB.alloc hB.size _).trans hb1, HYN, HN2⟩
          case measure => simp [intOf]; omega
    · have p1 : ¬ (k : Int) < (n : Int) := by omega
      obtain rfl : k = n := by omega
      obtain ⟨Ah, ch, rfl, hIh, -⟩ := hF.ints
      have hyl3 : ys.length ≤ 3000 := by rw [← HY.out, rsb_len]; exact hn
      have HSM : Hid (Small3 ys) := by
        unfold Hid
        rw [← HY.out]
        exact rsb_bd s k
      obtain ⟨X, hX⟩ : ∃ X, rsS (rsb s k) = X := ⟨_, rfl⟩
      have HXX : Hid (strOfNums (bytesBy (rsd ys) ((ys.length + 3) / 4)) = X) := by unfold Hid; rw [← hX, ← HY.out]; rfl
      have HOK : Hid (rsOk s k = decide (X = s)) := by
        unfold Hid
        rw [rsOk, hX, rsNo3_iff.2 HN.out, decide_eq_true HSZ.out]
        simp
      clear hX
      go_wp2_with fail
      refine (specRsd Ah ch ys _ hIh hyl3 HSM.out).mono ?_
      rintro e w2 ⟨rfl, hb2⟩
      rw [HXX.out]
      have hB2 := belowStep hb2 hB
      have hF2 := hF.below hb2
      go_wp2_with fail
      go_ret2
      exact ⟨ys, _, ret_vb2 rfl (by rw [str_eq2, HOK.out]), fun _ => HY.out.symm, hF2, hB2⟩
def UnI (s : ByteArray) (n : Nat) (w : World) (e : Ending) (w' : World) : Prop := ∃ xs v b, e = .returned (.tuple #[v, .bool b]) ∧ (b = true → xs = rsb s n ∧ (rsNo3 s n = true → rsOk s n = true)) ∧ (b = false → rsOk s n = false) ∧ Fresh w.heap.size w' v xs ∧ Below w.heap.size w w'
set_option maxRecDepth 100000 in
set_option maxHeartbeats 4000000 in
theorem implUn2 (s : ByteArray) (n : Nat) (w : World) (hs : s.size ≤ 1048576) (hn : n ≤ 3000) : Calls Try.prog 51 #[.string s, .int .i64 (n : Int), .int .i64 2] w (UnI s n w) := by
  have hE : Fresh w.heap.size w (.slice none 0 0) [] := Fresh.nil _ _
  have hB0 : Below w.heap.size w w := Below.refl _ _
  have hr : inR (n : Int) 0 3000 = true := inR_iff.2 ⟨by omega, by omega⟩
  by_cases hsz : s.size = (n + 3) / 4
  rotate_left
  · have hne : ((s.size : Int) != ((n : Int) + 4 - 1) / 4) = true := by simp; omega
    have HK := Lib.hid (rsOk_size hsz)
    clear hsz
    go_enter Try.func51, Try.ntmps51
    go_wp2_with (first | (go_at_call 66; refine (within_any _ _ _ _).mono ?_; rintro e w' ⟨rfl, rfl⟩))
    go_ret2
    exact ⟨[], _, false, rfl, (fun h => by cases h), fun _ => HK.out, hE, hB0⟩
  have hne : ((s.size : Int) != ((n : Int) + 4 - 1) / 4) = false := by simp; omega
  have HSZ := Lib.hid hsz
  clear hsz
  go_enter Try.func51, Try.ntmps51
  go_wp2_with (first | (go_at_call 66; refine (within_any _ _ _ _).mono ?_; rintro e w' ⟨rfl, rfl⟩))
  clear hne
  go_loopw [9, 28] (fun v i wr => ∃ (k : Nat) (ys : List Int), k ≤ n ∧ i = .int .i64 k ∧ Fresh w.heap.size wr v ys ∧ Below w.heap.size w wr ∧ Hid (rsb s k = ys)) (fun _ i _ => n - (intOf i).toNat)
  case atStart => exact ⟨0, [], Nat.zero_le _, rfl, hE, hB0, rfl⟩
  case round =>
    obtain ⟨k, ys, hk, rfl, hF, hB, HY⟩ := hrel
    clear hE hB0
    have hyl : ys.length ≤ 1048576 := by rw [← HY.out, rsb_len]; omega
    by_cases hlt : k < n
    · obtain ⟨j, hj⟩ : ∃ j, k / 4 = j := ⟨_, rfl⟩
      have hjs : j < s.size := by have := HSZ.out; omega
      have c0 : (0 : Int) ≤ (s[j].toNat : Int) := by omega
      have c1 : (s[j].toNat : Int) ≤ 255 := by have := s[j].toNat_lt; omega
      have p0 : (0 : Int) ≤ (k : Int) := by omega
      have p1 : (k : Int) < (n : Int) := by omega
      have q0 : (0 : Int) ≤ (j : Int) := by omega
      have q1 : (j : Int) < (s.size : Int) := by omega
      have hd : (k : Int) / 4 = (j : Int) := by omega
      have hBz := hB.size
      have HYN : Hid (rsb s (k + 1) = ys ++ [rsAt s k]) := by unfold Hid; rw [rsb_more, HY.out]
      have hrb := rsAt_bd s k
      obtain ⟨r, hr⟩ : ∃ r, k % 4 = r := ⟨_, rfl⟩
      have hr4 : r < 4 := by omega
      have hr2 : (k : Int) % 4 = (r : Int) := by omega
      match r, hr4 with
      | 0, _ =>
        have hv := rsAt_0 hj hjs hr
        obtain ⟨v, hvv⟩ : ∃ v, rsAt s k = v := ⟨_, rfl⟩
        rw [hvv] at hv HYN hrb
        have hm : bits BinOp.and IntKind.i64 ((s[j].toNat : Int) / 64) 3 = v := (mask3i _ (by omega) (by omega)).trans hv.symm
        have d0 : (0 : Int) ≤ (s[j].toNat : Int) / 64 := by omega
        have d1 : (s[j].toNat : Int) / 64 ≤ 255 := by omega
        clear hj hr hv hvv
        go_wp2_with fail
        have hw1 : IntKind.i64.wrap (j : Int) = (j : Int) := IntWalk.i64_in _ (by omega)
        have hw2 : IntKind.i64.wrap (s[j].toNat : Int) = (s[j].toNat : Int) := IntWalk.i64_in _ (by omega)
        have ht : (k : Int).tmod 4 = 0 := by rw [IntWalk.rem_in _ _ p0]; exact hr2
        have l0 : IntKind.i64.wrap 0 = 0 := by decide
        have l1 : IntKind.i64.wrap 1 = 1 := by decide
        have l2 : IntKind.i64.wrap 2 = 2 := by decide
        have l3 : IntKind.i64.wrap 3 = 3 := by decide
        have l4 : IntKind.i64.wrap 4 = 4 := by decide
        have l6 : IntKind.i64.wrap 6 = 6 := by decide
        have l8 : IntKind.i64.wrap 8 = 8 := by decide
        have l16 : IntKind.i64.wrap 16 = 16 := by decide
        have l64 : IntKind.i64.wrap 64 = 64 := by decide
        go_region_held3 (fun w' => True) (trivial) ((refine step_append_one (by rfl) (.tmp 31) (.tmp 50) (by rfl) w.heap.size _ ys v (by rfl) (hF.ad _) wr.heap.size (by rfl) (by simp) hyl (by simp; omega) ?_; intro v1 w1 hF1 hg1 hb1))
        all_goals
          clear hd hr2 hm hw1 hw2 ht l0 l1 l2 l3 l4 l6 l8 l16 l64
          go_wp2_with fail
          go_roundw
          case rel => exact ⟨k + 1, _, by omega, by go_num, hF1, ((hB.alloc hB.size _).drew).trans hb1, HYN⟩
          case measure => simp [intOf]; omega
      | 1, _ =>
        have hv := rsAt_1 hj hjs hr
        obtain ⟨v, hvv⟩ : ∃ v, rsAt s k = v := ⟨_, rfl⟩
        rw [hvv] at hv HYN hrb
        have hm : bits BinOp.and IntKind.i64 ((s[j].toNat : Int) / 16) 3 = v := (mask3i _ (by omega) (by omega)).trans hv.symm
        have d0 : (0 : Int) ≤ (s[j].toNat : Int) / 16 := by omega
        have d1 : (s[j].toNat : Int) / 16 ≤ 255 := by omega
        clear hj hr hv hvv
        go_wp2_with fail
        have hw1 : IntKind.i64.wrap (j : Int) = (j : Int) := IntWalk.i64_in _ (by omega)
        have hw2 : IntKind.i64.wrap (s[j].toNat : Int) = (s[j].toNat : Int) := IntWalk.i64_in _ (by omega)
        have ht : (k : Int).tmod 4 = 1 := by rw [IntWalk.rem_in _ _ p0]; exact hr2
        have l0 : IntKind.i64.wrap 0 = 0 := by decide
        have l1 : IntKind.i64.wrap 1 = 1 := by decide
        have l2 : IntKind.i64.wrap 2 = 2 := by decide
        have l3 : IntKind.i64.wrap 3 = 3 := by decide
        have l4 : IntKind.i64.wrap 4 = 4 := by decide
        have l6 : IntKind.i64.wrap 6 = 6 := by decide
        have l8 : IntKind.i64.wrap 8 = 8 := by decide
        have l16 : IntKind.i64.wrap 16 = 16 := by decide
        have l64 : IntKind.i64.wrap 64 = 64 := by decide
        go_region_held3 (fun w' => True) (trivial) ((refine step_append_one (by rfl) (.tmp 31) (.tmp 50) (by rfl) w.heap.size _ ys v (by rfl) (hF.ad _) wr.heap.size (by rfl) (by simp) hyl (by simp; omega) ?_; intro v1 w1 hF1 hg1 hb1))
        all_goals
          clear hd hr2 hm hw1 hw2 ht l0 l1 l2 l3 l4 l6 l8 l16 l64
          go_wp2_with fail
          go_roundw
          case rel => exact ⟨k + 1, _, by omega, by go_num, hF1, ((hB.alloc hB.size _).drew).trans hb1, HYN⟩
          case measure => simp [intOf]; omega
      | 2, _ =>
        have hv := rsAt_2 hj hjs hr
        obtain ⟨v, hvv⟩ : ∃ v, rsAt s k = v := ⟨_, rfl⟩
        rw [hvv] at hv HYN hrb
        have hm : bits BinOp.and IntKind.i64 ((s[j].toNat : Int) / 4) 3 = v := (mask3i _ (by omega) (by omega)).trans hv.symm
        have d0 : (0 : Int) ≤ (s[j].toNat : Int) / 4 := by omega
        have d1 : (s[j].toNat : Int) / 4 ≤ 255 := by omega
        clear hj hr hv hvv
        go_wp2_with fail
        have hw1 : IntKind.i64.wrap (j : Int) = (j : Int) := IntWalk.i64_in _ (by omega)
        have hw2 : IntKind.i64.wrap (s[j].toNat : Int) = (s[j].toNat : Int) := IntWalk.i64_in _ (by omega)
        have ht : (k : Int).tmod 4 = 2 := by rw [IntWalk.rem_in _ _ p0]; exact hr2
        have l0 : IntKind.i64.wrap 0 = 0 := by decide
        have l1 : IntKind.i64.wrap 1 = 1 := by decide
        have l2 : IntKind.i64.wrap 2 = 2 := by decide
        have l3 : IntKind.i64.wrap 3 = 3 := by decide
        have l4 : IntKind.i64.wrap 4 = 4 := by decide
        have l6 : IntKind.i64.wrap 6 = 6 := by decide
        have l8 : IntKind.i64.wrap 8 = 8 := by decide
        have l16 : IntKind.i64.wrap 16 = 16 := by decide
        have l64 : IntKind.i64.wrap 64 = 64 := by decide
        go_region_held3 (fun w' => True) (trivial) ((refine step_append_one (by rfl) (.tmp 31) (.tmp 50) (by rfl) w.heap.size _ ys v (by rfl) (hF.ad _) wr.heap.size (by rfl) (by simp) hyl (by simp; omega) ?_; intro v1 w1 hF1 hg1 hb1))
        all_goals
          clear hd hr2 hm hw1 hw2 ht l0 l1 l2 l3 l4 l6 l8 l16 l64
          go_wp2_with fail
          go_roundw
          case rel => exact ⟨k + 1, _, by omega, by go_num, hF1, ((hB.alloc hB.size _).drew).trans hb1, HYN⟩
          case measure => simp [intOf]; omega
      | 3, _ =>
        have hv := rsAt_3 hj hjs hr
        obtain ⟨v, hvv⟩ : ∃ v, rsAt s k = v := ⟨_, rfl⟩
        rw [hvv] at hv HYN hrb
        have hm : bits BinOp.and IntKind.i64 (s[j].toNat : Int) 3 = v := (mask3i _ (by omega) (by omega)).trans hv.symm
        clear hj hr hv hvv
        go_wp2_with fail
        have hw1 : IntKind.i64.wrap (j : Int) = (j : Int) := IntWalk.i64_in _ (by omega)
        have hw2 : IntKind.i64.wrap (s[j].toNat : Int) = (s[j].toNat : Int) := IntWalk.i64_in _ (by omega)
        have ht : (k : Int).tmod 4 = 3 := by rw [IntWalk.rem_in _ _ p0]; exact hr2
        have l0 : IntKind.i64.wrap 0 = 0 := by decide
        have l1 : IntKind.i64.wrap 1 = 1 := by decide
        have l2 : IntKind.i64.wrap 2 = 2 := by decide
        have l3 : IntKind.i64.wrap 3 = 3 := by decide
        have l4 : IntKind.i64.wrap 4 = 4 := by decide
        have l6 : IntKind.i64.wrap 6 = 6 := by decide
        have l8 : IntKind.i64.wrap 8 = 8 := by decide
        have l16 : IntKind.i64.wrap 16 = 16 := by decide
        have l64 : IntKind.i64.wrap 64 = 64 := by decide
        go_region_held3 (fun w' => True) (trivial) ((refine step_append_one (by rfl) (.tmp 31) (.tmp 50) (by rfl) w.heap.size _ ys v (by rfl) (hF.ad _) wr.heap.size (by rfl) (by simp) hyl (by simp; omega) ?_; intro v1 w1 hF1 hg1 hb1))
        all_goals
          clear hd hr2 hm hw1 hw2 ht l0 l1 l2 l3 l4 l6 l8 l16 l64
          go_wp2_with fail
          go_roundw
          case rel => exact ⟨k + 1, _, by omega, by go_num, hF1, ((hB.alloc hB.size _).drew).trans hb1, HYN⟩
          case measure => simp [intOf]; omega
    · have p1 : ¬ (k : Int) < (n : Int) := by omega
      obtain rfl : k = n := by omega
      obtain ⟨Ah, ch, rfl, hIh, -⟩ := hF.ints
      have hyl3 : ys.length ≤ 3000 := by rw [← HY.out, rsb_len]; exact hn
      have HSM : Hid (∀ i, i < ys.length → 0 ≤ ys.getD i 0 ∧ ys.getD i 0 ≤ 3) := by
        unfold Hid
        rw [← HY.out]
        exact rsb_bd s k
      obtain ⟨X, hX⟩ : ∃ X, rsS (rsb s k) = X := ⟨_, rfl⟩
      have HXX : Hid (strOfNums (bytesBy (rsd ys) ((ys.length + 3) / 4)) = X) := by unfold Hid; rw [← hX, ← HY.out]; rfl
      have HOK : Hid (rsOk s k = (rsNo3 s k && decide (X = s))) := by
        unfold Hid
        rw [rsOk, hX, decide_eq_true HSZ.out]
        simp
      clear hX
      go_wp2_with fail
      refine (packed2 Ah ch ys _ hIh hyl3 HSM.out).mono ?_
      rintro e w2 ⟨rfl, hb2⟩
      rw [HXX.out]
      have hB2 := belowStep hb2 hB
      have hF2 := hF.below hb2
      go_wp2_with fail
      go_ret2
      refine ⟨ys, _, decide (X = s), ret_vb2 rfl (by rw [str_eq2]), fun h => ⟨HY.out.symm, fun h3 => ?_⟩, fun h => ?_, hF2, hB2⟩
      · rw [HOK.out, h, h3]; rfl
      · rw [HOK.out, h]; simp
end
section
open Go.RowKit Grp

noncomputable def resB (p : Pz) (trk : List Int) : Bs := (searchB (mvsOf p.moves) trk).getD ⟨[], []⟩
/-- What RecoverDistances gives. -/
noncomputable def rdB (p : Pz) (trk : List Int) (s : ByteArray) : Bool := buildQ p trk && (rsOk s (resB p trk).ls.length && allW (mvsOf p.moves) (resB p trk).ls (rsb s (resB p trk).ls.length))
noncomputable def rdL (p : Pz) (trk : List Int) (s : ByteArray) : List Int := if rdB p trk s = true then listW (mvsOf p.moves) (resB p trk).ls (rsb s (resB p trk).ls.length) (resB p trk).ls.length else []
theorem rd_no {p : Pz} {trk : List Int} {s : ByteArray} (h : rdB p trk s = false) : rdL p trk s = [] := by unfold rdL; rw [h]; rfl
theorem rd_nobuild {p : Pz} {trk : List Int} {s : ByteArray} (h : buildQ p trk = false) : rdB p trk s = false := by unfold rdB; rw [h]; rfl
theorem rd_is {p : Pz} {trk : List Int} {s : ByteArray} {r : Bs} (h : buildQ p trk = true) (hs : searchB (mvsOf p.moves) trk = some r) : rdB p trk s = (rsOk s r.ls.length && allW (mvsOf p.moves) r.ls (rsb s r.ls.length)) := by
  unfold rdB resB
  rw [h, hs]
  rfl
theorem rd_yes {p : Pz} {trk : List Int} {s : ByteArray} {r : Bs} (hs : searchB (mvsOf p.moves) trk = some r) (h : rdB p trk s = true) : rdL p trk s = listW (mvsOf p.moves) r.ls (rsb s r.ls.length) r.ls.length := by
  unfold rdL resB
  rw [if_pos h, hs]
  rfl
theorem rd_len {p : Pz} {trk : List Int} {s : ByteArray} : (rdL p trk s).length ≤ 3000 := by
  cases h : rdB p trk s with
  | false => rw [rd_no h]; simp
  | true =>
    have hb : buildQ p trk = true := by
      unfold rdB at h
      rw [Bool.and_eq_true] at h
      exact h.1
    have h2 := hb
    unfold buildQ at h2
    rw [Bool.and_eq_true] at h2
    obtain ⟨r, hr⟩ := Option.isSome_iff_exists.1 h2.2
    obtain ⟨N, hT⟩ := tabR_of (res := rsb s r.ls.length) hb hr (rsb_len _ _) (rsb_bd _ _)
    rw [rd_yes hr h, listW_len]
    exact hT.len
def RdPost (p : Pz) (trk : List Int) (s : ByteArray) (w : World) (e : Ending) (w' : World) : Prop := ∃ v, e = .returned (.tuple #[v, .bool (rdB p trk s)]) ∧ Fresh w.heap.size w' v (rdL p trk s) ∧ Below w.heap.size w w'
theorem dVal_no {o : Option Nat} (h : o = none) : dVal o = -1 := by rw [h]; rfl
set_option maxRecDepth 100000 in
set_option maxHeartbeats 8000000 in
theorem specRd (A : Option Addr) (c : Nat) (p : Pz) (A1 : Option Addr) (c1 : Nat) (trk : List Int) (s : ByteArray) (w : World) (h : PzAt w A p) (h1 : IntsAt w A1 trk) (hl : trk.length ≤ 1048576) (hsz : s.size ≤ 1048576) :
    Calls Try.prog 38 #[.agg #[.int .i64 p.pts, .string p.names, .slice A p.moves.length c], .slice A1 trk.length c1, .string s] w (RdPost p trk s w) := by
  obtain ⟨w0, hw0⟩ : ∃ w0, w.alloc (.cells #[.int .i64 p.pts, .string p.names, .slice A p.moves.length c] 29) = w0 := ⟨_, rfl⟩
  have hb0 : Below w.heap.size w w0 := by rw [← hw0]; exact (by repeat (first | exact Below.refl _ _ | assumption | refine Below.setCell ?_ (by first | omega | (simp <;> omega)) _ | refine Below.alloc ?_ (by first | omega | (simp <;> omega)) _ | refine Below.drew ?_))
  have R0 : Hid (w0.heap[w.heap.size]? = some (.cells #[.int .i64 p.pts, .string p.names, .slice A p.moves.length c] 29 (0, 0))) := by rw [← hw0]; exact heap_alloc_new _ _
  have hbt := specBuild A c p A1 c1 trk w0 (h.below hb0) (h1.below hb0) hl
  obtain ⟨q, hq⟩ : ∃ q, buildQ p trk = q := ⟨_, rfl⟩
  unfold BuiltPost at hbt
  rw [hq] at hbt
  have HBT := Lib.hid hbt
  have HQ := Lib.hid hq
  have HP := Lib.hid h
  have HB0 := Lib.hid hb0
  have HW0 := Lib.hid hw0
  obtain ⟨m, hmm⟩ : ∃ m, p.moves.length = m := ⟨_, rfl⟩
  obtain ⟨L, hL⟩ : ∃ L, trk.length = L := ⟨_, rfl⟩
  rw [hmm] at R0 HBT HW0 ⊢
  rw [hL] at HBT ⊢
  have HM := Lib.hid hmm
  have HLL := Lib.hid hL
  obtain ⟨B, hB⟩ : ∃ B, rdB p trk s = B := ⟨_, rfl⟩
  have HBB := Lib.hid hB
  unfold RdPost
  rw [hB]
  obtain ⟨p0, p1, p2, -, pl⟩ := row3 R0.out
  clear h h1 hbt hq hb0 hw0 hmm hL hB
  go_enter Try.func38, Try.ntmps38
  go_wp2_with fail
  rw [HW0.out]
  refine HBT.out.mono ?_
  rintro e w1 ⟨T1, n1, k1, T2, n2, k2, T3, n3, k3, rfl, hyes, hb1⟩
  have HB1 := Lib.hid (belowStep hb1 HB0.out)
  have HY := Lib.hid hyes
  have R1 := Lib.hid (rowB hb1 R0.out)
  have hz1 := HB1.out.size
  clear hb1 hyes p0 p1 p2 pl HBT HW0
  cases q with
  | false =>
    have HNO : Hid (B = false) := HBB.out.symm.trans (rd_nobuild HQ.out)
    have HF : Hid (Fresh w.heap.size ((w1.alloc (.cells #[.slice T1 n1 k1, .slice T2 n2 k2, .slice T3 n3 k3] 34)).alloc (.cells #[] 2)) (.slice (some ⟨w1.heap.size + 1, 0, none⟩) 0 0) []) := by
      have := (Fresh.empty (B := w.heap.size) (w := w1.alloc (.cells #[.slice T1 n1 k1, .slice T2 n2 k2, .slice T3 n3 k3] 34)) (by simp; omega))
      unfold Hid
      simpa using this
    have HBx := Lib.hid ((HB1.out.alloc hz1 (.cells #[.slice T1 n1 k1, .slice T2 n2 k2, .slice T3 n3 k3] 34)).alloc (by simp; omega) (.cells #[] 2))
    go_wp2_with fail
    go_ret2
    exact ⟨_, ret_vb2 rfl HNO.out.symm, by rw [rd_no (HBB.out.trans HNO.out)]; exact HF.out, HBx.out⟩
  | true =>
    obtain ⟨rfl, hF1, ls, ds, rfl, rfl, hO, -, -, hn3, -, hs⟩ := HY.out (by first | rfl | trivial)
    clear HY
    obtain ⟨N, hT⟩ := tabR_of (r := ⟨ls, ds⟩) (res := rsb s ls.length) HQ.out hs (rsb_len _ _) (rsb_bd _ _)
    have hrd := rd_is (s := s) HQ.out hs
    have hry := fun q => rd_yes (s := s) hs q
    dsimp only at hrd hry
    have H1 := Lib.hid hF1.intsAt
    have H2 := Lib.hid hO.lat
    have HTR := Lib.hid hT
    have hde := fun (i : Nat) (Ar : Option Addr) (cr : Nat) (wx : World) (q1 : PzAt wx A p) (q2 : IntsAt wx T1 trk) (q3 : LAt wx T2 ls) (q4 : IntsAt wx Ar (rsb s ls.length)) (q5 : i < ls.length) => specDesc A c p T1 T2 T3 Ar k1 k2 ls.length k3 cr N trk ⟨ls, ds⟩ (rsb s ls.length) i wx q1 q2 q3 q4 HTR.out q5
    dsimp only at hde
    obtain ⟨n, hn⟩ : ∃ n, ls.length = n := ⟨_, rfl⟩
    rw [hn] at hde hn3 hrd hry ⊢
    rw [HM.out, HLL.out] at hde
    have HN := Lib.hid hn
    have HDE := Lib.hid hde
    have HRD := Lib.hid hrd
    have HRY := Lib.hid hry
    clear hde hrd hry hn hT hF1 hO hs
    obtain ⟨w2, hw2⟩ : ∃ w2, w1.alloc (.cells #[.slice T1 n1 k1, .slice T2 n k2, .slice T3 n k3] 34) = w2 := ⟨_, rfl⟩
    have hb2 : Below w1.heap.size w1 w2 := by rw [← hw2]; exact (by repeat (first | exact Below.refl _ _ | assumption | refine Below.setCell ?_ (by first | omega | (simp <;> omega)) _ | refine Below.alloc ?_ (by first | omega | (simp <;> omega)) _ | refine Below.drew ?_))
    have R2 : Hid (w2.heap[w1.heap.size]? = some (.cells #[.slice T1 n1 k1, .slice T2 n k2, .slice T3 n k3] 34 (0, 0))) := by rw [← hw2]; exact heap_alloc_new _ _
    have RP2 := Lib.hid (rowB hb2 R1.out)
    have HB2 := Lib.hid (belowStep hb2 HB1.out)
    have H12 := Lib.hid (H1.out.below hb2)
    have H22 := Lib.hid (H2.out.below hb2)
    have HW2 := Lib.hid hw2
    clear hw2 hb2 H1 H2
    go_wp2_with fail
    rw [HW2.out]
    obtain ⟨X, hX⟩ : ∃ X, w1.heap.size = X := ⟨_, rfl⟩
    rw [hX] at R2 ⊢
    clear hX HW2
    refine (specUn2 s n w2 hsz hn3).mono ?_
    rintro e w3 ⟨xs, v3, rfl, hxs, hFx, hb3⟩
    have HB3 := Lib.hid (belowStep hb3 HB2.out)
    have hz3 := HB3.out.size
    have R3 := Lib.hid (rowB hb3 R2.out)
    have RP3 := Lib.hid (rowB hb3 RP2.out)
    have H13 := Lib.hid (H12.out.below hb3)
    have H23 := Lib.hid (H22.out.below hb3)
    obtain ⟨ok, hok⟩ : ∃ b, rsOk s n = b := ⟨_, rfl⟩
    rw [hok] at hxs ⊢
    have HXS := Lib.hid hxs
    have HFX := Lib.hid hFx
    have HOKK := Lib.hid hok
    clear hb3 hok hxs hFx HB2 R2 RP2 H12 H22
    cases ok with
    | false =>
      have HNO : Hid (B = false) := by unfold Hid; rw [← HBB.out, HRD.out, HOKK.out]; rfl
      have HF : Hid (Fresh w.heap.size (w3.alloc (.cells #[] 2)) (.slice (some ⟨w3.heap.size, 0, none⟩) 0 0) []) := Fresh.empty hz3
      have HBx := Lib.hid (HB3.out.alloc hz3 (.cells #[] 2))
      obtain ⟨t0, t1, t2, -, tl⟩ := row3 R3.out
      go_wp2_with fail
      go_ret2
      exact ⟨_, ret_vb2 rfl HNO.out.symm, by rw [rd_no (HBB.out.trans HNO.out)]; exact HF.out, HBx.out⟩
    | true =>
      obtain rfl := HXS.out (by first | rfl | trivial)
      have HBA : Hid (B = allW (mvsOf p.moves) ls (rsb s n)) := by unfold Hid; rw [← HBB.out, HRD.out, HOKK.out]; rfl
      obtain ⟨Ar, cr, -, rfl, hIr⟩ := HFX.out.capped
      rw [rsb_len]
      have HIR := Lib.hid hIr
      obtain ⟨t0, t1, t2, -, tl⟩ := row3 R3.out
      clear hIr HXS HFX
      have HF0 : Hid (Fresh w3.heap.size (w3.alloc (.cells #[] 2)) (.slice (some ⟨w3.heap.size, 0, none⟩) 0 0) []) := Fresh.empty (Nat.le_refl _)
      have HB4 : Hid (Below w3.heap.size w3 (w3.alloc (.cells #[] 2))) := (by repeat (first | exact Below.refl _ _ | assumption | refine Below.setCell ?_ (by first | omega | (simp <;> omega)) _ | refine Below.alloc ?_ (by first | omega | (simp <;> omega)) _ | refine Below.drew ?_))
      go_wp2_with fail
      clear t0 t1 t2 tl
      go_loopw [12, 13] (fun v iv wr => ∃ k : Nat, iv = .int .i64 (k : Int) ∧ k ≤ n ∧ Hid (Fresh w3.heap.size wr v (listW (mvsOf p.moves) ls (rsb s n) k)) ∧ Hid (Below w3.heap.size w3 wr) ∧ Hid (∀ j, j < k → (distR (mvsOf p.moves) ls (rsb s n) j).isSome = true)) (fun _ iv _ => n - (intOf iv).toNat)
      case atStart => exact ⟨0, rfl, Nat.zero_le _, HF0.out, HB4.out, fun j hj => absurd hj (Nat.not_lt_zero _)⟩
      case round =>
        obtain ⟨k, rfl, hk, HF, HB, HS⟩ := hrel
        clear HF0 HB4
        have HBW := Lib.hid (belowStep HB.out HB3.out)
        have hzw := HBW.out.size
        obtain ⟨t0, t1, t2, -, tl⟩ := row3 (rowB HB.out R3.out)
        obtain ⟨p0, p1, p2, -, pl⟩ := row3 (rowB HB.out RP3.out)
        obtain ⟨ys, hys⟩ : ∃ ys, listW (mvsOf p.moves) ls (rsb s n) k = ys := ⟨_, rfl⟩
        have hyl : ys.length = k := by rw [← hys, listW_len]
        have HYL := Lib.hid hyl
        have HYS := Lib.hid hys
        rw [hys] at HF
        clear hys hyl
        by_cases hlt : k < n
        · have k0 : (k : Int) < (n : Int) := by omega
          obtain ⟨D, hD⟩ : ∃ D, distR (mvsOf p.moves) ls (rsb s n) k = D := ⟨_, rfl⟩
          have hcall := HDE.out k Ar cr wr (HP.out.below HBW.out) (H13.out.below HB.out) (H23.out.below HB.out) (HIR.out.below HB.out) hlt
          rw [hD] at hcall
          have HCALL := Lib.hid hcall
          have HDD := Lib.hid hD
          clear hcall hD
          go_wp2_with fail
          refine HCALL.out.mono ?_
          rintro e w5 ⟨rfl, hb5⟩
          have HB5 := Lib.hid (belowStep hb5 HB.out)
          have HF5 := Lib.hid (HF.out.below hb5)
          have hz5 := hb5.size
          clear hb5 t0 t1 t2 tl p0 p1 p2 pl HCALL
          cases D with
          | none =>
            have hv : dVal none = -1 := rfl
            rw [hv]
            have HNO : Hid (B = false) := by unfold Hid; rw [HBA.out]; exact allW_no (by rw [HN.out]; exact hlt) HDD.out
            have HF6 : Hid (Fresh w.heap.size (w5.alloc (.cells #[] 2)) (.slice (some ⟨w5.heap.size, 0, none⟩) 0 0) []) := Fresh.empty (by omega)
            have HBx := Lib.hid ((belowStep HB5.out HB3.out).alloc (by omega) (.cells #[] 2))
            go_wp2_with fail
            go_ret2
            exact ⟨_, ret_vb2 rfl HNO.out.symm, by rw [rd_no (HBB.out.trans HNO.out)]; exact HF6.out, HBx.out⟩
          | some d =>
            have hv : dVal (some d) = (d : Int) := rfl
            rw [hv]
            have hd0 : ¬ (d : Int) < 0 := by omega
            have hy1 : ys.length ≤ 1048576 := by have := HYL.out; omega
            have HS2 : Hid (∀ j, j < k + 1 → (distR (mvsOf p.moves) ls (rsb s n) j).isSome = true) := fun j hj => by
              rcases Nat.lt_or_ge j k with h | h
              · exact HS.out j h
              · obtain rfl : j = k := by omega
                rw [HDD.out]; rfl
            have HYN : Hid (listW (mvsOf p.moves) ls (rsb s n) (k + 1) = ys ++ [(d : Int)]) := by unfold Hid; rw [listW_more, HYS.out, HDD.out]; rfl
            go_wp2_with (first | (at_builtin; refine append_one rfl (.tmp 51) (.tmp 53) rfl w3.heap.size _ ys (d : Int) rfl (HF5.out.below (by repeat (first | exact Below.refl _ _ | assumption | refine Below.setCell ?_ (by first | omega | (simp <;> omega)) _ | refine Below.alloc ?_ (by first | omega | (simp <;> omega)) _ | refine Below.drew ?_))) w5.heap.size rfl (by simp) hy1 (by have := HB5.out.size; simp; omega) ?_; intro v6 w6 hF6 hg6 hb6))
            have HB6 : Hid (Below w3.heap.size w3 w6) := (HB5.out.alloc (by have := HB5.out.size; omega) _).trans hb6
            go_roundw
            case rel => exact ⟨k + 1, by go_num, by omega, by rw [HYN.out]; exact hF6, HB6.out, HS2.out⟩
            case measure => simp [intOf]; omega
        · obtain rfl : k = n := by omega
          have k0 : ¬ (k : Int) < (k : Int) := by omega
          have HYES : Hid (B = true) := by unfold Hid; rw [HBA.out]; exact allW_iff.2 (fun j hj => HS.out j (by rw [← HN.out]; exact hj))
          go_wp2_with fail
          go_ret2
          exact ⟨_, ret_vb2 rfl HYES.out.symm, by rw [HRY.out (HBB.out.trans HYES.out), HYS.out]; exact HF.out.mono hz3, HBW.out⟩
end
section
open Go.RowKit Grp

/-- A list of lists of numbers does not lie in a row of slices that is written. -/
theorem LAt.besides {w : World} {A : Option Addr} {ls : List (List Int)} {R : Nat} {a b c x y z : Value} {T : TypeId} (h : LAt w A ls) (hb : ∀ g off s, A = some ⟨g, off, s⟩ → g ≠ R) (hr : w.heap[R]? = some (.cells #[a, b, c] T (0, 0))) (ha : ∀ n, a ≠ .int .i64 n) (hb2 : ∀ n, b ≠ .int .i64 n) (hc : ∀ n, c ≠ .int .i64 n) :
    LAt (((w.setCell ⟨R, 0, none⟩ x).setCell ⟨R, 1, none⟩ y).setCell ⟨R, 2, none⟩ z) A ls := by
  have hk : ∀ g, g ≠ R → (((w.setCell ⟨R, 0, none⟩ x).setCell ⟨R, 1, none⟩ y).setCell ⟨R, 2, none⟩ z).heap[g]? = w.heap[g]? := fun g hg => by
    rw [heap_setCell_other _ ⟨R, 2, none⟩ g z hg, heap_setCell_other _ ⟨R, 1, none⟩ g y hg, heap_setCell_other _ ⟨R, 0, none⟩ g x hg]
  intro i hi
  obtain ⟨g, off, Ai, ci, e, h1, h2, h3, h4⟩ := h i hi
  refine ⟨g, off, Ai, ci, e, by simpa using h1, h2, (World.cell?_of_block (a := ⟨g, off + i, none⟩) (hk g (hb g off none e))).trans h3, fun k hk2 => ?_⟩
  obtain ⟨g2, o2, e2, h5, h6⟩ := h4 k hk2
  refine ⟨g2, o2, e2, by simpa using h5, (World.cell?_of_block (a := ⟨g2, o2 + k, none⟩) (hk g2 fun eR => ?_)).trans h6⟩
  subst eR
  rw [cell_of_row w g2 (o2 + k) _ _ (0, 0) hr] at h6
  match o2 + k, h6 with
  | 0, h6 => simp at h6; exact ha _ h6
  | 1, h6 => simp at h6; exact hb2 _ h6
  | 2, h6 => simp at h6; exact hc _ h6
  | n + 3, h6 => simp at h6
def PatI (R : Option Bs) (w : World) (e : Ending) (w' : World) : Prop := ∃ A1 n1 c1 A3 n3 c3, e = .returned (.tuple #[.slice A1 n1 c1, .slice A3 n3 c3, .bool R.isSome]) ∧ (∀ z, R = some z → n1 = z.ls.length ∧ LAt w' A1 z.ls ∧ ∀ b off s', A1 = some ⟨b, off, s'⟩ → w.heap.size ≤ b) ∧ Below w.heap.size w w'
def ReachI (q : Bool) (R : Option Bs) (w : World) (e : Ending) (w' : World) : Prop := ∃ A1 n1 c1 A3 n3 c3, e = .returned (.tuple #[.slice A1 n1 c1, .slice A3 n3 c3, .bool q]) ∧ (q = true → ∀ z, R = some z → n1 = z.ls.length ∧ LAt w' A1 z.ls ∧ ∀ b off s', A1 = some ⟨b, off, s'⟩ → w.heap.size ≤ b) ∧ Below w.heap.size w w'
def BuildI (q : Bool) (R : Option Bs) (w : World) (e : Ending) (w' : World) : Prop := ∃ A1 n1 c1 A2 n2 c2 A3 n3 c3, e = .returned (.tuple #[.agg #[.slice A1 n1 c1, .slice A2 n2 c2, .slice A3 n3 c3], .bool q]) ∧ (q = true → ∀ z, R = some z → n2 = z.ls.length ∧ LAt w' A2 z.ls) ∧ Below w.heap.size w w'
set_option maxRecDepth 100000 in
set_option maxHeartbeats 8000000 in
theorem implPats2 (A : Option Addr) (c : Nat) (p : Pz) (A2 : Option Addr) (c2 : Nat) (trk : List Int) (N : Nat) (w : World) (h : PzAt w A p) (hx : IntsAt w A2 trk) (hmv : MvsOk N p.moves) (hm8 : p.moves.length ≤ 8) (hN : N ≤ 20) (ht : PtsOk N trk.length trk) (hne : 0 < trk.length) (hl : trk.length ≤ 1048576) :
    Calls Try.prog 118 #[.agg #[.int .i64 p.pts, .string p.names, .slice A p.moves.length c], .slice A2 trk.length c2] w (PatI (searchB (mvsOf p.moves) trk) w) := by
  obtain ⟨R, hR⟩ : ∃ R, searchB (mvsOf p.moves) trk = R := ⟨_, rfl⟩
  rw [hR]
  have HRR := Lib.hid hR
  have hA2 : A2 ≠ none := fun e => by
    obtain ⟨b, off, e2, -⟩ := hx 0 hne
    rw [e] at e2; cases e2
  have HP := Lib.hid h
  have HX := Lib.hid hx
  have HMV := Lib.hid hmv
  have HT := Lib.hid ht
  have HALL := Lib.hid hmv.all
  clear hR h hx hmv ht
  obtain ⟨w0, hw0⟩ : ∃ w0, w.alloc (.cells #[.int .i64 p.pts, .string p.names, .slice A p.moves.length c] 29) = w0 := ⟨_, rfl⟩
  have hb0 : Below w.heap.size w w0 := by rw [← hw0]; exact (by repeat (first | exact Below.refl _ _ | assumption | refine Below.setCell ?_ (by first | omega | (simp <;> omega)) _ | refine Below.alloc ?_ (by first | omega | (simp <;> omega)) _ | refine Below.drew ?_))
  have hz0 : w0.heap.size = w.heap.size + 1 := by rw [← hw0]; simp
  have HR0 := Lib.hid (show w0.heap[w.heap.size]? = some (.cells #[.int .i64 p.pts, .string p.names, .slice A p.moves.length c] 29 (0, 0)) by rw [← hw0]; exact heap_alloc_new _ _)
  go_enter Try.func118, Try.ntmps118
  go_wp2_with fail
  clear hw0
  refine (cloneInts A2 c2 trk _ (HX.out.below hb0) hl hA2).mono ?_
  rintro e w1 ⟨v1, rfl, hF1, hb1⟩
  obtain ⟨A1, c1, hc1, rfl, hI1⟩ := hF1.capped
  have HF1 := Lib.hid hF1
  have HI1 := Lib.hid hI1
  obtain ⟨w3, hw3⟩ : ∃ w3, ((w1.alloc (.cells #[.slice A1 trk.length c1] 31)).alloc (.cells #[.int .i64 0] 2)).alloc (.map #[] 0) = w3 := ⟨_, rfl⟩
  have hb3 : Below w1.heap.size w1 w3 := by rw [← hw3]; exact (by repeat (first | exact Below.refl _ _ | assumption | refine Below.setCell ?_ (by first | omega | (simp <;> omega)) _ | refine Below.alloc ?_ (by first | omega | (simp <;> omega)) _ | refine Below.drew ?_))
  have hz3 : w3.heap.size = w1.heap.size + 3 := by rw [← hw3]; simp
  have HL3 := Lib.hid (show w3.heap[w1.heap.size]? = some (.cells #[.slice A1 trk.length c1] 31 (0, 0)) by rw [← hw3]; exact alloc3_0 _ _ _ _)
  have HD3 := Lib.hid (show w3.heap[w1.heap.size + 1]? = some (.cells #[.int .i64 0] 2 (0, 0)) by rw [← hw3]; exact alloc3_1 _ _ _ _)
  have HS3 := Lib.hid (show SeenAt w3 (w1.heap.size + 1 + 1) 0 [] by rw [← hw3]; have := SeenAt.made ((w1.alloc (.cells #[.slice A1 trk.length c1] 31)).alloc (.cells #[.int .i64 0] 2)); simpa using this)
  have hmm := @run_makeMap Try.prog
  clear hF1 hI1
  go_wp2_with fail
  clear hw3 hmm
  refine (keyOf A2 c2 trk _ ((HX.out.below hb0).below (belowStep hb3 hb1)) hl (HT.out.byt (by omega))).mono ?_
  rintro e w4 ⟨rfl, hb4⟩
  have HB4 := Lib.hid hb4
  have HS4 := Lib.hid (HS3.out.below hb4)
  obtain ⟨key, hkey⟩ : ∃ key, strOfNums trk = key := ⟨_, rfl⟩
  have hks : key.size ≤ maxLen := by rw [← hkey, strOfNums_size]; unfold maxLen; omega
  rw [hkey]
  have HKEY := Lib.hid hkey
  clear hb4 hkey HS3
  have HBX4 := Lib.hid (rowB HB4.out (rowB hb3 (rowB hb1 HR0.out)))
  have hz1 := hb1.size
  have hz4 := HB4.out.size
  go_wp2_with (first | (refine wpList_see rfl (.tmp 22) (.tmp 24) (.const (.bool true)) (Or.inr rfl) (w1.heap.size + 1 + 1) 0 [] key rfl rfl rfl HS4.out hks (by unfold maxLen; omega) ?_; intro w5 hS5 hg5; have HBX5 := Lib.hid (rowR hg5 HBX4.out (fun e => by injection e with e; omega)); have c5 := cell_of_row w5 w.heap.size 2 _ _ (0, 0) HBX5.out))
  clear c5
  refine (implLetters p.moves.length _ (by omega)).mono ?_
  rintro e w6 ⟨v6, rfl, hF6, hb6⟩
  obtain ⟨A6, c6, hc6, rfl, hI6⟩ := hF6.capped
  have HI6 := Lib.hid hI6
  have hl6 := letsOf_len p.moves.length
  rw [hl6] at hc6 hF6 ⊢
  have hz5 := hg5.size
  have hz6 := hb6.size
  have HBX6 := Lib.hid (rowB hb6 HBX5.out)
  have HB56 : Hid (Below w1.heap.size w1 w5) := (belowStep HB4.out hb3).grown hg5 (by omega) (fun b hb => by injection hb with hb; omega)
  have HBEL6 := Lib.hid (belowStep hb6 (belowStep HB56.out (belowStep hb1 hb0)))
  have HSEEN6 := Lib.hid (hS5.below hb6)
  have HLST6 : Hid (GrAt w0.heap.size (fun b => b = w1.heap.size + 1 + 1 ∨ b = w1.heap.size + 1 ∨ w6.heap.size ≤ b) w6 (.slice (some ⟨w1.heap.size, 0, none⟩) 1 1) [trk]) := by
    have hI : IntsAt w6 A1 trk := (HI1.out.below HB56.out).below hb6
    refine GrAt.one (rowB hb6 (rowR hg5 (rowB HB4.out HL3.out) (fun e => by injection e with e; omega))) (by omega) hc1 hI (by omega) fun g2 off s e => ?_
    have := (World.ownsRow.lt HF1.out g2 (by rw [e]; rfl)).2
    omega
  have HDEP6 : Hid (Fresh w0.heap.size w6 (.slice (some ⟨w1.heap.size + 1, 0, none⟩) 1 1) [0]) := Fresh.one0 (rowB hb6 (rowR hg5 (rowB HB4.out HD3.out) (fun e => by injection e with e; omega))) (by omega)
  clear hF6 hI6 hb6 hS5 hg5
  go_wp2_with fail
  obtain ⟨m, hm⟩ : ∃ m, p.moves.length = m := ⟨_, rfl⟩
  rw [hm] at hm8 hc6 HBX6 HI6 ⊢
  have HM := Lib.hid hm
  have hml : (mvsOf p.moves).length = 2 * m := by rw [mvsOf_len, hm]
  have HML := Lib.hid hml
  clear hm hml hl6 HBX5 HBX4 HR0 HL3 HD3 HS4 HB56 HB4
  go_loopw [10, 31] (fun vm i wr => ∃ k : Nat, k ≤ 2 * m ∧ i = .int .i64 k ∧ GrAt w6.heap.size (fun b => w0.heap.size ≤ b ∧ b < w6.heap.size) wr vm ((mvsOf p.moves).take k) ∧ Below w6.heap.size w6 wr) (fun _ i _ => 2 * m - (intOf i).toNat)
  case atStart => exact ⟨0, Nat.zero_le _, rfl, GrAt.nil _ _ _, Below.refl _ _⟩
  case round =>
    obtain ⟨k, hk, rfl, hG, hB⟩ := hrel
    have HB := Lib.hid hB
    have hzB := hB.size
    by_cases hlt : k < 2 * m
    · obtain ⟨b, off, hA6, hbl, hc0⟩ := (HI6.out.below hB) k (by rw [letsOf_len]; exact hlt)
      obtain ⟨y, hy⟩ : ∃ y, (letsOf m).getD k 0 = y := ⟨_, rfl⟩
      rw [hy] at hc0
      have HY := Lib.hid hy
      subst hA6
      have cbx := cell_of_row wr w.heap.size 2 _ _ (0, 0) (rowB hB HBX6.out)
      have p0 : (0 : Int) ≤ (k : Int) := by omega
      have p1 : (k : Int) < 2 * (m : Int) := by omega
      have HG := Lib.hid hG
      clear hG hB hy
      go_wp2_with fail
      have hcall := implLetterAt A c N p.moves k w wr HP.out.at_ (belowStep HB.out HBEL6.out) (by rw [HM.out]; exact hlt) (by rw [HM.out]; omega) HMV.out (by omega)
      rw [HM.out, HY.out] at hcall
      refine hcall.mono ?_
      rintro e w7 ⟨Ay, cy, rfl, hcy, hIy, hsep, hb7⟩
      obtain ⟨ys, hys⟩ : ∃ ys, (mvsOf p.moves).getD k [] = ys := ⟨_, rfl⟩
      rw [hys] at hcy hIy hsep ⊢
      have HYS := Lib.hid hys
      have HCY := Lib.hid hcy
      have HIY := Lib.hid hIy
      have HSEP := Lib.hid hsep
      obtain ⟨qs, hqs⟩ : ∃ qs, (mvsOf p.moves).take k = qs := ⟨_, rfl⟩
      have hql : qs.length = k := by rw [← hqs, List.length_take, HML.out]; omega
      rw [hqs] at HG
      have HQS := Lib.hid hqs
      have HG7 := Lib.hid (HG.out.below hb7)
      have HGO := Lib.hid HG.out.own
      have HB7 := Lib.hid hb7
      have hz7 := hb7.size
      clear hcall hys hcy hIy hsep hb7 cbx hc0 hqs
      have hq1 : qs.length ≤ 1048576 := by omega
      have HQL := Lib.hid hql
      clear hql
      go_wp2_with (first | (at_builtin; refine append_gr rfl (.tmp 35) (.tmp 40) rfl w6.heap.size _ u10 qs ys Ay cy rfl (HG7.out.below (by repeat (first | exact Below.refl _ _ | assumption | refine Below.setCell ?_ (by first | omega | (simp <;> omega)) _ | refine Below.alloc ?_ (by first | omega | (simp <;> omega)) _ | refine Below.drew ?_))) (fun b hb => by simp; omega) w7.heap.size rfl (by simp) HCY.out (HIY.out.below (by repeat (first | exact Below.refl _ _ | assumption | refine Below.setCell ?_ (by first | omega | (simp <;> omega)) _ | refine Below.alloc ?_ (by first | omega | (simp <;> omega)) _ | refine Below.drew ?_))) (fun h0 g off s e => ⟨fun h1 => by rcases HSEP.out h0 g off s e with h2 | h2 <;> omega, fun e2 => by have := HGO.out g e2; rcases HSEP.out h0 g off s e with h2 | h2 <;> omega⟩) hq1 (by simp; omega) ?_; intro A8 c8 w8 hG8 hg8 hat8))
      have hB8 : Below w6.heap.size w6 w8 := (((belowStep HB7.out HB.out).alloc (by omega) _).grown hg8 (by simp; omega) (fun b hb => (HGO.out b hb).1))
      go_roundw
      case rel => exact ⟨k + 1, by omega, by go_num, by rw [take_snocL _ _ (by rw [HML.out]; exact hlt), HQS.out, HYS.out]; exact hG8, hB8⟩
      case measure => simp [intOf]; omega
    · obtain rfl : k = 2 * m := by omega
      rw [List.take_of_length_le (by rw [HML.out]; omega)] at hG
      obtain ⟨Am, cm, hvm, hcm, -⟩ := hG.shape
      rw [HML.out] at hvm hcm
      subst hvm
      have HST : Hid (StAt NoZ w0.heap.size (w1.heap.size + 1 + 1) wr (.slice (some ⟨w1.heap.size, 0, none⟩) 1 1) (.slice (some ⟨w1.heap.size + 1, 0, none⟩) 1 1) (.slice Am (2 * m) cm) (mvsOf p.moves) [trk] [0] 1 [key]) := by
        have ho := hG.own
        refine ⟨(HLST6.out.below hB).weak (Nat.le_refl _) (fun b hb => ?_), (HDEP6.out.row (gB hB none) (fun b _ e => by cases e)), hG.weak (by omega) (fun b hb => ?_), HSEEN6.out.below hB, fun b hz => hz.elim, fun b _ hz => hz, fun hz => hz⟩
        · rcases hb with e | e | e | e
          · exact e.elim
          · exact .inl e
          · injection e with e; exact .inr (.inl e.symm)
          · exact .inr (.inr (ho b e).1)
        · rcases hb with e | e | e | e
          · exact e.elim
          · omega
          · injection e with e; simp only at e; omega
          · injection e with e; simp only at e; omega
      obtain ⟨mvs, hmvs⟩ : ∃ mvs, mvsOf p.moves = mvs := ⟨_, rfl⟩
      rw [hmvs] at HST HALL HML HRR
      obtain ⟨bm, hbm⟩ : ∃ bm, w1.heap.size + 1 + 1 = bm := ⟨_, rfl⟩
      obtain ⟨lo, hlo⟩ : ∃ lo, w0.heap.size = lo := ⟨_, rfl⟩
      have hwlo : w.heap.size ≤ lo := by omega
      have hwbm : w.heap.size ≤ bm := by omega
      have HP0 : Hid (PatRel lo bm w wr (.slice (some ⟨w1.heap.size, 0, none⟩) 1 1) (.slice (some ⟨w1.heap.size + 1, 0, none⟩) 1 1) (.slice Am (2 * m) cm) mvs N trk.length ⟨[trk], [0]⟩) := by
        refine ⟨⟨[key], by rw [← hbm, ← hlo]; exact HST.out, fun t => ?_⟩, ⟨rfl, by simp, fun i hi => ?_, fun i hi => ?_⟩, belowStep hB HBEL6.out⟩
        · rw [List.mem_singleton]
          exact ⟨fun e => ⟨trk, by simp, by rw [e, HKEY.out]⟩, fun ⟨x, h1, h2⟩ => by rw [List.mem_singleton] at h1; rw [← h2, h1, HKEY.out]⟩
        · obtain rfl : i = 0 := by simpa using hi
          exact HT.out
        · obtain rfl : i = 0 := by simpa using hi
          exact ⟨by simp, by simp⟩
      rw [hbm]
      clear hG hB HLST6 HDEP6 HSEEN6 HBEL6 HBX6 HI6 HF1 HI1 HST hmvs hbm hlo HB hzB hz6 hz5 hz4 hz3 hb3 hz1 hb1 HKEY hks hz0 hb0
      go_wp2_with fail
      go_loopw [7, 8, 13] (fun vl vd i wq => ∃ (k : Nat) (s : Bs), i = .int .i64 k ∧ PatRel lo bm w wq vl vd (.slice Am (2 * m) cm) mvs N trk.length s ∧ k ≤ s.ls.length ∧ Hid (bfsB mvs (3001 - k) k s = R)) (fun _ _ i _ => 3001 - (intOf i).toNat)
      case atStart => exact ⟨0, _, rfl, HP0.out, Nat.zero_le _, HRR⟩
      case round =>
        obtain ⟨k, s, rfl, hP, hks, HBF⟩ := hrel
        clear HP0
        obtain ⟨K, hST, hKO⟩ := hP.st
        obtain ⟨Al, cl, rfl, hcl, -⟩ := hST.lists.shape
        obtain ⟨Ad, cd, -, rfl, -⟩ := hST.deps.capped
        have hcap := hP.ok.cap
        have HP1 := Lib.hid hP
        clear hST hKO hP
        by_cases hlt : k < s.ls.length
        · have p0 : (k : Int) < (s.ls.length : Int) := by omega
          have HB0 : Hid (restB mvs k 0 s = R) := by unfold Hid; rw [← bfs_row hlt hcap]; exact HBF.out
          go_wp2_with fail
          go_loopw [7, 8, 51] (fun vl vd i wq => ∃ (j : Nat) (s : Bs), i = .int .i64 j ∧ j ≤ 2 * m ∧ PatRel lo bm w wq vl vd (.slice Am (2 * m) cm) mvs N trk.length s ∧ k < s.ls.length ∧ Hid (restB mvs k j s = R)) (fun _ _ i _ => 2 * m - (intOf i).toNat)
          case atStart => exact ⟨0, _, rfl, Nat.zero_le _, HP1.out, hlt, HB0⟩
          case round =>
            obtain ⟨j, s, rfl, hj, hP, hks, HR⟩ := hrel
            clear HP1 HB0 HBF hlt p0
            obtain ⟨K, hST, hKO⟩ := hP.st
            obtain ⟨Al, cl, rfl, hcl, -⟩ := hST.lists.shape
            obtain ⟨Ad, cd, hcd, rfl, hID⟩ := hST.deps.capped
            have hok := hP.ok
            have hcap := hok.cap
            have hdl := hok.len
            rw [hdl] at hP hST hcd ⊢
            obtain ⟨bd, od, rfl, hbd, -⟩ := hID k (by omega)
            have hdp := hok.depth hks
            obtain ⟨dk, hdk⟩ : ∃ dk, s.ds.getD k 0 = dk := ⟨_, rfl⟩
            have HDK := Lib.hid hdk
            have hdk1 : depOf k s = dk + 1 := by unfold depOf; rw [hdk]
            rw [hdk1] at hdp
            have HDK1 := Lib.hid hdk1
            have hwd : IntKind.i64.wrap (dk + 1) = dk + 1 := IntWalk.i64_in _ (by omega)
            clear hdk hdk1 hID
            have hlos : lo ≤ wr.heap.size := by
              obtain ⟨gl, Ax, cx, e1, g1, -⟩ := hST.lists.at_ hks
              have := (hST.lists.own gl (by rw [e1]; rfl)).1
              omega
            by_cases hlt : j < 2 * m
            · obtain ⟨gm, Av, cv, rfl, hgm, cmv, hcv, hIv, -⟩ := hST.moves.at_ (j := j) (by rw [HML.out]; exact hlt)
              obtain ⟨gl, Ap, cp, rfl, hgl, cpt, hcp, hIp, -⟩ := hST.lists.at_ hks
              have hpo := hok.rows k hks
              have hmo := HALL.out j (by rw [HML.out]; exact hlt)
              obtain ⟨mv, hmv⟩ : ∃ mv, mvs.getD j [] = mv := ⟨_, rfl⟩
              obtain ⟨pat, hpat⟩ : ∃ pat, s.ls.getD k [] = pat := ⟨_, rfl⟩
              obtain ⟨x, hxx⟩ : ∃ x, pickI mv pat = x := ⟨_, rfl⟩
              have HNX : Hid (nextOf k (mvs.getD j []) s = x) := by unfold Hid nextOf; rw [hpat, hmv, hxx]
              rw [hmv] at hmo cmv hIv
              rw [hpat] at hpo cpt hIp
              rw [hmo.1] at cmv
              rw [hpo.1] at cpt
              have hpx := hmo.pick hpo
              rw [hxx] at hpx
              have q0 : (0 : Int) ≤ (j : Int) := by omega
              have q1 : (j : Int) < 2 * (m : Int) := by omega
              have q2 : (0 : Int) ≤ (k : Int) := by omega
              have q3 : (k : Int) < (s.ls.length : Int) := by omega
              have HP := Lib.hid hP
              have HST := Lib.hid hST
              have HKO := Lib.hid hKO
              have HOK := Lib.hid hok
              have HPX := Lib.hid hpx
              have HMO := Lib.hid hmo
              have HPO := Lib.hid hpo
              clear hP hST hKO hok hpx hmo hpo hmv hpat
              go_wp2_with fail
              have hcall := implPicked Av Ap cv cp N trk.length mv pat wr hIv hIp HMO.out HPO.out hl
              rw [hxx] at hcall
              refine hcall.mono ?_
              rintro e w7 ⟨v7, rfl, hF7, hb7⟩
              obtain ⟨A7, c7, hc7, rfl, hI7⟩ := hF7.capped
              rw [HPX.out.1] at hc7 hF7 ⊢
              have HF7 := Lib.hid hF7
              have HI7 := Lib.hid hI7
              have HB7 := Lib.hid hb7
              have hz7 := hb7.size
              clear hcall hxx hF7 hI7 hb7 cmv hIv hIp
              go_wp2_with fail
              have hcall := keyOf A7 c7 x w7 HI7.out (by rw [HPX.out.1]; exact hl) (HPX.out.byt (by omega))
              rw [HPX.out.1] at hcall
              refine hcall.mono ?_
              rintro e w8 ⟨rfl, hb8⟩
              obtain ⟨key, hkey⟩ : ∃ key, strOfNums x = key := ⟨_, rfl⟩
              have hks8 : key.size ≤ maxLen := by rw [← hkey, strOfNums_size, HPX.out.1]; unfold maxLen; omega
              rw [hkey]
              have hhas := HKO.out.has HOK.out (by omega) HPX.out
              rw [hkey] at hhas
              have HHAS := Lib.hid hhas
              obtain ⟨b, hb⟩ : ∃ b, hasK K key = b := ⟨_, rfl⟩
              have HKB := Lib.hid hb
              have HST8 := Lib.hid ((HST.out.below HB7.out).below hb8)
              have HB8 := Lib.hid (belowStep hb8 HB7.out)
              have HB78 := Lib.hid hb8
              have HKEY := Lib.hid hkey
              have hz8 := hb8.size
              clear hcall hkey hhas hb8 hb
              have HBW := Lib.hid (belowStep HB8.out HP.out.bel)
              have hlo8 : lo ≤ w8.heap.size := by omega
              cases b with
              | true =>
                have hkb : hasK K key = true := HKB.out
                have HN : Hid (restB mvs k (j + 1) s = R) := by unfold Hid; rw [← HR.out]; exact (rest_old (by rw [HML.out]; exact hlt) (by rw [HNX.out, ← HHAS.out]; exact hkb)).symm
                go_wp2_with (first | (at_lookup; refine wpList_seen rfl (.tmp 63) (.tmp 64) rfl bm s.ls.length K key rfl rfl HST8.out.seen hks8 ?_))
                go_roundw
                case rel =>
                  (repeat apply Exists.intro)
                  refine ⟨?_, rfl⟩
                  exact ⟨j + 1, s, by go_num, by omega, ⟨⟨K, HST8.out, HKO.out⟩, HOK.out, HBW.out⟩, hks, HN⟩
                case measure => simp [intOf]; omega
              | false =>
                have hkb : hasK K key = false := HKB.out
                have HNF : Hid (inL s.ls (nextOf k (mvs.getD j []) s) = false) := by unfold Hid; rw [HNX.out, ← HHAS.out]; exact hkb
                by_cases hfull : s.ls.length = 3000
                · have HN : Hid (R = none) := by unfold Hid; rw [← HR.out]; exact rest_full (by rw [HML.out]; exact hlt) HNF.out hfull
                  have hfi : ((s.ls.length : Int) == 3000) = true := by rw [hfull]; rfl
                  go_wp2_with (first | (at_lookup; refine wpList_seen rfl (.tmp 63) (.tmp 64) rfl bm s.ls.length K key rfl rfl HST8.out.seen hks8 ?_))
                  go_ret3
                  exact ⟨_, _, _, _, _, _, by rw [HN.out]; rfl, (fun z hz => by rw [HN.out] at hz; cases hz), HBW.out⟩
                · have hfi : ¬ (s.ls.length : Int) = 3000 := by omega
                  have HNE := Lib.hid hfull
                  have hl1 : s.ls.length ≤ 1048576 := by omega
                  clear hfull
                  go_wp2_with (first
                    | (at_lookup; refine wpList_seen rfl (.tmp 63) (.tmp 64) rfl bm s.ls.length K key rfl rfl HST8.out.seen hks8 ?_)
                    | (at_mapUpdate; refine wpList_see rfl (.tmp 70) (.tmp 71) (.const (.bool true)) (Or.inl rfl) bm s.ls.length K key rfl rfl rfl HST8.out.seen hks8 (by unfold maxLen; omega) ?_; intro w9 hS9 hg9; have HST9 := Lib.hid (HST8.out.see hS9 hg9); have HG9 := Lib.hid hg9; have hz9 := hg9.size; have HI9 := Lib.hid ((HI7.out.below (by exact HB78.out)).kept hg9 (fun h0 g off s e e2 => by have g1 := (World.ownsRow.lt HF7.out g (by rw [e]; rfl)).1; injection e2 with e2; have g2 := HST.out.seen.lt; omega)); clear hS9 hg9)
                    | (at_builtin; refine append_gr rfl (.tmp 72) (.tmp 74) rfl lo (ZsOf NoZ bm (.slice (some ⟨bd, od, none⟩) s.ls.length cd) (.slice (some ⟨gm, 0, none⟩) (2 * m) cm)) (.slice (some ⟨gl, 0, none⟩) s.ls.length cl) s.ls x A7 c7 rfl (HST9.out.lists.below (by repeat (first | exact Below.refl _ _ | assumption | refine Below.setCell ?_ (by first | omega | (simp <;> omega)) _ | refine Below.alloc ?_ (by first | omega | (simp <;> omega)) _ | refine Below.drew ?_))) (fun b hb => by have := HST9.out.bound b hb; simp; omega) w9.heap.size rfl (by rw [HPX.out.1]; simp) (by rw [HPX.out.1]; exact hc7) (HI9.out.below (by repeat (first | exact Below.refl _ _ | assumption | refine Below.setCell ?_ (by first | omega | (simp <;> omega)) _ | refine Below.alloc ?_ (by first | omega | (simp <;> omega)) _ | refine Below.drew ?_))) (fun h0 g off s e => HST.out.apart (World.ownsRow.lt HF7.out g (by rw [e]; rfl)).1) hl1 (by simp; omega) ?_; intro A10 c10 w10 hG10 hg10 hat10; have HST10 := Lib.hid (StAt.list (HST9.out.below (by repeat (first | exact Below.refl _ _ | assumption | refine Below.setCell ?_ (by first | omega | (simp <;> omega)) _ | refine Below.alloc ?_ (by first | omega | (simp <;> omega)) _ | refine Below.drew ?_))) hG10 hg10 hat10); have HG10 := Lib.hid hg10; have hz10 := hg10.size; have cd10 : w10.cell? ⟨bd, od + k, none⟩ = some (.int .i64 dk) := (by obtain ⟨b', o', e, -, hc⟩ := HST10.out.deps.intsAt k (by omega); injection e with e; injection e with e1 e2; subst e1; subst e2; rw [hc, HDK.out]); clear hG10 hg10 hat10)
                    | (at_builtin; refine append_at rfl (.tmp 76) (.tmp 82) rfl lo (.slice (some ⟨bd, od, none⟩) s.ls.length cd) s.ds (dk + 1) rfl (by exact (HST10.out.below (by repeat (first | exact Below.refl _ _ | assumption | refine Below.setCell ?_ (by first | omega | (simp <;> omega)) _ | refine Below.alloc ?_ (by first | omega | (simp <;> omega)) _ | refine Below.drew ?_))).deps) w10.heap.size rfl (by simp) (by omega) (by simp at hz10 ⊢; omega) ?_; intro A11 c11 w11 hF11 hg11 hat11; have HST11 := Lib.hid (StAt.dep (HST10.out.below (by repeat (first | exact Below.refl _ _ | assumption | refine Below.setCell ?_ (by first | omega | (simp <;> omega)) _ | refine Below.alloc ?_ (by first | omega | (simp <;> omega)) _ | refine Below.drew ?_))) hF11 hg11 hat11); have HG11 := Lib.hid hg11; clear hF11 hg11 hat11))
                  have HN : Hid (restB mvs k (j + 1) ⟨s.ls ++ [x], s.ds ++ [dk + 1]⟩ = R) := by
                    unfold Hid
                    rw [← HR.out, rest_new (by rw [HML.out]; exact hlt) HNF.out HNE.out, HNX.out, HDK1.out]
                  have hso := HST9.out.lists.own
                  have hdo := HST10.out.deps.block
                  have hB11 : Below w.heap.size w w11 := (((((HBW.out.grown HG9.out (by omega) (fun b hb => by injection hb with hb; omega)).alloc (by omega) _).grown HG10.out (by simp; omega) (fun b hb => by have := (hso b hb).1; omega)).alloc (by simp at hz10; omega) _).grown HG11.out (by simp at hz10 ⊢; omega) (fun b hb => by have := hdo b hb; omega))
                  go_roundw
                  case rel =>
                    (repeat apply Exists.intro)
                    refine ⟨?_, rfl⟩
                    exact ⟨j + 1, ⟨s.ls ++ [x], s.ds ++ [dk + 1]⟩, by go_num, by omega, PatRel.more (by have h := HST11.out; rw [hdl] at h; exact h) HKEY.out HKO.out HOK.out HNE.out HPX.out hdp.1 hdp.2.1 hB11, by simp; omega, HN⟩
                  case measure => simp [intOf]; omega
            · obtain rfl : j = 2 * m := by omega
              have HP := Lib.hid hP
              have HN : Hid (bfsB mvs (3001 - (k + 1)) (k + 1) s = R) := by unfold Hid; rw [← HR.out]; exact (rest_end (by rw [HML.out]; omega)).symm
              clear hP hST hKO
              go_wp2_with fail
              go_roundw
              case rel => exact ⟨k + 1, s, by go_num, HP.out, by omega, HN⟩
              case measure => simp [intOf]; omega
        · have p0 : ¬ (k : Int) < (s.ls.length : Int) := by omega
          have HE : Hid (R = some s) := by unfold Hid; rw [← HBF.out]; exact bfs_end (by omega) (by omega)
          go_wp2_with fail
          go_ret3
          exact ⟨_, _, _, _, _, _, by rw [HE.out]; rfl, (fun z hz => by
            rw [HE.out] at hz
            injection hz with hz
            subst hz
            obtain ⟨K, hST, -⟩ := HP1.out.st
            exact ⟨rfl, hST.lists.lat, fun b off s' e => by
              have := (hST.lists.own b (by rw [e]; rfl)).1
              omega⟩), HP1.out.bel⟩
set_option maxRecDepth 100000 in
set_option maxHeartbeats 1000000 in
theorem implReach2 (A : Option Addr) (c : Nat) (p : Pz) (A2 : Option Addr) (c2 : Nat) (trk : List Int) (w : World) (h : PzAt w A p) (hx : IntsAt w A2 trk) (hl : trk.length ≤ 1048576) :
    Calls Try.prog 84 #[.agg #[.int .i64 p.pts, .string p.names, .slice A p.moves.length c], .slice A2 trk.length c2] w (ReachI (buildQ p trk) (searchB (mvsOf p.moves) trk) w) := by
  have HP := Lib.hid h
  have HX := Lib.hid hx
  obtain ⟨q, hq⟩ : ∃ q, trkQ p trk = q := ⟨_, rfl⟩
  have HQ := Lib.hid hq
  have HC := Lib.hid (fun wx hw hw2 => implTrk A c p A2 c2 trk wx hw hw2 hl)
  rw [hq] at HC
  clear hx h hq
  obtain ⟨w0, hw0⟩ : ∃ w0, w.alloc (.cells #[.int .i64 p.pts, .string p.names, .slice A p.moves.length c] 29) = w0 := ⟨_, rfl⟩
  have hb : Below w.heap.size w w0 := by rw [← hw0]; exact (by repeat (first | exact Below.refl _ _ | assumption | refine Below.setCell ?_ (by first | omega | (simp <;> omega)) _ | refine Below.alloc ?_ (by first | omega | (simp <;> omega)) _ | refine Below.drew ?_))
  have r0 : w0.heap[w.heap.size]? = some (.cells #[.int .i64 p.pts, .string p.names, .slice A p.moves.length c] 29 (0, 0)) := by rw [← hw0]; exact heap_alloc_new _ _
  obtain ⟨p0, p1, p2, -, -⟩ := row3 r0
  have HR0 := Lib.hid r0
  clear r0
  go_enter Try.func84, Try.ntmps84
  go_wp2_with fail
  clear hw0
  refine (HC.out _ (HP.out.below hb) (HX.out.below hb)).mono ?_
  rintro e w1 ⟨rfl, hb1⟩
  have hr1 := rowB hb1 HR0.out
  have hB1 := belowStep hb1 hb
  clear p0 p1 p2 hb1 hb
  obtain ⟨p0, p1, p2, -, -⟩ := row3 hr1
  clear hr1
  cases q with
  | false =>
    have HF : Hid (buildQ p trk = false) := by unfold Hid; rw [buildQ, HQ.out]; rfl
    go_wp2_with fail
    go_ret3
    exact ⟨_, _, _, _, _, _, by rw [HF.out]; rfl, (fun hq => by rw [HF.out] at hq; cases hq), hB1⟩
  | true =>
    obtain ⟨N, hN, hN20, hmv, hm8, hpt, hne⟩ := trk_parts HQ.out
    have HF : Hid (buildQ p trk = (searchB (mvsOf p.moves) trk).isSome) := by unfold Hid; rw [buildQ, HQ.out]; rfl
    have HMV := Lib.hid hmv
    have HPT := Lib.hid hpt
    have HNN := Lib.hid hN
    clear hmv hpt hN
    go_wp2_with fail
    refine (implPats2 A c p A2 c2 trk N _ (HP.out.below hB1) (HX.out.below hB1) HMV.out hm8 hN20 HPT.out hne hl).mono ?_
    rintro e w2 ⟨B1, n1, k1, B3, n3, k3, rfl, hc2, hb2⟩
    have HC2 := Lib.hid hc2
    have hz1 := hB1.size
    clear hc2
    have hB2 := belowStep hb2 hB1
    obtain ⟨b, hb⟩ : ∃ b, (searchB (mvsOf p.moves) trk).isSome = b := ⟨_, rfl⟩
    rw [hb] at HF ⊢
    clear hb hb2
    go_wp2_with fail
    go_ret3
    exact ⟨_, _, _, _, _, _, by rw [HF.out]; rfl, (fun _ z hz => by
      obtain ⟨g1, g2, g3⟩ := HC2.out z hz
      exact ⟨g1, g2, fun b off s' e => Nat.le_trans hz1 (g3 b off s' e)⟩), hB2⟩
set_option maxRecDepth 100000 in
set_option maxHeartbeats 1000000 in
theorem implBuild2 (A : Option Addr) (c : Nat) (p : Pz) (A2 : Option Addr) (c2 : Nat) (trk : List Int) (w : World) (h : PzAt w A p) (hx : IntsAt w A2 trk) (hl : trk.length ≤ 1048576) :
    Calls Try.prog 50 #[.agg #[.int .i64 p.pts, .string p.names, .slice A p.moves.length c], .slice A2 trk.length c2] w (BuildI (buildQ p trk) (searchB (mvsOf p.moves) trk) w) := by
  have HP := Lib.hid h
  have HX := Lib.hid hx
  have hA2 : buildQ p trk = true → A2 ≠ none := fun hq e => by
    unfold buildQ at hq
    rw [Bool.and_eq_true] at hq
    obtain ⟨N, -, -, -, -, -, hne⟩ := trk_parts hq.1
    obtain ⟨b, off, e2, -⟩ := hx 0 hne
    rw [e] at e2; cases e2
  obtain ⟨q, hq⟩ : ∃ q, buildQ p trk = q := ⟨_, rfl⟩
  have HQ := Lib.hid hq
  have HC := Lib.hid (fun wx hw hw2 => implReach2 A c p A2 c2 trk wx hw hw2 hl)
  rw [hq] at HC hA2 ⊢
  clear hx h hq
  obtain ⟨w0, hw0⟩ : ∃ w0, (w.alloc (.cells #[.int .i64 p.pts, .string p.names, .slice A p.moves.length c] 29)).alloc (.cells #[.slice none 0 0, .slice none 0 0, .slice none 0 0] 34) = w0 := ⟨_, rfl⟩
  have hb : Below w.heap.size w w0 := by rw [← hw0]; exact (by repeat (first | exact Below.refl _ _ | assumption | refine Below.setCell ?_ (by first | omega | (simp <;> omega)) _ | refine Below.alloc ?_ (by first | omega | (simp <;> omega)) _ | refine Below.drew ?_))
  have r0 : w0.heap[w.heap.size]? = some (.cells #[.int .i64 p.pts, .string p.names, .slice A p.moves.length c] 29 (0, 0)) := by rw [← hw0]; exact alloc2_0 _ _ _
  have r1 : w0.heap[w.heap.size + 1]? = some (.cells #[.slice none 0 0, .slice none 0 0, .slice none 0 0] 34 (0, 0)) := by rw [← hw0]; exact alloc2_1 _ _ _
  obtain ⟨p0, p1, p2, -, -⟩ := row3 r0
  have HR1 := Lib.hid r1
  have HBS : Hid (w.heap.size + 2 ≤ w0.heap.size) := by unfold Hid; rw [← hw0]; simp
  clear r0 r1
  go_enter Try.func50, Try.ntmps50
  go_wp2_with fail
  clear hw0
  refine (HC.out _ (HP.out.below hb) (HX.out.below hb)).mono ?_
  rintro e w1 ⟨B1, n1, k1, B3, n3, k3, rfl, hc1, hb1⟩
  have HC1 := Lib.hid hc1
  clear hc1
  have hr1 := rowB hb1 HR1.out
  have hB1 := belowStep hb1 hb
  clear p0 p1 p2 hb1 hb
  obtain ⟨t0, t1, t2, tf, tl⟩ := row3 hr1
  cases q with
  | false =>
    clear HP HX HC
    obtain ⟨y0, y1, y2, -, -⟩ := row3 (row3S hr1 (.slice none 0 0) (.slice none 0 0) (.slice none 0 0))
    go_wp2_with fail
    refine bodyPost_ret (v := .tuple #[.agg #[.slice none 0 0, .slice none 0 0, .slice none 0 0], .bool false]) (by simp [results, Try.results50, go_sem, y0, y1, y2]) rfl ?_
    exact ⟨_, _, _, _, _, _, _, _, _, rfl, (fun hq => by cases hq), ((hB1.setCell (p := ⟨w.heap.size + 1, 0, none⟩) (by simp) _).setCell (p := ⟨w.heap.size + 1, 1, none⟩) (by simp) _).setCell (p := ⟨w.heap.size + 1, 2, none⟩) (by simp) _⟩
  | true =>
    have hne := hA2 rfl
    go_wp2_with fail
    refine (cloneInts A2 c2 trk _ (HX.out.below hB1) hl hne).mono ?_
    rintro e w2 ⟨v3, rfl, hF2, hb2⟩
    obtain ⟨B2, k2, -, rfl, -⟩ := hF2.capped
    have hr2 := rowB hb2 hr1
    have hB2 := belowStep hb2 hB1
    clear t0 t1 t2 tf tl hr1 hF2
    obtain ⟨t0, t1, t2, tf, tl⟩ := row3 hr2
    obtain ⟨y0, y1, y2, -, -⟩ := row3 (row3S hr2 (.slice B2 trk.length k2) (.slice B1 n1 k1) (.slice B3 n3 k3))
    go_wp2_with fail
    refine bodyPost_ret (v := .tuple #[.agg #[.slice B2 trk.length k2, .slice B1 n1 k1, .slice B3 n3 k3], .bool true]) (by simp [results, Try.results50, go_sem, y0, y1, y2]) rfl ?_
    refine ⟨_, _, _, _, _, _, _, _, _, rfl, (fun _ z hz => ?_), ((hB2.setCell (p := ⟨w.heap.size + 1, 0, none⟩) (by simp) _).setCell (p := ⟨w.heap.size + 1, 1, none⟩) (by simp) _).setCell (p := ⟨w.heap.size + 1, 2, none⟩) (by simp) _⟩
    obtain ⟨g1, g2, g3⟩ := HC1.out (by first | rfl | trivial) z hz
    refine ⟨g1, LAt.besides (ls := z.ls) (g2.below hb2) (fun b off s' e => by have := g3 b off s' e; have := HBS.out; omega) hr2 (by simp) (by simp) (by simp)⟩
end
section
open Go.RowKit Grp

theorem lenLs (A : Option Addr) (n c : Nat) (w : World) : Calls Try.prog 52 #[.slice A n c] w fun e w' => e = .returned (.int .i64 (n : Int)) ∧ w = w' := by
  go_enter Try.func52, Try.ntmps52
  go_wp2_with fail
  go_ret
  exact ⟨rfl, rfl⟩
theorem rs_allIn (s : ByteArray) {n : Nat} (hn : n ≤ 3000) : allIn (rsb s n) 2 = rsNo3 s n := by
  unfold allIn rsNo3
  rw [rsb_len, decide_eq_true hn, Bool.true_and]
  rw [Bool.eq_iff_iff]
  simp only [List.all_eq_true, decide_eq_true_eq]
  refine ⟨fun h x hx => (inR_iff.1 (h x hx)).2, fun h x hx => inR_iff.2 ⟨?_, h x hx⟩⟩
  unfold rsb at hx
  obtain ⟨k, -, rfl⟩ := List.mem_map.1 hx
  exact (rsAt_bd s k).1
set_option maxRecDepth 100000 in
set_option maxHeartbeats 8000000 in
theorem implRd (A : Option Addr) (c : Nat) (p : Pz) (A1 : Option Addr) (c1 : Nat) (trk : List Int) (s : ByteArray) (w : World) (h : PzAt w A p) (h1 : IntsAt w A1 trk) (hl : trk.length ≤ 1048576) (hsz : s.size ≤ 1048576) :
    Calls Try.prog 16 #[.agg #[.int .i64 p.pts, .string p.names, .slice A p.moves.length c], .slice A1 trk.length c1, .string s] w (RdPost p trk s w) := by
  obtain ⟨w0, hw0⟩ : ∃ w0, w.alloc (.cells #[.int .i64 p.pts, .string p.names, .slice A p.moves.length c] 29) = w0 := ⟨_, rfl⟩
  have hb0 : Below w.heap.size w w0 := by rw [← hw0]; exact (by repeat (first | exact Below.refl _ _ | assumption | refine Below.setCell ?_ (by first | omega | (simp <;> omega)) _ | refine Below.alloc ?_ (by first | omega | (simp <;> omega)) _ | refine Below.drew ?_))
  have R0 : Hid (w0.heap[w.heap.size]? = some (.cells #[.int .i64 p.pts, .string p.names, .slice A p.moves.length c] 29 (0, 0))) := by rw [← hw0]; exact heap_alloc_new _ _
  have hbt := implBuild2 A c p A1 c1 trk w0 (h.below hb0) (h1.below hb0) hl
  obtain ⟨q, hq⟩ : ∃ q, buildQ p trk = q := ⟨_, rfl⟩
  unfold BuildI at hbt
  rw [hq] at hbt
  have HBT := Lib.hid hbt
  have HQ := Lib.hid hq
  have HP := Lib.hid h
  have HB0 := Lib.hid hb0
  have HW0 := Lib.hid hw0
  obtain ⟨m, hmm⟩ : ∃ m, p.moves.length = m := ⟨_, rfl⟩
  obtain ⟨L, hL⟩ : ∃ L, trk.length = L := ⟨_, rfl⟩
  rw [hmm] at R0 HBT HW0 ⊢
  rw [hL] at HBT ⊢
  have HM := Lib.hid hmm
  have HLL := Lib.hid hL
  obtain ⟨B, hB⟩ : ∃ B, rdB p trk s = B := ⟨_, rfl⟩
  have HBB := Lib.hid hB
  unfold RdPost
  rw [hB]
  obtain ⟨p0, p1, p2, -, pl⟩ := row3 R0.out
  clear h h1 hbt hq hb0 hw0 hmm hL hB
  go_enter Try.func16, Try.ntmps16
  go_wp2_with fail
  rw [HW0.out]
  refine HBT.out.mono ?_
  rintro e w1 ⟨T1, n1, k1, T2, n2, k2, T3, n3, k3, rfl, hyes, hb1⟩
  have HB1 := Lib.hid (belowStep hb1 HB0.out)
  have HY := Lib.hid hyes
  have R1 := Lib.hid (rowB hb1 R0.out)
  have hz1 := HB1.out.size
  clear hb1 hyes p0 p1 p2 pl HBT HW0
  cases q with
  | false =>
    have HNO : Hid (B = false) := HBB.out.symm.trans (rd_nobuild HQ.out)
    have HBx := Lib.hid (HB1.out.alloc hz1 (.cells #[.slice T1 n1 k1, .slice T2 n2 k2, .slice T3 n3 k3] 34))
    go_wp2_with fail
    go_ret2
    exact ⟨_, ret_vb2 rfl HNO.out.symm, by rw [rd_no (HBB.out.trans HNO.out)]; exact Fresh.nil _ _, HBx.out⟩
  | true =>
    have hbs : (searchB (mvsOf p.moves) trk).isSome = true := by
      have h2 := HQ.out
      unfold buildQ at h2
      rw [Bool.and_eq_true] at h2
      exact h2.2
    obtain ⟨r, hs⟩ := Option.isSome_iff_exists.1 hbs
    obtain ⟨rfl, hlat⟩ := HY.out (by first | rfl | trivial) r hs
    clear HY hbs
    obtain ⟨N, hT⟩ := tabR_of (r := r) (res := rsb s r.ls.length) HQ.out hs (rsb_len _ _) (rsb_bd _ _)
    have hn3 := hT.len
    have hrd := rd_is (s := s) HQ.out hs
    have hry := fun q => rd_yes (s := s) hs q
    have H2 := Lib.hid hlat
    have HTR := Lib.hid hT
    have hnd := fun (Ar : Option Addr) (cr : Nat) (wx : World) (q1 : PzAt wx A p) (q3 : LAt wx T2 r.ls) => implNewD A c p T1 T2 T3 Ar n1 k1 k2 n3 k3 r.ls.length cr N trk r (rsb s r.ls.length) wx q1 q3 HTR.out
    have hfr := fun (G i : Nat) (Ar An : Option Addr) (cr cn : Nat) (wx : World) (q1 : DsAt wx G (mvsOf p.moves) r.ls Ar r.ls.length cr An cn) (q2 : IntsAt wx Ar (rsb s r.ls.length)) (q3 : i < r.ls.length) => implFrom G p Ar An cr cn N trk r (rsb s r.ls.length) i wx q1 q2 HTR.out q3
    obtain ⟨n, hn⟩ : ∃ n, r.ls.length = n := ⟨_, rfl⟩
    rw [hn] at hnd hfr hn3 hrd hry ⊢
    rw [HM.out] at hnd
    have HN := Lib.hid hn
    have HND := Lib.hid hnd
    have HFR := Lib.hid hfr
    have HRD := Lib.hid hrd
    have HRY := Lib.hid hry
    clear hnd hfr hrd hry hn hT hlat hs
    obtain ⟨w2, hw2⟩ : ∃ w2, w1.alloc (.cells #[.slice T1 n1 k1, .slice T2 n k2, .slice T3 n3 k3] 34) = w2 := ⟨_, rfl⟩
    have hb2 : Below w1.heap.size w1 w2 := by rw [← hw2]; exact (by repeat (first | exact Below.refl _ _ | assumption | refine Below.setCell ?_ (by first | omega | (simp <;> omega)) _ | refine Below.alloc ?_ (by first | omega | (simp <;> omega)) _ | refine Below.drew ?_))
    have R2 : Hid (w2.heap[w1.heap.size]? = some (.cells #[.slice T1 n1 k1, .slice T2 n k2, .slice T3 n3 k3] 34 (0, 0))) := by rw [← hw2]; exact heap_alloc_new _ _
    have RP2 := Lib.hid (rowB hb2 R1.out)
    have HB2 := Lib.hid (belowStep hb2 HB1.out)
    have H22 := Lib.hid (H2.out.below hb2)
    have HW2 := Lib.hid hw2
    clear hw2 hb2 H2
    go_wp2_with (first | (go_at_call 52; refine (lenLs _ _ _ _).mono ?_; rintro e w' ⟨rfl, rfl⟩))
    rw [HW2.out]
    obtain ⟨X, hX⟩ : ∃ X, w1.heap.size = X := ⟨_, rfl⟩
    rw [hX] at R2 ⊢
    clear hX HW2
    refine (implUn2 s n w2 hsz hn3).mono ?_
    rintro e w3 ⟨xs, v3, ok, rfl, hok1, hok2, hFx, hb3⟩
    have HB3 := Lib.hid (belowStep hb3 HB2.out)
    have hz3 := HB3.out.size
    have R3 := Lib.hid (rowB hb3 R2.out)
    have RP3 := Lib.hid (rowB hb3 RP2.out)
    have H23 := Lib.hid (H22.out.below hb3)
    have HOK1 := Lib.hid hok1
    have HOK2 := Lib.hid hok2
    have HFX := Lib.hid hFx
    clear hb3 hok1 hok2 hFx HB2 R2 RP2 H22
    cases ok with
    | false =>
      have HNO : Hid (B = false) := by unfold Hid; rw [← HBB.out, HRD.out, HOK2.out (by first | rfl | trivial)]; rfl
      go_wp2_with fail
      go_ret2
      exact ⟨_, ret_vb2 rfl HNO.out.symm, by rw [rd_no (HBB.out.trans HNO.out)]; exact Fresh.nil _ _, HB3.out⟩
    | true =>
      obtain ⟨hxs, hno3⟩ := HOK1.out (by first | rfl | trivial)
      subst hxs
      have HNO3 := Lib.hid hno3
      obtain ⟨Ar, cr, -, rfl, hIr⟩ := HFX.out.capped
      have hai := implAllIn Ar cr (rsb s n) 2 w3 hIr (by rw [rsb_len]; omega)
      rw [rs_allIn s hn3, rsb_len] at hai
      obtain ⟨a, ha⟩ : ∃ a, rsNo3 s n = a := ⟨_, rfl⟩
      rw [ha] at hai HNO3
      rw [rsb_len]
      have HAI := Lib.hid hai
      have HA := Lib.hid ha
      have HIR := Lib.hid hIr
      clear hIr HOK1 HOK2 HFX hno3 hai ha
      go_wp2_with fail
      refine HAI.out.mono ?_
      rintro e w4 ⟨rfl, hb4⟩
      have HB4 := Lib.hid (belowStep hb4 HB3.out)
      have hz4 := HB4.out.size
      have R4 := Lib.hid (rowB hb4 R3.out)
      have RP4 := Lib.hid (rowB hb4 RP3.out)
      have H24 := Lib.hid (H23.out.below hb4)
      have HIR4 := Lib.hid (HIR.out.below hb4)
      clear hb4 R3 RP3 H23 HIR HAI
      cases a with
      | false =>
        have HNO : Hid (B = false) := by
          unfold Hid
          rw [← HBB.out, HRD.out]
          have : rsOk s n = false := by unfold rsOk; rw [HA.out]; simp
          rw [this]
          rfl
        go_wp2_with fail
        go_ret2
        exact ⟨_, ret_vb2 rfl HNO.out.symm, by rw [rd_no (HBB.out.trans HNO.out)]; exact Fresh.nil _ _, HB4.out⟩
      | true =>
        have HBA : Hid (B = allW (mvsOf p.moves) r.ls (rsb s n)) := by unfold Hid; rw [← HBB.out, HRD.out, HNO3.out (by first | rfl | trivial)]; rfl
        obtain ⟨t0, t1, t2, -, tl⟩ := row3 R4.out
        obtain ⟨p0, p1, p2, -, pl⟩ := row3 RP4.out
        go_wp2_with fail
        refine (HND.out Ar cr w4 (HP.out.below HB4.out) H24.out).mono ?_
        rintro e w5 ⟨G, An, cn, rfl, hrow, hGw, hnx, hb5⟩
        have HDS : Hid (DsAt w5 G (mvsOf p.moves) r.ls Ar n cr An cn) := ⟨hrow, hnx⟩
        have HB5 := Lib.hid (belowStep hb5 HB4.out)
        have hz5 := HB5.out.size
        have R5 := Lib.hid (rowB hb5 R4.out)
        have HIR5 := Lib.hid (HIR4.out.below hb5)
        clear hrow hnx hb5 t0 t1 t2 tl p0 p1 p2 pl
        obtain ⟨t0, t1, t2, -, tl⟩ := row3 R5.out
        have HF0 : Hid (Fresh w5.heap.size w5 (.slice none 0 0) (listW (mvsOf p.moves) r.ls (rsb s n) 0)) := Fresh.nil _ _
        go_wp2_with fail
        clear t0 t1 t2 tl
        go_loopw [12, 46] (fun v iv wr => ∃ k : Nat, iv = .int .i64 (k : Int) ∧ k ≤ n ∧ Hid (Fresh w5.heap.size wr v (listW (mvsOf p.moves) r.ls (rsb s n) k)) ∧ Hid (Below w5.heap.size w5 wr) ∧ Hid (∀ j, j < k → (distR (mvsOf p.moves) r.ls (rsb s n) j).isSome = true)) (fun _ iv _ => n - (intOf iv).toNat)
        case atStart => exact ⟨0, rfl, Nat.zero_le _, HF0.out, Below.refl _ _, fun j hj => absurd hj (Nat.not_lt_zero _)⟩
        case round =>
          obtain ⟨k, rfl, hk, HF, HB, HS⟩ := hrel
          clear HF0
          have HBW := Lib.hid (belowStep HB.out HB5.out)
          have hzw := HBW.out.size
          obtain ⟨ys, hys⟩ : ∃ ys, listW (mvsOf p.moves) r.ls (rsb s n) k = ys := ⟨_, rfl⟩
          have hyl : ys.length = k := by rw [← hys, listW_len]
          have HYL := Lib.hid hyl
          have HYS := Lib.hid hys
          rw [hys] at HF
          clear hys hyl
          by_cases hlt : k < n
          · have k0 : (k : Int) < (n : Int) := by omega
            obtain ⟨D, hD⟩ : ∃ D, distR (mvsOf p.moves) r.ls (rsb s n) k = D := ⟨_, rfl⟩
            have hcall := HFR.out G k Ar An cr cn wr (HDS.out.below HB.out) (HIR5.out.below HB.out) hlt
            rw [hD] at hcall
            have HCALL := Lib.hid hcall
            have HDD := Lib.hid hD
            clear hcall hD
            go_wp2_with fail
            refine HCALL.out.mono ?_
            rintro e w6 ⟨z, rfl, hz, hb6⟩
            have HB6 := Lib.hid (belowStep hb6 HB.out)
            have HF6 := Lib.hid (HF.out.below hb6)
            have hz6 := hb6.size
            clear hb6 HCALL
            cases D with
            | none =>
              have HNO : Hid (B = false) := by unfold Hid; rw [HBA.out]; exact allW_no (by rw [HN.out]; exact hlt) HDD.out
              have HBx := Lib.hid (belowStep HB6.out HB5.out)
              have e0 : (none : Option Nat).isSome = false := rfl
              rw [e0]
              go_wp2_with fail
              go_ret2
              exact ⟨_, ret_vb2 rfl HNO.out.symm, by rw [rd_no (HBB.out.trans HNO.out)]; exact Fresh.nil _ _, HBx.out⟩
            | some d =>
              obtain rfl := hz d rfl
              have e0 : (some d : Option Nat).isSome = true := rfl
              rw [e0]
              have hy1 : ys.length ≤ 1048576 := by have := HYL.out; omega
              have HS2 : Hid (∀ j, j < k + 1 → (distR (mvsOf p.moves) r.ls (rsb s n) j).isSome = true) := fun j hj => by
                rcases Nat.lt_or_ge j k with h | h
                · exact HS.out j h
                · obtain rfl : j = k := by omega
                  rw [HDD.out]; rfl
              have HYN : Hid (listW (mvsOf p.moves) r.ls (rsb s n) (k + 1) = ys ++ [(d : Int)]) := by unfold Hid; rw [listW_more, HYS.out, HDD.out]; rfl
              clear hz
              go_wp2_with (first | (at_builtin; refine append_one rfl (.tmp 57) (.tmp 59) rfl w5.heap.size _ ys (d : Int) rfl (HF6.out.below (by repeat (first | exact Below.refl _ _ | assumption | refine Below.setCell ?_ (by first | omega | (simp <;> omega)) _ | refine Below.alloc ?_ (by first | omega | (simp <;> omega)) _ | refine Below.drew ?_))) w6.heap.size rfl (by simp) hy1 (by have := HB6.out.size; simp; omega) ?_; intro v7 w7 hF7 hg7 hb7))
              have HB7 : Hid (Below w5.heap.size w5 w7) := (HB6.out.alloc (by have := HB6.out.size; omega) _).trans hb7
              go_roundw
              case rel => exact ⟨k + 1, by go_num, by omega, by rw [HYN.out]; exact hF7, HB7.out, HS2.out⟩
              case measure => simp [intOf]; omega
          · obtain rfl : k = n := by omega
            have k0 : ¬ (k : Int) < (k : Int) := by omega
            have HYES : Hid (B = true) := by unfold Hid; rw [HBA.out]; exact allW_iff.2 (fun j hj => HS.out j (by rw [← HN.out]; exact hj))
            go_wp2_with fail
            go_ret2
            exact ⟨_, ret_vb2 rfl HYES.out.symm, by rw [HRY.out (HBB.out.trans HYES.out), HYS.out]; exact HF.out.mono hz5, HBW.out⟩
end
end Go.Proofs.Ytfhdnanbhigpmaa
