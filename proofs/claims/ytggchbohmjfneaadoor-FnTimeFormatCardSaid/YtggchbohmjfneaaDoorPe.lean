/- A time read from its display form, at the reference. Conditions: the string is no longer than the law allows. -/
import Derived.Test.YtggchbohmjfneaaDoorPd
namespace Go.Proofs.YtggchbohmjfneaaDoor
open Go.RowKit

theorem take_snocT (s : ByteArray) (k : Nat) (h : k < s.size) : s.data.toList.take (k + 1) = s.data.toList.take k ++ [s[k]] := by
  rw [List.take_succ_eq_append_getElem (by simpa using h)]; rfl
theorem vOf_snoc (l : List UInt8) (c : UInt8) : vOf (l ++ [c]) = vStep (vOf l) c := by simp [vOf]
theorem vStep_bd {p : Int × Int} {c : UInt8} {B : Int} (h0 : 0 ≤ p.1) (h1 : p.1 ≤ B) (h2 : 0 ≤ p.2) (h3 : p.2 ≤ B) (hB : 0 ≤ B) : 0 ≤ (vStep p c).1 ∧ (vStep p c).1 ≤ 10 * B + 9 ∧ 0 ≤ (vStep p c).2 ∧ (vStep p c).2 ≤ 10 * B + 9 := by
  unfold vStep
  split
  · dsimp only; omega
  · split
    · dsimp only; omega
    · omega
theorem vOf_bd (l : List UInt8) : ∀ k, 0 ≤ (vOf (l.take k)).1 ∧ (vOf (l.take k)).1 ≤ 10 ^ k - 1 ∧ 0 ≤ (vOf (l.take k)).2 ∧ (vOf (l.take k)).2 ≤ 10 ^ k - 1 := by
  intro k
  induction k with
  | zero => simp [vOf]
  | succ k ih =>
    obtain ⟨a, b, d, e⟩ := ih
    have hp : (0 : Int) < 10 ^ k := Int.pow_pos (by decide)
    rw [Int.pow_succ]
    by_cases h : k < l.length
    · rw [List.take_succ_eq_append_getElem h, vOf_snoc]
      have := vStep_bd (p := vOf (l.take k)) (c := l[k]) (B := 10 ^ k - 1) a b d e (by omega)
      omega
    · rw [List.take_of_length_le (by omega : l.length ≤ k)] at a b d e
      rw [List.take_of_length_le (by omega : l.length ≤ k + 1)]
      omega
theorem pow_le12 {k : Nat} (h : k ≤ 12) : (10 : Int) ^ k ≤ 1000000000000 := by
  have : k = 0 ∨ k = 1 ∨ k = 2 ∨ k = 3 ∨ k = 4 ∨ k = 5 ∨ k = 6 ∨ k = 7 ∨ k = 8 ∨ k = 9 ∨ k = 10 ∨ k = 11 ∨ k = 12 := by omega
  rcases this with rfl | rfl | rfl | rfl | rfl | rfl | rfl | rfl | rfl | rfl | rfl | rfl | rfl <;> decide
theorem vTake_bd (l : List UInt8) {k : Nat} (h : k ≤ 12) : 0 ≤ (vOf (l.take k)).1 ∧ (vOf (l.take k)).1 ≤ 1000000000000 ∧ 0 ≤ (vOf (l.take k)).2 ∧ (vOf (l.take k)).2 ≤ 1000000000000 := by
  have h1 := vOf_bd l k
  have h3 := pow_le12 h
  omega
set_option maxRecDepth 100000 in
set_option maxHeartbeats 1000000 in
theorem specVal (s : ByteArray) (w : World) (hs : s.size ≤ 1048576) : Calls Tryd.prog 12 #[.string s] w fun e w' => e = .returned (.int .i64 (valL s.data.toList)) ∧ w = w' := by
  go_enter Tryd.func12, Tryd.ntmps12
  go_wp2_with fail
  go_loop [3, 4, 5] (fun n m i => ∃ (k : Nat) (x y : Int), k ≤ s.size ∧ k ≤ 12 ∧ i = .int .i64 k ∧ n = .int .i64 x ∧ m = .int .i64 y ∧ Hid (vOf (s.data.toList.take k) = (x, y))) (fun _ _ i => s.size - (intOf i).toNat)
  case atStart => exact ⟨0, 0, 0, Nat.zero_le _, by omega, rfl, rfl, rfl, rfl⟩
  case round =>
    obtain ⟨k, x, y, hk, hk12, rfl, rfl, rfl, HV⟩ := hrel
    have hb := vTake_bd s.data.toList hk12
    rw [HV.out] at hb
    dsimp only at hb
    obtain ⟨x0, x1, y0, y1⟩ := hb
    by_cases hlt : k < s.size ∧ k < 12
    · obtain ⟨hl, h12⟩ := hlt
      have p0 : (0 : Int) ≤ (k : Int) := by omega
      have p1 : (k : Int) < (s.size : Int) := by omega
      have p2 : (k : Int) < 12 := by omega
      have HN : Hid (vOf (s.data.toList.take (k + 1)) = vStep (x, y) s[k]) := by unfold Hid; rw [take_snocT s k hl, vOf_snoc, HV.out]
      obtain ⟨z, hz⟩ : ∃ z, s[k].toNat = z := ⟨_, rfl⟩
      have z0 : (0 : Int) ≤ (z : Int) := by omega
      have z1 : (z : Int) ≤ 255 := by have := s[k].toNat_lt; omega
      by_cases h58 : z = 58
      · subst h58
        have HN2 : Hid (vOf (s.data.toList.take (k + 1)) = (0, x)) := by
          unfold Hid
          rw [HN.out, vStep, if_pos (UInt8.toNat_inj.1 hz)]
        clear HN
        go_wp2_with fail
        go_round
        case rel => exact ⟨k + 1, 0, x, by omega, by omega, by go_num, rfl, rfl, HN2⟩
        case measure => simp [intOf]; omega
      · have f58 : ((z : Int) == 58) = false := by simp; omega
        have hne : ¬ s[k] = 58 := fun e => h58 (by rw [← hz, e]; rfl)
        by_cases hd : 48 ≤ z ∧ z ≤ 57
        · have d0 : (48 : Int) ≤ (z : Int) := by omega
          have d1 : (z : Int) ≤ 57 := by omega
          have HN2 : Hid (vOf (s.data.toList.take (k + 1)) = (x * 10 + ((z : Int) - 48), y)) := by
            unfold Hid
            rw [HN.out, vStep, if_neg hne, if_pos (by rw [hz]; exact hd), hz]
          clear HN hne
          go_wp2_with fail
          go_round
          case rel => exact ⟨k + 1, _, y, by omega, by omega, by go_num, rfl, rfl, HN2⟩
          case measure => simp [intOf]; omega
        · have HN2 : Hid (vOf (s.data.toList.take (k + 1)) = (x, y)) := by
            unfold Hid
            rw [HN.out, vStep, if_neg hne, if_neg (by rw [hz]; exact hd)]
          clear HN hne
          by_cases h48 : z < 48
          · have d0 : ¬ (48 : Int) ≤ (z : Int) := by omega
            clear hd
            go_wp2_with fail
            go_round
            case rel => exact ⟨k + 1, x, y, by omega, by omega, by go_num, rfl, rfl, HN2⟩
            case measure => simp [intOf]; omega
          · have d0 : (48 : Int) ≤ (z : Int) := by omega
            have d1 : ¬ (z : Int) ≤ 57 := by omega
            clear hd h48
            go_wp2_with fail
            go_round
            case rel => exact ⟨k + 1, x, y, by omega, by omega, by go_num, rfl, rfl, HN2⟩
            case measure => simp [intOf]; omega
    · have HF : Hid (valL s.data.toList = y * 6000 + x) := by
        unfold Hid valL
        have e : s.data.toList.take 12 = s.data.toList.take k := by
          have hsz : s.data.toList.length = s.size := by simp
          rcases Nat.lt_or_ge k s.size with h | h
          · rw [show k = 12 from by omega]
          · rw [List.take_of_length_le (by omega), List.take_of_length_le (by omega)]
        rw [e, HV.out]
      by_cases hl : k < s.size
      · have h12 : k = 12 := by omega
        subst h12
        have p1 : (12 : Int) < (s.size : Int) := by omega
        clear hlt
        go_wp2_with fail
        go_ret
        exact ⟨ret_int HF.out.symm, rfl⟩
      · have p1 : ¬ (k : Int) < (s.size : Int) := by omega
        clear hlt
        go_wp2_with fail
        go_ret
        exact ⟨ret_int HF.out.symm, rfl⟩
def dnf : ByteArray := ⟨#[68, 78, 70]⟩
noncomputable def specN (s : ByteArray) : Int := if s = dnf then -1 else valL s.data.toList
noncomputable def specOk (s : ByteArray) : Bool := !(decide (s = ⟨#[]⟩)) && decide (fmtS (specN s) = s)
noncomputable def specAns (s : ByteArray) : Int := if specOk s then specN s else 0
def Parsed (n : Int) (b : Bool) (w : World) (e : Ending) (w' : World) : Prop := e = .returned (.tuple #[.int .i64 n, .bool b]) ∧ Below w.heap.size w w'
theorem ret_ib {a b : Int} {p q : Bool} (h : a = b) (h2 : p = q) : Ending.returned (.tuple #[.int .i64 a, .bool p]) = .returned (.tuple #[.int .i64 b, .bool q]) := by rw [h, h2]
set_option maxRecDepth 100000 in
set_option maxHeartbeats 1000000 in
theorem specParse (s : ByteArray) (w : World) (hs : s.size ≤ 1048576) : Calls Tryd.prog 5 #[.string s] w (Parsed (specAns s) (specOk s) w) := by
  obtain ⟨v, hv⟩ : ∃ v, valL s.data.toList = v := ⟨_, rfl⟩
  have HVAL := Lib.hid (fun wx => specVal s wx hs)
  rw [hv] at HVAL
  have ed : (⟨#[68, 78, 70]⟩ : ByteArray).toList = [68, 78, 70] := by decide +kernel
  have ee : (⟨#[]⟩ : ByteArray).toList = [] := by decide +kernel
  by_cases h1 : s = dnf
  · have t1 : (s.toList == [68, 78, 70]) = true := by rw [← ed, str_eqT]; exact decide_eq_true h1
    have hn : s ≠ ⟨#[]⟩ := by rw [h1]; decide
    have t2 : (s.toList == []) = false := by rw [← ee, str_eqT]; exact decide_eq_false hn
    have t3 : s.toList.isEmpty = false := by cases h4 : s.toList with | nil => rw [h4] at t2; simp at t2 | cons a l => rfl
    have HN : Hid (specN s = -1) := if_pos h1
    have hd1 : (⟨#[68, 78, 70]⟩ : ByteArray) = s := h1.symm
    have t4 : (![68, 78, 70] == s.toList) = false := by rw [← ed, str_eqT, decide_eq_true hd1]; rfl
    have hf : fmtS (-1) = ⟨#[68, 78, 70]⟩ := rfl
    have HF := Lib.hid (fun wx => specFmt (-1) wx)
    rw [hf] at HF
    have HOK : Hid (specOk s = true) := by unfold Hid specOk; rw [HN.out, hf, decide_eq_false hn, decide_eq_true hd1]; rfl
    have HA : Hid (specAns s = -1) := by unfold Hid specAns; rw [HOK.out, if_pos rfl, HN.out]
    clear ed ee hn h1 hd1 hv hf
    go_enter Tryd.func5, Tryd.ntmps5
    go_wp2_with fail
    refine (HVAL.out _).mono ?_
    rintro e w1 ⟨rfl, rfl⟩
    go_wp2_with fail
    refine (HF.out _).mono ?_
    rintro e w2 ⟨rfl, hb2⟩
    go_wp2_with fail
    go_ret2
    exact ⟨ret_ib HA.out.symm HOK.out.symm, hb2⟩
  · have t1 : (s.toList == [68, 78, 70]) = false := by rw [← ed, str_eqT]; exact decide_eq_false h1
    have HN : Hid (specN s = v) := by unfold Hid; rw [specN, if_neg h1, hv]
    have HF := Lib.hid (fun wx => specFmt v wx)
    obtain ⟨F, hF⟩ : ∃ F, fmtS v = F := ⟨_, rfl⟩
    rw [hF] at HF
    by_cases h2 : s = ⟨#[]⟩
    · have t2 : (s.toList == []) = true := by rw [← ee, str_eqT]; exact decide_eq_true h2
      have t3 : s.toList.isEmpty = true := by cases h4 : s.toList with | nil => rfl | cons a l => rw [h4] at t2; simp at t2
      have HOK : Hid (specOk s = false) := by unfold Hid specOk; rw [decide_eq_true h2]; rfl
      have HA : Hid (specAns s = 0) := by unfold Hid specAns; rw [HOK.out]; rfl
      clear ed ee h1 h2 hv hF
      go_enter Tryd.func5, Tryd.ntmps5
      go_wp2_with fail
      refine (HVAL.out _).mono ?_
      rintro e w1 ⟨rfl, rfl⟩
      go_wp2_with fail
      go_ret2
      exact ⟨ret_ib HA.out.symm HOK.out.symm, Below.refl _ _⟩
    · have t2 : (s.toList == []) = false := by rw [← ee, str_eqT]; exact decide_eq_false h2
      have t3 : s.toList.isEmpty = false := by cases h4 : s.toList with | nil => rw [h4] at t2; simp at t2 | cons a l => rfl
      have HOK : Hid (specOk s = decide (F = s)) := by unfold Hid specOk; rw [HN.out, hF, decide_eq_false h2]; rfl
      by_cases h3 : F = s
      · have t4 : (!F.toList == s.toList) = false := by rw [str_eqT, decide_eq_true h3]; rfl
        have HOK : Hid (specOk s = true) := by unfold Hid; rw [HOK.out, decide_eq_true h3]
        have HA : Hid (specAns s = v) := by unfold Hid specAns; rw [HOK.out, if_pos rfl, HN.out]
        clear ed ee h1 h2 hv hF h3
        go_enter Tryd.func5, Tryd.ntmps5
        go_wp2_with fail
        refine (HVAL.out _).mono ?_
        rintro e w1 ⟨rfl, rfl⟩
        go_wp2_with fail
        refine (HF.out _).mono ?_
        rintro e w2 ⟨rfl, hb2⟩
        go_wp2_with fail
        go_ret2
        exact ⟨ret_ib HA.out.symm HOK.out.symm, hb2⟩
      · have t4 : (!F.toList == s.toList) = true := by rw [str_eqT, decide_eq_false h3]; rfl
        have HOK : Hid (specOk s = false) := by unfold Hid; rw [HOK.out, decide_eq_false h3]
        have HA : Hid (specAns s = 0) := by unfold Hid specAns; rw [HOK.out]; rfl
        clear ed ee h1 h2 hv hF h3
        go_enter Tryd.func5, Tryd.ntmps5
        go_wp2_with fail
        refine (HVAL.out _).mono ?_
        rintro e w1 ⟨rfl, rfl⟩
        go_wp2_with fail
        refine (HF.out _).mono ?_
        rintro e w2 ⟨rfl, hb2⟩
        go_wp2_with fail
        go_ret2
        exact ⟨ret_ib HA.out.symm HOK.out.symm, hb2⟩
end Go.Proofs.YtggchbohmjfneaaDoor
