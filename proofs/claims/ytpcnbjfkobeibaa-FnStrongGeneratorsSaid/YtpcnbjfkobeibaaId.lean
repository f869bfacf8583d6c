/- The identity in memory, at both packages. Conditions: as each contract says. -/
import Derived.Test.YtpcnbjfkobeibaaCo
namespace Go.Proofs.Ytpcnbjfkobeibaa
open Go.RowKit Grp

theorem idp_of {n : Nat} {ys : List Int} (hl : ys.length = n) (h : ∀ j, j < n → ys.getD j 0 = (j : Int)) : ys = natI (idp n) :=
  natI_ext (by rw [hl, idp_len]) fun i hi => by rw [idp_len] at hi; rw [h i hi, app_idp hi]
set_option maxHeartbeats 1000000 in
theorem implIdentity (n : Nat) (w : World) (hn : n ≤ 1048576) : Calls Try.prog 84 #[.int .i64 (n : Int)] w (CompPost (idp n) w) := by
  obtain ⟨i0, hi, hz0, hz1, hz2⟩ := info_parts intInfo
  go_enter Try.func84, Try.ntmps84
  go_wp2_with (first | (at_make; refine wpList_make_full _ rfl _ _ 23 rfl w.heap.size 2 i0 (.int .i64 0) 1 Try.underlying23 hi hz0 hz1 _ _ _ _ n rfl rfl rfl rfl ?_ ?_ ?_ ?_))
  · rw [hz2]; omega
  · unfold maxLen; omega
  · simp
  intro w1 hown hgrow
  rw [made_ints] at hown
  have hB0 : Below w.heap.size w w1 := (Below.refl _ _).grown hgrow (Nat.le_refl _) (by simp)
  have hF0 : Filled w.heap.size w1 w.heap.size n (List.replicate n 0) := ⟨by simp, hown⟩
  clear hgrow hown
  go_wp2_with fail
  go_loopw [9] (fun i wr => ∃ (k : Nat) (ys : List Int), k ≤ n ∧ i = .int .i64 k ∧ Filled w.heap.size wr w.heap.size n ys ∧ Hid (∀ j, j < k → ys.getD j 0 = (j : Int)) ∧ Below w.heap.size w wr) (fun i _ => n - (intOf i).toNat)
  case atStart => exact ⟨0, _, Nat.zero_le _, rfl, hF0, fun j hj => by omega, hB0⟩
  case round =>
    obtain ⟨k, ys, hk, rfl, hF, HY, hB⟩ := hrel
    clear hF0 hB0
    by_cases hlt : k < n
    · have hcell := hF.cell hlt
      have hfr := hF.2.frozenAt k
      have hF2 := hF.store k (k : Int)
      have HF := Lib.hid hF2
      have HYN : Hid (∀ j, j < k + 1 → (ys.set k (k : Int)).getD j 0 = (j : Int)) := by
        intro j hj
        rw [set_getD _ _ _ _ (by rw [hF.1]; exact hlt)]
        by_cases e : j = k
        · subst e; rw [if_pos rfl]
        · rw [if_neg e]; exact HY.out j (by omega)
      have p0 : (0 : Int) ≤ (k : Int) := by omega
      have p1 : (k : Int) < (n : Int) := by omega
      clear hF hF2
      go_wp2_with fail
      go_roundw
      case rel => exact ⟨k + 1, _, by omega, by go_num, HF.out, HYN, hB.setCell (by simp) _⟩
      case measure => simp [intOf]; omega
    · obtain rfl : k = n := by omega
      have he := idp_of hF.1 HY.out
      have HFR : Hid (Fresh w.heap.size wr (.slice (some ⟨w.heap.size, 0, none⟩) k k) (natI (idp k))) := by
        unfold Hid Fresh
        rw [natI_len, idp_len, ← he]
        exact hF.2
      clear he hF
      go_wp2_with fail
      go_ret
      exact ⟨_, rfl, HFR.out, hB⟩
set_option maxHeartbeats 1000000 in
theorem specIdentity (n : Nat) (w : World) (hn : n ≤ 1048576) : Calls Try.prog 79 #[.int .i64 (n : Int)] w (CompPost (idp n) w) := by
  have hE : Fresh w.heap.size (w.alloc (.cells #[] 2)) (.slice (some ⟨w.heap.size, 0, none⟩) 0 0) [] := Fresh.empty (Nat.le_refl _)
  have hB0 : Below w.heap.size w (w.alloc (.cells #[] 2)) := (by repeat (first | exact Below.refl _ _ | assumption | refine Below.setCell ?_ (by first | omega | (simp <;> omega)) _ | refine Below.alloc ?_ (by first | omega | (simp <;> omega)) _ | refine Below.drew ?_))
  go_enter Try.func79, Try.ntmps79
  go_wp2_with fail
  go_loopw [3, 4] (fun v i wr => ∃ (k : Nat) (ys : List Int), k ≤ n ∧ i = .int .i64 k ∧ ys.length = k ∧ Fresh w.heap.size wr v ys ∧ Hid (∀ j, j < k → ys.getD j 0 = (j : Int)) ∧ Below w.heap.size w wr) (fun _ i _ => n - (intOf i).toNat)
  case atStart => exact ⟨0, [], Nat.zero_le _, rfl, rfl, hE, fun j hj => by omega, hB0⟩
  case round =>
    obtain ⟨k, ys, hk, rfl, hyl, hF, HY, hB⟩ := hrel
    clear hE hB0
    by_cases hlt : k < n
    · have HYN : Hid (∀ j, j < k + 1 → (ys ++ [(k : Int)]).getD j 0 = (j : Int)) := by
        intro j hj
        rw [List.getD_eq_getElem?_getD]
        by_cases e : j = k
        · subst e; rw [List.getElem?_append_right (by omega), hyl, Nat.sub_self]; rfl
        · rw [List.getElem?_append_left (by omega), ← List.getD_eq_getElem?_getD]; exact HY.out j (by omega)
      have p1 : (k : Int) < (n : Int) := by omega
      have hl2 : ys.length ≤ 1048576 := by omega
      have HYL := Lib.hid hyl
      have hBz := hB.size
      clear hyl
      go_wp2_with (first | (at_builtin; refine append_one rfl (.tmp 11) (.tmp 13) rfl w.heap.size _ ys (k : Int) rfl (hF.below (by repeat (first | exact Below.refl _ _ | assumption | refine Below.setCell ?_ (by first | omega | (simp <;> omega)) _ | refine Below.alloc ?_ (by first | omega | (simp <;> omega)) _ | refine Below.drew ?_))) wr.heap.size rfl (by simp) hl2 (by simp; omega) ?_; intro v3 w3 hF3 hg3 hb3))
      have hB3 : Below w.heap.size w w3 := hB.trans (((Below.refl _ _).alloc hBz _).trans hb3)
      go_roundw
      case rel => exact ⟨k + 1, _, by omega, by go_num, by have := HYL.out; simp; omega, hF3, HYN, hB3⟩
      case measure => simp [intOf]; omega
    · obtain rfl : k = n := by omega
      rw [idp_of hyl HY.out] at hF
      clear hyl HY
      go_wp2_with fail
      go_ret
      exact ⟨_, rfl, hF, hB⟩
end Go.Proofs.Ytpcnbjfkobeibaa
