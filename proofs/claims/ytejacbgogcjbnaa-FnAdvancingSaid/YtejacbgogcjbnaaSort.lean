/- The library's sort of five results, as an insertion sort; its contract. Conditions: as each contract says. -/
import Derived.Test.YtejacbgogcjbnaaIns
import Derived.Test.YtejacbgogcjbnaaApp
namespace Go.Proofs.Ytejacbgogcjbnaa
open Go.RowKit

/-- The array while x goes down: it stands at place j of l; rest lies behind. -/
def arr (l : List Int) (x : Int) (j : Nat) (rest : List Int) : List Int := l.take j ++ x :: (l.drop j ++ rest)
theorem arr_len (l : List Int) (x : Int) (j : Nat) (rest : List Int) : (arr l x j rest).length = l.length + 1 + rest.length := by
  unfold arr
  rw [List.length_append, List.length_cons, List.length_append, List.length_take, List.length_drop]
  omega
theorem arr_at (l : List Int) (x : Int) (j : Nat) (rest : List Int) (hj : j ≤ l.length) : (arr l x j rest)[j]? = some x := by
  have hl : (l.take j).length = j := by rw [List.length_take]; omega
  unfold arr
  rw [List.getElem?_append_right (by omega), hl, Nat.sub_self]
  rfl
theorem arr_prev (l : List Int) (x : Int) (j : Nat) (rest : List Int) (hj : j < l.length) : (arr l x (j + 1) rest)[j]? = some (l.getD j 0) := by
  have hl : (l.take (j + 1)).length = j + 1 := by rw [List.length_take]; omega
  unfold arr
  rw [List.getElem?_append_left (by omega), List.getElem?_take, if_pos (by omega), List.getElem?_eq_getElem hj, getD_at _ _ hj]
theorem arr_swap (l : List Int) (x : Int) (j : Nat) (rest : List Int) (hj : j < l.length) : ((arr l x (j + 1) rest).set (j + 1) (l.getD j 0)).set j x = arr l x j rest := by
  have hl : (l.take (j + 1)).length = j + 1 := by rw [List.length_take]; omega
  have hl2 : (l.take j).length = j := by rw [List.length_take]; omega
  have e1 : l.take (j + 1) = l.take j ++ [l.getD j 0] := take_get l j hj
  have e2 : l.drop j = l.getD j 0 :: l.drop (j + 1) := by rw [List.drop_eq_getElem_cons hj, getD_at _ _ hj]
  unfold arr
  rw [List.set_append_right _ _ (by omega), hl, Nat.sub_self, List.set_cons_zero, List.set_append_left _ _ (by omega), e1, List.set_append_right _ _ (by omega), hl2, Nat.sub_self, List.set_cons_zero, e2]
  simp
theorem arr_start (l : List Int) (x : Int) (rest : List Int) : arr l x l.length rest = l ++ x :: rest := by simp [arr]
theorem insAt_stop (l : List Int) (x : Int) (j : Nat) (rest : List Int) (h : j = 0 ∨ ∃ k, j = k + 1 ∧ lessR x (l.getD k 0) = false) : insAt l x j ++ rest = arr l x j rest := by
  rcases h with rfl | ⟨k, rfl, h⟩
  · simp [insAt, arr]
  · rw [insAt, if_neg (by rw [h]; simp)]
    simp [arr]

def SortInv (w0 w : World) (B g cap : Nat) (n : Nat) (cur : List Int) : Prop :=
  w.ownsRow B 2 1 (.slice (some ⟨g, 0, none⟩) n cap) n (cur.map (Value.int .i64)) ∧ w0.grownBy w (some g)
theorem SortInv.cell {w0 w : World} {B g cap n : Nat} {cur : List Int} (h : SortInv w0 w B g cap n cur) {k : Nat} {x : Int} (hk : cur[k]? = some x) : w.cell? ⟨g, k, none⟩ = some (.int .i64 x) := by
  have hlen : cur.length = n := by simpa using h.1.1
  have hkl : k < cur.length := (List.getElem?_eq_some_iff.1 hk).1
  rw [h.1.cellAt k (by omega), List.getElem?_map, hk]
  rfl
theorem SortInv.set_ {w0 w : World} {B g cap n : Nat} {cur : List Int} (h : SortInv w0 w B g cap n cur) (k : Nat) (x : Int) : SortInv w0 (w.setCell ⟨g, k, none⟩ (.int .i64 x)) B g cap n (cur.set k x) := by
  obtain ⟨h1, h2⟩ := h.1.stored k (.int .i64 x)
  refine ⟨by rw [List.map_set]; exact h1, ?_⟩
  have hg := h.2
  exact ⟨h2.os.trans hg.os, h2.tape.trans hg.tape, h2.output.trans hg.output, Nat.le_trans hg.size h2.size, fun j hj hne => (h2.block j (Nat.lt_of_lt_of_le hj hg.size) hne).trans (hg.block j hj hne)⟩
theorem SortInv.drewN {w0 w : World} {B g cap n : Nat} {cur : List Int} (h : SortInv w0 w B g cap n cur) (k : Nat) : SortInv w0 (w.drewN k) B g cap n cur :=
  ⟨h.1, ⟨h.2.os, h.2.tape, h.2.output, h.2.size, h.2.block⟩⟩

set_option maxHeartbeats 2000000 in
theorem insertionSort (B g cap : Nat) (xs : List Int) (w : World) (hown : Fresh B w (.slice (some ⟨g, 0, none⟩) xs.length cap) xs) (hl : xs.length ≤ 12) :
    Calls Try.prog 91 #[.slice (some ⟨g, 0, none⟩) xs.length cap, .int .i64 0, .int .i64 xs.length, .func (.func 47) #[] #[]] w fun e w' =>
      e = .returned (.tuple #[]) ∧ SortInv w w' B g cap xs.length (isort xs) := by
  have hI : SortInv w w B g cap xs.length xs := ⟨hown, World.grownBy.refl _ _⟩
  clear hown
  go_enter Try.func91, Try.ntmps91
  go_wp2_with fail
  go_loopw [8, 9] (fun i _ wr => ∃ k : Nat, i = .int .i64 ((k : Int) + 1) ∧ k ≤ 12 ∧ SortInv w wr B g cap xs.length (isort (xs.take (k + 1)) ++ xs.drop (k + 1))) (fun i _ _ => xs.length + 1 - (intOf i).toNat)
  case atStart =>
    refine ⟨0, by simp, by omega, ?_⟩
    have e : isort (xs.take 1) ++ xs.drop 1 = xs := by
      cases xs with
      | nil => rfl
      | cons x xs => simp [isort, ins, insAt]
    rw [e]
    exact hI
  case round =>
    obtain ⟨k, rfl, hk12, hinv⟩ := hrel
    clear hI
    by_cases hlt : k + 1 < xs.length
    · have pk : (k : Int) + 1 < (xs.length : Int) := by omega
      obtain ⟨x, hx⟩ : ∃ x, xs.getD (k + 1) 0 = x := ⟨_, rfl⟩
      have HM := Lib.hid (isort_more xs (k + 1) hlt hx)
      obtain ⟨l, hL⟩ : ∃ l, isort (xs.take (k + 1)) = l := ⟨_, rfl⟩
      have hll : l.length = k + 1 := by rw [← hL, isort_len, List.length_take]; omega
      obtain ⟨rest, hR⟩ : ∃ rest, xs.drop (k + 1 + 1) = rest := ⟨_, rfl⟩
      have hdrop : xs.drop (k + 1) = x :: rest := by rw [List.drop_eq_getElem_cons hlt, ← hR, ← hx, getD_at _ _ hlt]
      rw [hL, hdrop, ← arr_start] at hinv
      have HL := Lib.hid hL
      have HR := Lib.hid hR
      have HLL := Lib.hid hll
      have hrl : l.length + 1 + rest.length = xs.length := by rw [hll, ← hR, List.length_drop]; omega
      have HRL := Lib.hid hrl
      clear hL hR hx hdrop hrl
      obtain ⟨wo, rfl⟩ : ∃ wo : World, wo = wr := ⟨_, rfl⟩
      rw [hll] at hinv
      clear hll
      go_wp2_with fail
      go_loopw [9] (fun q wr => ∃ j : Nat, q = .int .i64 j ∧ j ≤ k + 1 ∧ Hid (ins l x = insAt l x j) ∧ SortInv w wr B g cap xs.length (arr l x j rest)) (fun q _ => (intOf q).toNat)
      case atStart => exact ⟨k + 1, by simp, Nat.le_refl _, by unfold Hid; rw [ins, HLL.out], hinv⟩
      case round =>
        obtain ⟨j, rfl, hj, HI, hinv2⟩ := hrel
        clear hinv
        cases j with
        | zero =>
          have hnext := Lib.hid (HM.out.trans (by rw [HL.out, HI.out]))
          rw [show ((0 : Nat) : Int) = 0 from rfl]
          have hd : decide ((0 : Int) < 0) = false := rfl
          go_wp2_with fail
          go_quiet (fail)
          go_wp2
          go_roundw
          case rel =>
            refine ⟨k + 1, by go_num, by omega, ?_⟩
            rw [hnext.out, HR.out, insAt_stop l x 0 rest (.inl rfl)]
            exact hinv2.drewN _
          case measure => simp [intOf]; omega
        | succ j =>
          have hjl : j < l.length := by have := HLL.out; omega
          have hjl1 : j + 1 ≤ l.length := by omega
          obtain ⟨y, hy⟩ : ∃ y, l.getD j 0 = y := ⟨_, rfl⟩
          have HY := Lib.hid hy
          have hc1 : wr.cell? ⟨g, j + 1, none⟩ = some (.int .i64 x) := hinv2.cell (arr_at l x (j + 1) rest hjl1)
          have hc2 : wr.cell? ⟨g, j, none⟩ = some (.int .i64 y) := by rw [← hy]; exact hinv2.cell (arr_prev l x j rest hjl)
          have hf1 := hinv2.1.frozenAt (j + 1)
          have hf2 := hinv2.1.frozenAt j
          clear hy
          rw [show ((j + 1 : Nat) : Int) = (j : Int) + 1 from by omega]
          have q0 : (0 : Int) ≤ (j : Int) := by omega
          have q1 : (0 : Int) < (j : Int) + 1 := by omega
          have q2 : (j : Int) + 1 < (xs.length : Int) := by omega
          have q3 : (j : Int) < (xs.length : Int) := by omega
          have q4 : (0 : Int) ≤ (j : Int) + 1 := by omega
          have q5 : IntKind.i64.wrap ((j : Int) + 1 - 1) = (j : Int) := by rw [show (j : Int) + 1 - 1 = (j : Int) from by omega]; exact IntWalk.i64_in _ (by omega)
          have q6 : ((j : Int) + 1).toNat = j + 1 := by omega
          cases hs : lessR x y
          · have hcmp := cmpR_no hs
            have hd : decide (cmpR x y < 0) = false := by simpa using hcmp
            have hstop := Lib.hid (HM.out.trans (by rw [HL.out, HI.out]))
            have HS := Lib.hid hs
            clear hs hcmp
            go_wp2_with fail
            go_quiet ((go_at_call 47; exact quietLeft (compareResults_any _ _ _)))
            clear q5 q6
            go_wp2
            go_roundw
            case rel =>
              refine ⟨k + 1, by go_num, by omega, ?_⟩
              rw [hstop.out, HR.out, insAt_stop l x (j + 1) rest (.inr ⟨j, rfl, by rw [HY.out]; exact HS.out⟩)]
              exact hinv2.drewN _
            case measure => simp [intOf]; omega
          · have hcmp := cmpR_yes hs
            have hd : decide (cmpR x y < 0) = true := by simpa using hcmp
            have hnext : Hid (ins l x = insAt l x j) := by unfold Hid; rw [HI.out, insAt, HY.out, if_pos hs]
            have HS := Lib.hid hs
            clear hs
            go_wp2_with fail
            go_quiet ((go_at_call 47; exact quietLeft (compareResults_any _ _ _)))
            clear q5 q6
            go_wp2_with fail
            go_region
            go_wp2
            go_roundw
            case rel =>
              refine ⟨j, by go_num, by omega, hnext, ?_⟩
              have h2 := ((hinv2.drewN (nq + 1)).set_ (j + 1) y).set_ j x
              rw [← HY.out, arr_swap l x j rest hjl, HY.out] at h2
              exact h2
            case measure => simp [intOf]
    · have pk : ¬ (k : Int) + 1 < (xs.length : Int) := by omega
      have e : isort (xs.take (k + 1)) ++ xs.drop (k + 1) = isort xs := by rw [List.take_of_length_le (by omega), List.drop_eq_nil_of_le (by omega), List.append_nil]
      rw [e] at hinv
      clear e
      go_wp2
      go_end0
      exact ⟨rfl, hinv⟩
end Go.Proofs.Ytejacbgogcjbnaa
