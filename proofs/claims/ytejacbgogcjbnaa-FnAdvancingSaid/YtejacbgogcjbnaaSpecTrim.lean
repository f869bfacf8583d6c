/- The trimmed average at the reference. Conditions: as each contract says. -/
import Derived.Test.YtejacbgogcjbnaaTrim
namespace Go.Proofs.Ytejacbgogcjbnaa
open Go.RowKit

/-- A list that lies in new memory and is only read from now on. -/
def Lies (B : Nat) (w : World) (v : Value) (l : List Int) : Prop :=
  ∃ g c, v = .slice (some ⟨g, 0, none⟩) l.length c ∧ l.length ≤ c ∧ B ≤ g ∧ g < w.heap.size ∧ IntsAt w (some ⟨g, 0, none⟩) l

theorem IntsAt.dropAt {w : World} {g : Nat} {l : List Int} (h : IntsAt w (some ⟨g, 0, none⟩) l) (i : Nat) : IntsAt w (some ⟨g, i, none⟩) (l.drop i) := by
  intro k hk
  rw [List.length_drop] at hk
  obtain ⟨b', off', e, hb, hc⟩ := h (i + k) (by omega)
  injection e with e
  injection e with e1 e2
  subst e1 e2
  refine ⟨g, i, rfl, hb, ?_⟩
  rw [show i + k = 0 + (i + k) from by omega, hc]
  have hk2 : i + k < l.length := by omega
  simp [List.getD_eq_getElem?_getD, hk2]
theorem Lies.of {B0 B : Nat} {w : World} {v : Value} {l : List Int} (h : Fresh B w v l) (hn : 0 < l.length) (hb : B0 ≤ B) : Lies B0 w v l := by
  obtain ⟨A, c, hc, hv, _⟩ := h.capped
  obtain ⟨A', c', hv', hi, hA⟩ := h.ints
  rw [hv] at hv'
  simp only [Value.slice.injEq] at hv'
  obtain ⟨rfl, _, rfl⟩ := hv'
  rcases hA with rfl | ⟨g, rfl, hg, hlt⟩
  · obtain ⟨b, off, e, _⟩ := hi 0 hn
    cases e
  · exact ⟨g, c, hv, hc, by omega, hlt, hi⟩
theorem cut0 {w : World} {l : List Int} {j : Nat} (A : Option Addr) (h : l.length ≤ j) : IntsAt w A (l.drop j) := by
  rw [List.drop_eq_nil_of_le h]
  exact IntsAt.nil _ _
set_option maxRecDepth 100000 in
set_option maxHeartbeats 2000000 in
theorem specSorted (A : Option Addr) (c : Nat) (xs : List Int) (w : World) (hx : IntsAt w A xs) (hl : xs.length ≤ 5) (hv : xs.all isRes = true) :
    Calls Try.prog 90 #[.slice A xs.length c] w fun e w' => ∃ v, e = .returned v ∧ Lies w.heap.size w' v (isort xs) ∧ Below w.heap.size w w' := by
  have HV := Lib.hid hv
  clear hv
  have hL0 : Lies w.heap.size (w.alloc (.cells #[] 2)) (.slice (some ⟨w.heap.size, 0, none⟩) 0 0) [] := ⟨w.heap.size, 0, rfl, Nat.le_refl _, Nat.le_refl _, by simp, IntsAt.nil _ _⟩
  have hB0 : Below w.heap.size w (w.alloc (.cells #[] 2)) := (by repeat (first | exact Below.refl _ _ | assumption | refine Below.setCell ?_ (by first | omega | (simp <;> omega)) _ | refine Below.alloc ?_ (by first | omega | (simp <;> omega)) _ | refine Below.drew ?_))
  go_enter Try.func90, Try.ntmps90
  go_wp2_with fail
  go_loopw [3, 4, 5, 6] (fun v i _ _ wr => ∃ k : Nat, i = .int .i64 k ∧ k ≤ xs.length ∧ Lies w.heap.size wr v (isort (xs.take k)) ∧ Below w.heap.size w wr) (fun _ i _ _ _ => xs.length - (intOf i).toNat)
  case atStart => exact ⟨0, rfl, Nat.zero_le _, hL0, hB0⟩
  case round =>
    obtain ⟨k, rfl, hk, hLi, hB⟩ := hrel
    clear hL0 hB0
    by_cases hlt : k < xs.length
    · have pk : (k : Int) < (xs.length : Int) := by omega
      have pk0 : (0 : Int) ≤ (k : Int) := by omega
      obtain ⟨b, off, x, rfl, hb, hc0, HX⟩ := hx.at_ hlt
      have HM := Lib.hid (isort_more xs k hlt HX.out)
      have hvx := Lib.hid (all_at HV.out hlt HX.out)
      have hvl := Lib.hid (isort_isRes (all_take HV.out k))
      have hll : (isort (xs.take k)).length = k := by rw [isort_len, List.length_take]; omega
      obtain ⟨l, hL⟩ : ∃ l, isort (xs.take k) = l := ⟨_, rfl⟩
      rw [hL] at hLi hvl HM hll
      clear hL
      obtain ⟨g, co, rfl, hco, hg, hgw, hI⟩ := hLi
      have HLL := Lib.hid hll
      have hl5 : l.length ≤ 5 := by omega
      clear hll
      have hc : wr.cell? ⟨b, off + k, none⟩ = some (.int .i64 x) := (hB.cell (p := ⟨b, off + k, none⟩) hb).trans hc0
      obtain ⟨wo, rfl⟩ : ∃ wo : World, wo = wr := ⟨_, rfl⟩
      go_wp2_with fail
      go_loopw [5] (fun q wr => ∃ (j n : Nat), q = .int .i64 j ∧ j ≤ l.length ∧ Hid (ins l x = insAt l x j) ∧ wr = wo.drewN n) (fun q _ => (intOf q).toNat)
      case atStart => exact ⟨l.length, 0, rfl, Nat.le_refl _, rfl, rfl⟩
      case round =>
        obtain ⟨j, n, rfl, hj, HI, hw2⟩ := hrel
        have hc2 : wr.cell? ⟨b, off + k, none⟩ = some (.int .i64 x) := by rw [hw2]; exact hc
        have HW2 := Lib.hid hw2
        have hz2 : wo.heap.size ≤ wr.heap.size := by rw [hw2]; exact Nat.le_refl _
        have hbn0 : Below wo.heap.size wo wr := by rw [hw2]; exact belowDrewN (Below.refl _ _) _
        have hcI : ∀ p y, wo.cell? p = some (.int .i64 y) → wr.cell? p = some (.int .i64 y) := by intro p y h; rw [hw2]; exact h
        clear hw2
        by_cases hj0 : (0 : Int) < (j : Int)
        · have hj0n : 0 < j := by omega
          have hd : decide (0 < j) = true := by simpa using hj0n
          obtain ⟨i, hi⟩ : ∃ i, i + 1 = j := ⟨j - 1, by omega⟩
          have hil : i < l.length := by omega
          obtain ⟨_, _, y, e, _, hcy0, HY⟩ := hI.at_ hil
          injection e with e
          injection e with e1 e2
          subst e1 e2
          have hcy : wr.cell? ⟨g, i, none⟩ = some (.int .i64 y) := hcI _ _ (by simpa using hcy0)
          clear hcy0
          have hvy := Lib.hid (all_at hvl.out hil HY.out)
          have q0 : (0 : Int) ≤ (i : Int) := by omega
          have q3 : (i : Int) < (l.length : Int) := by omega
          have q5 : IntKind.i64.wrap ((j : Int) - 1) = (i : Int) := by rw [show (j : Int) - 1 = (i : Int) from by omega]; exact IntWalk.i64_in _ (by omega)
          cases hs : lessR x y
          · have hle : resLess x y = false := by rw [resLess, hs]; simp
            have HST : Hid (ins l x = l.take j ++ x :: l.drop j) := by
              unfold Hid
              rw [HI.out, ← hi, insAt, if_neg (by rw [HY.out, hs]; simp)]
            have HII := Lib.hid hi
            clear hs hi
            go_wp2_with fail
            go_quiet ((go_at_call 60; exact quietLeft (specResLess _ _ _)))
            clear q5
            have hlJ : (l.take j).length = j := by rw [List.length_take]; omega
            have HLJ := Lib.hid hlJ
            clear hlJ
            have hJ0 : (0 : Int) ≤ (j : Int) := by omega
            have hJc : (j : Int) ≤ (co : Int) := by omega
            have hJl2 : (j : Int) ≤ (l.length : Int) := by omega
            have hzw := hB.size
            have hjco : j ≤ co := by omega
            rcases Nat.eq_or_lt_of_le hjco with rfl | hjlt
            all_goals
              try (have hne : ¬ co = j := by omega)
              try (have hnf : (co == j) = false := by simp; omega)
              have hbn : Below wo.heap.size wo ((wr.drewN nq).alloc (.cells #[] 2)) := (belowDrewN hbn0 nq).alloc hz2 _
              go_wp2_with (first | (at_builtin; refine append_ints rfl (.tmp 32) (.tmp 35) rfl wo.heap.size _ [] (l.take j) rfl (by exact Fresh.empty hz2) _ _ _ HLJ.out rfl (by exact (hI.below hbn).take j) (by simp; omega) (by exact hbn.size) ?_; intro v1 w1 hF1 hg1 hb1; have hbw1 : Below wo.heap.size wo w1 := hbn.trans hb1; have hc1 : w1.cell? ⟨b, off + k, none⟩ = some (.int .i64 x) := (hbw1.cell (p := ⟨b, off + k, none⟩) (by exact Nat.lt_of_lt_of_le hb hzw)).trans hc) | (at_builtin; refine append_one rfl (.tmp 37) (.tmp 42) rfl wo.heap.size _ (l.take j) x rfl (by exact (show Fresh wo.heap.size w1 v1 (l.take j) from hF1).below (by repeat (first | exact Below.refl _ _ | assumption | refine Below.setCell ?_ (by first | omega | (simp <;> omega)) _ | refine Below.alloc ?_ (by first | omega | (simp <;> omega)) _ | refine Below.drew ?_))) w1.heap.size rfl (by simp) (by rw [HLJ.out]; omega) (by have := hbw1.size; simp; omega) ?_; intro v2 wB hF2 hg2 hb2; have hbw2 : Below wo.heap.size wo wB := (hbw1.alloc hbw1.size _).trans hb2) | (at_builtin; (refine append_ints rfl (.tmp 44) (.tmp 47) rfl wo.heap.size _ (l.take j ++ [x]) (l.drop j) rfl hF2 _ _ _ (by simp <;> omega) rfl (by first | exact (hI.below hbw2).dropAt j | exact cut0 _ (by omega)) (by simp; omega) (by exact hbw2.size) ?_; intro v3 w3 hF3 hg3 hb3)))
              refine ⟨⟨k + 1, by go_num, by omega, ?_, belowStep (hbw2.trans hb3) hB⟩, by simp [intOf]; omega⟩
              have hF4 : Fresh wo.heap.size w3 v3 (l.take j ++ x :: l.drop j) := by simpa using hF3
              rw [HM.out, HST.out]
              exact Lies.of hF4 (by rw [List.length_append, List.length_cons]; omega) hzw
          · have hle : resLess x y = true := by rw [resLess, hvx.out, hvy.out, hs]; rfl
            have hnext : Hid (ins l x = insAt l x i) := by unfold Hid; rw [HI.out, ← hi, insAt, HY.out, if_pos hs]
            have HII := Lib.hid hi
            clear hs hi
            go_wp2_with fail
            go_quiet ((go_at_call 60; exact quietLeft (specResLess _ _ _)))
            go_wp2
            go_roundw
            case rel => exact ⟨i, _, by go_num, by omega, hnext, by rw [HW2.out]; exact World.drewN_drewN _ _ _⟩
            case measure => have := HII.out; simp [intOf]; omega
        · have hd : decide (0 < j) = false := by simpa using hj0
          have hjz : j = 0 := by omega
          have HST : Hid (ins l x = l.take j ++ x :: l.drop j) := by unfold Hid; rw [HI.out, hjz]; rfl
          clear hjz
          go_wp2_with fail
          go_quiet (fail)
          have hlJ : (l.take j).length = j := by rw [List.length_take]; omega
          have HLJ := Lib.hid hlJ
          clear hlJ
          have hJ0 : (0 : Int) ≤ (j : Int) := by omega
          have hJc : (j : Int) ≤ (co : Int) := by omega
          have hJl2 : (j : Int) ≤ (l.length : Int) := by omega
          have hzw := hB.size
          have hjco : j ≤ co := by omega
          rcases Nat.eq_or_lt_of_le hjco with rfl | hjlt
          all_goals
            try (have hne : ¬ co = j := by omega)
            try (have hnf : (co == j) = false := by simp; omega)
            have hbn : Below wo.heap.size wo ((wr.drewN nq).alloc (.cells #[] 2)) := (belowDrewN hbn0 nq).alloc hz2 _
            go_wp2_with (first | (at_builtin; refine append_ints rfl (.tmp 32) (.tmp 35) rfl wo.heap.size _ [] (l.take j) rfl (by exact Fresh.empty hz2) _ _ _ HLJ.out rfl (by exact (hI.below hbn).take j) (by simp; omega) (by exact hbn.size) ?_; intro v1 w1 hF1 hg1 hb1; have hbw1 : Below wo.heap.size wo w1 := hbn.trans hb1; have hc1 : w1.cell? ⟨b, off + k, none⟩ = some (.int .i64 x) := (hbw1.cell (p := ⟨b, off + k, none⟩) (by exact Nat.lt_of_lt_of_le hb hzw)).trans hc) | (at_builtin; refine append_one rfl (.tmp 37) (.tmp 42) rfl wo.heap.size _ (l.take j) x rfl (by exact (show Fresh wo.heap.size w1 v1 (l.take j) from hF1).below (by repeat (first | exact Below.refl _ _ | assumption | refine Below.setCell ?_ (by first | omega | (simp <;> omega)) _ | refine Below.alloc ?_ (by first | omega | (simp <;> omega)) _ | refine Below.drew ?_))) w1.heap.size rfl (by simp) (by rw [HLJ.out]; omega) (by have := hbw1.size; simp; omega) ?_; intro v2 wB hF2 hg2 hb2; have hbw2 : Below wo.heap.size wo wB := (hbw1.alloc hbw1.size _).trans hb2) | (at_builtin; (refine append_ints rfl (.tmp 44) (.tmp 47) rfl wo.heap.size _ (l.take j ++ [x]) (l.drop j) rfl hF2 _ _ _ (by simp <;> omega) rfl (by first | exact (hI.below hbw2).dropAt j | exact cut0 _ (by omega)) (by simp; omega) (by exact hbw2.size) ?_; intro v3 w3 hF3 hg3 hb3)))
            refine ⟨⟨k + 1, by go_num, by omega, ?_, belowStep (hbw2.trans hb3) hB⟩, by simp [intOf]; omega⟩
            have hF4 : Fresh wo.heap.size w3 v3 (l.take j ++ x :: l.drop j) := by simpa using hF3
            rw [HM.out, HST.out]
            exact Lies.of hF4 (by rw [List.length_append, List.length_cons]; omega) hzw
    · have e : isort (xs.take k) = isort xs := by rw [List.take_of_length_le (by omega)]
      rw [e] at hLi
      clear e
      go_wp2
      go_ret
      exact ⟨_, rfl, hLi, hB⟩
end Go.Proofs.Ytejacbgogcjbnaa
