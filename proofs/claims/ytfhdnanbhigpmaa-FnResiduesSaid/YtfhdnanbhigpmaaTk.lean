/- Lists of points and lists of distinct points, at both packages. Conditions: as each contract says. -/
import Derived.Test.YtfhdnanbhigpmaaMark
import Derived.Deep.RegionHeld3
namespace Go.Proofs.Ytfhdnanbhigpmaa
open Go.RowKit

def PtTo (m : Int) (xs : List Int) (k : Nat) : Prop := ∀ j, j < k → 0 ≤ xs.getD j 0 ∧ xs.getD j 0 ≤ m - 1 ∧ (0 < j → xs.getD (j - 1) 0 < xs.getD j 0)
open Classical in
noncomputable def ptQ (m : Int) (xs : List Int) : Bool := decide (1 ≤ xs.length ∧ PtTo m xs xs.length)
open Classical in
theorem ptQ_iff {m : Int} {xs : List Int} : ptQ m xs = true ↔ 1 ≤ xs.length ∧ PtTo m xs xs.length := by unfold ptQ; exact decide_eq_true_iff
theorem ptQ_yes {m : Int} {xs : List Int} (h : 1 ≤ xs.length ∧ PtTo m xs xs.length) : ptQ m xs = true := ptQ_iff.2 h
open Classical in
theorem ptQ_no {m : Int} {xs : List Int} (h : ¬ (1 ≤ xs.length ∧ PtTo m xs xs.length)) : ptQ m xs = false := by unfold ptQ; exact decide_eq_false h
theorem PtTo.ge {m : Int} {xs : List Int} {k : Nat} (h : PtTo m xs k) : ∀ j, j < k → (j : Int) ≤ xs.getD j 0 := by
  intro j
  induction j with
  | zero => intro hj; exact (h 0 hj).1
  | succ j ih =>
    intro hj
    have h1 := ih (by omega)
    have h2 := (h (j + 1) hj).2.2 (by omega)
    rw [show j + 1 - 1 = j from by omega] at h2
    omega
theorem PtTo.len {m : Int} {xs : List Int} (h : PtTo m xs xs.length) (hm : 0 ≤ m) : (xs.length : Int) ≤ m := by
  rcases Nat.eq_zero_or_pos xs.length with h0 | h0
  · omega
  · have h1 := h.ge (xs.length - 1) (by omega)
    have h2 := (h (xs.length - 1) (by omega)).2.1
    omega
theorem PtTo.step {m : Int} {xs : List Int} {k : Nat} (h : PtTo m xs k) (h0 : 0 ≤ xs.getD k 0) (h1 : xs.getD k 0 ≤ m - 1) (h2 : 0 < k → xs.getD (k - 1) 0 < xs.getD k 0) : PtTo m xs (k + 1) := fun j hj => by
  rcases Nat.lt_or_ge j k with h3 | h3
  · exact h j h3
  · obtain rfl : j = k := by omega
    exact ⟨h0, h1, h2⟩
def DiTo (m : Int) (xs : List Int) (k : Nat) : Prop := ∀ j, j < k → 0 ≤ xs.getD j 0 ∧ xs.getD j 0 ≤ m - 1 ∧ xs.getD j 0 ∉ xs.take j
open Classical in
noncomputable def diQ (m : Int) (xs : List Int) (c : Nat) : Bool := decide (xs.length = c ∧ DiTo m xs xs.length)
open Classical in
theorem diQ_iff {m : Int} {xs : List Int} {c : Nat} : diQ m xs c = true ↔ xs.length = c ∧ DiTo m xs xs.length := by unfold diQ; exact decide_eq_true_iff
theorem diQ_yes {m : Int} {xs : List Int} {c : Nat} (h : xs.length = c ∧ DiTo m xs xs.length) : diQ m xs c = true := diQ_iff.2 h
open Classical in
theorem diQ_no {m : Int} {xs : List Int} {c : Nat} (h : ¬ (xs.length = c ∧ DiTo m xs xs.length)) : diQ m xs c = false := by unfold diQ; exact decide_eq_false h
theorem DiTo.step {m : Int} {xs : List Int} {k : Nat} (h : DiTo m xs k) (h0 : 0 ≤ xs.getD k 0) (h1 : xs.getD k 0 ≤ m - 1) (h2 : xs.getD k 0 ∉ xs.take k) : DiTo m xs (k + 1) := fun j hj => by
  rcases Nat.lt_or_ge j k with h3 | h3
  · exact h j h3
  · obtain rfl : j = k := by omega
    exact ⟨h0, h1, h2⟩
set_option maxRecDepth 3000 in
set_option maxHeartbeats 1000000 in
theorem specHasInt (A : Option Addr) (c : Nat) (xs : List Int) (x : Int) (w : World) (hx : IntsAt w A xs) (hl : xs.length ≤ 1048576) :
    Calls Try.prog 146 #[.slice A xs.length c, .int .i64 x] w fun e w' => e = .returned (.bool (decide (x ∈ xs))) ∧ w = w' := by
  obtain ⟨b0, hb0⟩ : ∃ b0, decide (x ∈ xs) = b0 := ⟨_, rfl⟩
  rw [hb0]
  have HB0 := Lib.hid hb0
  clear hb0
  go_enter Try.func146, Try.ntmps146
  go_wp2_with fail
  go_loop [5] (fun i => ∃ k : Nat, k ≤ xs.length ∧ i = .int .i64 k ∧ Hid (∀ j, j < k → xs.getD j 0 ≠ x)) (fun i => xs.length - (intOf i).toNat)
  case atStart => exact ⟨0, Nat.zero_le _, rfl, fun j hj => by omega⟩
  case round =>
    obtain ⟨k, hk, rfl, HN⟩ := hrel
    by_cases hlt : k < xs.length
    · obtain ⟨b, off, y, rfl, hb, hc0, HX⟩ := hx.at_ hlt
      have p0 : (0 : Int) ≤ (k : Int) := by omega
      have p1 : (k : Int) < (xs.length : Int) := by omega
      by_cases e : y = x
      · have HT : Hid (true = b0) := by
          unfold Hid
          rw [← HB0.out, eq_comm, decide_eq_true_iff, ← e, ← HX.out, getD_at _ _ hlt]
          exact List.getElem_mem _
        subst e
        go_wp2_with fail
        go_ret
        exact ⟨ret_bool HT.out, rfl⟩
      · have HN2 : Hid (∀ j, j < k + 1 → xs.getD j 0 ≠ x) := fun j hj => by
          rcases Nat.lt_or_ge j k with h | h
          · exact HN.out j h
          · rw [show j = k from by omega, HX.out]; exact e
        go_wp2_with fail
        go_round
        case rel => exact ⟨k + 1, by omega, by go_num, HN2⟩
        case measure => simp [intOf]; omega
    · have HT : Hid (false = b0) := by
        unfold Hid
        rw [← HB0.out, eq_comm, decide_eq_false_iff_not]
        intro h
        obtain ⟨j, hj, e⟩ := List.mem_iff_getElem.1 h
        exact HN.out j (by omega) (by rw [getD_at _ _ hj]; exact e)
      go_wp2_with fail
      go_ret
      exact ⟨ret_bool HT.out, rfl⟩
set_option maxRecDepth 3000 in
set_option maxHeartbeats 1000000 in
theorem isPoint_any (m x : Int) (w : World) (h0 : 1 ≤ m) (h1 : m ≤ 20) : Calls Try.prog 145 #[.int .i64 m, .int .i64 x] w fun e w' => e = .returned (.bool (inR x 0 (m - 1))) ∧ w = w' := by
  have hc := within_any x 0 (m - 1) w
  have HC := Lib.hid hc
  have hw : IntKind.i64.wrap (m - 1) = m - 1 := IntWalk.i64_in _ (by omega)
  clear hc
  go_enter Try.func145, Try.ntmps145
  go_wp2_with fail
  refine HC.out.mono ?_
  rintro e w1 ⟨rfl, rfl⟩
  go_wp2_with fail
  go_ret
  exact ⟨rfl, rfl⟩
/-! Distinct lists. -/
set_option maxRecDepth 3000 in
set_option maxHeartbeats 2000000 in
theorem specDist (m : Int) (cn : Nat) (A : Option Addr) (c : Nat) (xs : List Int) (w : World) (hx : IntsAt w A xs) (hl : xs.length ≤ 1048576) (hc : xs.length ≤ c) (h0 : 1 ≤ m) (h1 : m ≤ 20) :
    Calls Try.prog 138 #[.int .i64 m, .slice A xs.length c, .int .i64 (cn : Int)] w (Quiet (.bool (diQ m xs cn)) w) := by
  obtain ⟨b0, hb0⟩ : ∃ b0, diQ m xs cn = b0 := ⟨_, rfl⟩
  rw [hb0]
  have HB0 := Lib.hid hb0
  clear hb0
  by_cases hcn : xs.length = cn
  · have hne : ((xs.length : Int) != (cn : Int)) = false := by simp; omega
    have HCN := Lib.hid hcn
    clear hcn
    go_enter Try.func138, Try.ntmps138
    go_wp2_with fail
    go_loopw [7] (fun i wr => ∃ (k nq : Nat), k ≤ xs.length ∧ i = .int .i64 k ∧ Hid (DiTo m xs k) ∧ wr = w.drewN nq) (fun i _ => xs.length - (intOf i).toNat)
    case atStart => exact ⟨0, 0, Nat.zero_le _, rfl, fun j hj => absurd hj (Nat.not_lt_zero _), rfl⟩
    case round =>
      obtain ⟨k, nd, hk, rfl, HO, hw2⟩ := hrel
      have hxr : IntsAt wr A xs := by rw [hw2]; exact hx.drewN nd
      have HW2 : Hid (∀ m, ∃ j, wr.drewN m = w.drewN j) := fun m => ⟨nd + m, by rw [hw2, World.drewN_drewN]⟩
      clear hw2
      by_cases hlt : k < xs.length
      · obtain ⟨b, off, y, rfl, hb, hc0, HX⟩ := hxr.at_ hlt
        have p0 : (0 : Int) ≤ (k : Int) := by omega
        have p1 : (k : Int) < (xs.length : Int) := by omega
        have q1 : IntKind.i64.wrap (m - 1) = m - 1 := IntWalk.i64_in _ (by omega)
        cases hr : inR y 0 (m - 1) with
        | false =>
          have HF : Hid (false = b0) := by
            unfold Hid
            rw [← HB0.out, eq_comm, diQ_no]
            rintro ⟨-, h⟩
            have := h k hlt
            rw [HX.out] at this
            exact inR_no.1 hr ⟨this.1, this.2.1⟩
          have HQ : Hid (∀ wx : World, Calls Try.prog 71 #[.int .i64 y, .int .i64 0, .int .i64 (m - 1)] wx fun e w' => e = .returned (.bool false) ∧ wx = w') := fun wx => by have := inRange_any y 0 (m - 1) wx; rwa [hr] at this
          clear hr
          go_wp2_with fail
          go_quiet ((go_at_call 71; exact quietLeft (HQ.out _)))
          clear q1
          go_wp2_with fail
          go_ret
          exact ⟨ret_bool HF.out, HW2.out _⟩
        | true =>
          have HY := Lib.hid (inR_iff.1 hr)
          have HQ : Hid (∀ wx : World, Calls Try.prog 71 #[.int .i64 y, .int .i64 0, .int .i64 (m - 1)] wx fun e w' => e = .returned (.bool true) ∧ wx = w') := fun wx => by have := inRange_any y 0 (m - 1) wx; rwa [hr] at this
          have hk2 : (xs.take k).length = k := by rw [List.length_take]; omega
          have p2 : (k : Int) ≤ (c : Int) := by omega
          obtain ⟨b1, hb1⟩ : ∃ b1, decide (y ∈ xs.take k) = b1 := ⟨_, rfl⟩
          have HH : Hid (∀ (cc : Nat) (wx : World), IntsAt wx (some ⟨b, off, none⟩) (xs.take k) → Calls Try.prog 146 #[.slice (some ⟨b, off, none⟩) k cc, .int .i64 y] wx fun e w' => e = .returned (.bool b1) ∧ wx = w') := fun cc wx h => by
            have := specHasInt (some ⟨b, off, none⟩) cc (xs.take k) y wx h (by omega)
            rwa [hk2, hb1] at this
          have HI : Hid (IntsAt wr (some ⟨b, off, none⟩) (xs.take k)) := hxr.take k
          cases b1 with
          | true =>
            have HF : Hid (false = b0) := by
              unfold Hid
              rw [← HB0.out, eq_comm, diQ_no]
              rintro ⟨-, h⟩
              have := (h k hlt).2.2
              rw [HX.out] at this
              exact this (of_decide_eq_true hb1)
            clear hr hb1 hk2
            go_wp2_with fail
            go_quiet (first | (go_at_call 71; exact quietLeft (HQ.out _)) | (go_at_call 146; exact quietLeft (HH.out _ _ HI.out)))
            clear q1
            go_wp2_with fail
            go_ret
            exact ⟨ret_bool HF.out, HW2.out _⟩
          | false =>
            have HN : Hid (DiTo m xs (k + 1)) := HO.out.step (by rw [HX.out]; exact HY.out.1) (by rw [HX.out]; exact HY.out.2) (by rw [HX.out]; exact of_decide_eq_false hb1)
            clear hr hb1 hk2
            go_wp2_with fail
            go_quiet (first | (go_at_call 71; exact quietLeft (HQ.out _)) | (go_at_call 146; exact quietLeft (HH.out _ _ HI.out)))
            clear q1
            go_wp2_with fail
            go_roundw
            case rel => exact ⟨k + 1, (HW2.out _).choose, by omega, by go_num, HN.out, (HW2.out _).choose_spec⟩
            case measure => simp [intOf]; omega
      · obtain rfl : k = xs.length := by omega
        have HT : Hid (true = b0) := by
          unfold Hid
          rw [← HB0.out, diQ_yes ⟨HCN.out, HO.out⟩]
        go_wp2_with fail
        go_ret
        exact ⟨ret_bool HT.out, by have := HW2.out 0; rwa [World.drewN_zero] at this⟩
  · have hne : ((xs.length : Int) != (cn : Int)) = true := by simp; omega
    have HF : Hid (false = b0) := by
      unfold Hid
      rw [← HB0.out, diQ_no (fun h => hcn h.1)]
    clear hcn
    go_enter Try.func138, Try.ntmps138
    go_wp2_with fail
    go_ret
    exact ⟨ret_bool HF.out, 0, (World.drewN_zero _).symm⟩
/-! Lists of points. -/
theorem pt_bad {m : Int} {xs : List Int} {b0 : Bool} {k : Nat} (hb : ptQ m xs = b0) (hk : k < xs.length) (hn : ¬ (0 ≤ xs.getD k 0 ∧ xs.getD k 0 ≤ m - 1 ∧ (0 < k → xs.getD (k - 1) 0 < xs.getD k 0))) : false = b0 := by
  rw [← hb, eq_comm, ptQ_no]
  rintro ⟨-, h⟩
  exact hn (h k hk)
set_option maxRecDepth 3000 in
set_option maxHeartbeats 2000000 in
theorem implPts (m : Int) (A : Option Addr) (c : Nat) (xs : List Int) (w : World) (hx : IntsAt w A xs) (hl : xs.length ≤ 1048576) (h0 : 1 ≤ m) (h1 : m ≤ 20) :
    Calls Try.prog 135 #[.int .i64 m, .slice A xs.length c] w fun e w' => e = .returned (.bool (ptQ m xs)) ∧ w = w' := by
  obtain ⟨b0, hb0⟩ : ∃ b0, ptQ m xs = b0 := ⟨_, rfl⟩
  rw [hb0]
  have HB0 := Lib.hid hb0
  clear hb0
  go_enter Try.func135, Try.ntmps135
  go_wp2_with fail
  go_loop [9] (fun i => ∃ k : Nat, k ≤ xs.length ∧ i = .int .i64 k ∧ Hid (PtTo m xs k)) (fun i => xs.length - (intOf i).toNat)
  case atStart => exact ⟨0, Nat.zero_le _, rfl, fun j hj => absurd hj (Nat.not_lt_zero _)⟩
  case round =>
    obtain ⟨k, hk, rfl, HO⟩ := hrel
    by_cases hlt : k < xs.length
    · obtain ⟨b, off, y, rfl, hb, hc0, HX⟩ := hx.at_ hlt
      have p0 : (0 : Int) ≤ (k : Int) := by omega
      have p1 : (k : Int) < (xs.length : Int) := by omega
      have HQ := Lib.hid (isPoint_any m y w h0 h1)
      cases hr : inR y 0 (m - 1) with
      | false =>
        rw [hr] at HQ
        have HF : Hid (false = b0) := pt_bad HB0.out hlt (fun h => inR_no.1 hr (by rw [HX.out] at h; exact ⟨h.1, h.2.1⟩))
        clear hr
        go_wp2_with fail
        refine HQ.out.mono ?_
        rintro e w1 ⟨rfl, rfl⟩
        go_wp2_with fail
        go_ret
        exact ⟨ret_bool HF.out, rfl⟩
      | true =>
        rw [hr] at HQ
        have HY := Lib.hid (inR_iff.1 hr)
        clear hr
        rcases Nat.eq_zero_or_pos k with hk0 | hk0
        · have hnp : ¬ (0 : Int) < (k : Int) := by omega
          have HN : Hid (PtTo m xs (k + 1)) := HO.out.step (by rw [HX.out]; exact HY.out.1) (by rw [HX.out]; exact HY.out.2) (fun h => by omega)
          clear hk0
          go_wp2_with fail
          refine HQ.out.mono ?_
          rintro e w1 ⟨rfl, rfl⟩
          go_wp2_with fail
          go_round
          case rel => exact ⟨k + 1, by omega, by go_num, HN⟩
          case measure => simp [intOf]; omega
        · obtain ⟨b', off', z, e', hb', hc', HZ⟩ := hx.at_ (show k - 1 < xs.length by omega)
          injection e' with e'
          injection e' with e1 e2
          subst e1 e2
          have hnp : (0 : Int) < (k : Int) := by omega
          obtain ⟨km, hkm⟩ : ∃ km, k - 1 = km := ⟨_, rfl⟩
          rw [hkm] at hc'
          have hw1 : IntKind.i64.wrap ((k : Int) - 1) = (km : Int) := by rw [IntWalk.i64_in _ (by omega)]; omega
          have hw2 : ((k : Int) - 1) = (km : Int) := by omega
          have q0 : (0 : Int) ≤ (km : Int) := by omega
          have q1 : (km : Int) < (xs.length : Int) := by omega
          have HKM := Lib.hid hkm
          by_cases hzy : z < y
          · have hge : ¬ z ≥ y := by omega
            have HN : Hid (PtTo m xs (k + 1)) := HO.out.step (by rw [HX.out]; exact HY.out.1) (by rw [HX.out]; exact HY.out.2) (fun _ => by rw [HX.out, HZ.out]; exact hzy)
            clear hk0 hkm
            go_wp2_with fail
            refine HQ.out.mono ?_
            rintro e w1 ⟨rfl, rfl⟩
            go_wp2_with fail
            go_round
            case rel => exact ⟨k + 1, by omega, by go_num, HN⟩
            case measure => simp [intOf]; omega
          · have hge : z ≥ y := by omega
            have HF : Hid (false = b0) := pt_bad HB0.out hlt (fun h => hzy (by have := h.2.2 hk0; rwa [HX.out, HZ.out] at this))
            clear hk0 hkm
            go_wp2_with fail
            refine HQ.out.mono ?_
            rintro e w1 ⟨rfl, rfl⟩
            go_wp2_with fail
            go_ret
            exact ⟨ret_bool HF.out, rfl⟩
    · obtain rfl : k = xs.length := by omega
      have HT : Hid (decide ((0 : Int) < (xs.length : Int)) = b0) := by
        unfold Hid
        rw [← HB0.out]
        by_cases h : 1 ≤ xs.length
        · rw [ptQ_yes ⟨h, HO.out⟩]; exact decide_eq_true (by omega)
        · rw [ptQ_no (fun h2 => h h2.1)]; exact decide_eq_false (by omega)
      go_wp2_with fail
      go_ret
      exact ⟨ret_bool (by first | exact HT.out | (rw [← HT.out]; simp)), rfl⟩
set_option maxRecDepth 3000 in
set_option maxHeartbeats 2000000 in
theorem specPts (m : Int) (A : Option Addr) (c : Nat) (xs : List Int) (w : World) (hx : IntsAt w A xs) (hl : xs.length ≤ 1048576) (h0 : 1 ≤ m) (h1 : m ≤ 20) :
    Calls Try.prog 110 #[.int .i64 m, .slice A xs.length c] w (Quiet (.bool (ptQ m xs)) w) := by
  obtain ⟨b0, hb0⟩ : ∃ b0, ptQ m xs = b0 := ⟨_, rfl⟩
  rw [hb0]
  have HB0 := Lib.hid hb0
  clear hb0
  have HR0 := Lib.hid (inRange_any (xs.length : Int) 1 m w)
  cases hlr : inR (xs.length : Int) 1 m with
  | false =>
    rw [hlr] at HR0
    have HF : Hid (false = b0) := by
      unfold Hid
      rw [← HB0.out, eq_comm, ptQ_no]
      rintro ⟨h2, h3⟩
      have h4 : (1 : Int) ≤ (xs.length : Int) := by omega
      have h5 : (xs.length : Int) ≤ m := PtTo.len h3 (by omega)
      exact inR_no.1 hlr ⟨h4, h5⟩
    clear hlr
    go_enter Try.func110, Try.ntmps110
    go_wp2_with fail
    refine HR0.out.mono ?_
    rintro e w1 ⟨rfl, rfl⟩
    go_wp2_with fail
    go_ret
    exact ⟨ret_bool HF.out, 0, (World.drewN_zero _).symm⟩
  | true =>
    rw [hlr] at HR0
    have HLR := Lib.hid (inR_iff.1 hlr)
    clear hlr
    go_enter Try.func110, Try.ntmps110
    go_wp2_with fail
    refine HR0.out.mono ?_
    rintro e w1 ⟨rfl, rfl⟩
    go_wp2_with fail
    go_loopw [5] (fun i wr => ∃ (k nq : Nat), k ≤ xs.length ∧ i = .int .i64 k ∧ Hid (PtTo m xs k) ∧ wr = w.drewN nq) (fun i _ => xs.length - (intOf i).toNat)
    case atStart => exact ⟨0, 0, Nat.zero_le _, rfl, fun j hj => absurd hj (Nat.not_lt_zero _), rfl⟩
    case round =>
      obtain ⟨k, nd, hk, rfl, HO, hw2⟩ := hrel
      have hxr : IntsAt wr A xs := by rw [hw2]; exact hx.drewN nd
      have HW2 : Hid (∀ m, ∃ j, wr.drewN m = w.drewN j) := fun m => ⟨nd + m, by rw [hw2, World.drewN_drewN]⟩
      clear hw2
      by_cases hlt : k < xs.length
      · obtain ⟨b, off, y, rfl, hb, hc0, HX⟩ := hxr.at_ hlt
        have p0 : (0 : Int) ≤ (k : Int) := by omega
        have p1 : (k : Int) < (xs.length : Int) := by omega
        have q1 : IntKind.i64.wrap (m - 1) = m - 1 := IntWalk.i64_in _ (by omega)
        have HQ := Lib.hid (fun wx => inRange_any y 0 (m - 1) wx)
        cases hr : inR y 0 (m - 1) with
        | false =>
          rw [hr] at HQ
          have HF : Hid (false = b0) := pt_bad HB0.out hlt (fun h => inR_no.1 hr (by rw [HX.out] at h; exact ⟨h.1, h.2.1⟩))
          clear hr
          go_wp2_with fail
          go_quiet ((go_at_call 71; exact quietLeft (HQ.out _)))
          clear q1
          go_wp2_with fail
          go_ret
          exact ⟨ret_bool HF.out, HW2.out _⟩
        | true =>
          rw [hr] at HQ
          have HY := Lib.hid (inR_iff.1 hr)
          clear hr
          rcases Nat.eq_zero_or_pos k with hk0 | hk0
          · have hnp : decide (0 < k) = false := by simp; omega
            have HN : Hid (PtTo m xs (k + 1)) := HO.out.step (by rw [HX.out]; exact HY.out.1) (by rw [HX.out]; exact HY.out.2) (fun h => by omega)
            clear hk0
            go_wp2_with fail
            go_quiet ((go_at_call 71; exact quietLeft (HQ.out _)))
            clear q1
            go_wp2_with fail
            go_roundw
            case rel => exact ⟨k + 1, (HW2.out _).choose, by omega, by go_num, HN.out, (HW2.out _).choose_spec⟩
            case measure => simp [intOf]; omega
          · obtain ⟨b', off', z, e', hb', hc', HZ⟩ := hxr.at_ (show k - 1 < xs.length by omega)
            injection e' with e'
            injection e' with e1 e2
            subst e1 e2
            have hnp : decide (0 < k) = true := by simp; omega
            obtain ⟨km, hkm⟩ : ∃ km, k - 1 = km := ⟨_, rfl⟩
            rw [hkm] at hc'
            have hw1 : IntKind.i64.wrap ((k : Int) - 1) = (km : Int) := by rw [IntWalk.i64_in _ (by omega)]; omega
            have q0 : (0 : Int) ≤ (km : Int) := by omega
            have q2 : (km : Int) < (xs.length : Int) := by omega
            by_cases hzy : z < y
            · have hge : ¬ y ≤ z := by omega
              have HN : Hid (PtTo m xs (k + 1)) := HO.out.step (by rw [HX.out]; exact HY.out.1) (by rw [HX.out]; exact HY.out.2) (fun _ => by rw [HX.out, HZ.out]; exact hzy)
              clear hk0 hkm
              go_wp2_with fail
              go_quiet ((go_at_call 71; exact quietLeft (HQ.out _)))
              clear q1 hw1
              go_wp2_with fail
              go_roundw
              case rel => exact ⟨k + 1, (HW2.out _).choose, by omega, by go_num, HN.out, (HW2.out _).choose_spec⟩
              case measure => simp [intOf]; omega
            · have hge : y ≤ z := by omega
              have HF : Hid (false = b0) := pt_bad HB0.out hlt (fun h => hzy (by have := h.2.2 hk0; rwa [HX.out, HZ.out] at this))
              clear hk0 hkm
              go_wp2_with fail
              go_quiet ((go_at_call 71; exact quietLeft (HQ.out _)))
              clear q1 hw1
              go_wp2_with fail
              go_ret
              exact ⟨ret_bool HF.out, HW2.out _⟩
      · obtain rfl : k = xs.length := by omega
        have HT : Hid (true = b0) := by
          unfold Hid
          rw [← HB0.out, ptQ_yes ⟨by have := HLR.out; omega, HO.out⟩]
        go_wp2_with fail
        go_ret
        exact ⟨ret_bool HT.out, by have := HW2.out 0; rwa [World.drewN_zero] at this⟩
end Go.Proofs.Ytfhdnanbhigpmaa
