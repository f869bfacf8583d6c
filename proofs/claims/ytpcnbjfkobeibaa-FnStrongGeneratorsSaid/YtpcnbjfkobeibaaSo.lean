/- The sizes of a chain's orbits, and what follows from them, at the reference. Conditions: as each contract says. -/
import Derived.Test.YtpcnbjfkobeibaaQ
namespace Go.Proofs.Ytpcnbjfkobeibaa
open Go.RowKit Grp

theorem Filled.fresh {B : Nat} {w : World} {g n : Nat} {ys : List Int} (h : Filled B w g n ys) : Fresh B w (.slice (some ⟨g, 0, none⟩) n n) ys := by
  obtain ⟨h1, h2⟩ := h
  unfold Fresh
  subst h1
  exact h2
theorem Filled.ints {B : Nat} {w : World} {g n : Nat} {ys : List Int} (h : Filled B w g n ys) : IntsAt w (some ⟨g, 0, none⟩) ys := by
  have h2 := h.fresh
  exact h2.intsAt
theorem Filled.lt {B : Nat} {w : World} {g n : Nat} {ys : List Int} (h : Filled B w g n ys) : g < w.heap.size := h.fresh.under g rfl

def szTo (n : Nat) (T : Tab) (k : Nat) : List Nat := (List.range k).map fun i => (orb n T i).length
theorem szTo_len (n : Nat) (T : Tab) (k : Nat) : (szTo n T k).length = k := by simp [szTo]
theorem szTo_more (n : Nat) (T : Tab) (k : Nat) : szTo n T (k + 1) = szTo n T k ++ [(orb n T k).length] := by simp [szTo, List.range_succ]
theorem szTo_at {n : Nat} {T : Tab} {k i : Nat} (h : i < k) : app (szTo n T k) i = (orb n T i).length := by simp [app, szTo, List.getD_eq_getElem?_getD, h]
theorem boolInt (b : Bool) (w : World) : Calls Try.prog 72 #[.bool b] w fun e w' => e = .returned (.int .i64 (if b then 1 else 0)) ∧ w = w' := by
  cases b with
  | true =>
    go_enter Try.func72, Try.ntmps72
    go_wp2_with fail
    go_ret
    exact ⟨rfl, rfl⟩
  | false =>
    go_enter Try.func72, Try.ntmps72
    go_wp2_with fail
    go_ret
    exact ⟨rfl, rfl⟩
set_option maxRecDepth 100000 in
set_option maxHeartbeats 4000000 in
theorem specSizes (C n : Nat) (T : Tab) (w : World) (hC : CS w C n T) (hnl : n ≤ 20) :
    Calls Try.prog 109 #[.pointer (some ⟨C, 0, none⟩)] w (CompPost (szTo n T n) w) := by
  have hE : Fresh w.heap.size (w.alloc (.cells #[] 2)) (.slice (some ⟨w.heap.size, 0, none⟩) 0 0) (natI (szTo n T 0)) := Fresh.empty (Nat.le_refl _)
  have hB0 : Below w.heap.size w (w.alloc (.cells #[] 2)) := (by repeat (first | exact Below.refl _ _ | assumption | refine Below.setCell ?_ (by first | omega | (simp <;> omega)) _ | refine Below.alloc ?_ (by first | omega | (simp <;> omega)) _ | refine Below.drew ?_))
  have HC := Lib.hid hC
  clear hC
  go_enter Try.func109, Try.ntmps109
  go_wp2_with fail
  go_loopw [3, 4] (fun v i wr => ∃ k : Nat, k ≤ n ∧ i = .int .i64 (k : Int) ∧ Fresh w.heap.size wr v (natI (szTo n T k)) ∧ Below w.heap.size w wr) (fun _ i _ => n - (intOf i).toNat)
  case atStart => exact ⟨0, Nat.zero_le _, rfl, hE, hB0⟩
  case round =>
    obtain ⟨k, hk, rfl, hF, hB⟩ := hrel
    clear hE hB0
    obtain ⟨s, t0, t1, hrb, hrow⟩ := (HC.out.below hB).cells
    by_cases hlt : k < n
    · have hrk := hrb k hlt
      have HROW : Hid (∀ y, y < n → ∃ v, wr.cell? ⟨s.R k, y, none⟩ = some v ∧ RepV (fun _ => True) wr v n (T k y)) := fun y hy => hrow k y hlt hy
      have p0 : (0 : Int) ≤ (k : Int) := by omega
      have p1 : (k : Int) < (n : Int) := by omega
      clear hrb hrow
      go_wp2_with fail
      go_loop [5, 6] (fun z j => ∃ y : Nat, y ≤ n ∧ j = .int .i64 (y : Int) ∧ z = .int .i64 ((orbTo T k y).length : Int)) (fun _ j => n - (intOf j).toNat)
      case atStart => exact ⟨0, Nat.zero_le _, rfl, rfl⟩
      case round =>
        obtain ⟨y, hy, rfl, rfl⟩ := hrel
        by_cases hyl : y < n
        · obtain ⟨u, hu, hrep⟩ := HROW.out y hyl
          have p2 : (0 : Int) ≤ (y : Int) := by omega
          have p3 : (y : Int) < (n : Int) := by omega
          have hol := orbTo_len T k y
          cases hTk : T k y with
          | none =>
            rw [hTk] at hrep
            obtain rfl : u = .slice none 0 0 := hrep
            have HN := Lib.hid (orbTo_no hTk)
            obtain ⟨L, hL⟩ : ∃ L, (orbTo T k y).length = L := ⟨_, rfl⟩
            have HL := Lib.hid hL
            rw [hL] at hol
            rw [hL]
            clear hTk hL
            go_wp2_with (first | (go_at_call 72; refine (boolInt _ _).mono ?_; rintro e w' ⟨rfl, rfl⟩))
            go_round
            case rel => exact ⟨y + 1, by omega, by go_num, by rw [HN.out, HL.out] <;> go_num⟩
            case measure => simp [intOf]; omega
          | some t =>
            rw [hTk] at hrep
            have hrep : PermV _ wr u n t := hrep
            obtain ⟨gt, ct, rfl, -, -⟩ := hrep.ints
            have HN := Lib.hid (orbTo_yes hTk)
            obtain ⟨L, hL⟩ : ∃ L, (orbTo T k y).length = L := ⟨_, rfl⟩
            have HL := Lib.hid hL
            rw [hL] at hol
            rw [hL]
            clear hTk hL hrep
            go_wp2_with (first | (go_at_call 72; refine (boolInt _ _).mono ?_; rintro e w' ⟨rfl, rfl⟩))
            go_round
            case rel => exact ⟨y + 1, by omega, by go_num, by rw [HN.out, List.length_append, HL.out]; go_num⟩
            case measure => simp [intOf]; omega
        · obtain rfl : y = n := by omega
          have hl2 : (natI (szTo y T k)).length ≤ 1048576 := by rw [natI_len, szTo_len]; omega
          have hBz := hB.size
          have HM := Lib.hid (szTo_more y T k)
          obtain ⟨L, hL⟩ : ∃ L, (orbTo T k y).length = L := ⟨_, rfl⟩
          have HL := Lib.hid hL
          rw [hL]
          clear hL
          go_wp2_with (first | (at_builtin; refine append_one rfl (.tmp 39) (.tmp 41) rfl w.heap.size _ _ (L : Int) rfl (hF.below (by repeat (first | exact Below.refl _ _ | assumption | refine Below.setCell ?_ (by first | omega | (simp <;> omega)) _ | refine Below.alloc ?_ (by first | omega | (simp <;> omega)) _ | refine Below.drew ?_))) wr.heap.size rfl (by simp) hl2 (by simp; omega) ?_; intro v3 w3 hF3 hg3 hb3))
          have hB3 : Below w.heap.size w w3 := hB.trans (((Below.refl _ _).alloc hBz _).trans hb3)
          have hF4 : Fresh w.heap.size w3 v3 (natI (szTo y T (k + 1))) := by
            have e : (orb y T k).length = L := HL.out
            rw [HM.out, e]
            simpa [natI] using hF3
          go_roundw
          case rel => exact ⟨k + 1, by omega, by go_num, hF4, hB3⟩
          case measure => simp [intOf]; omega
    · obtain rfl : k = n := by omega
      go_wp2_with fail
      go_ret
      exact ⟨_, rfl, hF, hB⟩
set_option maxRecDepth 100000 in
set_option maxHeartbeats 4000000 in
theorem specOrder {G : List Nat → Prop} (C n : Nat) (T : Tab) (w : World) (hC : CS w C n T) (hc : Chain n T 0 G) (hnl : n ≤ 20) :
    Calls Try.prog 110 #[.pointer (some ⟨C, 0, none⟩)] w (ReadsNat (ordG n T 0) w) := by
  obtain ⟨r, hr⟩ : ∃ r, ordG n T 0 = r := ⟨_, rfl⟩
  have hrb := (ordG_bound hc hnl (Nat.zero_le _)).2
  rw [hr] at hrb
  rw [hr]
  have HR := Lib.hid hr
  have HCH := Lib.hid hc
  clear hr hc
  go_enter Try.func110, Try.ntmps110
  go_wp2_with (first | (go_at_call 109; refine (specSizes C n T _ hC hnl).mono ?_; rintro e w1 ⟨v1, rfl, hF1, hB1⟩))
  obtain ⟨A1, c1, rfl, hI1, -⟩ := hF1.ints
  have hln : (natI (szTo n T n)).length = n := by rw [natI_len, szTo_len]
  rw [hln]
  have HI := Lib.hid hI1
  clear hF1 hI1 hC hln
  go_loop [3, 5] (fun o i => ∃ (k m : Nat), k ≤ n ∧ i = .int .i64 (k : Int) ∧ o = .int .i64 (m : Int) ∧ Hid (m * ordG n T k = r)) (fun _ i => n - (intOf i).toNat)
  case atStart => exact ⟨0, 1, Nat.zero_le _, rfl, rfl, by unfold Hid; rw [Nat.one_mul, HR.out]⟩
  case round =>
    obtain ⟨k, m, hk, rfl, rfl, HM⟩ := hrel
    by_cases hlt : k < n
    · obtain ⟨b, off, rfl, hbl, hc0⟩ := perm_at HI.out (i := k) (by rw [szTo_len]; exact hlt)
      obtain ⟨L, hL⟩ : ∃ L, app (szTo n T n) k = L := ⟨_, rfl⟩
      rw [hL] at hc0
      rw [szTo_at hlt] at hL
      have p0 : (0 : Int) ≤ (k : Int) := by omega
      have p1 : (k : Int) < (n : Int) := by omega
      have hM2 : m * L * ordG n T (k + 1) = r := by
        have := HM.out
        rw [ordG_step hlt, ← Nat.mul_assoc, hL] at this
        exact this
      have hml : m * L ≤ 2432902008176640000 := Nat.le_trans (mulLe hM2 (ordG_bound HCH.out hnl (show k + 1 ≤ n by omega)).1) hrb
      have q1 : IntKind.i64.wrap ((m : Int) * (L : Int)) = ((m * L : Nat) : Int) := by rw [← Int.natCast_mul]; exact wrapNat hml
      have HM2 := Lib.hid hM2
      clear hM2 hL hml
      go_wp2_with fail
      go_round
      case rel => exact ⟨k + 1, m * L, by omega, by go_num, by first | rfl | rw [q1], HM2⟩
      case measure => simp [intOf]; omega
    · obtain rfl : k = n := by omega
      have hm := HM.out
      rw [ordG_end, Nat.mul_one] at hm
      subst hm
      go_wp2_with fail
      go_ret
      exact ⟨rfl, hB1⟩
/-- How many members each choice at a level has, from level k on. -/
def PerFrom (n : Nat) (T : Tab) (k : Nat) (ys : List Int) : Prop := ∀ j, k ≤ j → j < n → ys.getD j 0 = (ordG n T (j + 1) : Int)
def PerPost (n : Nat) (T : Tab) (w : World) (e : Ending) (w' : World) : Prop := ∃ g ys, e = .returned (.slice (some ⟨g, 0, none⟩) n n) ∧ w.heap.size ≤ g ∧ g < w'.heap.size ∧ IntsAt w' (some ⟨g, 0, none⟩) ys ∧ (ys : List Int).length = n ∧ PerFrom n T 0 ys ∧ Below w.heap.size w w'
set_option maxRecDepth 100000 in
set_option maxHeartbeats 4000000 in
theorem specPer {G : List Nat → Prop} (C n : Nat) (T : Tab) (w : World) (hC : CS w C n T) (hc : Chain n T 0 G) (hnl : n ≤ 20) :
    Calls Try.prog 120 #[.pointer (some ⟨C, 0, none⟩)] w (PerPost n T w) := by
  obtain ⟨i0, hi, hz0, hz1, hz2⟩ := info_parts intInfo
  have HCH := Lib.hid hc
  have HO0 : Hid (1 = ordG n T n) := ordG_end.symm
  clear hc
  have hn1 : IntKind.i64.wrap ((n : Int) - 1) = (n : Int) - 1 := IntWalk.i64_in _ (by omega)
  go_enter Try.func120, Try.ntmps120
  go_wp2_with (first
    | (go_at_call 109; refine (specSizes C n T _ hC hnl).mono ?_; rintro e w1 ⟨v1, rfl, hF1, hB1⟩
        ; obtain ⟨A1, c1, rfl, hI1, -⟩ := hF1.ints
        ; have hln : (natI (szTo n T n)).length = n := (by rw [natI_len, szTo_len])
        ; rw [hln])
    | (at_make; refine wpList_make_full _ rfl _ _ 23 rfl w1.heap.size 2 i0 (.int .i64 0) 1 Try.underlying23 hi hz0 hz1 _ _ _ _ n rfl rfl rfl rfl ?_ ?_ ?_ ?_))
  · rw [hz2]; omega
  · unfold maxLen; omega
  · simp
  intro w2 hown hgrow
  rw [made_ints] at hown
  have hb2 : Below w1.heap.size w1 w2 := (Below.refl _ _).grown hgrow (Nat.le_refl _) (by simp)
  have hB2 : Below w.heap.size w w2 := belowStep hb2 hB1
  have hF0 : Filled w1.heap.size w2 w1.heap.size n (List.replicate n 0) := ⟨by simp, hown⟩
  have HI := Lib.hid hI1
  have hw1 := hB1.size
  clear hgrow hown hF1 hI1 hC hln
  go_wp2_with fail
  go_loopw [5, 6] (fun o i wr => ∃ (k m : Nat) (ys : List Int), k ≤ n ∧ i = .int .i64 ((k : Int) - 1) ∧ o = .int .i64 (m : Int) ∧ Hid (m = ordG n T k) ∧ Filled w1.heap.size wr w1.heap.size n ys ∧ Hid (PerFrom n T k ys) ∧ Below w1.heap.size w1 wr) (fun _ i _ => (intOf i + 1).toNat)
  case atStart => exact ⟨n, 1, _, Nat.le_refl _, by go_num, rfl, HO0, hF0, fun j hj hj2 => by omega, hb2⟩
  case round =>
    obtain ⟨k, m, ys, hk, rfl, rfl, HM, hF, HY, hB⟩ := hrel
    clear hF0 hb2
    by_cases h0 : 0 < k
    · obtain ⟨j, rfl⟩ : ∃ j, k = j + 1 := ⟨k - 1, by omega⟩
      have ej : (((j + 1 : Nat) : Int) - 1) = (j : Int) := by omega
      rw [ej]
      have hjn : j < n := by omega
      obtain ⟨L, hL⟩ : ∃ L, app (szTo n T n) j = L := ⟨_, rfl⟩
      obtain ⟨b, off, rfl, hbl, hc0⟩ := perm_at HI.out (i := j) (by rw [szTo_len]; exact hjn)
      rw [hL] at hc0
      rw [szTo_at hjn] at hL
      have hc1 : (wr.setCell ⟨w1.heap.size, j, none⟩ (.int .i64 (m : Int))).cell? ⟨b, off + j, none⟩ = some (.int .i64 (L : Int)) := ((hB.setCell (p := ⟨w1.heap.size, j, none⟩) (Nat.le_refl _) _).cell (p := ⟨b, off + j, none⟩) hbl).trans hc0
      have hcell := hF.cell hjn
      have hfr := hF.2.frozenAt j
      have HF := Lib.hid (hF.store j (m : Int))
      have hM2 : m * L = ordG n T j := by rw [ordG_step hjn, hL, ← HM.out, Nat.mul_comm]
      have hml : m * L ≤ 2432902008176640000 := by rw [hM2]; exact (ordG_bound HCH.out hnl (Nat.le_of_lt hjn)).2
      have q1 : IntKind.i64.wrap ((m : Int) * (L : Int)) = ((m * L : Nat) : Int) := by rw [← Int.natCast_mul]; exact wrapNat hml
      have HM2 := Lib.hid hM2
      have HYN : Hid (PerFrom n T j (ys.set j (m : Int))) := fun i hi hi2 => by
        rw [set_getD _ _ _ _ (by rw [hF.1]; exact hjn)]
        by_cases e : i = j
        · subst e; rw [if_pos rfl, ← HM.out]
        · rw [if_neg e]; exact HY.out i (by omega) hi2
      have p0 : (0 : Int) ≤ (j : Int) := by omega
      have p1 : (j : Int) < (n : Int) := by omega
      have q2 : IntKind.i64.wrap ((j : Int) - 1) = (j : Int) - 1 := IntWalk.i64_in _ (by omega)
      clear hM2 hL hml hF hc0
      go_wp2_with fail
      go_roundw
      case rel => exact ⟨j, m * L, _, by omega, by first | rfl | rw [q2], by first | rfl | rw [q1], HM2, HF.out, HYN, hB.setCell (p := ⟨w1.heap.size, j, none⟩) (Nat.le_refl _) _⟩
      case measure => simp [intOf] <;> omega
    · obtain rfl : k = 0 := by omega
      have e : (((0 : Nat) : Int) - 1) = -1 := by omega
      rw [e]
      go_wp2_with fail
      go_ret
      refine ⟨w1.heap.size, ys, rfl, hw1, hF.lt, hF.ints, hF.1, HY.out, belowStep hB hB1⟩
end Go.Proofs.Ytpcnbjfkobeibaa
