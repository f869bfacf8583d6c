/- Whether a list is a permutation, at both packages. Conditions: as each contract says. Whether lists generate a group, at both packages. Conditions: as each contract says. Whether lists generate a group, at the program. Conditions: as each contract says. -/
import Derived.Test.YtfhdnanbhigpmaaCo
import Derived.Test.YtfhdnanbhigpmaaTk
import Derived.Deep.RegionHeld3
import Derived.Test.YtfhdnanbhigpmaaLs
import Derived.Laws.BitsAllLaws
namespace Go.Proofs.Ytfhdnanbhigpmaa
section
open Go.RowKit Grp

def OkTo (xs : List Int) (k : Nat) : Prop := ∀ j, j < k → 0 ≤ xs.getD j 0 ∧ xs.getD j 0 < (xs.length : Int) ∧ ∀ j', j' < j → xs.getD j' 0 ≠ xs.getD j 0
def PermL (xs : List Int) : Prop := 1 ≤ xs.length ∧ xs.length ≤ 20 ∧ OkTo xs xs.length
open Classical in
noncomputable def permQ (xs : List Int) : Bool := decide (PermL xs)
open Classical in
theorem permQ_yes {xs : List Int} (h : PermL xs) : permQ xs = true := by unfold permQ; exact decide_eq_true h
open Classical in
theorem permQ_no {xs : List Int} (h : ¬ PermL xs) : permQ xs = false := by unfold permQ; exact decide_eq_false h
open Classical in
theorem permQ_iff {xs : List Int} : permQ xs = true ↔ PermL xs := by unfold permQ; exact decide_eq_true_iff
theorem PermL.perm {xs : List Int} (h : PermL xs) : ∃ p, xs = natI p ∧ IsP xs.length p := by
  obtain ⟨h1, h2, h3⟩ := h
  have hget : ∀ i, i < xs.length → ((app (xs.map Int.toNat) i : Nat) : Int) = xs.getD i 0 := fun i hi => by
    have := (h3 i hi).1
    rw [getD_at _ _ hi] at this ⊢
    unfold app
    rw [List.getD_eq_getElem?_getD, List.getElem?_map, List.getElem?_eq_getElem hi]
    simp only [Option.map_some, Option.getD_some]
    omega
  refine ⟨xs.map Int.toNat, natI_ext (by simp) fun i hi => ?_, by simp, fun i hi => ?_, fun i j hi hj e => ?_⟩
  · rw [List.length_map] at hi
    exact (hget i hi).symm
  · have := (h3 i hi).2.1
    have := hget i hi
    omega
  · have e1 : xs.getD i 0 = xs.getD j 0 := by rw [← hget i hi, ← hget j hj, e]
    rcases Nat.lt_trichotomy i j with h | h | h
    · exact absurd e1 ((h3 j hj).2.2 i h)
    · exact h
    · exact absurd e1.symm ((h3 i hi).2.2 j h)
theorem OkTo.step {xs : List Int} {k : Nat} (h : OkTo xs k) (h0 : 0 ≤ xs.getD k 0) (h1 : xs.getD k 0 < (xs.length : Int)) (h2 : xs.getD k 0 ∉ xs.take k) (hk : k < xs.length) : OkTo xs (k + 1) := fun j hj => by
  rcases Nat.lt_or_ge j k with h3 | h3
  · exact h j h3
  · obtain rfl : j = k := by omega
    refine ⟨h0, h1, fun j' hj' e => h2 ?_⟩
    rw [← e, getD_at _ _ (by omega), List.mem_take_iff_getElem]
    exact ⟨j', by omega, rfl⟩
theorem OkTo.no {xs : List Int} {k : Nat} (hk : k < xs.length) (h2 : xs.getD k 0 ∈ xs.take k) : ¬ OkTo xs xs.length := fun h => by
  rw [List.mem_take_iff_getElem] at h2
  obtain ⟨j, hj, e⟩ := h2
  refine (h k hk).2.2 j (by omega) ?_
  rw [getD_at _ _ (by omega)]
  exact e
set_option maxRecDepth 100000 in
set_option maxHeartbeats 4000000 in
theorem specPerm (A : Option Addr) (c : Nat) (xs : List Int) (w : World) (hx : IntsAt w A xs) (hl : xs.length ≤ 1048576) (hc : xs.length ≤ c) :
    Calls Try.prog 140 #[.slice A xs.length c] w (Quiet (.bool (permQ xs)) w) := by
  obtain ⟨b0, hb0⟩ : ∃ b0, permQ xs = b0 := ⟨_, rfl⟩
  rw [hb0]
  have HB0 := Lib.hid hb0
  clear hb0
  by_cases hlen : 1 ≤ xs.length ∧ xs.length ≤ 20
  · obtain ⟨l1, l2⟩ := hlen
    have hin : inR (xs.length : Int) 1 20 = true := inR_iff.2 ⟨by omega, by omega⟩
    go_enter Try.func140, Try.ntmps140
    go_wp2_with fail
    refine (inRange_any _ _ _ _).mono ?_
    rintro e w' ⟨rfl, rfl⟩
    rw [hin]
    go_wp2_with fail
    go_loopw [4] (fun i wr => ∃ (k nq : Nat), k ≤ xs.length ∧ i = .int .i64 k ∧ Hid (OkTo xs k) ∧ wr = w.drewN nq) (fun i _ => xs.length - (intOf i).toNat)
    case atStart => exact ⟨0, 0, Nat.zero_le _, rfl, fun j hj => by omega, rfl⟩
    case round =>
      obtain ⟨k, nd, hk, rfl, HO, hw2⟩ := hrel
      have hxr : IntsAt wr A xs := by rw [hw2]; exact hx.drewN nd
      have HW2 : Hid (∀ m, ∃ j, wr.drewN m = w.drewN j) := fun m => ⟨nd + m, by rw [hw2, World.drewN_drewN]⟩
      clear hw2
      by_cases hlt : k < xs.length
      · obtain ⟨b, off, y, rfl, hb, hc0, HX⟩ := hxr.at_ hlt
        have p0 : (0 : Int) ≤ (k : Int) := by omega
        have p1 : (k : Int) < (xs.length : Int) := by omega
        have q1 : IntKind.i64.wrap ((xs.length : Int) - 1) = (xs.length : Int) - 1 := IntWalk.i64_in _ (by omega)
        cases hr : inR y 0 ((xs.length : Int) - 1) with
        | false =>
          have HF : Hid (false = b0) := by
            unfold Hid
            rw [← HB0.out, permQ_no]
            rintro ⟨-, -, h⟩
            have := h k hlt
            rw [HX.out] at this
            exact inR_no.1 hr ⟨this.1, by omega⟩
          have HQ : Hid (∀ wx : World, Calls Try.prog 71 #[.int .i64 y, .int .i64 0, .int .i64 ((xs.length : Int) - 1)] wx fun e w' => e = .returned (.bool false) ∧ wx = w') := fun wx => by have := inRange_any y 0 ((xs.length : Int) - 1) wx; rwa [hr] at this
          clear hr
          go_wp2_with fail
          go_quiet ((go_at_call 71; exact quietLeft (HQ.out _)))
          clear q1
          go_wp2_with fail
          go_ret
          exact ⟨ret_bool HF.out, HW2.out _⟩
        | true =>
          have HY := Lib.hid (inR_iff.1 hr)
          have HQ : Hid (∀ wx : World, Calls Try.prog 71 #[.int .i64 y, .int .i64 0, .int .i64 ((xs.length : Int) - 1)] wx fun e w' => e = .returned (.bool true) ∧ wx = w') := fun wx => by have := inRange_any y 0 ((xs.length : Int) - 1) wx; rwa [hr] at this
          have hk2 : (xs.take k).length = k := by rw [List.length_take]; omega
          have p2 : (k : Int) ≤ (c : Int) := by omega
          obtain ⟨b1, hb1⟩ : ∃ b1, decide (y ∈ xs.take k) = b1 := ⟨_, rfl⟩
          have HH : Hid (∀ (cc : Nat) (wx : World), IntsAt wx (some ⟨b, off, none⟩) (xs.take k) → Calls Try.prog 146 #[.slice (some ⟨b, off, none⟩) k cc, .int .i64 y] wx fun e w' => e = .returned (.bool b1) ∧ wx = w') := fun cc wx h => by
            have := specHasInt (some ⟨b, off, none⟩) cc (xs.take k) y wx h (by omega)
            rwa [hk2, hb1] at this
          have HI : Hid (IntsAt wr (some ⟨b, off, none⟩) (xs.take k)) := hxr.take k
          cases b1 with
          | true =>
            have HF : Hid (false = b0) := by
              unfold Hid
              rw [← HB0.out, permQ_no]
              rintro ⟨-, -, h⟩
              exact OkTo.no hlt (by rw [HX.out]; exact of_decide_eq_true hb1) h
            clear hr hb1 hk2
            go_wp2_with fail
            go_quiet (first | (go_at_call 71; exact quietLeft (HQ.out _)) | (go_at_call 146; exact quietLeft (HH.out _ _ HI.out)))
            clear q1
            go_wp2_with fail
            go_ret
            exact ⟨ret_bool HF.out, HW2.out _⟩
          | false =>
            have HN : Hid (OkTo xs (k + 1)) := HO.out.step (by rw [HX.out]; exact HY.out.1) (by rw [HX.out]; have := HY.out.2; omega) (by rw [HX.out]; exact of_decide_eq_false hb1) hlt
            clear hr hb1 hk2
            go_wp2_with fail
            go_quiet (first | (go_at_call 71; exact quietLeft (HQ.out _)) | (go_at_call 146; exact quietLeft (HH.out _ _ HI.out)))
            clear q1
            go_wp2_with fail
            go_roundw
            case rel => exact ⟨k + 1, (HW2.out _).choose, by omega, by go_num, HN.out, (HW2.out _).choose_spec⟩
            case measure => simp [intOf]; omega
      · obtain rfl : k = xs.length := by omega
        have HT : Hid (true = b0) := by
          unfold Hid
          rw [← HB0.out, permQ_yes ⟨l1, l2, HO.out⟩]
        go_wp2_with fail
        go_ret
        exact ⟨ret_bool HT.out, by have := HW2.out 0; rwa [World.drewN_zero] at this⟩
  · have hin : inR (xs.length : Int) 1 20 = false := inR_no.2 (by omega)
    have HF : Hid (false = b0) := by
      unfold Hid
      rw [← HB0.out, permQ_no]
      exact fun h => hlen ⟨h.1, h.2.1⟩
    go_enter Try.func140, Try.ntmps140
    go_wp2_with fail
    refine (inRange_any _ _ _ _).mono ?_
    rintro e w' ⟨rfl, rfl⟩
    rw [hin]
    go_wp2_with fail
    go_ret
    exact ⟨ret_bool HF.out, 0, rfl⟩
theorem i64_or_small (a b : Nat) (ha : a < 2 ^ 20) (hb : b < 2 ^ 20) : bits .or .i64 (a : Int) (b : Int) = ((a ||| b : Nat) : Int) := by
  have hx : a ||| b < 2 ^ 20 := Nat.or_lt_two_pow ha hb
  have e1 : ∀ n : Nat, n < 2 ^ 20 → (BitVec.ofInt 64 (n : Int)).toNat = n := fun n hn => by
    rw [BitVec.toNat_ofInt]
    omega
  show IntKind.i64.wrap ((BitVec.ofInt 64 (a : Int) ||| BitVec.ofInt 64 (b : Int)).toNat : Int) = _
  rw [BitVec.toNat_or, e1 a ha, e1 b hb]
  exact IntWalk.i64_in _ (by omega)
def BitsTo (xs : List Int) (k m : Nat) : Prop := m < 2 ^ xs.length ∧ ∀ b : Nat, m.testBit b = true ↔ ∃ j, j < k ∧ xs.getD j 0 = (b : Int)
theorem BitsTo.step {xs : List Int} {k m y : Nat} (h : BitsTo xs k m) (hy : xs.getD k 0 = (y : Int)) (hyl : y < xs.length) : BitsTo xs (k + 1) (m ||| 2 ^ y) := by
  refine ⟨Nat.or_lt_two_pow h.1 (Nat.pow_lt_pow_right (by decide) hyl), fun b => ?_⟩
  rw [Nat.testBit_or, Bool.or_eq_true, h.2, Nat.testBit_two_pow, decide_eq_true_iff]
  constructor
  · rintro (⟨j, hj, e⟩ | rfl)
    · exact ⟨j, by omega, e⟩
    · exact ⟨k, by omega, hy⟩
  · rintro ⟨j, hj, e⟩
    rcases Nat.lt_or_ge j k with h1 | h1
    · exact .inl ⟨j, h1, e⟩
    · obtain rfl : j = k := by omega
      exact .inr (by omega)
theorem surj_inj {n : Nat} (f : Nat → Nat) (hs : ∀ b, b < n → ∃ j, j < n ∧ f j = b) : ∀ i j, i < n → j < n → f i = f j → i = j := by
  classical
  have hg : ∀ b, ∃ j, b < n → j < n ∧ f j = b := fun b => by
    by_cases hb : b < n
    · obtain ⟨j, h⟩ := hs b hb
      exact ⟨j, fun _ => h⟩
    · exact ⟨0, fun h => absurd h hb⟩
  have hg2 : ∀ b, b < n → (hg b).choose < n ∧ f (hg b).choose = b := fun b hb => (hg b).choose_spec hb
  have honto := onto_of_inj n (fun b => (hg b).choose) (fun b hb => (hg2 b hb).1) (fun a b ha hb e => by
    rw [← (hg2 a ha).2, ← (hg2 b hb).2, e])
  intro i j hi hj e
  obtain ⟨a, ha, ea⟩ := honto i hi
  obtain ⟨b, hb, eb⟩ := honto j hj
  have : a = b := by
    rw [← (hg2 a ha).2, ← (hg2 b hb).2]
    rw [ea, eb, e]
  rw [← ea, ← eb, this]
theorem BitsTo.fin {xs : List Int} {m : Nat} (h : BitsTo xs xs.length m) (h1 : 1 ≤ xs.length) (h2 : xs.length ≤ 20) (hr : ∀ j, j < xs.length → 0 ≤ xs.getD j 0 ∧ xs.getD j 0 < (xs.length : Int)) : m = 2 ^ xs.length - 1 ↔ PermL xs := by
  constructor
  · intro e
    have hs : ∀ b, b < xs.length → ∃ j, j < xs.length ∧ (xs.getD j 0).toNat = b := fun b hb => by
      have hb2 : m.testBit b = true := by rw [e, Nat.testBit_two_pow_sub_one]; exact decide_eq_true hb
      obtain ⟨j, hj, e2⟩ := (h.2 b).1 hb2
      exact ⟨j, hj, by rw [e2]; simp⟩
    have hi := surj_inj (n := xs.length) (fun j => (xs.getD j 0).toNat) hs
    refine ⟨h1, h2, fun j hj => ⟨(hr j hj).1, (hr j hj).2, fun j' hj' e2 => ?_⟩⟩
    have := hi j' j (by omega) hj (by rw [e2])
    omega
  · intro hp
    obtain ⟨p, hp1, hp2⟩ := hp.perm
    refine Nat.eq_of_testBit_eq fun b => ?_
    rw [Nat.testBit_two_pow_sub_one]
    by_cases hb : b < xs.length
    · rw [decide_eq_true hb, h.2]
      obtain ⟨i, hi, e⟩ := hp2.onto hb
      exact ⟨i, hi, by rw [hp1, natI_getD, e]⟩
    · rw [decide_eq_false hb, Bool.eq_false_iff]
      intro h3
      obtain ⟨j, hj, e⟩ := (h.2 b).1 h3
      have := (hr j hj).2
      omega
set_option maxHeartbeats 1000000 in
theorem implLength (A : Option Addr) (n c : Nat) (w : World) : Calls Try.prog 149 #[.slice A n c] w fun e w' => e = .returned (.int .i64 (n : Int)) ∧ w = w' := by
  go_enter Try.func149, Try.ntmps149
  go_wp2_with fail
  go_ret
  exact ⟨rfl, rfl⟩
theorem wrap_pow {y : Nat} (h : y ≤ 20) : wrap64 ((2 : Int) ^ y) = ((2 ^ y : Nat) : Int) := by
  have h1 : 2 ^ y ≤ 2 ^ 20 := Nat.pow_le_pow_right (by decide) h
  have h2 : ((2 : Int) ^ y) = ((2 ^ y : Nat) : Int) := by simp
  rw [h2]
  generalize 2 ^ y = z at h1
  unfold wrap64
  omega
set_option maxRecDepth 100000 in
set_option maxHeartbeats 4000000 in
theorem implPerm (A : Option Addr) (c : Nat) (xs : List Int) (w : World) (hx : IntsAt w A xs) (hl : xs.length ≤ 1048576) :
    Calls Try.prog 150 #[.slice A xs.length c] w fun e w' => e = .returned (.bool (permQ xs)) ∧ w = w' := by
  obtain ⟨b0, hb0⟩ : ∃ b0, permQ xs = b0 := ⟨_, rfl⟩
  rw [hb0]
  have HB0 := Lib.hid hb0
  clear hb0
  by_cases hlen : 1 ≤ xs.length ∧ xs.length ≤ 20
  · obtain ⟨l1, l2⟩ := hlen
    have HIN : Hid (∀ wx : World, Calls Try.prog 66 #[.int .i64 (xs.length : Int), .int .i64 1, .int .i64 20] wx fun e w' => e = .returned (.bool true) ∧ wx = w') := fun wx => by have := within_any (xs.length : Int) 1 20 wx; rwa [inR_iff.2 ⟨by omega, by omega⟩] at this
    go_enter Try.func150, Try.ntmps150
    go_wp2_with (first | (go_at_call 149; refine (implLength _ _ _ _).mono ?_; rintro e w' ⟨rfl, rfl⟩) | (go_at_call 66; refine (HIN.out _).mono ?_; rintro e w' ⟨rfl, rfl⟩))
    go_loop [3, 12] (fun s i => ∃ (k m : Nat), k ≤ xs.length ∧ i = .int .i64 k ∧ s = .int .i64 (m : Int) ∧ Hid (BitsTo xs k m) ∧ Hid (∀ j, j < k → 0 ≤ xs.getD j 0 ∧ xs.getD j 0 < (xs.length : Int))) (fun _ i => xs.length - (intOf i).toNat)
    case atStart => exact ⟨0, 0, Nat.zero_le _, rfl, rfl, ⟨Nat.two_pow_pos _, fun b => by simp⟩, fun j hj => by omega⟩
    case round =>
      obtain ⟨k, m, hk, rfl, rfl, HM, HR⟩ := hrel
      by_cases hlt : k < xs.length
      · obtain ⟨b, off, y, rfl, hb, hc0, HX⟩ := hx.at_ hlt
        have p0 : (0 : Int) ≤ (k : Int) := by omega
        have p1 : (k : Int) < (xs.length : Int) := by omega
        have q1 : IntKind.i64.wrap ((xs.length : Int) - 1) = (xs.length : Int) - 1 := IntWalk.i64_in _ (by omega)
        obtain ⟨b1, hb1⟩ : ∃ b1, inR y 0 ((xs.length : Int) - 1) = b1 := ⟨_, rfl⟩
        have HQ : Hid (∀ wx : World, Calls Try.prog 66 #[.int .i64 y, .int .i64 0, .int .i64 ((xs.length : Int) - 1)] wx fun e w' => e = .returned (.bool b1) ∧ wx = w') := fun wx => by have := within_any y 0 ((xs.length : Int) - 1) wx; rwa [hb1] at this
        cases b1 with
        | false =>
          have HF : Hid (false = b0) := by
            unfold Hid
            rw [← HB0.out, permQ_no]
            rintro ⟨-, -, h⟩
            have := h k hlt
            rw [HX.out] at this
            exact inR_no.1 hb1 ⟨this.1, by omega⟩
          clear hb1
          go_wp2_with (first | (go_at_call 149; refine (implLength _ _ _ _).mono ?_; rintro e w' ⟨rfl, rfl⟩) | (go_at_call 66; refine (HQ.out _).mono ?_; rintro e w' ⟨rfl, rfl⟩))
          go_ret
          exact ⟨ret_bool HF.out, rfl⟩
        | true =>
          have hy := inR_iff.1 hb1
          obtain ⟨yn, rfl⟩ := Int.eq_ofNat_of_zero_le hy.1
          have hyl : yn < xs.length := by omega
          have HM2 := Lib.hid (HM.out.step HX.out hyl)
          have HR2 : Hid (∀ j, j < k + 1 → 0 ≤ xs.getD j 0 ∧ xs.getD j 0 < (xs.length : Int)) := fun j hj => by
            rcases Nat.lt_or_ge j k with h | h
            · exact HR.out j h
            · rw [show j = k from by omega, HX.out]; omega
          have hm20 : m < 2 ^ 20 := Nat.lt_of_lt_of_le HM.out.1 (Nat.pow_le_pow_right (by decide) l2)
          have hy20 : 2 ^ yn < 2 ^ 20 := Nat.pow_lt_pow_right (by decide) (by omega)
          have HOR := Lib.hid (i64_or_small m (2 ^ yn) hm20 hy20)
          have HPW : Hid (wrap64 ((2 : Int) ^ yn) = ((2 ^ yn : Nat) : Int)) := wrap_pow (by omega)
          have p3 : (0 : Int) ≤ (yn : Int) := by omega
          have p4 : (yn : Int) ≤ 64 := by omega
          clear hb1 hy hm20 hy20
          go_wp2_with (first | (go_at_call 149; refine (implLength _ _ _ _).mono ?_; rintro e w' ⟨rfl, rfl⟩) | (go_at_call 66; refine (HQ.out _).mono ?_; rintro e w' ⟨rfl, rfl⟩))
          go_round
          case rel =>
            refine ⟨k + 1, m ||| 2 ^ yn, by omega, by go_num, ?_, HM2, HR2⟩
            rw [HPW.out, HOR.out]
          case measure => simp [intOf]; omega
      · obtain rfl : k = xs.length := by omega
        have HE := Lib.hid (HM.out.fin l1 l2 HR.out)
        have HPW : Hid (wrap64 ((2 : Int) ^ xs.length) = ((2 ^ xs.length : Nat) : Int)) := wrap_pow l2
        go_wp2_with fail
        go_ret
        refine ⟨ret_bool ?_, rfl⟩
        have h1 : 2 ^ xs.length ≤ 2 ^ 20 := Nat.pow_le_pow_right (by decide) l2
        have h2 : 0 < 2 ^ xs.length := Nat.two_pow_pos _
        have he := HE.out
        rw [HPW.out, ← HB0.out]
        generalize 2 ^ xs.length = z at h1 h2 he
        rw [Bool.eq_iff_iff, beq_iff_eq, permQ_iff, ← he]
        unfold wrap64
        omega
  · have hin : inR (xs.length : Int) 1 20 = false := inR_no.2 (by omega)
    have HF : Hid (false = b0) := by
      unfold Hid
      rw [← HB0.out, permQ_no]
      exact fun h => hlen ⟨h.1, h.2.1⟩
    have HIN : Hid (∀ wx : World, Calls Try.prog 66 #[.int .i64 (xs.length : Int), .int .i64 1, .int .i64 20] wx fun e w' => e = .returned (.bool false) ∧ wx = w') := fun wx => by have := within_any (xs.length : Int) 1 20 wx; rwa [hin] at this
    go_enter Try.func150, Try.ntmps150
    go_wp2_with (first | (go_at_call 149; refine (implLength _ _ _ _).mono ?_; rintro e w' ⟨rfl, rfl⟩) | (go_at_call 66; refine (HIN.out _).mono ?_; rintro e w' ⟨rfl, rfl⟩))
    go_ret
    exact ⟨ret_bool HF.out, rfl⟩
end
section
open Go.RowKit Grp

noncomputable def badL (n : Int) (xs : List Int) : Bool := !(decide ((xs.length : Int) = n) && permQ xs)
noncomputable def gsQ (n : Int) (ls : List (List Int)) : Bool := inR n 1 20 && decide (ls.length ≤ 8) && !ls.any (badL n)
theorem gsQ_no1 {n : Int} {ls : List (List Int)} (h : inR n 1 20 = false) : gsQ n ls = false := by unfold gsQ; rw [h]; rfl
theorem gsQ_no2 {n : Int} {ls : List (List Int)} (h : ¬ ls.length ≤ 8) : gsQ n ls = false := by unfold gsQ; rw [decide_eq_false h]; simp
theorem gsQ_any {n : Int} {ls : List (List Int)} (h : inR n 1 20 = true) (h8 : ls.length ≤ 8) : gsQ n ls = !ls.any (badL n) := by unfold gsQ; rw [h, decide_eq_true h8]; rfl
/-- Lists that generate a group are lists of permutations. -/
theorem gs_perms {n : Int} {ls : List (List Int)} (h : gsQ n ls = true) : ∃ (N : Nat) (ps : List (List Nat)), n = (N : Int) ∧ 0 < N ∧ N ≤ 20 ∧ ls = ps.map natI ∧ ls.length ≤ 8 ∧ ∀ p, p ∈ ps → IsP N p := by
  unfold gsQ at h
  simp only [Bool.and_eq_true, Bool.not_eq_true', decide_eq_true_eq] at h
  obtain ⟨⟨h1, h2⟩, h3⟩ := h
  have h1 := inR_iff.1 h1
  obtain ⟨N, rfl⟩ := Int.eq_ofNat_of_zero_le (show 0 ≤ n by omega)
  have hex : ∀ l : List (List Int), (∀ xs, xs ∈ l → badL (N : Int) xs = false) → ∃ ps : List (List Nat), l = ps.map natI ∧ ∀ p, p ∈ ps → IsP N p := by
    intro l
    induction l with
    | nil => intro _; exact ⟨[], rfl, fun p hp => by simp at hp⟩
    | cons a l ih =>
      intro hl
      obtain ⟨ps, e, hp⟩ := ih fun xs hx => hl xs (by simp [hx])
      have ha := hl a (by simp)
      unfold badL at ha
      simp only [Bool.not_eq_false', Bool.and_eq_true, decide_eq_true_eq] at ha
      obtain ⟨p, ep, hpp⟩ := (permQ_iff.1 ha.2).perm
      have hlN : a.length = N := by omega
      rw [hlN] at hpp
      refine ⟨p :: ps, by rw [List.map_cons, ← e, ← ep], fun q hq => ?_⟩
      rcases List.mem_cons.1 hq with rfl | hq
      · exact hpp
      · exact hp q hq
  obtain ⟨ps, e, hp⟩ := hex ls fun xs hx => by
    cases hb : badL (N : Int) xs with
    | false => rfl
    | true => exact absurd (List.any_eq_true.2 ⟨xs, hx, hb⟩) (by rw [h3]; decide)
  exact ⟨N, ps, rfl, by omega, by omega, e, h2, hp⟩
def NoneTo (p : List Int → Bool) (ls : List (List Int)) (k : Nat) : Prop := (ls.take k).any p = false
theorem NoneTo.zero (p : List Int → Bool) (ls : List (List Int)) : NoneTo p ls 0 := by simp [NoneTo]
theorem NoneTo.more {p : List Int → Bool} {ls : List (List Int)} {k : Nat} (h : NoneTo p ls k) (hk : k < ls.length) {x : List Int} (hx : ls.getD k [] = x) (hp : p x = false) : NoneTo p ls (k + 1) := by
  unfold NoneTo at *
  rw [List.take_add_one, List.any_append, h, List.getElem?_eq_getElem hk]
  rw [List.getD_eq_getElem?_getD, List.getElem?_eq_getElem hk] at hx
  simp only [Option.getD_some] at hx
  simp [hx, hp]
theorem NoneTo.end_ {p : List Int → Bool} {ls : List (List Int)} {k : Nat} (h : NoneTo p ls k) (hk : ls.length ≤ k) : ls.any p = false := by
  unfold NoneTo at h
  rwa [List.take_of_length_le hk] at h
theorem anyAt {p : List Int → Bool} {ls : List (List Int)} {k : Nat} (hk : k < ls.length) {x : List Int} (hx : ls.getD k [] = x) (hp : p x = true) : ls.any p = true := by
  rw [List.any_eq_true]
  refine ⟨x, ?_, hp⟩
  rw [List.getD_eq_getElem?_getD, List.getElem?_eq_getElem hk] at hx
  simp only [Option.getD_some] at hx
  rw [← hx]
  exact List.getElem_mem hk
theorem badL_len {n : Int} {xs : List Int} (h : ¬ (xs.length : Int) = n) : badL n xs = true := by unfold badL; rw [decide_eq_false h]; rfl
theorem badL_perm {n : Int} {xs : List Int} (h : (xs.length : Int) = n) : badL n xs = !permQ xs := by unfold badL; rw [decide_eq_true h]; rfl
set_option maxRecDepth 100000 in
set_option maxHeartbeats 4000000 in
theorem specGs (A : Option Addr) (c : Nat) (n : Int) (ls : List (List Int)) (w : World) (hx : LAt w A ls) (hl : ls.length ≤ 1048576) (hs : ShortL ls) :
    Calls Try.prog 128 #[.int .i64 n, .slice A ls.length c] w (Quiet (.bool (gsQ n ls)) w) := by
  obtain ⟨b0, hb0⟩ : ∃ b0, gsQ n ls = b0 := ⟨_, rfl⟩
  rw [hb0]
  have HB0 := Lib.hid hb0
  have HS := Lib.hid hs
  clear hb0 hs
  obtain ⟨r1, hr1⟩ : ∃ r1, inR n 1 20 = r1 := ⟨_, rfl⟩
  have HQ : Hid (∀ wx : World, Calls Try.prog 71 #[.int .i64 n, .int .i64 1, .int .i64 20] wx fun e w' => e = .returned (.bool r1) ∧ wx = w') := fun wx => by have := inRange_any n 1 20 wx; rwa [hr1] at this
  cases r1 with
  | false =>
    have HF : Hid (false = b0) := by unfold Hid; rw [← HB0.out, gsQ_no1 hr1]
    go_enter Try.func128, Try.ntmps128
    go_wp2_with (first | (go_at_call 71; refine (HQ.out _).mono ?_; rintro e w' ⟨rfl, rfl⟩))
    go_ret
    exact ⟨ret_bool HF.out, 0, rfl⟩
  | true =>
    by_cases h8 : ls.length ≤ 8
    · have q8 : ¬ (8 : Int) < (ls.length : Int) := by omega
      have HA : Hid ((!ls.any (badL n)) = b0) := by unfold Hid; rw [← HB0.out, gsQ_any hr1 h8]
      clear hr1
      go_enter Try.func128, Try.ntmps128
      go_wp2_with (first | (go_at_call 71; refine (HQ.out _).mono ?_; rintro e w' ⟨rfl, rfl⟩))
      go_loopw [5] (fun i wr => ∃ (k nd : Nat), k ≤ ls.length ∧ i = .int .i64 k ∧ Hid (NoneTo (badL n) ls k) ∧ wr = w.drewN nd) (fun i _ => ls.length - (intOf i).toNat)
      case atStart => exact ⟨0, 0, Nat.zero_le _, rfl, NoneTo.zero _ _, rfl⟩
      case round =>
        obtain ⟨k, nd, hk, rfl, HN, hw2⟩ := hrel
        have hxr : LAt wr A ls := by rw [hw2]; exact hx.below (belowDrewN (Below.refl _ _) nd)
        have HW2 : Hid (∀ m, ∃ j, wr.drewN m = w.drewN j) := fun m => ⟨nd + m, by rw [hw2, World.drewN_drewN]⟩
        clear hw2
        by_cases hlt : k < ls.length
        · obtain ⟨b, off, Ai, ci, ys, rfl, hb, hcap, hc0, hI, HX⟩ := hxr.at_ hlt
          have p0 : (0 : Int) ≤ (k : Int) := by omega
          have p1 : (k : Int) < (ls.length : Int) := by omega
          have hyl : ys.length ≤ 1048576 := by have := HS.out k hlt; rw [HX.out] at this; exact this
          by_cases hlen : (ys.length : Int) = n
          · have hbl := badL_perm hlen
            have HI := Lib.hid hI
            have hlenb : ((ys.length : Int) == n) = true := by simpa using hlen
            cases hp : permQ ys with
            | true =>
              have HN2 := Lib.hid (HN.out.more hlt HX.out (by rw [hbl, hp]; rfl))
              have HP : Hid (∀ wx : World, IntsAt wx Ai ys → Calls Try.prog 140 #[.slice Ai ys.length ci] wx (Quiet (.bool true) wx)) := fun wx h => by have := specPerm Ai ci ys wx h hyl hcap; rwa [hp] at this
              clear hbl hp hI
              subst hlen
              go_wp2_with (first | (go_at_call 140; refine (HP.out _ HI.out).mono ?_; rintro e w3 ⟨rfl, n3, rfl⟩))
              go_roundw
              case rel => exact ⟨k + 1, (HW2.out _).choose, by omega, by go_num, HN2.out, (HW2.out _).choose_spec⟩
              case measure => simp [intOf]; omega
            | false =>
              have HF : Hid (false = b0) := by unfold Hid; rw [← HA.out, anyAt hlt HX.out (by rw [hbl, hp]; rfl)]; rfl
              have HP : Hid (∀ wx : World, IntsAt wx Ai ys → Calls Try.prog 140 #[.slice Ai ys.length ci] wx (Quiet (.bool false) wx)) := fun wx h => by have := specPerm Ai ci ys wx h hyl hcap; rwa [hp] at this
              clear hbl hp hI
              subst hlen
              go_wp2_with (first | (go_at_call 140; refine (HP.out _ HI.out).mono ?_; rintro e w3 ⟨rfl, n3, rfl⟩))
              go_ret
              exact ⟨ret_bool HF.out, HW2.out _⟩
          · have HF : Hid (false = b0) := by unfold Hid; rw [← HA.out, anyAt hlt HX.out (badL_len hlen)]; rfl
            have hne : ((ys.length : Int) == n) = false := by simpa using hlen
            go_wp2_with fail
            go_ret
            exact ⟨ret_bool HF.out, by have := HW2.out 0; rwa [World.drewN_zero] at this⟩
        · have HT : Hid (true = b0) := by unfold Hid; rw [← HA.out, HN.out.end_ (by omega)]; rfl
          go_wp2_with fail
          go_ret
          exact ⟨ret_bool HT.out, by have := HW2.out 0; rwa [World.drewN_zero] at this⟩
    · have q8 : (8 : Int) < (ls.length : Int) := by omega
      have HF : Hid (false = b0) := by unfold Hid; rw [← HB0.out, gsQ_no2 h8]
      go_enter Try.func128, Try.ntmps128
      go_wp2_with (first | (go_at_call 71; refine (HQ.out _).mono ?_; rintro e w' ⟨rfl, rfl⟩))
      go_ret
      exact ⟨ret_bool HF.out, 0, rfl⟩
end
section
open Go.RowKit Grp

def IdxL (b : Bool) (w : World) (e : Ending) (w' : World) : Prop := ∃ i : Int, e = .returned (.int .i64 i) ∧ decide (0 ≤ i) = b ∧ Below w.heap.size w w'
set_option maxRecDepth 3000 in
set_option maxHeartbeats 1000000 in
theorem isBad (Ai : Option Addr) (ci : Nat) (ys : List Int) (n : Int) (g : Nat) (w : World) (hx : IntsAt w Ai ys) (hl : ys.length ≤ 1048576) (hc : w.cell? ⟨g, 0, none⟩ = some (.int .i64 n)) :
    Calls Try.prog 148 #[.slice Ai ys.length ci, .pointer (some ⟨g, 0, none⟩)] w (ReadsBool (badL n ys) w) := by
  have HP := Lib.hid (fun (wx : World) (hx : IntsAt wx Ai ys) => implPerm Ai ci ys wx hx hl)
  by_cases hlen : (ys.length : Int) = n
  · have hb := badL_perm hlen
    obtain ⟨b0, hb0⟩ : ∃ b0, permQ ys = b0 := ⟨_, rfl⟩
    rw [hb0] at hb HP
    rw [hb]
    have hle : ((ys.length : Int) == n) = true := by simpa using hlen
    clear hb hb0
    go_enter Try.func148, Try.ntmps148
    go_wp2_with fail
    go_quiet (first | (go_at_call 149; exact quietLeft (implLength _ _ _ _)) | (go_at_call 150; exact quietLeft (HP.out _ (by exact hx.drewN _))))
    go_wp2_with fail
    go_ret
    exact ⟨rfl, belowDrewN (Below.refl _ _) _⟩
  · have hb := badL_len hlen
    rw [hb]
    have hle : ((ys.length : Int) == n) = false := by simpa using hlen
    clear hb
    go_enter Try.func148, Try.ntmps148
    go_wp2_with fail
    go_quiet (first | (go_at_call 149; exact quietLeft (implLength _ _ _ _)))
    go_wp2_with fail
    go_ret
    exact ⟨rfl, belowDrewN (Below.refl _ _) _⟩
set_option maxRecDepth 3000 in
set_option maxHeartbeats 1000000 in
theorem indexBad (A : Option Addr) (c : Nat) (ls : List (List Int)) (n : Int) (g : Nat) (w : World) (hx : LAt w A ls) (hl : ls.length ≤ 1048576) (hs : ShortL ls) (hcm : w.cell? ⟨g, 0, none⟩ = some (.int .i64 n)) :
    Calls Try.prog 122 #[.slice A ls.length c, .func (.func 148) #[] #[.pointer (some ⟨g, 0, none⟩)]] w (IdxL (ls.any (badL n)) w) := by
  obtain ⟨b0, hb0⟩ : ∃ b0, ls.any (badL n) = b0 := ⟨_, rfl⟩
  rw [hb0]
  have HB0 := Lib.hid hb0
  have HS := Lib.hid hs
  have hgw := World.block_lt_of_cell? w _ hcm
  clear hb0 hs
  go_enter Try.func122, Try.ntmps122
  go_wp2_with fail
  go_loopw [5, 8] (fun _ j wr => ∃ k : Nat, k ≤ ls.length ∧ j = .int .i64 k ∧ Hid (NoneTo (badL n) ls k) ∧ Below w.heap.size w wr) (fun _ j _ => ls.length - (intOf j).toNat)
  case atStart => exact ⟨0, Nat.zero_le _, rfl, NoneTo.zero _ _, Below.refl _ _⟩
  case round =>
    obtain ⟨k, hk, rfl, HN, hB⟩ := hrel
    by_cases hlt : k < ls.length
    · obtain ⟨b, off, Ai, ci, ys, rfl, hb, hcap, hc0, hI, HX⟩ := (hx.below hB).at_ hlt
      have hcw : wr.cell? ⟨g, 0, none⟩ = some (.int .i64 n) := (hB.cell (p := ⟨g, 0, none⟩) hgw).trans hcm
      have p0 : (0 : Int) ≤ (k : Int) := by omega
      have p1 : (k : Int) < (ls.length : Int) := by omega
      have hyl : ys.length ≤ 1048576 := by have := HS.out k hlt; rw [HX.out] at this; exact this
      have HC := Lib.hid (isBad Ai ci ys n g wr hI hyl hcw)
      obtain ⟨b1, hb1⟩ : ∃ b1, badL n ys = b1 := ⟨_, rfl⟩
      rw [hb1] at HC
      cases b1 with
      | true =>
        have HF : Hid (decide ((0 : Int) ≤ (k : Int)) = b0) := by unfold Hid; rw [← HB0.out, anyAt hlt HX.out hb1]; exact decide_eq_true p0
        clear hb1
        go_wp2_with fail
        refine HC.out.mono ?_
        rintro e w1 ⟨rfl, hb1⟩
        go_wp2_with fail
        go_ret
        exact ⟨k, rfl, HF.out, belowStep hb1 hB⟩
      | false =>
        have HN2 := Lib.hid (HN.out.more hlt HX.out hb1)
        clear hb1
        go_wp2_with fail
        refine HC.out.mono ?_
        rintro e w1 ⟨rfl, hb1⟩
        go_wp2_with fail
        go_roundw
        case rel => exact ⟨k + 1, by omega, by go_num, HN2, belowStep hb1 hB⟩
        case measure => simp [intOf]; omega
    · have HF : Hid (decide ((0 : Int) ≤ -1) = b0) := by unfold Hid; rw [← HB0.out, HN.out.end_ (by omega)]; rfl
      go_wp2_with fail
      go_ret
      exact ⟨-1, rfl, HF.out, hB⟩
set_option maxHeartbeats 1000000 in
theorem containsBad (A : Option Addr) (c : Nat) (ls : List (List Int)) (n : Int) (g : Nat) (w : World) (hx : LAt w A ls) (hl : ls.length ≤ 1048576) (hs : ShortL ls) (hcm : w.cell? ⟨g, 0, none⟩ = some (.int .i64 n)) :
    Calls Try.prog 147 #[.slice A ls.length c, .func (.func 148) #[] #[.pointer (some ⟨g, 0, none⟩)]] w (ReadsBool (ls.any (badL n)) w) := by
  go_enter Try.func147, Try.ntmps147
  go_wp2_with fail
  refine (indexBad A c ls n g _ hx hl hs hcm).mono ?_
  rintro e w1 ⟨i, rfl, hi, hB⟩
  have HI := Lib.hid hi
  clear hi
  go_wp2_with fail
  go_ret
  exact ⟨ret_bool (by rw [← HI.out]), hB⟩
set_option maxRecDepth 100000 in
set_option maxHeartbeats 4000000 in
theorem implGs (A : Option Addr) (c : Nat) (n : Int) (ls : List (List Int)) (w : World) (hx : LAt w A ls) (hl : ls.length ≤ 1048576) (hs : ShortL ls) :
    Calls Try.prog 143 #[.int .i64 n, .slice A ls.length c] w fun e w' => e = .returned (.bool (gsQ n ls)) ∧ Below w.heap.size w w' := by
  obtain ⟨b0, hb0⟩ : ∃ b0, gsQ n ls = b0 := ⟨_, rfl⟩
  rw [hb0]
  have HB0 := Lib.hid hb0
  have HS := Lib.hid hs
  have HX := Lib.hid hx
  clear hb0 hs hx
  obtain ⟨r1, hr1⟩ : ∃ r1, inR n 1 20 = r1 := ⟨_, rfl⟩
  have HQ : Hid (∀ wx : World, Calls Try.prog 66 #[.int .i64 n, .int .i64 1, .int .i64 20] wx fun e w' => e = .returned (.bool r1) ∧ wx = w') := fun wx => by have := within_any n 1 20 wx; rwa [hr1] at this
  cases r1 with
  | false =>
    have HF : Hid (false = b0) := by unfold Hid; rw [← HB0.out, gsQ_no1 hr1]
    clear hr1
    go_enter Try.func143, Try.ntmps143
    go_wp2_with (first | (go_at_call 66; refine (HQ.out _).mono ?_; rintro e w' ⟨rfl, rfl⟩))
    go_ret
    exact ⟨ret_bool HF.out, (by repeat (first | exact Below.refl _ _ | assumption | refine Below.setCell ?_ (by first | omega | (simp <;> omega)) _ | refine Below.alloc ?_ (by first | omega | (simp <;> omega)) _ | refine Below.drew ?_))⟩
  | true =>
    by_cases h8 : ls.length ≤ 8
    · have q8 : (ls.length : Int) ≤ 8 := by omega
      have HA : Hid ((!ls.any (badL n)) = b0) := by unfold Hid; rw [← HB0.out, gsQ_any hr1 h8]
      clear hr1
      go_enter Try.func143, Try.ntmps143
      go_wp2_with (first | (go_at_call 66; refine (HQ.out _).mono ?_; rintro e w' ⟨rfl, rfl⟩) | (go_at_call 147; refine (containsBad A c ls n _ _ (HX.out.below (by exact (by repeat (first | exact Below.refl _ _ | assumption | refine Below.setCell ?_ (by first | omega | (simp <;> omega)) _ | refine Below.alloc ?_ (by first | omega | (simp <;> omega)) _ | refine Below.drew ?_)))) hl HS.out (by exact cell_of_row _ _ 0 _ _ (0, 0) (heap_alloc_new w _))).mono ?_; rintro e w' ⟨rfl, hb2⟩))
      go_ret
      exact ⟨ret_bool HA.out, belowStep hb2 (by repeat (first | exact Below.refl _ _ | assumption | refine Below.setCell ?_ (by first | omega | (simp <;> omega)) _ | refine Below.alloc ?_ (by first | omega | (simp <;> omega)) _ | refine Below.drew ?_))⟩
    · have q8 : ¬ (ls.length : Int) ≤ 8 := by omega
      have HF : Hid (false = b0) := by unfold Hid; rw [← HB0.out, gsQ_no2 h8]
      go_enter Try.func143, Try.ntmps143
      go_wp2_with (first | (go_at_call 66; refine (HQ.out _).mono ?_; rintro e w' ⟨rfl, rfl⟩))
      go_ret
      exact ⟨ret_bool HF.out, (by repeat (first | exact Below.refl _ _ | assumption | refine Below.setCell ?_ (by first | omega | (simp <;> omega)) _ | refine Below.alloc ?_ (by first | omega | (simp <;> omega)) _ | refine Below.drew ?_))⟩
end
end Go.Proofs.Ytfhdnanbhigpmaa
