/- Whether lists generate a group, at the program. Conditions: as each contract says. -/
import Derived.Test.YtpcnbjfkobeibaaGs
namespace Go.Proofs.Ytpcnbjfkobeibaa
open Go.RowKit Grp

def IdxL (b : Bool) (w : World) (e : Ending) (w' : World) : Prop := ∃ i : Int, e = .returned (.int .i64 i) ∧ decide (0 ≤ i) = b ∧ Below w.heap.size w w'
set_option maxRecDepth 3000 in
set_option maxHeartbeats 1000000 in
theorem isBad (Ai : Option Addr) (ci : Nat) (ys : List Int) (n : Int) (g : Nat) (w : World) (hx : IntsAt w Ai ys) (hl : ys.length ≤ 1048576) (hc : w.cell? ⟨g, 0, none⟩ = some (.int .i64 n)) :
    Calls Try.prog 131 #[.slice Ai ys.length ci, .pointer (some ⟨g, 0, none⟩)] w (ReadsBool (badL n ys) w) := by
  have HP := Lib.hid (fun (wx : World) (hx : IntsAt wx Ai ys) => implPerm Ai ci ys wx hx hl)
  by_cases hlen : (ys.length : Int) = n
  · have hb := badL_perm hlen
    obtain ⟨b0, hb0⟩ : ∃ b0, permQ ys = b0 := ⟨_, rfl⟩
    rw [hb0] at hb HP
    rw [hb]
    have hle : ((ys.length : Int) == n) = true := by simpa using hlen
    clear hb hb0
    go_enter Try.func131, Try.ntmps131
    go_wp2_with fail
    go_quiet (first | (go_at_call 74; exact quietLeft (implLength _ _ _ _)) | (go_at_call 75; exact quietLeft (HP.out _ (by exact hx.drewN _))))
    go_wp2_with fail
    go_ret
    exact ⟨rfl, belowDrewN (Below.refl _ _) _⟩
  · have hb := badL_len hlen
    rw [hb]
    have hle : ((ys.length : Int) == n) = false := by simpa using hlen
    clear hb
    go_enter Try.func131, Try.ntmps131
    go_wp2_with fail
    go_quiet (first | (go_at_call 74; exact quietLeft (implLength _ _ _ _)))
    go_wp2_with fail
    go_ret
    exact ⟨rfl, belowDrewN (Below.refl _ _) _⟩
set_option maxRecDepth 3000 in
set_option maxHeartbeats 1000000 in
theorem indexBad (A : Option Addr) (c : Nat) (ls : List (List Int)) (n : Int) (g : Nat) (w : World) (hx : LAt w A ls) (hl : ls.length ≤ 1048576) (hs : ShortL ls) (hcm : w.cell? ⟨g, 0, none⟩ = some (.int .i64 n)) :
    Calls Try.prog 144 #[.slice A ls.length c, .func (.func 131) #[] #[.pointer (some ⟨g, 0, none⟩)]] w (IdxL (ls.any (badL n)) w) := by
  obtain ⟨b0, hb0⟩ : ∃ b0, ls.any (badL n) = b0 := ⟨_, rfl⟩
  rw [hb0]
  have HB0 := Lib.hid hb0
  have HS := Lib.hid hs
  have hgw := World.block_lt_of_cell? w _ hcm
  clear hb0 hs
  go_enter Try.func144, Try.ntmps144
  go_wp2_with fail
  go_loopw [5, 8] (fun _ j wr => ∃ k : Nat, k ≤ ls.length ∧ j = .int .i64 k ∧ Hid (NoneTo (badL n) ls k) ∧ Below w.heap.size w wr) (fun _ j _ => ls.length - (intOf j).toNat)
  case atStart => exact ⟨0, Nat.zero_le _, rfl, NoneTo.zero _ _, Below.refl _ _⟩
  case round =>
    obtain ⟨k, hk, rfl, HN, hB⟩ := hrel
    by_cases hlt : k < ls.length
    · obtain ⟨b, off, Ai, ci, ys, rfl, hb, hcap, hc0, hI, HX⟩ := (hx.below hB).at_ hlt
      have hcw : wr.cell? ⟨g, 0, none⟩ = some (.int .i64 n) := (hB.cell (p := ⟨g, 0, none⟩) hgw).trans hcm
      have p0 : (0 : Int) ≤ (k : Int) := by omega
      have p1 : (k : Int) < (ls.length : Int) := by omega
      have hyl : ys.length ≤ 1048576 := by have := HS.out k hlt; rw [HX.out] at this; exact this
      have HC := Lib.hid (isBad Ai ci ys n g wr hI hyl hcw)
      obtain ⟨b1, hb1⟩ : ∃ b1, badL n ys = b1 := ⟨_, rfl⟩
      rw [hb1] at HC
      cases b1 with
      | true =>
        have HF : Hid (decide ((0 : Int) ≤ (k : Int)) = b0) := by unfold Hid; rw [← HB0.out, anyAt hlt HX.out hb1]; exact decide_eq_true p0
        clear hb1
        go_wp2_with fail
        refine HC.out.mono ?_
        rintro e w1 ⟨rfl, hb1⟩
        go_wp2_with fail
        go_ret
        exact ⟨k, rfl, HF.out, belowStep hb1 hB⟩
      | false =>
        have HN2 := Lib.hid (HN.out.more hlt HX.out hb1)
        clear hb1
        go_wp2_with fail
        refine HC.out.mono ?_
        rintro e w1 ⟨rfl, hb1⟩
        go_wp2_with fail
        go_roundw
        case rel => exact ⟨k + 1, by omega, by go_num, HN2, belowStep hb1 hB⟩
        case measure => simp [intOf]; omega
    · have HF : Hid (decide ((0 : Int) ≤ -1) = b0) := by unfold Hid; rw [← HB0.out, HN.out.end_ (by omega)]; rfl
      go_wp2_with fail
      go_ret
      exact ⟨-1, rfl, HF.out, hB⟩
set_option maxHeartbeats 1000000 in
theorem containsBad (A : Option Addr) (c : Nat) (ls : List (List Int)) (n : Int) (g : Nat) (w : World) (hx : LAt w A ls) (hl : ls.length ≤ 1048576) (hs : ShortL ls) (hcm : w.cell? ⟨g, 0, none⟩ = some (.int .i64 n)) :
    Calls Try.prog 124 #[.slice A ls.length c, .func (.func 131) #[] #[.pointer (some ⟨g, 0, none⟩)]] w (ReadsBool (ls.any (badL n)) w) := by
  go_enter Try.func124, Try.ntmps124
  go_wp2_with fail
  refine (indexBad A c ls n g _ hx hl hs hcm).mono ?_
  rintro e w1 ⟨i, rfl, hi, hB⟩
  have HI := Lib.hid hi
  clear hi
  go_wp2_with fail
  go_ret
  exact ⟨ret_bool (by rw [← HI.out]), hB⟩
set_option maxRecDepth 100000 in
set_option maxHeartbeats 4000000 in
theorem implGs (A : Option Addr) (c : Nat) (n : Int) (ls : List (List Int)) (w : World) (hx : LAt w A ls) (hl : ls.length ≤ 1048576) (hs : ShortL ls) :
    Calls Try.prog 73 #[.int .i64 n, .slice A ls.length c] w fun e w' => e = .returned (.bool (gsQ n ls)) ∧ Below w.heap.size w w' := by
  obtain ⟨b0, hb0⟩ : ∃ b0, gsQ n ls = b0 := ⟨_, rfl⟩
  rw [hb0]
  have HB0 := Lib.hid hb0
  have HS := Lib.hid hs
  have HX := Lib.hid hx
  clear hb0 hs hx
  obtain ⟨r1, hr1⟩ : ∃ r1, inR n 1 20 = r1 := ⟨_, rfl⟩
  have HQ : Hid (∀ wx : World, Calls Try.prog 130 #[.int .i64 n, .int .i64 1, .int .i64 20] wx fun e w' => e = .returned (.bool r1) ∧ wx = w') := fun wx => by have := within_any n 1 20 wx; rwa [hr1] at this
  cases r1 with
  | false =>
    have HF : Hid (false = b0) := by unfold Hid; rw [← HB0.out, gsQ_no1 hr1]
    clear hr1
    go_enter Try.func73, Try.ntmps73
    go_wp2_with (first | (go_at_call 130; refine (HQ.out _).mono ?_; rintro e w' ⟨rfl, rfl⟩))
    go_ret
    exact ⟨ret_bool HF.out, (by repeat (first | exact Below.refl _ _ | assumption | refine Below.setCell ?_ (by first | omega | (simp <;> omega)) _ | refine Below.alloc ?_ (by first | omega | (simp <;> omega)) _ | refine Below.drew ?_))⟩
  | true =>
    by_cases h8 : ls.length ≤ 8
    · have q8 : (ls.length : Int) ≤ 8 := by omega
      have HA : Hid ((!ls.any (badL n)) = b0) := by unfold Hid; rw [← HB0.out, gsQ_any hr1 h8]
      clear hr1
      go_enter Try.func73, Try.ntmps73
      go_wp2_with (first | (go_at_call 130; refine (HQ.out _).mono ?_; rintro e w' ⟨rfl, rfl⟩) | (go_at_call 124; refine (containsBad A c ls n _ _ (HX.out.below (by exact (by repeat (first | exact Below.refl _ _ | assumption | refine Below.setCell ?_ (by first | omega | (simp <;> omega)) _ | refine Below.alloc ?_ (by first | omega | (simp <;> omega)) _ | refine Below.drew ?_)))) hl HS.out (by exact cell_of_row _ _ 0 _ _ (0, 0) (heap_alloc_new w _))).mono ?_; rintro e w' ⟨rfl, hb2⟩))
      go_ret
      exact ⟨ret_bool HA.out, belowStep hb2 (by repeat (first | exact Below.refl _ _ | assumption | refine Below.setCell ?_ (by first | omega | (simp <;> omega)) _ | refine Below.alloc ?_ (by first | omega | (simp <;> omega)) _ | refine Below.drew ?_))⟩
    · have q8 : ¬ (ls.length : Int) ≤ 8 := by omega
      have HF : Hid (false = b0) := by unfold Hid; rw [← HB0.out, gsQ_no2 h8]
      go_enter Try.func73, Try.ntmps73
      go_wp2_with (first | (go_at_call 130; refine (HQ.out _).mono ?_; rintro e w' ⟨rfl, rfl⟩))
      go_ret
      exact ⟨ret_bool HF.out, (by repeat (first | exact Below.refl _ _ | assumption | refine Below.setCell ?_ (by first | omega | (simp <;> omega)) _ | refine Below.alloc ?_ (by first | omega | (simp <;> omega)) _ | refine Below.drew ?_))⟩
end Go.Proofs.Ytpcnbjfkobeibaa
