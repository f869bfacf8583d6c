/- Whether lists generate a group, at both packages. Conditions: as each contract says. -/
import Derived.Test.YtpcnbjfkobeibaaPe
namespace Go.Proofs.Ytpcnbjfkobeibaa
open Go.RowKit Grp

noncomputable def badL (n : Int) (xs : List Int) : Bool := !(decide ((xs.length : Int) = n) && permQ xs)
noncomputable def gsQ (n : Int) (ls : List (List Int)) : Bool := inR n 1 20 && decide (ls.length ≤ 8) && !ls.any (badL n)
theorem gsQ_no1 {n : Int} {ls : List (List Int)} (h : inR n 1 20 = false) : gsQ n ls = false := by unfold gsQ; rw [h]; rfl
theorem gsQ_no2 {n : Int} {ls : List (List Int)} (h : ¬ ls.length ≤ 8) : gsQ n ls = false := by unfold gsQ; rw [decide_eq_false h]; simp
theorem gsQ_any {n : Int} {ls : List (List Int)} (h : inR n 1 20 = true) (h8 : ls.length ≤ 8) : gsQ n ls = !ls.any (badL n) := by unfold gsQ; rw [h, decide_eq_true h8]; rfl
/-- Lists that generate a group are lists of permutations. -/
theorem gs_perms {n : Int} {ls : List (List Int)} (h : gsQ n ls = true) : ∃ (N : Nat) (ps : List (List Nat)), n = (N : Int) ∧ 0 < N ∧ N ≤ 20 ∧ ls = ps.map natI ∧ ls.length ≤ 8 ∧ ∀ p, p ∈ ps → IsP N p := by
  unfold gsQ at h
  simp only [Bool.and_eq_true, Bool.not_eq_true', decide_eq_true_eq] at h
  obtain ⟨⟨h1, h2⟩, h3⟩ := h
  have h1 := inR_iff.1 h1
  obtain ⟨N, rfl⟩ := Int.eq_ofNat_of_zero_le (show 0 ≤ n by omega)
  have hex : ∀ l : List (List Int), (∀ xs, xs ∈ l → badL (N : Int) xs = false) → ∃ ps : List (List Nat), l = ps.map natI ∧ ∀ p, p ∈ ps → IsP N p := by
    intro l
    induction l with
    | nil => intro _; exact ⟨[], rfl, fun p hp => by simp at hp⟩
    | cons a l ih =>
      intro hl
      obtain ⟨ps, e, hp⟩ := ih fun xs hx => hl xs (by simp [hx])
      have ha := hl a (by simp)
      unfold badL at ha
      simp only [Bool.not_eq_false', Bool.and_eq_true, decide_eq_true_eq] at ha
      obtain ⟨p, ep, hpp⟩ := (permQ_iff.1 ha.2).perm
      have hlN : a.length = N := by omega
      rw [hlN] at hpp
      refine ⟨p :: ps, by rw [List.map_cons, ← e, ← ep], fun q hq => ?_⟩
      rcases List.mem_cons.1 hq with rfl | hq
      · exact hpp
      · exact hp q hq
  obtain ⟨ps, e, hp⟩ := hex ls fun xs hx => by
    cases hb : badL (N : Int) xs with
    | false => rfl
    | true => exact absurd (List.any_eq_true.2 ⟨xs, hx, hb⟩) (by rw [h3]; decide)
  exact ⟨N, ps, rfl, by omega, by omega, e, h2, hp⟩
def NoneTo (p : List Int → Bool) (ls : List (List Int)) (k : Nat) : Prop := (ls.take k).any p = false
theorem NoneTo.zero (p : List Int → Bool) (ls : List (List Int)) : NoneTo p ls 0 := by simp [NoneTo]
theorem NoneTo.more {p : List Int → Bool} {ls : List (List Int)} {k : Nat} (h : NoneTo p ls k) (hk : k < ls.length) {x : List Int} (hx : ls.getD k [] = x) (hp : p x = false) : NoneTo p ls (k + 1) := by
  unfold NoneTo at *
  rw [List.take_add_one, List.any_append, h, List.getElem?_eq_getElem hk]
  rw [List.getD_eq_getElem?_getD, List.getElem?_eq_getElem hk] at hx
  simp only [Option.getD_some] at hx
  simp [hx, hp]
theorem NoneTo.end_ {p : List Int → Bool} {ls : List (List Int)} {k : Nat} (h : NoneTo p ls k) (hk : ls.length ≤ k) : ls.any p = false := by
  unfold NoneTo at h
  rwa [List.take_of_length_le hk] at h
theorem anyAt {p : List Int → Bool} {ls : List (List Int)} {k : Nat} (hk : k < ls.length) {x : List Int} (hx : ls.getD k [] = x) (hp : p x = true) : ls.any p = true := by
  rw [List.any_eq_true]
  refine ⟨x, ?_, hp⟩
  rw [List.getD_eq_getElem?_getD, List.getElem?_eq_getElem hk] at hx
  simp only [Option.getD_some] at hx
  rw [← hx]
  exact List.getElem_mem hk
theorem badL_len {n : Int} {xs : List Int} (h : ¬ (xs.length : Int) = n) : badL n xs = true := by unfold badL; rw [decide_eq_false h]; rfl
theorem badL_perm {n : Int} {xs : List Int} (h : (xs.length : Int) = n) : badL n xs = !permQ xs := by unfold badL; rw [decide_eq_true h]; rfl
set_option maxRecDepth 100000 in
set_option maxHeartbeats 4000000 in
theorem specGs (A : Option Addr) (c : Nat) (n : Int) (ls : List (List Int)) (w : World) (hx : LAt w A ls) (hl : ls.length ≤ 1048576) (hs : ShortL ls) :
    Calls Try.prog 53 #[.int .i64 n, .slice A ls.length c] w (Quiet (.bool (gsQ n ls)) w) := by
  obtain ⟨b0, hb0⟩ : ∃ b0, gsQ n ls = b0 := ⟨_, rfl⟩
  rw [hb0]
  have HB0 := Lib.hid hb0
  have HS := Lib.hid hs
  clear hb0 hs
  obtain ⟨r1, hr1⟩ : ∃ r1, inR n 1 20 = r1 := ⟨_, rfl⟩
  have HQ : Hid (∀ wx : World, Calls Try.prog 108 #[.int .i64 n, .int .i64 1, .int .i64 20] wx fun e w' => e = .returned (.bool r1) ∧ wx = w') := fun wx => by have := inRange_any n 1 20 wx; rwa [hr1] at this
  cases r1 with
  | false =>
    have HF : Hid (false = b0) := by unfold Hid; rw [← HB0.out, gsQ_no1 hr1]
    go_enter Try.func53, Try.ntmps53
    go_wp2_with (first | (go_at_call 108; refine (HQ.out _).mono ?_; rintro e w' ⟨rfl, rfl⟩))
    go_ret
    exact ⟨ret_bool HF.out, 0, rfl⟩
  | true =>
    by_cases h8 : ls.length ≤ 8
    · have q8 : ¬ (8 : Int) < (ls.length : Int) := by omega
      have HA : Hid ((!ls.any (badL n)) = b0) := by unfold Hid; rw [← HB0.out, gsQ_any hr1 h8]
      clear hr1
      go_enter Try.func53, Try.ntmps53
      go_wp2_with (first | (go_at_call 108; refine (HQ.out _).mono ?_; rintro e w' ⟨rfl, rfl⟩))
      go_loopw [5] (fun i wr => ∃ (k nd : Nat), k ≤ ls.length ∧ i = .int .i64 k ∧ Hid (NoneTo (badL n) ls k) ∧ wr = w.drewN nd) (fun i _ => ls.length - (intOf i).toNat)
      case atStart => exact ⟨0, 0, Nat.zero_le _, rfl, NoneTo.zero _ _, rfl⟩
      case round =>
        obtain ⟨k, nd, hk, rfl, HN, hw2⟩ := hrel
        have hxr : LAt wr A ls := by rw [hw2]; exact hx.below (belowDrewN (Below.refl _ _) nd)
        have HW2 : Hid (∀ m, ∃ j, wr.drewN m = w.drewN j) := fun m => ⟨nd + m, by rw [hw2, World.drewN_drewN]⟩
        clear hw2
        by_cases hlt : k < ls.length
        · obtain ⟨b, off, Ai, ci, ys, rfl, hb, hcap, hc0, hI, HX⟩ := hxr.at_ hlt
          have p0 : (0 : Int) ≤ (k : Int) := by omega
          have p1 : (k : Int) < (ls.length : Int) := by omega
          have hyl : ys.length ≤ 1048576 := by have := HS.out k hlt; rw [HX.out] at this; exact this
          by_cases hlen : (ys.length : Int) = n
          · have hbl := badL_perm hlen
            have HI := Lib.hid hI
            have hlenb : ((ys.length : Int) == n) = true := by simpa using hlen
            cases hp : permQ ys with
            | true =>
              have HN2 := Lib.hid (HN.out.more hlt HX.out (by rw [hbl, hp]; rfl))
              have HP : Hid (∀ wx : World, IntsAt wx Ai ys → Calls Try.prog 95 #[.slice Ai ys.length ci] wx (Quiet (.bool true) wx)) := fun wx h => by have := specPerm Ai ci ys wx h hyl hcap; rwa [hp] at this
              clear hbl hp hI
              subst hlen
              go_wp2_with (first | (go_at_call 95; refine (HP.out _ HI.out).mono ?_; rintro e w3 ⟨rfl, n3, rfl⟩))
              go_roundw
              case rel => exact ⟨k + 1, (HW2.out _).choose, by omega, by go_num, HN2.out, (HW2.out _).choose_spec⟩
              case measure => simp [intOf]; omega
            | false =>
              have HF : Hid (false = b0) := by unfold Hid; rw [← HA.out, anyAt hlt HX.out (by rw [hbl, hp]; rfl)]; rfl
              have HP : Hid (∀ wx : World, IntsAt wx Ai ys → Calls Try.prog 95 #[.slice Ai ys.length ci] wx (Quiet (.bool false) wx)) := fun wx h => by have := specPerm Ai ci ys wx h hyl hcap; rwa [hp] at this
              clear hbl hp hI
              subst hlen
              go_wp2_with (first | (go_at_call 95; refine (HP.out _ HI.out).mono ?_; rintro e w3 ⟨rfl, n3, rfl⟩))
              go_ret
              exact ⟨ret_bool HF.out, HW2.out _⟩
          · have HF : Hid (false = b0) := by unfold Hid; rw [← HA.out, anyAt hlt HX.out (badL_len hlen)]; rfl
            have hne : ((ys.length : Int) == n) = false := by simpa using hlen
            go_wp2_with fail
            go_ret
            exact ⟨ret_bool HF.out, by have := HW2.out 0; rwa [World.drewN_zero] at this⟩
        · have HT : Hid (true = b0) := by unfold Hid; rw [← HA.out, HN.out.end_ (by omega)]; rfl
          go_wp2_with fail
          go_ret
          exact ⟨ret_bool HT.out, by have := HW2.out 0; rwa [World.drewN_zero] at this⟩
    · have q8 : (8 : Int) < (ls.length : Int) := by omega
      have HF : Hid (false = b0) := by unfold Hid; rw [← HB0.out, gsQ_no2 h8]
      go_enter Try.func53, Try.ntmps53
      go_wp2_with (first | (go_at_call 108; refine (HQ.out _).mono ?_; rintro e w' ⟨rfl, rfl⟩))
      go_ret
      exact ⟨ret_bool HF.out, 0, rfl⟩
set_option maxHeartbeats 1000000 in
theorem specPermOf (A : Option Addr) (c : Nat) (n : Int) (xs : List Int) (w : World) (hx : IntsAt w A xs) (hl : xs.length ≤ 1048576) (hc : xs.length ≤ c) :
    Calls Try.prog 69 #[.int .i64 n, .slice A xs.length c] w (Quiet (.bool (!badL n xs)) w) := by
  by_cases hlen : (xs.length : Int) = n
  · have hbl := badL_perm hlen
    have HP := Lib.hid (specPerm A c xs w hx hl hc)
    rw [hbl, Bool.not_not]
    subst hlen
    go_enter Try.func69, Try.ntmps69
    go_wp2_with (first | (go_at_call 95; refine HP.out.mono ?_; rintro e w3 ⟨rfl, n3, rfl⟩))
    go_ret
    exact ⟨rfl, _, rfl⟩
  · have hbl := badL_len hlen
    have hne : ((xs.length : Int) == n) = false := by simpa using hlen
    rw [hbl]
    clear hbl
    go_enter Try.func69, Try.ntmps69
    go_wp2_with fail
    go_ret
    exact ⟨rfl, 0, rfl⟩
end Go.Proofs.Ytpcnbjfkobeibaa
