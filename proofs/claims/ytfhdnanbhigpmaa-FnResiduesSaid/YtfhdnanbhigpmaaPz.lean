/- The names of moves, at both packages. Conditions: the string is no longer than the law allows. Puzzles: whether one is valid, at both packages. Conditions: the lists are no longer than the law allows. -/
import Derived.Test.YtfhdnanbhigpmaaGi
import Derived.Deep.QuietTactic
import Derived.BigQuiet
import Derived.Test.YtfhdnanbhigpmaaTa
import Derived.Test.YtfhdnanbhigpmaaTk
namespace Go.Proofs.Ytfhdnanbhigpmaa
section
open Go.RowKit

def bt (s : ByteArray) (i : Nat) : Nat := (s.data.toList.getD i 0).toNat
theorem bt_is (s : ByteArray) (i : Nat) (h : i < s.size) : s[i].toNat = bt s i := by
  unfold bt
  rw [List.getD_eq_getElem?_getD, List.getElem?_eq_getElem (by simpa using h)]
  rfl
theorem bt_lt (s : ByteArray) (i : Nat) : bt s i ≤ 255 := by
  unfold bt
  have := (s.data.toList.getD i 0).toNat_lt
  omega
def NmAt (s : ByteArray) (i : Nat) : Prop := 65 ≤ bt s i ∧ bt s i ≤ 90 ∧ ∀ j, j < i → bt s j ≠ bt s i
def NmTo (s : ByteArray) (k : Nat) : Prop := ∀ i, i < k → NmAt s i
open Classical in
noncomputable def nmAt (s : ByteArray) (i : Nat) : Bool := decide (NmAt s i)
open Classical in
noncomputable def nmTo (s : ByteArray) (k : Nat) : Bool := decide (NmTo s k)
open Classical in
theorem nmAt_yes {s : ByteArray} {i : Nat} (h : NmAt s i) : nmAt s i = true := by unfold nmAt; exact decide_eq_true h
open Classical in
theorem nmAt_no {s : ByteArray} {i : Nat} (h : ¬ NmAt s i) : nmAt s i = false := by unfold nmAt; exact decide_eq_false h
open Classical in
theorem nmAt_iff {s : ByteArray} {i : Nat} : nmAt s i = true ↔ NmAt s i := by unfold nmAt; exact decide_eq_true_iff
open Classical in
theorem nmTo_yes {s : ByteArray} {k : Nat} (h : NmTo s k) : nmTo s k = true := by unfold nmTo; exact decide_eq_true h
open Classical in
theorem nmTo_no {s : ByteArray} {k : Nat} (h : ¬ NmTo s k) : nmTo s k = false := by unfold nmTo; exact decide_eq_false h
theorem NmTo.more {s : ByteArray} {k : Nat} (h : NmTo s k) (h2 : NmAt s k) : NmTo s (k + 1) := fun i hi => by
  rcases Nat.lt_or_ge i k with h3 | h3
  · exact h i h3
  · rw [show i = k from by omega]; exact h2
theorem NmTo.not {s : ByteArray} {k n : Nat} (hk : k < n) (h : ¬ NmAt s k) : ¬ NmTo s n := fun h2 => h (h2 k hk)
set_option maxRecDepth 100000 in
set_option maxHeartbeats 1000000 in
theorem specMove (s : ByteArray) (i : Nat) (w : World) (hs : s.size ≤ 1048576) (hi : i < s.size) : Calls Try.prog 129 #[.string s, .int .i64 i] w (Quiet (.bool (nmAt s i)) w) := by
  obtain ⟨x, hx⟩ : ∃ x, bt s i = x := ⟨_, rfl⟩
  have gx : s[i].toNat = x := by rw [← hx]; exact bt_is s i hi
  have x0 : (0 : Int) ≤ (x : Int) := by omega
  have x1 : (x : Int) ≤ 255 := by have := bt_lt s i; omega
  have i0 : (0 : Int) ≤ (i : Int) := by omega
  have i1 : (i : Int) < (s.size : Int) := by omega
  by_cases h1 : x < 65
  · have f1 : (x : Int) < 65 := by omega
    have HF : Hid (nmAt s i = false) := nmAt_no (fun h => by have := h.1; omega)
    clear hx h1
    go_enter Try.func129, Try.ntmps129
    go_wp2_with fail
    go_ret
    exact ⟨ret_bool HF.out.symm, 0, rfl⟩
  have f1 : ¬ (x : Int) < 65 := by omega
  by_cases h2 : 90 < x
  · have f2 : (90 : Int) < (x : Int) := by omega
    have HF : Hid (nmAt s i = false) := nmAt_no (fun h => by have := h.2.1; omega)
    clear hx h1 h2
    go_enter Try.func129, Try.ntmps129
    go_wp2_with fail
    go_ret
    exact ⟨ret_bool HF.out.symm, 0, rfl⟩
  have f2 : ¬ (90 : Int) < (x : Int) := by omega
  have HX := Lib.hid hx
  have HB : Hid (65 ≤ x ∧ x ≤ 90) := by unfold Hid; omega
  clear hx h1 h2
  go_enter Try.func129, Try.ntmps129
  go_wp2_with fail
  go_loopw [5] (fun a wr => ∃ (k q : Nat), k ≤ i ∧ a = .int .i64 k ∧ wr = w.drewN q ∧ Hid (∀ j, j < k → bt s j ≠ x)) (fun a _ => i - (intOf a).toNat)
  case atStart => exact ⟨0, 0, Nat.zero_le _, rfl, rfl, fun j hj => by omega⟩
  case round =>
    obtain ⟨k, q, hk, rfl, rfl, HN⟩ := hrel
    by_cases hlt : k < i
    · obtain ⟨y, hy⟩ : ∃ y, bt s k = y := ⟨_, rfl⟩
      have hks : k < s.size := by omega
      have gy : s[k].toNat = y := by rw [← hy]; exact bt_is s k hks
      have y0 : (0 : Int) ≤ (y : Int) := by omega
      have y1 : (y : Int) ≤ 255 := by have := bt_lt s k; omega
      have k0 : (0 : Int) ≤ (k : Int) := by omega
      have k1 : (k : Int) < (s.size : Int) := by omega
      have k2 : (k : Int) < (i : Int) := by omega
      by_cases e : y = x
      · have HF : Hid (nmAt s i = false) := nmAt_no (fun h => by have := h.2.2 k hlt; rw [HX.out, hy] at this; exact this e)
        have fe : ((y : Int) == (x : Int)) = true := by rw [e]; simp
        clear hy e
        go_wp2_with fail
        go_quiet (fail)
        go_wp2_with fail
        go_ret
        exact ⟨ret_bool HF.out.symm, _, by rw [World.drewN_drewN]⟩
      · have HN2 : Hid (∀ j, j < k + 1 → bt s j ≠ x) := fun j hj => by
          rcases Nat.lt_or_ge j k with h | h
          · exact HN.out j h
          · rw [show j = k from by omega, hy]; exact e
        have fe : ((y : Int) == (x : Int)) = false := by simp; omega
        clear hy e
        go_wp2_with fail
        go_quiet (fail)
        go_wp2_with fail
        go_roundw
        case rel => exact ⟨k + 1, _, by omega, by go_num, rfl, HN2⟩
        case measure => simp [intOf]; omega
    · obtain rfl : k = i := by omega
      have HF : Hid (nmAt s k = true) := nmAt_yes ⟨by rw [HX.out]; exact HB.out.1, by rw [HX.out]; exact HB.out.2, fun j hj => by rw [HX.out]; exact HN.out j hj⟩
      have k2 : ¬ (k : Int) < (k : Int) := by omega
      go_wp2_with fail
      go_ret
      exact ⟨ret_bool HF.out.symm, _, rfl⟩
set_option maxRecDepth 100000 in
set_option maxHeartbeats 1000000 in
theorem implNames (s : ByteArray) (w : World) (hs : s.size ≤ 1048576) : Calls Try.prog 144 #[.string s] w (Quiet (.bool (nmTo s s.size && inR (s.size : Int) 1 8)) w) := by
  obtain ⟨b0, hb0⟩ : ∃ b0, (nmTo s s.size && inR (s.size : Int) 1 8) = b0 := ⟨_, rfl⟩
  rw [hb0]
  have HB0 := Lib.hid hb0
  clear hb0
  go_enter Try.func144, Try.ntmps144
  go_wp2_with fail
  go_loopw [7] (fun a wr => ∃ (k q : Nat), k ≤ s.size ∧ a = .int .i64 k ∧ wr = w.drewN q ∧ Hid (NmTo s k)) (fun a _ => s.size - (intOf a).toNat)
  case atStart => exact ⟨0, 0, Nat.zero_le _, rfl, rfl, fun j hj => by omega⟩
  case round =>
    obtain ⟨i, q, hi, rfl, rfl, HT⟩ := hrel
    by_cases hlt : i < s.size
    · obtain ⟨x, hx⟩ : ∃ x, bt s i = x := ⟨_, rfl⟩
      have gx : s[i].toNat = x := by rw [← hx]; exact bt_is s i hlt
      have x0 : (0 : Int) ≤ (x : Int) := by omega
      have x1 : (x : Int) ≤ 255 := by have := bt_lt s i; omega
      have i0 : (0 : Int) ≤ (i : Int) := by omega
      have i1 : (i : Int) < (s.size : Int) := by omega
      have HX := Lib.hid hx
      obtain ⟨r, hr⟩ : ∃ r, inR (x : Int) 65 90 = r := ⟨_, rfl⟩
      have HW := Lib.hid (fun wx => within_any (x : Int) 65 90 wx)
      rw [hr] at HW
      clear hx
      cases r with
      | false =>
        have HF : Hid (false = b0) := by
          unfold Hid
          have h1 : ¬ NmAt s i := fun h => by
            have h2 := h.1
            have h3 := h.2.1
            rw [HX.out] at h2 h3
            exact inR_no.1 hr ⟨by omega, by omega⟩
          rw [← HB0.out, nmTo_no (NmTo.not hlt h1)]
          rfl
        clear hr
        go_wp2_with fail
        refine (HW.out _).mono ?_
        rintro e w2 ⟨rfl, rfl⟩
        go_wp2_with fail
        go_ret
        exact ⟨ret_bool HF.out, _, rfl⟩
      | true =>
        have HR := Lib.hid (inR_iff.1 hr)
        clear hr
        go_wp2_with fail
        refine (HW.out _).mono ?_
        rintro e w2 ⟨rfl, rfl⟩
        go_wp2_with fail
        obtain ⟨wo, hwo⟩ : ∃ wo, w.drewN q = wo := ⟨_, rfl⟩
        have HWO := Lib.hid hwo
        rw [hwo]
        clear hwo
        go_loopw [17] (fun a wr => ∃ (k q2 : Nat), k ≤ i ∧ a = .int .i64 k ∧ wr = wo.drewN q2 ∧ Hid (∀ j, j < k → bt s j ≠ x)) (fun a _ => i - (intOf a).toNat)
        case atStart => exact ⟨0, 0, Nat.zero_le _, rfl, rfl, fun j hj => by omega⟩
        case round =>
          obtain ⟨k, q2, hk, rfl, rfl, HN⟩ := hrel
          by_cases hki : k < i
          · obtain ⟨y, hy⟩ : ∃ y, bt s k = y := ⟨_, rfl⟩
            have hks : k < s.size := by omega
            have gy : s[k].toNat = y := by rw [← hy]; exact bt_is s k hks
            have y0 : (0 : Int) ≤ (y : Int) := by omega
            have y1 : (y : Int) ≤ 255 := by have := bt_lt s k; omega
            have k0 : (0 : Int) ≤ (k : Int) := by omega
            have k1 : (k : Int) < (s.size : Int) := by omega
            have k2 : (k : Int) < (i : Int) := by omega
            by_cases e : y = x
            · have HF : Hid (false = b0) := by
                unfold Hid
                have h1 : ¬ NmAt s i := fun h => by have := h.2.2 k hki; rw [HX.out, hy] at this; exact this e
                rw [← HB0.out, nmTo_no (NmTo.not hlt h1)]
                rfl
              have fe : ((y : Int) == (x : Int)) = true := by rw [e]; simp
              clear hy e
              go_wp2_with fail
              go_quiet (fail)
              go_wp2_with fail
              go_ret
              exact ⟨ret_bool HF.out, _, by rw [← HWO.out, World.drewN_drewN, World.drewN_drewN]⟩
            · have HN2 : Hid (∀ j, j < k + 1 → bt s j ≠ x) := fun j hj => by
                rcases Nat.lt_or_ge j k with h | h
                · exact HN.out j h
                · rw [show j = k from by omega, hy]; exact e
              have fe : ((y : Int) == (x : Int)) = false := by simp; omega
              clear hy e
              go_wp2_with fail
              go_quiet (fail)
              go_wp2_with fail
              go_roundw
              case rel => exact ⟨k + 1, _, by omega, by go_num, rfl, HN2⟩
              case measure => simp [intOf]; omega
          · obtain rfl : k = i := by omega
            have HT2 : Hid (NmTo s (k + 1)) := HT.out.more ⟨by rw [HX.out]; have := HR.out.1; omega, by rw [HX.out]; have := HR.out.2; omega, fun j hj => by rw [HX.out]; exact HN.out j hj⟩
            have k2 : ¬ (k : Int) < (k : Int) := by omega
            go_wp2_with fail
            go_roundw
            case rel => exact ⟨k + 1, _, by omega, by go_num, by rw [← HWO.out, World.drewN_drewN], HT2⟩
            case measure => simp [intOf]; omega
    · obtain rfl : i = s.size := by omega
      have HF : Hid (inR (s.size : Int) 1 8 = b0) := by unfold Hid; rw [← HB0.out, nmTo_yes HT.out]; rfl
      go_wp2_with (first | (go_at_call 66; refine (within_any _ _ _ _).mono ?_; rintro e w' ⟨rfl, rfl⟩))
      go_ret
      exact ⟨ret_bool HF.out, _, rfl⟩
end
section
open Go.RowKit

structure Pz where
  pts : Int
  names : ByteArray
  moves : List (List Int)
/-- The puzzle p lies in memory, its moves at A. -/
structure PzAt (w : World) (A : Option Addr) (p : Pz) : Prop where
  at_ : LAt w A p.moves
  len : p.moves.length ≤ 1048576
  rows : ShortL p.moves
  names : p.names.size ≤ 1048576
theorem PzAt.below {w w' : World} {A : Option Addr} {p : Pz} (h : PzAt w A p) (hb : Below w.heap.size w w') : PzAt w' A p := ⟨h.at_.below hb, h.len, h.rows, h.names⟩
noncomputable def pzQ (p : Pz) : Bool := gsQ p.pts p.moves && (nmTo p.names p.names.size && (decide (p.names.size = p.moves.length) && decide (1 ≤ p.moves.length)))
theorem pzQ_no0 {p : Pz} (h : p.moves.length = 0) : pzQ p = false := by unfold pzQ; rw [decide_eq_false (by omega : ¬ 1 ≤ p.moves.length)]; simp
theorem pzQ_no1 {p : Pz} (h : ¬ p.names.size = p.moves.length) : pzQ p = false := by unfold pzQ; rw [decide_eq_false h]; simp
theorem pzQ_no2 {p : Pz} (h : gsQ p.pts p.moves = false) : pzQ p = false := by unfold pzQ; rw [h]; rfl
theorem gs_len {n : Int} {ls : List (List Int)} (h : gsQ n ls = true) : ls.length ≤ 8 ∧ inR n 1 20 = true := by
  refine ⟨Classical.byContradiction fun h2 => ?_, Classical.byContradiction fun h2 => ?_⟩
  · rw [gsQ_no2 h2] at h; cases h
  · rw [gsQ_no1 (by simpa using h2)] at h; cases h
set_option maxRecDepth 100000 in
set_option maxHeartbeats 1000000 in
theorem specPz (A : Option Addr) (c : Nat) (p : Pz) (w : World) (h : PzAt w A p) :
    Calls Try.prog 109 #[.agg #[.int .i64 p.pts, .string p.names, .slice A p.moves.length c]] w fun e w' => e = .returned (.bool (pzQ p)) ∧ Below w.heap.size w w' := by
  obtain ⟨b0, hb0⟩ : ∃ b0, pzQ p = b0 := ⟨_, rfl⟩
  rw [hb0]
  have HB0 := Lib.hid hb0
  clear hb0
  obtain ⟨n, s, ls⟩ := p
  obtain ⟨ha, hl, hr, hs⟩ := h
  dsimp only at ha hl hr hs ⊢
  have HA := Lib.hid ha
  have HR := Lib.hid hr
  clear ha hr
  obtain ⟨w0, hw0⟩ : ∃ w0, w.alloc (.cells #[.int .i64 n, .string s, .slice A ls.length c] 29) = w0 := ⟨_, rfl⟩
  have hb : Below w.heap.size w w0 := by rw [← hw0]; exact (by repeat (first | exact Below.refl _ _ | assumption | refine Below.setCell ?_ (by first | omega | (simp <;> omega)) _ | refine Below.alloc ?_ (by first | omega | (simp <;> omega)) _ | refine Below.drew ?_))
  have r0 : w0.heap[w.heap.size]? = some (.cells #[.int .i64 n, .string s, .slice A ls.length c] 29 (0, 0)) := by rw [← hw0]; exact heap_alloc_new _ _
  obtain ⟨p0, p1, p2, -, -⟩ := row3 r0
  have HR0 := Lib.hid r0
  clear r0
  by_cases h0 : ls.length = 0
  · have HF : Hid (false = b0) := by unfold Hid; rw [← HB0.out, pzQ_no0 h0]
    have t0 : ((ls.length : Int) == 0) = true := by simpa using h0
    clear h0
    go_enter Try.func109, Try.ntmps109
    go_wp2_with fail
    go_ret
    exact ⟨ret_bool HF.out, hb⟩
  have t0 : ((ls.length : Int) == 0) = false := by simpa using h0
  by_cases h1 : s.size = ls.length
  rotate_left
  · have HF : Hid (false = b0) := by unfold Hid; rw [← HB0.out, pzQ_no1 h1]
    have t1 : ((s.size : Int) != (ls.length : Int)) = true := by simp; omega
    clear h0 h1
    go_enter Try.func109, Try.ntmps109
    go_wp2_with fail
    go_ret
    exact ⟨ret_bool HF.out, hb⟩
  have t1 : ((s.size : Int) != (ls.length : Int)) = false := by simp; omega
  have HEQ := Lib.hid h1
  obtain ⟨q, hq⟩ : ∃ q, gsQ n ls = q := ⟨_, rfl⟩
  have HQ := Lib.hid hq
  have HG : Hid (∀ wx, LAt wx A ls → Calls Try.prog 128 #[.int .i64 n, .slice A ls.length c] wx (Quiet (.bool q) wx)) := fun wx hx => by
    rw [← hq]
    exact specGs A c n ls wx hx hl HR.out
  have HN0 : Hid (0 < ls.length) := by unfold Hid; omega
  clear h0 h1 hq
  go_enter Try.func109, Try.ntmps109
  go_wp2_with fail
  clear hw0
  refine (HG.out _ (HA.out.below hb)).mono ?_
  rintro e w1 ⟨rfl, nq, rfl⟩
  cases q with
  | false =>
    have HF : Hid (false = b0) := by unfold Hid; rw [← HB0.out, pzQ_no2 HQ.out]
    go_wp2_with fail
    go_ret
    exact ⟨ret_bool HF.out, belowDrewN hb _⟩
  | true =>
    have HF : Hid (nmTo s s.size = b0) := by
      unfold Hid
      have hn0 : 1 ≤ ls.length := HN0.out
      rw [← HB0.out, pzQ, HQ.out, decide_eq_true HEQ.out, decide_eq_true hn0]
      simp
    have HB := Lib.hid hb
    clear hb HG
    go_wp2_with fail
    go_loopw [3] (fun i wr => ∃ (k q : Nat), k ≤ s.size ∧ i = .int .i64 k ∧ wr = w0.drewN q ∧ Hid (NmTo s k)) (fun i _ => s.size - (intOf i).toNat)
    case atStart => exact ⟨0, nq, Nat.zero_le _, rfl, rfl, fun j hj => by omega⟩
    case round =>
      obtain ⟨k, q, hk, rfl, rfl, HT⟩ := hrel
      by_cases hlt : k < s.size
      · have k1 : (k : Int) < (s.size : Int) := by omega
        obtain ⟨b, hb⟩ : ∃ b, nmAt s k = b := ⟨_, rfl⟩
        have HM := Lib.hid (fun wx => specMove s k wx hs hlt)
        rw [hb] at HM
        cases b with
        | false =>
          have HF2 : Hid (false = b0) := by
            unfold Hid
            rw [← HF.out, nmTo_no (NmTo.not hlt (fun h => by rw [nmAt_yes h] at hb; cases hb))]
          clear hb
          go_wp2_with fail
          refine (HM.out _).mono ?_
          rintro e w2 ⟨rfl, nq2, rfl⟩
          go_wp2_with fail
          go_ret
          exact ⟨ret_bool HF2.out, belowDrewN HB.out _⟩
        | true =>
          have HT2 : Hid (NmTo s (k + 1)) := HT.out.more (nmAt_iff.1 hb)
          clear hb
          go_wp2_with fail
          refine (HM.out _).mono ?_
          rintro e w2 ⟨rfl, nq2, rfl⟩
          go_wp2_with fail
          go_roundw
          case rel => exact ⟨k + 1, _, by omega, by go_num, rfl, HT2⟩
          case measure => simp [intOf]; omega
      · obtain rfl : k = s.size := by omega
        have HF2 : Hid (true = b0) := by unfold Hid; rw [← HF.out, nmTo_yes HT.out]
        have k1 : ¬ (s.size : Int) < (s.size : Int) := by omega
        go_wp2_with fail
        go_ret
        exact ⟨ret_bool HF2.out, belowDrewN HB.out _⟩
set_option maxRecDepth 100000 in
set_option maxHeartbeats 1000000 in
theorem implPz (A : Option Addr) (c : Nat) (p : Pz) (w : World) (h : PzAt w A p) :
    Calls Try.prog 134 #[.agg #[.int .i64 p.pts, .string p.names, .slice A p.moves.length c]] w fun e w' => e = .returned (.bool (pzQ p)) ∧ Below w.heap.size w w' := by
  obtain ⟨b0, hb0⟩ : ∃ b0, pzQ p = b0 := ⟨_, rfl⟩
  rw [hb0]
  have HB0 := Lib.hid hb0
  clear hb0
  obtain ⟨n, s, ls⟩ := p
  obtain ⟨ha, hl, hr, hs⟩ := h
  dsimp only at ha hl hr hs ⊢
  have HA := Lib.hid ha
  have HR := Lib.hid hr
  clear ha hr
  obtain ⟨w0, hw0⟩ : ∃ w0, w.alloc (.cells #[.int .i64 n, .string s, .slice A ls.length c] 29) = w0 := ⟨_, rfl⟩
  have hb : Below w.heap.size w w0 := by rw [← hw0]; exact (by repeat (first | exact Below.refl _ _ | assumption | refine Below.setCell ?_ (by first | omega | (simp <;> omega)) _ | refine Below.alloc ?_ (by first | omega | (simp <;> omega)) _ | refine Below.drew ?_))
  have r0 : w0.heap[w.heap.size]? = some (.cells #[.int .i64 n, .string s, .slice A ls.length c] 29 (0, 0)) := by rw [← hw0]; exact heap_alloc_new _ _
  obtain ⟨p0, p1, p2, -, -⟩ := row3 r0
  have HR0 := Lib.hid r0
  clear r0
  obtain ⟨q, hq⟩ : ∃ q, gsQ n ls = q := ⟨_, rfl⟩
  have HQ := Lib.hid hq
  have HG : Hid (∀ wx, LAt wx A ls → Calls Try.prog 143 #[.int .i64 n, .slice A ls.length c] wx (ReadsBool q wx)) := fun wx hx => by
    rw [← hq]
    exact implGs A c n ls wx hx hl HR.out
  clear hq
  go_enter Try.func134, Try.ntmps134
  go_wp2_with fail
  clear hw0
  refine (HG.out _ (HA.out.below hb)).mono ?_
  rintro e w1 ⟨rfl, hb1⟩
  have hr1 := rowB hb1 HR0.out
  have hB1 := belowStep hb1 hb
  clear p0 p1 p2 hb1
  obtain ⟨p0, p1, p2, -, -⟩ := row3 hr1
  cases q with
  | false =>
    have HF : Hid (false = b0) := by unfold Hid; rw [← HB0.out, pzQ_no2 HQ.out]
    clear hr1
    go_wp2_with fail
    go_ret
    exact ⟨ret_bool HF.out, hB1⟩
  | true =>
    have h8 := (gs_len HQ.out).1
    obtain ⟨b, hb'⟩ : ∃ b, (nmTo s s.size && inR (s.size : Int) 1 8) = b := ⟨_, rfl⟩
    have HN := Lib.hid (fun wx => implNames s wx hs)
    rw [hb'] at HN
    have HBN := Lib.hid hb'
    clear hr1 hb' hb
    cases b with
    | false =>
      have HF : Hid (false = b0) := by
        unfold Hid
        rw [← HB0.out, pzQ, HQ.out]
        dsimp only
        have h2 := HBN.out
        by_cases h3 : s.size = ls.length
        · by_cases h4 : 1 ≤ ls.length
          · rw [inR_iff.2 ⟨by omega, by omega⟩, Bool.and_true] at h2
            rw [h2]
            rfl
          · rw [decide_eq_false h4]; simp
        · rw [decide_eq_false h3]; simp
      go_wp2_with fail
      refine (HN.out _).mono ?_
      rintro e w2 ⟨rfl, nq, rfl⟩
      go_wp2_with fail
      go_ret
      exact ⟨ret_bool HF.out, belowDrewN hB1 _⟩
    | true =>
      have HF : Hid (decide (s.size = ls.length) = b0) := by
        unfold Hid
        have h2 := HBN.out
        rw [Bool.and_eq_true] at h2
        have h5 := (inR_iff.1 h2.2).1
        rw [← HB0.out, pzQ, HQ.out, h2.1]
        by_cases h3 : s.size = ls.length
        · rw [decide_eq_true h3, decide_eq_true (by omega : 1 ≤ ls.length)]; rfl
        · rw [decide_eq_false h3]; rfl
      have HE : Hid (((s.size : Int) == (ls.length : Int)) = decide (s.size = ls.length)) := by
        unfold Hid
        rw [Bool.eq_iff_iff, beq_iff_eq, decide_eq_true_iff]
        omega
      go_wp2_with fail
      refine (HN.out _).mono ?_
      rintro e w2 ⟨rfl, nq, rfl⟩
      go_wp2_with fail
      go_ret
      exact ⟨ret_bool (by rw [HE.out, HF.out]), belowDrewN hB1 _⟩
noncomputable def trkQ (p : Pz) (xs : List Int) : Bool := pzQ p && ptQ p.pts xs
theorem pz_pts {p : Pz} (h : pzQ p = true) : 1 ≤ p.pts ∧ p.pts ≤ 20 := by
  unfold pzQ at h
  rw [Bool.and_eq_true] at h
  have := inR_iff.1 (gs_len h.1).2
  omega
set_option maxRecDepth 100000 in
set_option maxHeartbeats 1000000 in
theorem specTrk (A : Option Addr) (c : Nat) (p : Pz) (A2 : Option Addr) (c2 : Nat) (xs : List Int) (w : World) (h : PzAt w A p) (hx : IntsAt w A2 xs) (hl : xs.length ≤ 1048576) :
    Calls Try.prog 79 #[.agg #[.int .i64 p.pts, .string p.names, .slice A p.moves.length c], .slice A2 xs.length c2] w fun e w' => e = .returned (.bool (trkQ p xs)) ∧ Below w.heap.size w w' := by
  obtain ⟨b0, hb0⟩ : ∃ b0, trkQ p xs = b0 := ⟨_, rfl⟩
  rw [hb0]
  have HB0 := Lib.hid hb0
  have HP := Lib.hid h
  have HX := Lib.hid hx
  obtain ⟨q, hq⟩ : ∃ q, pzQ p = q := ⟨_, rfl⟩
  have HQ := Lib.hid hq
  have HC := Lib.hid (fun wx hw => specPz A c p wx hw)
  rw [hq] at HC
  clear hb0 hx h hq
  obtain ⟨w0, hw0⟩ : ∃ w0, w.alloc (.cells #[.int .i64 p.pts, .string p.names, .slice A p.moves.length c] 29) = w0 := ⟨_, rfl⟩
  have hb : Below w.heap.size w w0 := by rw [← hw0]; exact (by repeat (first | exact Below.refl _ _ | assumption | refine Below.setCell ?_ (by first | omega | (simp <;> omega)) _ | refine Below.alloc ?_ (by first | omega | (simp <;> omega)) _ | refine Below.drew ?_))
  have r0 : w0.heap[w.heap.size]? = some (.cells #[.int .i64 p.pts, .string p.names, .slice A p.moves.length c] 29 (0, 0)) := by rw [← hw0]; exact heap_alloc_new _ _
  obtain ⟨p0, p1, p2, -, -⟩ := row3 r0
  have HR0 := Lib.hid r0
  clear r0
  go_enter Try.func79, Try.ntmps79
  go_wp2_with fail
  clear hw0
  refine (HC.out _ (HP.out.below hb)).mono ?_
  rintro e w1 ⟨rfl, hb1⟩
  have hr1 := rowB hb1 HR0.out
  have hB1 := belowStep hb1 hb
  clear p0 p1 p2 hb1 hb
  obtain ⟨p0, p1, p2, -, -⟩ := row3 hr1
  clear hr1
  cases q with
  | false =>
    have HF : Hid (false = b0) := by unfold Hid; rw [← HB0.out, trkQ, HQ.out]; rfl
    go_wp2_with fail
    go_ret
    exact ⟨ret_bool HF.out, hB1⟩
  | true =>
    have hpt := pz_pts HQ.out
    have HF : Hid (ptQ p.pts xs = b0) := by unfold Hid; rw [← HB0.out, trkQ, HQ.out]; rfl
    have HS := Lib.hid (fun wx hw => specPts p.pts A2 c2 xs wx hw hl hpt.1 hpt.2)
    rw [HF.out] at HS
    clear hpt
    go_wp2_with fail
    refine (HS.out _ (HX.out.below hB1)).mono ?_
    rintro e w2 ⟨rfl, nq, rfl⟩
    go_wp2_with fail
    go_ret
    exact ⟨rfl, belowDrewN hB1 _⟩
set_option maxRecDepth 100000 in
set_option maxHeartbeats 1000000 in
theorem implTrk (A : Option Addr) (c : Nat) (p : Pz) (A2 : Option Addr) (c2 : Nat) (xs : List Int) (w : World) (h : PzAt w A p) (hx : IntsAt w A2 xs) (hl : xs.length ≤ 1048576) :
    Calls Try.prog 117 #[.agg #[.int .i64 p.pts, .string p.names, .slice A p.moves.length c], .slice A2 xs.length c2] w fun e w' => e = .returned (.bool (trkQ p xs)) ∧ Below w.heap.size w w' := by
  obtain ⟨b0, hb0⟩ : ∃ b0, trkQ p xs = b0 := ⟨_, rfl⟩
  rw [hb0]
  have HB0 := Lib.hid hb0
  have HP := Lib.hid h
  have HX := Lib.hid hx
  obtain ⟨q, hq⟩ : ∃ q, pzQ p = q := ⟨_, rfl⟩
  have HQ := Lib.hid hq
  have HC := Lib.hid (fun wx hw => implPz A c p wx hw)
  rw [hq] at HC
  clear hb0 hx h hq
  obtain ⟨w0, hw0⟩ : ∃ w0, w.alloc (.cells #[.int .i64 p.pts, .string p.names, .slice A p.moves.length c] 29) = w0 := ⟨_, rfl⟩
  have hb : Below w.heap.size w w0 := by rw [← hw0]; exact (by repeat (first | exact Below.refl _ _ | assumption | refine Below.setCell ?_ (by first | omega | (simp <;> omega)) _ | refine Below.alloc ?_ (by first | omega | (simp <;> omega)) _ | refine Below.drew ?_))
  have r0 : w0.heap[w.heap.size]? = some (.cells #[.int .i64 p.pts, .string p.names, .slice A p.moves.length c] 29 (0, 0)) := by rw [← hw0]; exact heap_alloc_new _ _
  obtain ⟨p0, p1, p2, -, -⟩ := row3 r0
  have HR0 := Lib.hid r0
  clear r0
  go_enter Try.func117, Try.ntmps117
  go_wp2_with fail
  clear hw0
  refine (HC.out _ (HP.out.below hb)).mono ?_
  rintro e w1 ⟨rfl, hb1⟩
  have hr1 := rowB hb1 HR0.out
  have hB1 := belowStep hb1 hb
  clear p0 p1 p2 hb1 hb
  obtain ⟨p0, p1, p2, -, -⟩ := row3 hr1
  clear hr1
  cases q with
  | false =>
    have HF : Hid (false = b0) := by unfold Hid; rw [← HB0.out, trkQ, HQ.out]; rfl
    go_wp2_with fail
    go_ret
    exact ⟨ret_bool HF.out, hB1⟩
  | true =>
    have hpt := pz_pts HQ.out
    have HF : Hid (ptQ p.pts xs = b0) := by unfold Hid; rw [← HB0.out, trkQ, HQ.out]; rfl
    have HS := Lib.hid (fun wx hw => implPts p.pts A2 c2 xs wx hw hl hpt.1 hpt.2)
    rw [HF.out] at HS
    clear hpt
    go_wp2_with fail
    refine (HS.out _ (HX.out.below hB1)).mono ?_
    rintro e w2 ⟨rfl, rfl⟩
    go_wp2_with fail
    go_ret
    exact ⟨rfl, hB1⟩
end
end Go.Proofs.Ytfhdnanbhigpmaa
