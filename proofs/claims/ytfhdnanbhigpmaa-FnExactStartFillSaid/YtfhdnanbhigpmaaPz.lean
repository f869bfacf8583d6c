/- Puzzles: whether one is valid, at both packages. Conditions: the lists are no longer than the law allows. -/
import Derived.Test.YtfhdnanbhigpmaaNm
import Derived.Test.YtfhdnanbhigpmaaTa
import Derived.Test.YtfhdnanbhigpmaaTk
namespace Go.Proofs.Ytfhdnanbhigpmaa
open Go.RowKit

structure Pz where
  pts : Int
  names : ByteArray
  moves : List (List Int)
/-- The puzzle p lies in memory, its moves at A. -/
structure PzAt (w : World) (A : Option Addr) (p : Pz) : Prop where
  at_ : LAt w A p.moves
  len : p.moves.length ≤ 1048576
  rows : ShortL p.moves
  names : p.names.size ≤ 1048576
theorem PzAt.below {w w' : World} {A : Option Addr} {p : Pz} (h : PzAt w A p) (hb : Below w.heap.size w w') : PzAt w' A p := ⟨h.at_.below hb, h.len, h.rows, h.names⟩
noncomputable def pzQ (p : Pz) : Bool := gsQ p.pts p.moves && (nmTo p.names p.names.size && (decide (p.names.size = p.moves.length) && decide (1 ≤ p.moves.length)))
theorem pzQ_no0 {p : Pz} (h : p.moves.length = 0) : pzQ p = false := by unfold pzQ; rw [decide_eq_false (by omega : ¬ 1 ≤ p.moves.length)]; simp
theorem pzQ_no1 {p : Pz} (h : ¬ p.names.size = p.moves.length) : pzQ p = false := by unfold pzQ; rw [decide_eq_false h]; simp
theorem pzQ_no2 {p : Pz} (h : gsQ p.pts p.moves = false) : pzQ p = false := by unfold pzQ; rw [h]; rfl
theorem gs_len {n : Int} {ls : List (List Int)} (h : gsQ n ls = true) : ls.length ≤ 8 ∧ inR n 1 20 = true := by
  refine ⟨Classical.byContradiction fun h2 => ?_, Classical.byContradiction fun h2 => ?_⟩
  · rw [gsQ_no2 h2] at h; cases h
  · rw [gsQ_no1 (by simpa using h2)] at h; cases h
set_option maxRecDepth 100000 in
set_option maxHeartbeats 1000000 in
theorem specPz (A : Option Addr) (c : Nat) (p : Pz) (w : World) (h : PzAt w A p) :
    Calls Try.prog 109 #[.agg #[.int .i64 p.pts, .string p.names, .slice A p.moves.length c]] w fun e w' => e = .returned (.bool (pzQ p)) ∧ Below w.heap.size w w' := by
  obtain ⟨b0, hb0⟩ : ∃ b0, pzQ p = b0 := ⟨_, rfl⟩
  rw [hb0]
  have HB0 := Lib.hid hb0
  clear hb0
  obtain ⟨n, s, ls⟩ := p
  obtain ⟨ha, hl, hr, hs⟩ := h
  dsimp only at ha hl hr hs ⊢
  have HA := Lib.hid ha
  have HR := Lib.hid hr
  clear ha hr
  obtain ⟨w0, hw0⟩ : ∃ w0, w.alloc (.cells #[.int .i64 n, .string s, .slice A ls.length c] 29) = w0 := ⟨_, rfl⟩
  have hb : Below w.heap.size w w0 := by rw [← hw0]; exact (by repeat (first | exact Below.refl _ _ | assumption | refine Below.setCell ?_ (by first | omega | (simp <;> omega)) _ | refine Below.alloc ?_ (by first | omega | (simp <;> omega)) _ | refine Below.drew ?_))
  have r0 : w0.heap[w.heap.size]? = some (.cells #[.int .i64 n, .string s, .slice A ls.length c] 29 (0, 0)) := by rw [← hw0]; exact heap_alloc_new _ _
  obtain ⟨p0, p1, p2, -, -⟩ := row3 r0
  have HR0 := Lib.hid r0
  clear r0
  by_cases h0 : ls.length = 0
  · have HF : Hid (false = b0) := by unfold Hid; rw [← HB0.out, pzQ_no0 h0]
    have t0 : ((ls.length : Int) == 0) = true := by simpa using h0
    clear h0
    go_enter Try.func109, Try.ntmps109
    go_wp2_with fail
    go_ret
    exact ⟨ret_bool HF.out, hb⟩
  have t0 : ((ls.length : Int) == 0) = false := by simpa using h0
  by_cases h1 : s.size = ls.length
  rotate_left
  · have HF : Hid (false = b0) := by unfold Hid; rw [← HB0.out, pzQ_no1 h1]
    have t1 : ((s.size : Int) != (ls.length : Int)) = true := by simp; omega
    clear h0 h1
    go_enter Try.func109, Try.ntmps109
    go_wp2_with fail
    go_ret
    exact ⟨ret_bool HF.out, hb⟩
  have t1 : ((s.size : Int) != (ls.length : Int)) = false := by simp; omega
  have HEQ := Lib.hid h1
  obtain ⟨q, hq⟩ : ∃ q, gsQ n ls = q := ⟨_, rfl⟩
  have HQ := Lib.hid hq
  have HG : Hid (∀ wx, LAt wx A ls → Calls Try.prog 128 #[.int .i64 n, .slice A ls.length c] wx (Quiet (.bool q) wx)) := fun wx hx => by
    rw [← hq]
    exact specGs A c n ls wx hx hl HR.out
  have HN0 : Hid (0 < ls.length) := by unfold Hid; omega
  clear h0 h1 hq
  go_enter Try.func109, Try.ntmps109
  go_wp2_with fail
  clear hw0
  refine (HG.out _ (HA.out.below hb)).mono ?_
  rintro e w1 ⟨rfl, nq, rfl⟩
  cases q with
  | false =>
    have HF : Hid (false = b0) := by unfold Hid; rw [← HB0.out, pzQ_no2 HQ.out]
    go_wp2_with fail
    go_ret
    exact ⟨ret_bool HF.out, belowDrewN hb _⟩
  | true =>
    have HF : Hid (nmTo s s.size = b0) := by
      unfold Hid
      have hn0 : 1 ≤ ls.length := HN0.out
      rw [← HB0.out, pzQ, HQ.out, decide_eq_true HEQ.out, decide_eq_true hn0]
      simp
    have HB := Lib.hid hb
    clear hb HG
    go_wp2_with fail
    go_loopw [3] (fun i wr => ∃ (k q : Nat), k ≤ s.size ∧ i = .int .i64 k ∧ wr = w0.drewN q ∧ Hid (NmTo s k)) (fun i _ => s.size - (intOf i).toNat)
    case atStart => exact ⟨0, nq, Nat.zero_le _, rfl, rfl, fun j hj => by omega⟩
    case round =>
      obtain ⟨k, q, hk, rfl, rfl, HT⟩ := hrel
      by_cases hlt : k < s.size
      · have k1 : (k : Int) < (s.size : Int) := by omega
        obtain ⟨b, hb⟩ : ∃ b, nmAt s k = b := ⟨_, rfl⟩
        have HM := Lib.hid (fun wx => specMove s k wx hs hlt)
        rw [hb] at HM
        cases b with
        | false =>
          have HF2 : Hid (false = b0) := by
            unfold Hid
            rw [← HF.out, nmTo_no (NmTo.not hlt (fun h => by rw [nmAt_yes h] at hb; cases hb))]
          clear hb
          go_wp2_with fail
          refine (HM.out _).mono ?_
          rintro e w2 ⟨rfl, nq2, rfl⟩
          go_wp2_with fail
          go_ret
          exact ⟨ret_bool HF2.out, belowDrewN HB.out _⟩
        | true =>
          have HT2 : Hid (NmTo s (k + 1)) := HT.out.more (nmAt_iff.1 hb)
          clear hb
          go_wp2_with fail
          refine (HM.out _).mono ?_
          rintro e w2 ⟨rfl, nq2, rfl⟩
          go_wp2_with fail
          go_roundw
          case rel => exact ⟨k + 1, _, by omega, by go_num, rfl, HT2⟩
          case measure => simp [intOf]; omega
      · obtain rfl : k = s.size := by omega
        have HF2 : Hid (true = b0) := by unfold Hid; rw [← HF.out, nmTo_yes HT.out]
        have k1 : ¬ (s.size : Int) < (s.size : Int) := by omega
        go_wp2_with fail
        go_ret
        exact ⟨ret_bool HF2.out, belowDrewN HB.out _⟩
set_option maxRecDepth 100000 in
set_option maxHeartbeats 1000000 in
theorem implPz (A : Option Addr) (c : Nat) (p : Pz) (w : World) (h : PzAt w A p) :
    Calls Try.prog 134 #[.agg #[.int .i64 p.pts, .string p.names, .slice A p.moves.length c]] w fun e w' => e = .returned (.bool (pzQ p)) ∧ Below w.heap.size w w' := by
  obtain ⟨b0, hb0⟩ : ∃ b0, pzQ p = b0 := ⟨_, rfl⟩
  rw [hb0]
  have HB0 := Lib.hid hb0
  clear hb0
  obtain ⟨n, s, ls⟩ := p
  obtain ⟨ha, hl, hr, hs⟩ := h
  dsimp only at ha hl hr hs ⊢
  have HA := Lib.hid ha
  have HR := Lib.hid hr
  clear ha hr
  obtain ⟨w0, hw0⟩ : ∃ w0, w.alloc (.cells #[.int .i64 n, .string s, .slice A ls.length c] 29) = w0 := ⟨_, rfl⟩
  have hb : Below w.heap.size w w0 := by rw [← hw0]; exact (by repeat (first | exact Below.refl _ _ | assumption | refine Below.setCell ?_ (by first | omega | (simp <;> omega)) _ | refine Below.alloc ?_ (by first | omega | (simp <;> omega)) _ | refine Below.drew ?_))
  have r0 : w0.heap[w.heap.size]? = some (.cells #[.int .i64 n, .string s, .slice A ls.length c] 29 (0, 0)) := by rw [← hw0]; exact heap_alloc_new _ _
  obtain ⟨p0, p1, p2, -, -⟩ := row3 r0
  have HR0 := Lib.hid r0
  clear r0
  obtain ⟨q, hq⟩ : ∃ q, gsQ n ls = q := ⟨_, rfl⟩
  have HQ := Lib.hid hq
  have HG : Hid (∀ wx, LAt wx A ls → Calls Try.prog 143 #[.int .i64 n, .slice A ls.length c] wx (ReadsBool q wx)) := fun wx hx => by
    rw [← hq]
    exact implGs A c n ls wx hx hl HR.out
  clear hq
  go_enter Try.func134, Try.ntmps134
  go_wp2_with fail
  clear hw0
  refine (HG.out _ (HA.out.below hb)).mono ?_
  rintro e w1 ⟨rfl, hb1⟩
  have hr1 := rowB hb1 HR0.out
  have hB1 := belowStep hb1 hb
  clear p0 p1 p2 hb1
  obtain ⟨p0, p1, p2, -, -⟩ := row3 hr1
  cases q with
  | false =>
    have HF : Hid (false = b0) := by unfold Hid; rw [← HB0.out, pzQ_no2 HQ.out]
    clear hr1
    go_wp2_with fail
    go_ret
    exact ⟨ret_bool HF.out, hB1⟩
  | true =>
    have h8 := (gs_len HQ.out).1
    obtain ⟨b, hb'⟩ : ∃ b, (nmTo s s.size && inR (s.size : Int) 1 8) = b := ⟨_, rfl⟩
    have HN := Lib.hid (fun wx => implNames s wx hs)
    rw [hb'] at HN
    have HBN := Lib.hid hb'
    clear hr1 hb' hb
    cases b with
    | false =>
      have HF : Hid (false = b0) := by
        unfold Hid
        rw [← HB0.out, pzQ, HQ.out]
        dsimp only
        have h2 := HBN.out
        by_cases h3 : s.size = ls.length
        · by_cases h4 : 1 ≤ ls.length
          · rw [inR_iff.2 ⟨by omega, by omega⟩, Bool.and_true] at h2
            rw [h2]
            rfl
          · rw [decide_eq_false h4]; simp
        · rw [decide_eq_false h3]; simp
      go_wp2_with fail
      refine (HN.out _).mono ?_
      rintro e w2 ⟨rfl, nq, rfl⟩
      go_wp2_with fail
      go_ret
      exact ⟨ret_bool HF.out, belowDrewN hB1 _⟩
    | true =>
      have HF : Hid (decide (s.size = ls.length) = b0) := by
        unfold Hid
        have h2 := HBN.out
        rw [Bool.and_eq_true] at h2
        have h5 := (inR_iff.1 h2.2).1
        rw [← HB0.out, pzQ, HQ.out, h2.1]
        by_cases h3 : s.size = ls.length
        · rw [decide_eq_true h3, decide_eq_true (by omega : 1 ≤ ls.length)]; rfl
        · rw [decide_eq_false h3]; rfl
      have HE : Hid (((s.size : Int) == (ls.length : Int)) = decide (s.size = ls.length)) := by
        unfold Hid
        rw [Bool.eq_iff_iff, beq_iff_eq, decide_eq_true_iff]
        omega
      go_wp2_with fail
      refine (HN.out _).mono ?_
      rintro e w2 ⟨rfl, nq, rfl⟩
      go_wp2_with fail
      go_ret
      exact ⟨ret_bool (by rw [HE.out, HF.out]), belowDrewN hB1 _⟩
noncomputable def trkQ (p : Pz) (xs : List Int) : Bool := pzQ p && ptQ p.pts xs
theorem pz_pts {p : Pz} (h : pzQ p = true) : 1 ≤ p.pts ∧ p.pts ≤ 20 := by
  unfold pzQ at h
  rw [Bool.and_eq_true] at h
  have := inR_iff.1 (gs_len h.1).2
  omega
set_option maxRecDepth 100000 in
set_option maxHeartbeats 1000000 in
theorem specTrk (A : Option Addr) (c : Nat) (p : Pz) (A2 : Option Addr) (c2 : Nat) (xs : List Int) (w : World) (h : PzAt w A p) (hx : IntsAt w A2 xs) (hl : xs.length ≤ 1048576) :
    Calls Try.prog 79 #[.agg #[.int .i64 p.pts, .string p.names, .slice A p.moves.length c], .slice A2 xs.length c2] w fun e w' => e = .returned (.bool (trkQ p xs)) ∧ Below w.heap.size w w' := by
  obtain ⟨b0, hb0⟩ : ∃ b0, trkQ p xs = b0 := ⟨_, rfl⟩
  rw [hb0]
  have HB0 := Lib.hid hb0
  have HP := Lib.hid h
  have HX := Lib.hid hx
  obtain ⟨q, hq⟩ : ∃ q, pzQ p = q := ⟨_, rfl⟩
  have HQ := Lib.hid hq
  have HC := Lib.hid (fun wx hw => specPz A c p wx hw)
  rw [hq] at HC
  clear hb0 hx h hq
  obtain ⟨w0, hw0⟩ : ∃ w0, w.alloc (.cells #[.int .i64 p.pts, .string p.names, .slice A p.moves.length c] 29) = w0 := ⟨_, rfl⟩
  have hb : Below w.heap.size w w0 := by rw [← hw0]; exact (by repeat (first | exact Below.refl _ _ | assumption | refine Below.setCell ?_ (by first | omega | (simp <;> omega)) _ | refine Below.alloc ?_ (by first | omega | (simp <;> omega)) _ | refine Below.drew ?_))
  have r0 : w0.heap[w.heap.size]? = some (.cells #[.int .i64 p.pts, .string p.names, .slice A p.moves.length c] 29 (0, 0)) := by rw [← hw0]; exact heap_alloc_new _ _
  obtain ⟨p0, p1, p2, -, -⟩ := row3 r0
  have HR0 := Lib.hid r0
  clear r0
  go_enter Try.func79, Try.ntmps79
  go_wp2_with fail
  clear hw0
  refine (HC.out _ (HP.out.below hb)).mono ?_
  rintro e w1 ⟨rfl, hb1⟩
  have hr1 := rowB hb1 HR0.out
  have hB1 := belowStep hb1 hb
  clear p0 p1 p2 hb1 hb
  obtain ⟨p0, p1, p2, -, -⟩ := row3 hr1
  clear hr1
  cases q with
  | false =>
    have HF : Hid (false = b0) := by unfold Hid; rw [← HB0.out, trkQ, HQ.out]; rfl
    go_wp2_with fail
    go_ret
    exact ⟨ret_bool HF.out, hB1⟩
  | true =>
    have hpt := pz_pts HQ.out
    have HF : Hid (ptQ p.pts xs = b0) := by unfold Hid; rw [← HB0.out, trkQ, HQ.out]; rfl
    have HS := Lib.hid (fun wx hw => specPts p.pts A2 c2 xs wx hw hl hpt.1 hpt.2)
    rw [HF.out] at HS
    clear hpt
    go_wp2_with fail
    refine (HS.out _ (HX.out.below hB1)).mono ?_
    rintro e w2 ⟨rfl, nq, rfl⟩
    go_wp2_with fail
    go_ret
    exact ⟨rfl, belowDrewN hB1 _⟩
set_option maxRecDepth 100000 in
set_option maxHeartbeats 1000000 in
theorem implTrk (A : Option Addr) (c : Nat) (p : Pz) (A2 : Option Addr) (c2 : Nat) (xs : List Int) (w : World) (h : PzAt w A p) (hx : IntsAt w A2 xs) (hl : xs.length ≤ 1048576) :
    Calls Try.prog 117 #[.agg #[.int .i64 p.pts, .string p.names, .slice A p.moves.length c], .slice A2 xs.length c2] w fun e w' => e = .returned (.bool (trkQ p xs)) ∧ Below w.heap.size w w' := by
  obtain ⟨b0, hb0⟩ : ∃ b0, trkQ p xs = b0 := ⟨_, rfl⟩
  rw [hb0]
  have HB0 := Lib.hid hb0
  have HP := Lib.hid h
  have HX := Lib.hid hx
  obtain ⟨q, hq⟩ : ∃ q, pzQ p = q := ⟨_, rfl⟩
  have HQ := Lib.hid hq
  have HC := Lib.hid (fun wx hw => implPz A c p wx hw)
  rw [hq] at HC
  clear hb0 hx h hq
  obtain ⟨w0, hw0⟩ : ∃ w0, w.alloc (.cells #[.int .i64 p.pts, .string p.names, .slice A p.moves.length c] 29) = w0 := ⟨_, rfl⟩
  have hb : Below w.heap.size w w0 := by rw [← hw0]; exact (by repeat (first | exact Below.refl _ _ | assumption | refine Below.setCell ?_ (by first | omega | (simp <;> omega)) _ | refine Below.alloc ?_ (by first | omega | (simp <;> omega)) _ | refine Below.drew ?_))
  have r0 : w0.heap[w.heap.size]? = some (.cells #[.int .i64 p.pts, .string p.names, .slice A p.moves.length c] 29 (0, 0)) := by rw [← hw0]; exact heap_alloc_new _ _
  obtain ⟨p0, p1, p2, -, -⟩ := row3 r0
  have HR0 := Lib.hid r0
  clear r0
  go_enter Try.func117, Try.ntmps117
  go_wp2_with fail
  clear hw0
  refine (HC.out _ (HP.out.below hb)).mono ?_
  rintro e w1 ⟨rfl, hb1⟩
  have hr1 := rowB hb1 HR0.out
  have hB1 := belowStep hb1 hb
  clear p0 p1 p2 hb1 hb
  obtain ⟨p0, p1, p2, -, -⟩ := row3 hr1
  clear hr1
  cases q with
  | false =>
    have HF : Hid (false = b0) := by unfold Hid; rw [← HB0.out, trkQ, HQ.out]; rfl
    go_wp2_with fail
    go_ret
    exact ⟨ret_bool HF.out, hB1⟩
  | true =>
    have hpt := pz_pts HQ.out
    have HF : Hid (ptQ p.pts xs = b0) := by unfold Hid; rw [← HB0.out, trkQ, HQ.out]; rfl
    have HS := Lib.hid (fun wx hw => implPts p.pts A2 c2 xs wx hw hl hpt.1 hpt.2)
    rw [HF.out] at HS
    clear hpt
    go_wp2_with fail
    refine (HS.out _ (HX.out.below hB1)).mono ?_
    rintro e w2 ⟨rfl, rfl⟩
    go_wp2_with fail
    go_ret
    exact ⟨rfl, hB1⟩
end Go.Proofs.Ytfhdnanbhigpmaa
