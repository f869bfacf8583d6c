/- Well-formed tables at the reference. Conditions: as each contract says. -/
import Derived.Test.YtdkoegccfpdldaaTw
namespace Go.Proofs.Ytdkoegccfpdldaa
open Go.RowKit

set_option maxRecDepth 100000 in
set_option maxHeartbeats 1000000 in
theorem specWf (A1 A2 A3 : Option Addr) (c1 c2 c3 : Nat) (t : Tb) (w : World) (h1 : IntsAt w A1 t.trk) (h2 : LAt w A2 t.pats) (h3 : IntsAt w A3 t.dist) (hs : ShortT t) :
    Calls Try.prog 16 #[.agg #[.slice A1 t.trk.length c1, .slice A2 t.pats.length c2, .slice A3 t.dist.length c3]] w (ReadsBool (wfQ t) w) := by
  obtain ⟨b0, hb0⟩ : ∃ b0, wfQ t = b0 := ⟨_, rfl⟩
  rw [hb0]
  have HB0 := Lib.hid hb0
  clear hb0
  obtain ⟨xs, ls, ys⟩ := t
  obtain ⟨s1, s2, s3, s4⟩ := hs
  dsimp only at h1 h2 h3 s1 s2 s3 s4 ⊢
  have H1 := Lib.hid h1
  have H2 := Lib.hid h2
  have H3 := Lib.hid h3
  have S3 := Lib.hid s3
  clear h1 h2 h3 s3
  go_enter Try.func16, Try.ntmps16
  go_wp2_with fail
  obtain ⟨w0, hw0⟩ : ∃ w0, w.alloc (.cells #[.slice A1 xs.length c1, .slice A2 ls.length c2, .slice A3 ys.length c3] 29) = w0 := ⟨_, rfl⟩
  have hb0 : Below w.heap.size w w0 := by rw [← hw0]; exact (by repeat (first | exact Below.refl _ _ | assumption | refine Below.setCell ?_ (by first | omega | (simp <;> omega)) _ | refine Below.alloc ?_ (by first | omega | (simp <;> omega)) _ | refine Below.drew ?_))
  have r0 : w0.heap[w.heap.size]? = some (.cells #[.slice A1 xs.length c1, .slice A2 ls.length c2, .slice A3 ys.length c3] 29 (0, 0)) := by
    rw [← hw0, heap_alloc_new]
  rw [hw0]
  clear hw0
  refine (specPts 20 A1 c1 xs w0 (H1.out.below hb0) s1 (by decide) (by decide)).mono ?_
  rintro e w1 ⟨rfl, n1, rfl⟩
  have hb1 : Below w.heap.size w (w0.drewN n1) := belowDrewN hb0 _
  have r1 := drewRow n1 r0
  obtain ⟨w1, hw1⟩ : ∃ w1, w0.drewN n1 = w1 := ⟨_, rfl⟩
  rw [hw1] at hb1 r1 ⊢
  clear hw1 hb0 r0
  obtain ⟨p0, p1, p2, -, -⟩ := row3 r1
  have HR1 := Lib.hid r1
  clear r1
  cases hp : ptQ 20 xs with
  | false =>
    have HF : Hid (false = b0) := wf_bad HB0.out (fun h => by have := h.1; dsimp only at this; rw [hp] at this; exact absurd this (by decide))
    clear hp
    go_wp2_with fail
    go_ret
    exact ⟨ret_bool HF.out, hb1⟩
  | true =>
    have HP := Lib.hid hp
    clear hp
    have HR := Lib.hid (inRange_any (ls.length : Int) 1 3000)
    cases hr : inR (ls.length : Int) 1 3000 with
    | false =>
      rw [hr] at HR
      have HF : Hid (false = b0) := wf_bad HB0.out (fun h => inR_no.1 hr ⟨by have := h.2.1; dsimp only at this; omega, by have := h.2.2.1; dsimp only at this; omega⟩)
      clear hr
      go_wp2_with fail
      refine (HR.out _).mono ?_
      rintro e w1 ⟨rfl, rfl⟩
      go_wp2_with fail
      go_ret
      exact ⟨ret_bool HF.out, hb1⟩
    | true =>
      rw [hr] at HR
      have HY := Lib.hid (inR_iff.1 hr)
      clear hr
      by_cases hl : ys.length = ls.length
      · have hne : ((ys.length : Int) != (ls.length : Int)) = false := by simp; omega
        have HL := Lib.hid hl
        clear hl
        go_wp2_with fail
        refine (HR.out _).mono ?_
        rintro e w1 ⟨rfl, rfl⟩
        go_wp2_with fail
        clear p0 p1 p2 HR hne
        go_loopw [4] (fun i wr => ∃ k : Nat, k ≤ ls.length ∧ i = .int .i64 k ∧ Hid (WfTo ⟨xs, ls, ys⟩ k) ∧ Below w.heap.size w wr ∧ Hid (wr.heap[w.heap.size]? = some (.cells #[.slice A1 xs.length c1, .slice A2 ls.length c2, .slice A3 ys.length c3] 29 (0, 0)))) (fun i _ => ls.length - (intOf i).toNat)
        case atStart => exact ⟨0, Nat.zero_le _, rfl, fun j hj => absurd hj (Nat.not_lt_zero _), hb1, HR1.out⟩
        case round =>
          obtain ⟨k, hk, rfl, HO, hB, HRR⟩ := hrel
          obtain ⟨p0, p1, p2, -, -⟩ := row3 HRR.out
          by_cases hlt : k < ls.length
          · obtain ⟨b, off, Ai, ci, zs, rfl, hb, hcap, hc0, hI, HX⟩ := (H2.out.below hB).at_ hlt
            obtain ⟨b', off', y, rfl, hb', hc0', HY⟩ := (H3.out.below hB).at_ (show k < ys.length by have := HL.out; omega)
            have q0 : (0 : Int) ≤ (k : Int) := by omega
            have q1 : (k : Int) < (ls.length : Int) := by omega
            have q2 : (k : Int) < (ys.length : Int) := by have := HL.out; omega
            have hzs : zs.length ≤ 1048576 := by have := S3.out k hlt; rw [HX.out] at this; exact this
            have hQ := fun wx (h : IntsAt wx Ai zs) => specDist 20 xs.length Ai ci zs wx h hzs hcap (by decide) (by decide)
            have HQ2 := Lib.hid (inRange_any y 0 3000)
            have HI := Lib.hid hI
            clear hb hb' hI hcap hzs
            cases hq : diQ 20 zs xs.length with
            | false =>
              rw [hq] at hQ
              have HQ := Lib.hid hQ
              have HF : Hid (false = b0) := wf_bad HB0.out (fun h => by have := (h.2.2.2.2 k hlt).1; dsimp only at this; rw [HX.out, hq] at this; exact absurd this (by decide))
              clear hq hQ
              go_wp2_with fail
              go_quiet ((go_at_call 44; exact quietDrew (HQ.out _ (by exact HI.out))))
              go_wp2_with fail
              go_ret
              exact ⟨ret_bool HF.out, belowDrewN hB _⟩
            | true =>
              rw [hq] at hQ
              have HQ := Lib.hid hQ
              clear hQ
              cases hr : inR y 0 3000 with
              | false =>
                rw [hr] at HQ2
                have HF : Hid (false = b0) := wf_bad HB0.out (fun h => by have := (h.2.2.2.2 k hlt).2; dsimp only at this; rw [HY.out] at this; exact inR_no.1 hr this)
                clear hq hr
                go_wp2_with fail
                go_quiet (first | (go_at_call 44; exact quietDrew (HQ.out _ (by exact HI.out))) | (go_at_call 43; exact quietLeft (HQ2.out _)))
                go_wp2_with fail
                go_ret
                exact ⟨ret_bool HF.out, belowDrewN hB _⟩
              | true =>
                rw [hr] at HQ2
                have HN : Hid (WfTo ⟨xs, ls, ys⟩ (k + 1)) := HO.out.step (by dsimp only; rw [HX.out]; exact hq) (by dsimp only; rw [HY.out]; exact (inR_iff.1 hr).1) (by dsimp only; rw [HY.out]; exact (inR_iff.1 hr).2)
                clear hq hr
                go_wp2_with fail
                go_quiet (first | (go_at_call 44; exact quietDrew (HQ.out _ (by exact HI.out))) | (go_at_call 43; exact quietLeft (HQ2.out _)))
                go_wp2_with fail
                go_roundw
                case rel => exact ⟨k + 1, by omega, by go_num, HN, belowDrewN hB _, drewRow _ HRR.out⟩
                case measure => simp [intOf]; omega
          · obtain rfl : k = ls.length := by omega
            have HT : Hid (true = b0) := by
              unfold Hid
              rw [← HB0.out, eq_comm, wfQ_iff]
              exact ⟨HP.out, by dsimp only; have := HY.out; omega, by dsimp only; have := HY.out; omega, HL.out, HO.out⟩
            go_wp2_with fail
            go_ret
            exact ⟨ret_bool HT.out, hB⟩
      · have hne : ((ys.length : Int) != (ls.length : Int)) = true := by simp; omega
        have HF : Hid (false = b0) := wf_bad HB0.out (fun h => hl h.2.2.2.1)
        clear hl
        go_wp2_with fail
        refine (HR.out _).mono ?_
        rintro e w1 ⟨rfl, rfl⟩
        go_wp2_with fail
        go_ret
        exact ⟨ret_bool HF.out, hb1⟩
end Go.Proofs.Ytdkoegccfpdldaa
