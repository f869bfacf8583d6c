/- Well-formed tables at both packages. Conditions: as each contract says. -/
import Derived.Test.YtdkoegccfpdldaaTb
namespace Go.Proofs.Ytdkoegccfpdldaa
open Go.RowKit

def WfTo (t : Tb) (k : Nat) : Prop := ∀ j, j < k → diQ 20 (t.pats.getD j []) t.trk.length = true ∧ 0 ≤ t.dist.getD j 0 ∧ t.dist.getD j 0 ≤ 3000
def WfT (t : Tb) : Prop := ptQ 20 t.trk = true ∧ 1 ≤ t.pats.length ∧ t.pats.length ≤ 3000 ∧ t.dist.length = t.pats.length ∧ WfTo t t.pats.length
open Classical in
noncomputable def wfQ (t : Tb) : Bool := decide (WfT t)
open Classical in
theorem wfQ_iff {t : Tb} : wfQ t = true ↔ WfT t := by unfold wfQ; exact decide_eq_true_iff
open Classical in
theorem wfQ_no {t : Tb} (h : ¬ WfT t) : wfQ t = false := by unfold wfQ; exact decide_eq_false h
theorem wf_bad {t : Tb} {b0 : Bool} (hb : wfQ t = b0) (h : ¬ WfT t) : false = b0 := by rw [← hb, wfQ_no h]
theorem WfTo.step {t : Tb} {k : Nat} (h : WfTo t k) (h1 : diQ 20 (t.pats.getD k []) t.trk.length = true) (h2 : 0 ≤ t.dist.getD k 0) (h3 : t.dist.getD k 0 ≤ 3000) : WfTo t (k + 1) := fun j hj => by
  rcases Nat.lt_or_ge j k with h4 | h4
  · exact h j h4
  · rw [show j = k from by omega]; exact ⟨h1, h2, h3⟩
theorem lenLists (A : Option Addr) (n c : Nat) (w : World) : Calls Try.prog 29 #[.slice A n c] w fun e w' => e = .returned (.int .i64 n) ∧ w = w' := by
  go_enter Try.func29, Try.ntmps29
  go_wp2_with fail
  go_ret
  exact ⟨rfl, rfl⟩
set_option maxRecDepth 100000 in
set_option maxHeartbeats 1000000 in
theorem implWf (A1 A2 A3 : Option Addr) (c1 c2 c3 : Nat) (t : Tb) (w : World) (h1 : IntsAt w A1 t.trk) (h2 : LAt w A2 t.pats) (h3 : IntsAt w A3 t.dist) (hs : ShortT t) :
    Calls Try.prog 23 #[.agg #[.slice A1 t.trk.length c1, .slice A2 t.pats.length c2, .slice A3 t.dist.length c3]] w (ReadsBool (wfQ t) w) := by
  obtain ⟨b0, hb0⟩ : ∃ b0, wfQ t = b0 := ⟨_, rfl⟩
  rw [hb0]
  have HB0 := Lib.hid hb0
  clear hb0
  obtain ⟨xs, ls, ys⟩ := t
  obtain ⟨s1, s2, s3, s4⟩ := hs
  dsimp only at h1 h2 h3 s1 s2 s3 s4 ⊢
  have H1 := Lib.hid h1
  have H2 := Lib.hid h2
  have H3 := Lib.hid h3
  have S3 := Lib.hid s3
  clear h1 h2 h3 s3
  go_enter Try.func23, Try.ntmps23
  go_wp2_with fail
  obtain ⟨w0, hw0⟩ : ∃ w0, w.alloc (.cells #[.slice A1 xs.length c1, .slice A2 ls.length c2, .slice A3 ys.length c3] 29) = w0 := ⟨_, rfl⟩
  have hb0 : Below w.heap.size w w0 := by rw [← hw0]; exact (by repeat (first | exact Below.refl _ _ | assumption | refine Below.setCell ?_ (by first | omega | (simp <;> omega)) _ | refine Below.alloc ?_ (by first | omega | (simp <;> omega)) _ | refine Below.drew ?_))
  have r0 : w0.heap[w.heap.size]? = some (.cells #[.slice A1 xs.length c1, .slice A2 ls.length c2, .slice A3 ys.length c3] 29 (0, 0)) := by
    rw [← hw0, heap_alloc_new]
  rw [hw0]
  clear hw0
  obtain ⟨p0, p1, p2, -, -⟩ := row3 r0
  clear r0
  have H1 := Lib.hid (H1.out.below hb0)
  have H2 := Lib.hid (H2.out.below hb0)
  have H3 := Lib.hid (H3.out.below hb0)
  refine (implPts 20 A1 c1 xs w0 H1.out s1 (by decide) (by decide)).mono ?_
  rintro e w1 ⟨rfl, rfl⟩
  cases hp : ptQ 20 xs with
  | false =>
    have HF : Hid (false = b0) := wf_bad HB0.out (fun h => by have := h.1; dsimp only at this; rw [hp] at this; exact absurd this (by decide))
    clear hp
    go_wp2_with fail
    go_ret
    exact ⟨ret_bool HF.out, hb0⟩
  | true =>
    have HP := Lib.hid hp
    clear hp
    by_cases hl : ls.length = ys.length
    · have hne : ((ls.length : Int) != (ys.length : Int)) = false := by simp; omega
      have HL := Lib.hid hl
      clear hl
      have HR := Lib.hid (within_any (ls.length : Int) 1 3000)
      cases hr : inR (ls.length : Int) 1 3000 with
      | false =>
        rw [hr] at HR
        have HF : Hid (false = b0) := wf_bad HB0.out (fun h => inR_no.1 hr ⟨by have := h.2.1; dsimp only at this; omega, by have := h.2.2.1; dsimp only at this; omega⟩)
        clear hr
        go_wp2_with fail
        refine (lenLists _ _ _ _).mono ?_
        rintro e w1 ⟨rfl, rfl⟩
        go_wp2_with fail
        refine (HR.out _).mono ?_
        rintro e w1 ⟨rfl, rfl⟩
        go_wp2_with fail
        go_ret
        exact ⟨ret_bool HF.out, hb0⟩
      | true =>
        rw [hr] at HR
        have HY := Lib.hid (inR_iff.1 hr)
        clear hr
        go_wp2_with fail
        refine (lenLists _ _ _ _).mono ?_
        rintro e w1 ⟨rfl, rfl⟩
        go_wp2_with fail
        refine (HR.out _).mono ?_
        rintro e w1 ⟨rfl, rfl⟩
        go_wp2_with fail
        go_loop [28] (fun i => ∃ k : Nat, k ≤ ls.length ∧ i = .int .i64 k ∧ Hid (WfTo ⟨xs, ls, ys⟩ k)) (fun i => ls.length - (intOf i).toNat)
        case atStart => exact ⟨0, Nat.zero_le _, rfl, fun j hj => absurd hj (Nat.not_lt_zero _)⟩
        case round =>
          obtain ⟨k, hk, rfl, HO⟩ := hrel
          by_cases hlt : k < ls.length
          · obtain ⟨b, off, Ai, ci, zs, rfl, hb, hcap, hc0, hI, HX⟩ := H2.out.at_ hlt
            obtain ⟨b', off', y, rfl, hb', hc0', HY⟩ := H3.out.at_ (show k < ys.length by have := HL.out; omega)
            have q0 : (0 : Int) ≤ (k : Int) := by omega
            have q1 : (k : Int) < (ls.length : Int) := by omega
            have q2 : (k : Int) < (ys.length : Int) := by have := HL.out; omega
            have hzs : zs.length ≤ 1048576 := by have := S3.out k hlt; rw [HX.out] at this; exact this
            have HQ := Lib.hid (implDist 20 xs.length Ai ci zs w0 hI hzs hcap (by decide) (by decide))
            have HQ2 := Lib.hid (within_any y 0 3000)
            clear hI hb hb'
            cases hq : diQ 20 zs xs.length with
            | false =>
              rw [hq] at HQ
              have HF : Hid (false = b0) := wf_bad HB0.out (fun h => by have := (h.2.2.2.2 k hlt).1; dsimp only at this; rw [HX.out, hq] at this; exact absurd this (by decide))
              clear hq
              go_wp2_with fail
              refine HQ.out.mono ?_
              rintro e w1 ⟨rfl, rfl⟩
              go_wp2_with fail
              go_ret
              exact ⟨ret_bool HF.out, hb0⟩
            | true =>
              rw [hq] at HQ
              cases hr : inR y 0 3000 with
              | false =>
                rw [hr] at HQ2
                have HF : Hid (false = b0) := wf_bad HB0.out (fun h => by have := (h.2.2.2.2 k hlt).2; dsimp only at this; rw [HY.out] at this; exact inR_no.1 hr this)
                clear hq hr
                go_wp2_with fail
                refine HQ.out.mono ?_
                rintro e w1 ⟨rfl, rfl⟩
                go_wp2_with fail
                refine (HQ2.out _).mono ?_
                rintro e w1 ⟨rfl, rfl⟩
                go_wp2_with fail
                go_ret
                exact ⟨ret_bool HF.out, hb0⟩
              | true =>
                rw [hr] at HQ2
                have HN : Hid (WfTo ⟨xs, ls, ys⟩ (k + 1)) := HO.out.step (by dsimp only; rw [HX.out]; exact hq) (by dsimp only; rw [HY.out]; exact (inR_iff.1 hr).1) (by dsimp only; rw [HY.out]; exact (inR_iff.1 hr).2)
                clear hq hr
                go_wp2_with fail
                refine HQ.out.mono ?_
                rintro e w1 ⟨rfl, rfl⟩
                go_wp2_with fail
                refine (HQ2.out _).mono ?_
                rintro e w1 ⟨rfl, rfl⟩
                go_wp2_with fail
                go_round
                case rel => exact ⟨k + 1, by omega, by go_num, HN⟩
                case measure => simp [intOf]; omega
          · obtain rfl : k = ls.length := by omega
            have HT : Hid (true = b0) := by
              unfold Hid
              rw [← HB0.out, eq_comm, wfQ_iff]
              exact ⟨HP.out, by dsimp only; have := HY.out; omega, by dsimp only; have := HY.out; omega, HL.out.symm, HO.out⟩
            go_wp2_with fail
            go_ret
            exact ⟨ret_bool HT.out, hb0⟩
    · have hne : ((ls.length : Int) != (ys.length : Int)) = true := by simp; omega
      have HF : Hid (false = b0) := wf_bad HB0.out (fun h => hl h.2.2.2.1.symm)
      clear hl
      go_wp2_with fail
      go_ret
      exact ⟨ret_bool HF.out, hb0⟩
end Go.Proofs.Ytdkoegccfpdldaa
