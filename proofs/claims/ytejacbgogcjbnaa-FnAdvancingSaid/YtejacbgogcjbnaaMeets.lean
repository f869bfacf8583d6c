/- The cutoff and the allowed attempts, at both packages. Conditions: as each contract says. -/
import Derived.Test.YtejacbgogcjbnaaLim
namespace Go.Proofs.Ytejacbgogcjbnaa
open Go.RowKit

theorem RR.ok_bd {r : RR} (h : r.ok = true) : 1 ≤ r.att ∧ r.att ≤ 5 ∧ 1 ≤ r.lim ∧ r.lim ≤ 360000 ∧ 0 ≤ r.catt ∧ r.catt ≤ r.att - 1 ∧ 0 ≤ r.adv ∧ r.adv ≤ 12 ∧ (r.catt ≠ 0 → 1 ≤ r.cut ∧ r.cut ≤ r.lim) := by
  simp only [RR.ok, Bool.and_eq_true, inR_iff] at h
  obtain ⟨⟨⟨⟨h1, h2⟩, h3⟩, h4⟩, h5⟩ := h
  refine ⟨h1.1, h1.2, h2.1, h2.2, h3.1, h3.2, h4.1, h4.2, fun h => ?_⟩
  rw [if_neg h] at h5
  exact inR_iff.1 h5
theorem limited_isRes {r : RR} {x : Int} (h : isRes x = true) : isRes (r.limited x) = true := by
  unfold RR.limited
  split
  · decide
  · exact h
theorem isRes_of {x : Int} (h0 : 0 ≤ x) (h1 : x ≤ 360000) : isRes x = true := by simp [isRes, inR, h0, h1]
theorem NoneBefore.take {p : Int → Bool} {xs : List Int} {k m : Nat} (h : NoneBefore p xs k) (hk : xs.length ≤ k ∨ m ≤ k) : (xs.take m).any p = false := by
  unfold NoneBefore at h
  rw [List.any_eq_false] at h ⊢
  intro x hx
  refine h x ?_
  rcases hk with hk | hk
  · rw [List.take_of_length_le hk]; exact List.mem_of_mem_take hx
  · exact (List.take_subset_take_left xs hk) hx
theorem any_take {p : Int → Bool} {xs : List Int} {k m : Nat} (hk : k < xs.length) (hm : k < m) {x : Int} (hx : xs.getD k 0 = x) (hp : p x = true) : (xs.take m).any p = true := by
  rw [List.any_eq_true]
  refine ⟨x, ?_, hp⟩
  rw [← hx, getD_at _ _ hk, List.mem_take_iff_getElem]
  exact ⟨k, by omega, rfl⟩

set_option maxHeartbeats 1000000 in
theorem specMeets (r : RR) (A : Option Addr) (c : Nat) (xs : List Int) (w : World) (hx : IntsAt w A xs) (h5 : xs.length ≤ 5) (hv : xs.all isRes = true) (hr : r.ok = true) :
    Calls Try.prog 79 #[.agg #[.int .i64 r.att, .int .i64 r.lim, .int .i64 r.catt, .int .i64 r.cut, .int .i64 r.adv], .slice A xs.length c] w fun e w' => e = .returned (.bool (r.meets xs)) ∧ Below w.heap.size w w' := by
  obtain ⟨b1, b2, b3, b4, b5, b6, b7, b8, b9⟩ := RR.ok_bd hr
  clear hr
  obtain ⟨att, lim, catt, cut, adv⟩ := r
  dsimp only at *
  obtain ⟨m, rfl⟩ := Int.eq_ofNat_of_zero_le b5
  have HV := Lib.hid hv
  clear hv
  by_cases hz : m = 0
  · subst hz
    go_enter Try.func79, Try.ntmps79
    go_wp2_with fail
    go_ret
    exact ⟨ret_bool (by simp [RR.meets]), (by repeat (first | exact Below.refl _ _ | assumption | refine Below.setCell ?_ (by first | omega | (simp <;> omega)) _ | refine Below.alloc ?_ (by first | omega | (simp <;> omega)) _ | refine Below.drew ?_))⟩
  have hcut := b9 (by omega)
  have hc1 := hcut.1
  have hc2 := hcut.2
  have hz1 : ((m : Int) == 0) = false := beq_eq_false_iff_ne.2 (by omega)
  have hrc := Lib.hid (isRes_of (x := cut) (by omega) (by omega))
  have HZ := Lib.hid hz
  clear hz b9 hcut
  have hbox := BoxRR.new w ⟨att, lim, m, cut, adv⟩ 25
  dsimp only at hbox
  have hB0 : Below w.heap.size w (w.alloc (.cells #[.int .i64 att, .int .i64 lim, .int .i64 m, .int .i64 cut, .int .i64 adv] 25)) := (by repeat (first | exact Below.refl _ _ | assumption | refine Below.setCell ?_ (by first | omega | (simp <;> omega)) _ | refine Below.alloc ?_ (by first | omega | (simp <;> omega)) _ | refine Below.drew ?_))
  go_enter Try.func79, Try.ntmps79
  go_wp2_with fail
  go_loopw [5] (fun j wr => ∃ k : Nat, k ≤ xs.length ∧ j = .int .i64 k ∧ NoneBefore (RR.fast ⟨att, lim, m, cut, adv⟩) xs k ∧ Below w.heap.size w wr ∧ BoxRR wr w.heap.size ⟨att, lim, m, cut, adv⟩) (fun j _ => xs.length - (intOf j).toNat)
  case atStart => exact ⟨0, Nat.zero_le _, rfl, NoneBefore.zero _ _, hB0, hbox⟩
  case round =>
    obtain ⟨k, hk, rfl, hno, hB, hbx⟩ := hrel
    clear hbox hB0
    have hbx2 := hbx
    obtain ⟨g0, g1, g2, g3, g4⟩ := hbx
    dsimp only at g0 g1 g2 g3 g4
    by_cases hlt : k < xs.length
    · by_cases hkm : k < m
      · have hkm1 : (k : Int) < (m : Int) := by omega
        have p1 : (0 : Int) ≤ (k : Int) := by omega
        have p2 : (k : Int) < (xs.length : Int) := by omega
        obtain ⟨b, off, x, rfl, hb, hc, HX⟩ := (hx.below hB).at_ hlt
        have hvx := Lib.hid (limited_isRes (r := ⟨att, lim, m, cut, adv⟩) (all_at HV.out hlt HX.out))
        have hbc : ∀ w1, Below wr.drew.heap.size wr.drew w1 → w1.cell? ⟨b, off + k, none⟩ = some (.int .i64 x) := fun w1 h => (h.cell (p := ⟨b, off + k, none⟩) hb).trans hc
        have HBC := Lib.hid hbc
        clear hbc
        cases hp : RR.fast ⟨att, lim, m, cut, adv⟩ x
        · have HP := Lib.hid hp
          have hres : resLess (RR.limited ⟨att, lim, m, cut, adv⟩ x) cut = false := by rw [resLess, hvx.out, hrc.out]; exact hp
          clear hp
          go_wp2_with fail
          go_region_held3 (fun w' => w'.cell? ⟨w.heap.size, 0, none⟩ = some (.int .i64 att) ∧ w'.cell? ⟨w.heap.size, 1, none⟩ = some (.int .i64 lim) ∧ w'.cell? ⟨w.heap.size, 2, none⟩ = some (.int .i64 m) ∧ w'.cell? ⟨w.heap.size, 3, none⟩ = some (.int .i64 cut) ∧ w'.cell? ⟨w.heap.size, 4, none⟩ = some (.int .i64 adv) ∧ w'.cell? ⟨b, off + k, none⟩ = some (.int .i64 x)) (first | go_keep | (have hbb := BoxRR.below (w := wr.drew) hbx2 hb1; exact ⟨hbb.1, hbb.2.1, hbb.2.2.1, hbb.2.2.2.1, hbb.2.2.2.2, HBC.out _ hb1⟩)) (first | (go_at_call 58; refine (specLimited ⟨att, lim, m, cut, adv⟩ _ _).mono ?_; rintro e w1 ⟨rfl, hb1⟩) | (go_at_call 60; refine (specResLess _ _ _).mono ?_; rintro e w' ⟨rfl, rfl⟩))
          go_wp2
          go_roundw
          case rel => exact ⟨k + 1, by omega, by go_num, hno.more hlt HX.out HP.out, belowStep hb1 hB.drew, BoxRR.below (w := wr.drew) hbx2 hb1⟩
          case measure => simp [intOf]; omega
        · have HP := Lib.hid hp
          have hres : resLess (RR.limited ⟨att, lim, m, cut, adv⟩ x) cut = true := by rw [resLess, hvx.out, hrc.out]; exact hp
          clear hp
          go_wp2_with fail
          go_region_held3 (fun w' => w'.cell? ⟨w.heap.size, 0, none⟩ = some (.int .i64 att) ∧ w'.cell? ⟨w.heap.size, 1, none⟩ = some (.int .i64 lim) ∧ w'.cell? ⟨w.heap.size, 2, none⟩ = some (.int .i64 m) ∧ w'.cell? ⟨w.heap.size, 3, none⟩ = some (.int .i64 cut) ∧ w'.cell? ⟨w.heap.size, 4, none⟩ = some (.int .i64 adv) ∧ w'.cell? ⟨b, off + k, none⟩ = some (.int .i64 x)) (first | go_keep | (have hbb := BoxRR.below (w := wr.drew) hbx2 hb1; exact ⟨hbb.1, hbb.2.1, hbb.2.2.1, hbb.2.2.2.1, hbb.2.2.2.2, HBC.out _ hb1⟩)) (first | (go_at_call 58; refine (specLimited ⟨att, lim, m, cut, adv⟩ _ _).mono ?_; rintro e w1 ⟨rfl, hb1⟩) | (go_at_call 60; refine (specResLess _ _ _).mono ?_; rintro e w' ⟨rfl, rfl⟩))
          go_wp2
          go_ret
          exact ⟨ret_bool (by rw [RR.meets, Int.toNat_natCast, any_take hlt hkm HX.out HP.out]; simp), belowStep hb1 hB.drew⟩
      · have hkm1 : decide ((k : Int) < (m : Int)) = false := by simp; omega
        have hend := Lib.hid (hno.take (m := m) (.inr (by omega)))
        go_wp2
        go_ret
        exact ⟨ret_bool (by rw [RR.meets, Int.toNat_natCast, hend.out, hz1]; rfl), hB⟩
    · have hkm1 : decide ((k : Int) < (xs.length : Int)) = false := by simp; omega
      have hend := Lib.hid (hno.take (m := m) (.inl (by omega)))
      go_wp2
      go_ret
      exact ⟨ret_bool (by rw [RR.meets, Int.toNat_natCast, hend.out, hz1]; rfl), hB⟩

end Go.Proofs.Ytejacbgogcjbnaa
