/- The allowed attempts, at both packages. Conditions: as each contract says. -/
import Derived.Test.YtejacbgogcjbnaaMeets
import Derived.Deep.RegionWith
namespace Go.Proofs.Ytejacbgogcjbnaa
open Go.RowKit

def RR.allowed (r : RR) (xs : List Int) : Int := if r.meets xs || decide ((xs.length : Int) < r.catt) then r.att else r.catt

def RR.allowedAtt (r : RR) (xs : List Int) : Int := if r.ok && okTimes xs then r.allowed xs else -1

set_option maxHeartbeats 1000000 in
theorem specAllowed (r : RR) (A : Option Addr) (c : Nat) (xs : List Int) (w : World) (hx : IntsAt w A xs) (h5 : xs.length ≤ 5) (hv : xs.all isRes = true) (hr : r.ok = true) :
    Calls Try.prog 57 #[.agg #[.int .i64 r.att, .int .i64 r.lim, .int .i64 r.catt, .int .i64 r.cut, .int .i64 r.adv], .slice A xs.length c] w fun e w' => e = .returned (.int .i64 (r.allowed xs)) ∧ Below w.heap.size w w' := by
  cases h1 : r.meets xs
  · by_cases h2 : (xs.length : Int) < r.catt
    · go_enter Try.func57, Try.ntmps57
      go_wp2_with (first | (go_at_call 79; refine (specMeets r _ _ xs _ (by exact hx.below (by repeat (first | exact Below.refl _ _ | assumption | refine Below.setCell ?_ (by first | omega | (simp <;> omega)) _ | refine Below.alloc ?_ (by first | omega | (simp <;> omega)) _ | refine Below.drew ?_))) h5 hv hr).mono ?_; rintro e w1 ⟨rfl, hb1⟩; have hB1 : Below w.heap.size w w1 := belowStep hb1 (by repeat (first | exact Below.refl _ _ | assumption | refine Below.setCell ?_ (by first | omega | (simp <;> omega)) _ | refine Below.alloc ?_ (by first | omega | (simp <;> omega)) _ | refine Below.drew ?_)); obtain ⟨hc1, hf1⟩ := bcell hb1; have hz1 : w.heap.size < w1.heap.size := by have := hb1.size; (try simp at this); omega))
      go_ret
      exact ⟨ret_int (by rw [RR.allowed, h1, if_pos (by simpa using h2)]), hB1⟩
    · go_enter Try.func57, Try.ntmps57
      go_wp2_with (first | (go_at_call 79; refine (specMeets r _ _ xs _ (by exact hx.below (by repeat (first | exact Below.refl _ _ | assumption | refine Below.setCell ?_ (by first | omega | (simp <;> omega)) _ | refine Below.alloc ?_ (by first | omega | (simp <;> omega)) _ | refine Below.drew ?_))) h5 hv hr).mono ?_; rintro e w1 ⟨rfl, hb1⟩; have hB1 : Below w.heap.size w w1 := belowStep hb1 (by repeat (first | exact Below.refl _ _ | assumption | refine Below.setCell ?_ (by first | omega | (simp <;> omega)) _ | refine Below.alloc ?_ (by first | omega | (simp <;> omega)) _ | refine Below.drew ?_)); obtain ⟨hc1, hf1⟩ := bcell hb1; have hz1 : w.heap.size < w1.heap.size := by have := hb1.size; (try simp at this); omega))
      go_ret
      exact ⟨ret_int (by rw [RR.allowed, h1, if_neg (by simp; omega)]), hB1⟩
  · go_enter Try.func57, Try.ntmps57
    go_wp2_with (first | (go_at_call 79; refine (specMeets r _ _ xs _ (by exact hx.below (by repeat (first | exact Below.refl _ _ | assumption | refine Below.setCell ?_ (by first | omega | (simp <;> omega)) _ | refine Below.alloc ?_ (by first | omega | (simp <;> omega)) _ | refine Below.drew ?_))) h5 hv hr).mono ?_; rintro e w1 ⟨rfl, hb1⟩; have hB1 : Below w.heap.size w w1 := belowStep hb1 (by repeat (first | exact Below.refl _ _ | assumption | refine Below.setCell ?_ (by first | omega | (simp <;> omega)) _ | refine Below.alloc ?_ (by first | omega | (simp <;> omega)) _ | refine Below.drew ?_)); obtain ⟨hc1, hf1⟩ := bcell hb1; have hz1 : w.heap.size < w1.heap.size := by have := hb1.size; (try simp at this); omega))
    go_ret
    exact ⟨ret_int (by rw [RR.allowed, h1, if_pos (by simp)]), hB1⟩

set_option maxHeartbeats 1000000 in
theorem implAllowed (r : RR) (A : Option Addr) (c : Nat) (xs : List Int) (w : World) (hx : IntsAt w A xs) (hl : xs.length ≤ 1048576) (hlc : xs.length ≤ c) (h0 : 0 ≤ r.catt) :
    Calls Try.prog 39 #[.agg #[.int .i64 r.att, .int .i64 r.lim, .int .i64 r.catt, .int .i64 r.cut, .int .i64 r.adv], .slice A xs.length c] w fun e w' => e = .returned (.int .i64 (r.allowed xs)) ∧ Below w.heap.size w w' := by
  have hbox := BoxRR.new w r 25
  have HBX := Lib.hid hbox
  clear hbox
  cases h1 : r.meets xs
  · by_cases h2 : (xs.length : Int) < r.catt
    · have hd : decide ((xs.length : Int) < r.catt) = true := by simpa using h2
      go_enter Try.func39, Try.ntmps39
      go_wp2_with fail
      go_region_held3 (fun w' => w'.cell? ⟨w.heap.size, 0, none⟩ = some (.int .i64 r.att) ∧ w'.cell? ⟨w.heap.size, 1, none⟩ = some (.int .i64 r.lim) ∧ w'.cell? ⟨w.heap.size, 2, none⟩ = some (.int .i64 r.catt) ∧ w'.cell? ⟨w.heap.size, 3, none⟩ = some (.int .i64 r.cut) ∧ w'.cell? ⟨w.heap.size, 4, none⟩ = some (.int .i64 r.adv)) (first | go_keep | exact BoxRR.below (w := World.drew _) (by exact HBX.out) hb1) (first | (go_at_call 71; refine (implMeets r _ _ xs _ (by exact hx.below (by repeat (first | exact Below.refl _ _ | assumption | refine Below.setCell ?_ (by first | omega | (simp <;> omega)) _ | refine Below.alloc ?_ (by first | omega | (simp <;> omega)) _ | refine Below.drew ?_))) hl hlc h0).mono ?_; rintro e w1 ⟨rfl, hb1⟩) | (go_at_call 66; refine (lengthInts _ _ _ _).mono ?_; rintro e w' ⟨rfl, rfl⟩))
      all_goals go_wp2
      all_goals go_ret
      all_goals exact ⟨ret_int (by rw [RR.allowed, h1, if_pos (by simpa using h2)]), belowStep hb1 (by exact (by repeat (first | exact Below.refl _ _ | assumption | refine Below.setCell ?_ (by first | omega | (simp <;> omega)) _ | refine Below.alloc ?_ (by first | omega | (simp <;> omega)) _ | refine Below.drew ?_)))⟩
    · have hd : decide ((xs.length : Int) < r.catt) = false := by simpa using h2
      go_enter Try.func39, Try.ntmps39
      go_wp2_with fail
      go_region_held3 (fun w' => w'.cell? ⟨w.heap.size, 0, none⟩ = some (.int .i64 r.att) ∧ w'.cell? ⟨w.heap.size, 1, none⟩ = some (.int .i64 r.lim) ∧ w'.cell? ⟨w.heap.size, 2, none⟩ = some (.int .i64 r.catt) ∧ w'.cell? ⟨w.heap.size, 3, none⟩ = some (.int .i64 r.cut) ∧ w'.cell? ⟨w.heap.size, 4, none⟩ = some (.int .i64 r.adv)) (first | go_keep | exact BoxRR.below (w := World.drew _) (by exact HBX.out) hb1) (first | (go_at_call 71; refine (implMeets r _ _ xs _ (by exact hx.below (by repeat (first | exact Below.refl _ _ | assumption | refine Below.setCell ?_ (by first | omega | (simp <;> omega)) _ | refine Below.alloc ?_ (by first | omega | (simp <;> omega)) _ | refine Below.drew ?_))) hl hlc h0).mono ?_; rintro e w1 ⟨rfl, hb1⟩) | (go_at_call 66; refine (lengthInts _ _ _ _).mono ?_; rintro e w' ⟨rfl, rfl⟩))
      all_goals go_wp2
      all_goals go_ret
      all_goals exact ⟨ret_int (by rw [RR.allowed, h1, if_neg (by simp; omega)]), belowStep hb1 (by exact (by repeat (first | exact Below.refl _ _ | assumption | refine Below.setCell ?_ (by first | omega | (simp <;> omega)) _ | refine Below.alloc ?_ (by first | omega | (simp <;> omega)) _ | refine Below.drew ?_)))⟩
  · go_enter Try.func39, Try.ntmps39
    go_wp2_with fail
    first | (go_region_with (first | (go_at_call 71; refine (implMeets r _ _ xs _ (by exact hx.below (by repeat (first | exact Below.refl _ _ | assumption | refine Below.setCell ?_ (by first | omega | (simp <;> omega)) _ | refine Below.alloc ?_ (by first | omega | (simp <;> omega)) _ | refine Below.drew ?_))) hl hlc h0).mono ?_; rintro e w1 ⟨rfl, hb1⟩; have hbx := BoxRR.below (w := World.drew _) (by exact HBX.out) hb1; obtain ⟨k0, k1, k2, k3, k4⟩ := hbx) | (go_at_call 66; refine (lengthInts _ _ _ _).mono ?_; rintro e w' ⟨rfl, rfl⟩))) | fail
    all_goals go_wp2
    all_goals go_ret
    all_goals exact ⟨ret_int (by rw [RR.allowed, h1, if_pos (by simp)]), belowStep hb1 (by exact (by repeat (first | exact Below.refl _ _ | assumption | refine Below.setCell ?_ (by first | omega | (simp <;> omega)) _ | refine Below.alloc ?_ (by first | omega | (simp <;> omega)) _ | refine Below.drew ?_)))⟩

set_option maxHeartbeats 1000000 in
theorem implAllowedAtt (r : RR) (A : Option Addr) (c : Nat) (xs : List Int) (w : World) (hx : IntsAt w A xs) (hl : xs.length ≤ 1048576) (_hlc : xs.length ≤ c) :
    Calls Try.prog 15 #[.agg #[.int .i64 r.att, .int .i64 r.lim, .int .i64 r.catt, .int .i64 r.cut, .int .i64 r.adv], .slice A xs.length c] w fun e w' => e = .returned (.int .i64 (r.allowedAtt xs)) ∧ Below w.heap.size w w' := by
  have hlc := _hlc
  cases h1 : r.ok
  · go_enter Try.func15, Try.ntmps15
    go_wp2_with (first | (go_at_call 35; refine (implIsValidRR r _).mono ?_; rintro e w1 ⟨rfl, hb1⟩; have hB1 : Below w.heap.size w w1 := belowStep hb1 (by repeat (first | exact Below.refl _ _ | assumption | refine Below.setCell ?_ (by first | omega | (simp <;> omega)) _ | refine Below.alloc ?_ (by first | omega | (simp <;> omega)) _ | refine Below.drew ?_)); obtain ⟨hc1, hf1⟩ := bcell hb1; have hz1 : w.heap.size < w1.heap.size := by have := hb1.size; (try simp at this); omega))
    go_ret
    exact ⟨ret_int (by simp [RR.allowedAtt, h1]), hB1⟩
  cases h2 : okTimes xs
  · go_enter Try.func15, Try.ntmps15
    go_wp2_with (first | (go_at_call 35; refine (implIsValidRR r _).mono ?_; rintro e w1 ⟨rfl, hb1⟩; have hB1 : Below w.heap.size w w1 := belowStep hb1 (by repeat (first | exact Below.refl _ _ | assumption | refine Below.setCell ?_ (by first | omega | (simp <;> omega)) _ | refine Below.alloc ?_ (by first | omega | (simp <;> omega)) _ | refine Below.drew ?_)); obtain ⟨hc1, hf1⟩ := bcell hb1; have hz1 : w.heap.size < w1.heap.size := by have := hb1.size; (try simp at this); omega) | (go_at_call 38; refine (implValidTimes _ _ xs _ (by exact hx.below hB1) hl).mono ?_; rintro e w' ⟨rfl, rfl⟩))
    go_ret
    exact ⟨ret_int (by simp [RR.allowedAtt, h2]), hB1⟩
  · go_enter Try.func15, Try.ntmps15
    go_wp2_with (first | (go_at_call 35; refine (implIsValidRR r _).mono ?_; rintro e w1 ⟨rfl, hb1⟩; have hB1 : Below w.heap.size w w1 := belowStep hb1 (by repeat (first | exact Below.refl _ _ | assumption | refine Below.setCell ?_ (by first | omega | (simp <;> omega)) _ | refine Below.alloc ?_ (by first | omega | (simp <;> omega)) _ | refine Below.drew ?_)); obtain ⟨hc1, hf1⟩ := bcell hb1; have hz1 : w.heap.size < w1.heap.size := by have := hb1.size; (try simp at this); omega) | (go_at_call 38; refine (implValidTimes _ _ xs _ (by exact hx.below hB1) hl).mono ?_; rintro e w' ⟨rfl, rfl⟩) | (go_at_call 39; refine (implAllowed r _ _ xs _ (by exact hx.below hB1) hl hlc (RR.ok_bd h1).2.2.2.2.1).mono ?_; rintro e w2 ⟨rfl, hb2⟩; have hB2 : Below w.heap.size w w2 := belowStep hb2 (by repeat (first | exact Below.refl _ _ | assumption | refine Below.setCell ?_ (by first | omega | (simp <;> omega)) _ | refine Below.alloc ?_ (by first | omega | (simp <;> omega)) _ | refine Below.drew ?_)); obtain ⟨hc2, hf2⟩ := bcell hb2; have hz2 : w.heap.size < w2.heap.size := by have := hb2.size; (try simp at this); omega))
    go_ret
    exact ⟨ret_int (by simp [RR.allowedAtt, h1, h2]), hB2⟩

end Go.Proofs.Ytejacbgogcjbnaa
