/- The time limit and the cutoff, at both packages. Conditions: as each contract says. -/
import Derived.Test.YtejacbgogcjbnaaMean
import Derived.Test.YtejacbgogcjbnaaR
import Derived.Deep.RegionHeld3
namespace Go.Proofs.Ytejacbgogcjbnaa
open Go.RowKit

def RR.limited (r : RR) (x : Int) : Int := if r.lim ≤ x then -1 else x
def RR.applied (r : RR) (x : Int) : Int := if r.ok && isRes x then r.limited x else -2
def BoxRR (w : World) (g : Nat) (r : RR) : Prop :=
  w.cell? ⟨g, 0, none⟩ = some (.int .i64 r.att) ∧ w.cell? ⟨g, 1, none⟩ = some (.int .i64 r.lim) ∧ w.cell? ⟨g, 2, none⟩ = some (.int .i64 r.catt) ∧ w.cell? ⟨g, 3, none⟩ = some (.int .i64 r.cut) ∧ w.cell? ⟨g, 4, none⟩ = some (.int .i64 r.adv)
theorem BoxRR.below {w w' : World} {g : Nat} {r : RR} (h : BoxRR w g r) (hb : Below w.heap.size w w') : BoxRR w' g r := by
  have hg : g < w.heap.size := World.block_lt_of_cell? w _ h.1
  obtain ⟨h0, h1, h2, h3, h4⟩ := h
  have hc := (bcell hb).1
  exact ⟨(hc g 0 hg).trans h0, (hc g 1 hg).trans h1, (hc g 2 hg).trans h2, (hc g 3 hg).trans h3, (hc g 4 hg).trans h4⟩

set_option maxHeartbeats 1000000 in
theorem specLimited (r : RR) (x : Int) (w : World) : Calls Try.prog 58 #[.agg #[.int .i64 r.att, .int .i64 r.lim, .int .i64 r.catt, .int .i64 r.cut, .int .i64 r.adv], .int .i64 x] w fun e w' => e = .returned (.int .i64 (r.limited x)) ∧ Below w.heap.size w w' := by
  by_cases h : r.lim ≤ x
  · go_enter Try.func58, Try.ntmps58
    go_wp2
    go_ret
    exact ⟨ret_int (by rw [RR.limited, if_pos (by omega)]), (by repeat (first | exact Below.refl _ _ | assumption | refine Below.setCell ?_ (by first | omega | (simp <;> omega)) _ | refine Below.alloc ?_ (by first | omega | (simp <;> omega)) _ | refine Below.drew ?_))⟩
  · go_enter Try.func58, Try.ntmps58
    go_wp2
    go_ret
    exact ⟨ret_int (by rw [RR.limited, if_neg (by omega)]), (by repeat (first | exact Below.refl _ _ | assumption | refine Below.setCell ?_ (by first | omega | (simp <;> omega)) _ | refine Below.alloc ?_ (by first | omega | (simp <;> omega)) _ | refine Below.drew ?_))⟩

set_option maxHeartbeats 1000000 in
theorem implLimited (r : RR) (x : Int) (w : World) : Calls Try.prog 67 #[.agg #[.int .i64 r.att, .int .i64 r.lim, .int .i64 r.catt, .int .i64 r.cut, .int .i64 r.adv], .int .i64 x] w fun e w' => e = .returned (.int .i64 (r.limited x)) ∧ Below w.heap.size w w' := by
  by_cases h : r.lim ≤ x
  · go_enter Try.func67, Try.ntmps67
    go_wp2
    go_ret
    exact ⟨ret_int (by rw [RR.limited, if_pos (by omega)]), (by repeat (first | exact Below.refl _ _ | assumption | refine Below.setCell ?_ (by first | omega | (simp <;> omega)) _ | refine Below.alloc ?_ (by first | omega | (simp <;> omega)) _ | refine Below.drew ?_))⟩
  · go_enter Try.func67, Try.ntmps67
    go_wp2
    go_ret
    exact ⟨ret_int (by rw [RR.limited, if_neg (by omega)]), (by repeat (first | exact Below.refl _ _ | assumption | refine Below.setCell ?_ (by first | omega | (simp <;> omega)) _ | refine Below.alloc ?_ (by first | omega | (simp <;> omega)) _ | refine Below.drew ?_))⟩

def RR.fast (r : RR) (x : Int) : Bool := lessR (r.limited x) r.cut

set_option maxHeartbeats 1000000 in
theorem implFast (r : RR) (x : Int) (g : Nat) (w : World) (hbox : BoxRR w g r) :
    Calls Try.prog 84 #[.int .i64 x, .pointer (some ⟨g, 0, none⟩)] w fun e w' => e = .returned (.bool (r.fast x)) ∧ Below w.heap.size w w' := by
  obtain ⟨h0, h1, h2, h3, h4⟩ := hbox
  go_enter Try.func84, Try.ntmps84
  go_wp2_with fail
  go_region_held3 (fun w' => w'.cell? ⟨g, 0, none⟩ = some (.int .i64 r.att) ∧ w'.cell? ⟨g, 1, none⟩ = some (.int .i64 r.lim) ∧ w'.cell? ⟨g, 2, none⟩ = some (.int .i64 r.catt) ∧ w'.cell? ⟨g, 3, none⟩ = some (.int .i64 r.cut) ∧ w'.cell? ⟨g, 4, none⟩ = some (.int .i64 r.adv)) (first | go_keep | exact BoxRR.below (w := w.drew) ⟨h0, h1, h2, h3, h4⟩ hb1) (first | (go_at_call 67; refine (implLimited r _ _).mono ?_; rintro e w1 ⟨rfl, hb1⟩) | (go_at_call 47; refine (compareResults_any _ _ _).mono ?_; rintro e w' ⟨rfl, rfl⟩))
  go_wp2
  go_ret
  exact ⟨ret_bool (cmpR_neg _ _), belowStep hb1 (Below.refl _ _).drew⟩

def IdxOfB (p : Int → Bool) (xs : List Int) (w : World) (e : Ending) (w' : World) : Prop := ∃ i : Int, e = .returned (.int .i64 i) ∧ decide (0 ≤ i) = xs.any p ∧ Below w.heap.size w w'
set_option maxHeartbeats 1000000 in
theorem indexFast (r : RR) (g : Nat) (A : Option Addr) (c : Nat) (xs : List Int) (w : World) (hx : IntsAt w A xs) (hl : xs.length ≤ 1048576) (hbox : BoxRR w g r) :
    Calls Try.prog 82 #[.slice A xs.length c, .func (.func 84) #[] #[.pointer (some ⟨g, 0, none⟩)]] w (IdxOfB r.fast xs w) := by
  go_enter Try.func82, Try.ntmps82
  go_wp2_with fail
  go_loopw [5, 8] (fun i j wr => ∃ k : Nat, k ≤ xs.length ∧ j = .int .i64 k ∧ NoneBefore r.fast xs k ∧ Below w.heap.size w wr) (fun _ j _ => xs.length - (intOf j).toNat)
  case atStart => exact ⟨0, Nat.zero_le _, rfl, NoneBefore.zero _ _, Below.refl _ _⟩
  case round =>
    obtain ⟨k, hk, rfl, hno, hB⟩ := hrel
    by_cases hlt : k < xs.length
    · obtain ⟨b, off, x, rfl, hb, hc, HX⟩ := (hx.below hB).at_ hlt
      have hbw := hbox.below hB
      cases hp : r.fast x
      · have HP := Lib.hid hp
        clear hbox
        go_wp2_with (first | (go_at_call 84; refine (implFast r _ _ _ hbw).mono ?_; rintro e w1 ⟨rfl, hb1⟩))
        go_roundw
        case rel => exact ⟨k + 1, by omega, by go_num, hno.more hlt HX.out HP.out, belowStep hb1 hB⟩
        case measure => simp [intOf]; omega
      · have HP := Lib.hid hp
        clear hbox
        go_wp2_with (first | (go_at_call 84; refine (implFast r _ _ _ hbw).mono ?_; rintro e w1 ⟨rfl, hb1⟩))
        go_ret
        exact ⟨k, rfl, by rw [any_at hlt HX.out HP.out]; simp, belowStep hb1 hB⟩
    · go_wp2
      go_ret
      exact ⟨-1, rfl, by rw [hno.end_ (by omega)]; rfl, hB⟩
set_option maxHeartbeats 1000000 in
theorem containsFast (r : RR) (g : Nat) (A : Option Addr) (c : Nat) (xs : List Int) (w : World) (hx : IntsAt w A xs) (hl : xs.length ≤ 1048576) (hbox : BoxRR w g r) :
    Calls Try.prog 68 #[.slice A xs.length c, .func (.func 84) #[] #[.pointer (some ⟨g, 0, none⟩)]] w fun e w' => e = .returned (.bool (xs.any r.fast)) ∧ Below w.heap.size w w' := by
  go_enter Try.func68, Try.ntmps68
  go_wp2_with (first | (go_at_call 82; refine (indexFast r g A c xs _ hx hl hbox).mono ?_; rintro e w1 ⟨i, rfl, hi, hb1⟩; have HI := Lib.hid hi; clear hi))
  go_ret
  exact ⟨ret_bool (by rw [← HI.out]), hb1⟩

theorem containsFastN (r : RR) (g : Nat) (A : Option Addr) (c n : Nat) (xs : List Int) (hn : xs.length = n) (w : World) (hx : IntsAt w A xs) (hl : xs.length ≤ 1048576) (hbox : BoxRR w g r) :
    Calls Try.prog 68 #[.slice A n c, .func (.func 84) #[] #[.pointer (some ⟨g, 0, none⟩)]] w fun e w' => e = .returned (.bool (xs.any r.fast)) ∧ Below w.heap.size w w' := by
  subst hn
  exact containsFast r g A c xs w hx hl hbox
theorem BoxRR.new (w : World) (r : RR) (t : TypeId) : BoxRR (w.alloc (.cells #[.int .i64 r.att, .int .i64 r.lim, .int .i64 r.catt, .int .i64 r.cut, .int .i64 r.adv] t)) w.heap.size r := by
  simp [BoxRR]
def RR.meets (r : RR) (xs : List Int) : Bool := r.catt == 0 || (xs.take r.catt.toNat).any r.fast

set_option maxHeartbeats 1000000 in
theorem implMeets (r : RR) (A : Option Addr) (c : Nat) (xs : List Int) (w : World) (hx : IntsAt w A xs) (hl : xs.length ≤ 1048576) (hlc : xs.length ≤ c) (h0 : 0 ≤ r.catt) :
    Calls Try.prog 71 #[.agg #[.int .i64 r.att, .int .i64 r.lim, .int .i64 r.catt, .int .i64 r.cut, .int .i64 r.adv], .slice A xs.length c] w fun e w' => e = .returned (.bool (r.meets xs)) ∧ Below w.heap.size w w' := by
  obtain ⟨att, lim, catt, cut, adv⟩ := r
  obtain ⟨m, rfl⟩ := Int.eq_ofNat_of_zero_le h0
  dsimp only at *
  have hl2 : (xs.length : Int) ≤ (c : Int) := by omega
  have hp0 : (0 : Int) ≤ (xs.length : Int) := by omega
  by_cases hz : m = 0
  · subst hz
    have hm1 : ¬ (xs.length : Int) < (0 : Int) := by omega
    go_enter Try.func71, Try.ntmps71
    go_wp2_with fail
    go_quiet ((go_at_call 66; exact quietLeft (lengthInts _ _ _ _)))
    go_wp2_with fail
    go_ret
    exact ⟨ret_bool (by simp [RR.meets]), belowDrewN (by repeat (first | exact Below.refl _ _ | assumption | refine Below.setCell ?_ (by first | omega | (simp <;> omega)) _ | refine Below.alloc ?_ (by first | omega | (simp <;> omega)) _ | refine Below.drew ?_)) _⟩
  have hz1 : ((m : Int) == 0) = false := beq_eq_false_iff_ne.2 (by omega)
  have HZ := Lib.hid hz
  clear hz
  by_cases hm : m ≤ xs.length
  · have hm1 : (m : Int) ≤ (xs.length : Int) := by omega
    have hm2 : (m : Int) ≤ (c : Int) := by omega
    have hlen : (xs.take m).length = m := by rw [List.length_take]; omega
    have HL := Lib.hid hlen
    clear hlen
    go_enter Try.func71, Try.ntmps71
    go_wp2_with fail
    go_quiet ((go_at_call 66; exact quietLeft (lengthInts _ _ _ _)))
    go_wp2_with fail
    refine (containsFastN ⟨att, lim, m, cut, adv⟩ w.heap.size A c m (xs.take m) HL.out _ (by exact (hx.below (belowDrewN (by repeat (first | exact Below.refl _ _ | assumption | refine Below.setCell ?_ (by first | omega | (simp <;> omega)) _ | refine Below.alloc ?_ (by first | omega | (simp <;> omega)) _ | refine Below.drew ?_)) _)).take m) (by rw [HL.out]; omega) (by exact BoxRR.new w ⟨att, lim, m, cut, adv⟩ _)).mono ?_
    rintro e w1 ⟨rfl, hb1⟩
    go_wp2_with fail
    go_ret
    exact ⟨ret_bool (by simp [RR.meets, hz1]), belowStep hb1 (belowDrewN (by repeat (first | exact Below.refl _ _ | assumption | refine Below.setCell ?_ (by first | omega | (simp <;> omega)) _ | refine Below.alloc ?_ (by first | omega | (simp <;> omega)) _ | refine Below.drew ?_)) _)⟩
  · have hm1 : (xs.length : Int) < (m : Int) := by omega
    have hlen : xs.take m = xs := List.take_of_length_le (by omega)
    have HL := Lib.hid hlen
    clear hlen
    go_enter Try.func71, Try.ntmps71
    go_wp2_with fail
    go_quiet ((go_at_call 66; exact quietLeft (lengthInts _ _ _ _)))
    go_wp2_with fail
    refine (containsFast ⟨att, lim, m, cut, adv⟩ w.heap.size A c xs _ (by exact hx.below (belowDrewN (by repeat (first | exact Below.refl _ _ | assumption | refine Below.setCell ?_ (by first | omega | (simp <;> omega)) _ | refine Below.alloc ?_ (by first | omega | (simp <;> omega)) _ | refine Below.drew ?_)) _)) hl (by exact BoxRR.new w ⟨att, lim, m, cut, adv⟩ _)).mono ?_
    rintro e w1 ⟨rfl, hb1⟩
    go_wp2_with fail
    go_ret
    exact ⟨ret_bool (by simp [RR.meets, hz1, HL.out]), belowStep hb1 (belowDrewN (by repeat (first | exact Below.refl _ _ | assumption | refine Below.setCell ?_ (by first | omega | (simp <;> omega)) _ | refine Below.alloc ?_ (by first | omega | (simp <;> omega)) _ | refine Below.drew ?_)) _)⟩
end Go.Proofs.Ytejacbgogcjbnaa
