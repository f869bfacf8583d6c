/- The table of a binary form at the program: the early answers. Conditions: as each contract says. -/
import Derived.Test.YtdkoegccfpdldaaDq
import Derived.Test.YtdkoegccfpdldaaMt
import Derived.Test.YtdkoegccfpdldaaEi
namespace Go.Proofs.Ytdkoegccfpdldaa
open Go.RowKit

def DecI (s : ByteArray) (w : World) (e : Ending) (w' : World) : Prop := ∃ A1 c1 A2 c2 A3 c3 m1 m2, e = .returned (.tuple #[.agg #[.slice A1 (decOf s).trk.length c1, .slice A2 (decOf s).pats.length c2, .slice A3 (decOf s).dist.length c3], .int .i64 (decCode s)]) ∧ FTb w.heap.size w'.heap.size w' A1 c1 A2 c2 A3 c3 m1 m2 (decOf s) ∧ Below w.heap.size w w'
theorem FTb.bare {lo hi : Nat} {w : World} (h : lo ≤ hi) : FTb lo hi w none 0 none 0 none 0 lo lo ⟨[], [], []⟩ :=
  ⟨Fresh.nil _ _, (fun b hb => by cases hb), ⟨none, 0, fun _ => .nilIface, fun _ => lo, rfl, ⟨fun i hi => absurd hi (Nat.not_lt_zero _), fun i hi => absurd hi (Nat.not_lt_zero _), fun i hi => absurd hi (Nat.not_lt_zero _), fun i hi => absurd hi (Nat.not_lt_zero _)⟩, Nat.le_refl _, Nat.le_refl _, (fun g off s e => by cases e)⟩, (fun g off s e => by cases e), Fresh.nil _ _, (fun b hb => by cases hb), Nat.le_refl _, Nat.le_refl _, h⟩
theorem DecI.bare {s : ByteArray} {w w' : World} {c : Int} (hc : decCode s = c) (h0 : c ≠ 0) (hb : Below w.heap.size w w') : DecI s w (.returned (.tuple #[.agg #[.slice none 0 0, .slice none 0 0, .slice none 0 0], .int .i64 c])) w' := by
  have : decOf s = ⟨[], [], []⟩ := by rw [decOf, if_neg (by rw [hc]; exact h0)]
  refine ⟨none, 0, none, 0, none, 0, w.heap.size, w.heap.size, ?_, ?_, hb⟩
  · rw [this, hc]; rfl
  · rw [this]; exact FTb.bare hb.size
set_option maxRecDepth 100000 in
set_option maxHeartbeats 1000000 in
theorem implDec12 (s : ByteArray) (w : World) (h : s.size < 12) :
    Calls Try.prog 11 #[.string s] w (DecI s w) := by
  have h12 : (s.size : Int) < 12 := by omega
  have HC : Hid (decCode s = 1) := by unfold Hid; rw [decCode, if_pos h]
  go_enter Try.func11, Try.ntmps11
  go_wp2_with fail
  refine bodyPost_ret (v := .tuple #[.agg #[.slice none 0 0, .slice none 0 0, .slice none 0 0], .int .i64 1]) (by simp [results, Try.results11, go_sem]) rfl ?_
  exact DecI.bare HC.out (by decide) (by repeat (first | exact Below.refl _ _ | assumption | refine Below.setCell ?_ (by first | omega | (simp <;> omega)) _ | refine Below.alloc ?_ (by first | omega | (simp <;> omega)) _ | refine Below.drew ?_))
set_option maxRecDepth 100000 in
set_option maxHeartbeats 1000000 in
theorem implDecMagic (s : ByteArray) (w : World) (h : 12 ≤ s.size) (h2 : s.extract 0 4 ≠ ⟨#[80, 68, 66, 49]⟩) :
    Calls Try.prog 11 #[.string s] w (DecI s w) := by
  have h12 : ¬ (s.size : Int) < 12 := by omega
  have d0 : (0 : Int) ≤ 4 := by omega
  have d1 : (4 : Int) ≤ (s.size : Int) := by omega
  have HC : Hid (decCode s = 2) := by unfold Hid; rw [decCode, if_neg (by omega), if_pos h2]
  have hne : (!(s.extract 0 4).toList == [80, 68, 66, 49]) = true := by
    have e : ([80, 68, 66, 49] : List UInt8) = (⟨#[80, 68, 66, 49]⟩ : ByteArray).toList := by decide +kernel
    rw [e, str_eq, decide_eq_false h2]; rfl
  clear h2
  go_enter Try.func11, Try.ntmps11
  go_wp2_with fail
  refine bodyPost_ret (v := .tuple #[.agg #[.slice none 0 0, .slice none 0 0, .slice none 0 0], .int .i64 2]) (by simp [results, Try.results11, go_sem]) rfl ?_
  exact DecI.bare HC.out (by decide) (by repeat (first | exact Below.refl _ _ | assumption | refine Below.setCell ?_ (by first | omega | (simp <;> omega)) _ | refine Below.alloc ?_ (by first | omega | (simp <;> omega)) _ | refine Below.drew ?_))
end Go.Proofs.Ytdkoegccfpdldaa
