/- New jobs at both packages in one shape. Conditions: as each contract says. -/
import Derived.Test.YtfhdnanbhigpmaaJh
namespace Go.Proofs.Ytfhdnanbhigpmaa
open Go.RowKit Grp

noncomputable def newT (p : Pz) (trk : List Int) : Tb := if buildQ p trk = true then ⟨trk, [trk], [0]⟩ else ⟨[], [], []⟩
def SJob (t : Tb) (b : Bool) (w : World) (e : Ending) (w' : World) : Prop :=
  ∃ A1 c1 A2 c2 A3 c3, e = .returned (.tuple #[jobV A1 A2 A3 c1 c2 c3 t 0 ⟨#[]⟩ 0, .bool b]) ∧ IntsAt w' A1 t.trk ∧ LAt w' A2 t.pats ∧ IntsAt w' A3 t.dist ∧ Below w.heap.size w w'
def IJob (t : Tb) (b : Bool) (w : World) (e : Ending) (w' : World) : Prop :=
  ∃ A1 c1 A2 c2 A3 c3 lo m1 m2 hi, w.heap.size ≤ lo ∧ e = .returned (.tuple #[jobV A1 A2 A3 c1 c2 c3 t 0 ⟨#[]⟩ 0, .bool b]) ∧ FTb lo hi w' A1 c1 A2 c2 A3 c3 m1 m2 t ∧ hi ≤ w'.heap.size ∧ Below w.heap.size w w'
theorem newT_short {p : Pz} {trk : List Int} (h : trk.length ≤ 1048576) : ShortT (newT p trk) := by
  unfold newT
  split
  · refine ⟨h, by simp, fun i hi => ?_, by simp⟩
    obtain rfl : i = 0 := by simpa using hi
    exact h
  · exact ⟨by simp, by simp, fun i hi => by simp at hi, by simp⟩
theorem pt_up {m : Int} {xs : List Int} (h : PtTo m xs xs.length) : ∀ j, j < xs.length → (j : Int) ≤ xs.getD j 0 := by
  intro j
  induction j with
  | zero => intro hj; have := h 0 hj; omega
  | succ j ih =>
    intro hj
    have h1 := ih (by omega)
    have h2 := (h (j + 1) hj).2.2 (by omega)
    rw [Nat.add_sub_cancel] at h2
    omega
theorem newT_trk {p : Pz} {trk : List Int} : (newT p trk).trk.length ≤ 255 := by
  unfold newT
  split
  · rename_i h
    unfold buildQ trkQ at h
    rw [Bool.and_eq_true, Bool.and_eq_true] at h
    have hp := h.1.1
    obtain ⟨g1, g2⟩ := ptQ_iff.1 h.1.2
    have g3 := pt_up g2 (trk.length - 1) (by omega)
    have g4 := g2 (trk.length - 1) (by omega)
    have := pz_pts hp
    show trk.length ≤ 255
    omega
  · simp
theorem specJob (A : Option Addr) (c : Nat) (p : Pz) (A2 : Option Addr) (c2 : Nat) (trk : List Int) (w : World) (h : PzAt w A p) (hx : IntsAt w A2 trk) (hl : trk.length ≤ 1048576) :
    Calls Try.prog 19 #[.agg #[.int .i64 p.pts, .string p.names, .slice A p.moves.length c], .slice A2 trk.length c2] w (SJob (newT p trk) (buildQ p trk) w) := by
  refine (specStartFill A c p A2 c2 trk w h hx hl).mono ?_
  intro e w' h1
  unfold SpecJob at h1
  by_cases hq : buildQ p trk = true
  · rw [if_pos hq] at h1
    obtain ⟨B1, d1, B2, d2, B3, d3, rfl, i1, -, i2, -, i3, -, hb⟩ := h1
    unfold newT
    rw [if_pos hq, hq]
    exact ⟨B1, d1, B2, d2, B3, d3, rfl, i1.intsAt, GrAt.lat i2, i3.intsAt, hb⟩
  · rw [if_neg hq] at h1
    obtain ⟨rfl, hb⟩ := h1
    unfold newT
    rw [if_neg hq, (Bool.not_eq_true _).mp hq]
    exact ⟨none, 0, none, 0, none, 0, rfl, IntsAt.nil _ _, fun i hi => by simp at hi, IntsAt.nil _ _, hb⟩
theorem implJob (A : Option Addr) (c : Nat) (p : Pz) (A2 : Option Addr) (c2 : Nat) (trk : List Int) (w : World) (h : PzAt w A p) (hx : IntsAt w A2 trk) (hl : trk.length ≤ 1048576) :
    Calls Try.prog 22 #[.agg #[.int .i64 p.pts, .string p.names, .slice A p.moves.length c], .slice A2 trk.length c2] w (IJob (newT p trk) (buildQ p trk) w) := by
  refine (implStartFill A c p A2 c2 trk w h hx hl).mono ?_
  intro e w' h1
  by_cases hq : buildQ p trk = true
  · rw [if_pos hq] at h1
    obtain ⟨At, ct, Al, Ad, lo, m1, m2, hi, hlo, rfl, hF, hhi, hb⟩ := h1
    unfold newT
    rw [if_pos hq, hq]
    exact ⟨At, ct, Al, 1, Ad, 1, lo, m1, m2, hi, hlo, rfl, hF, hhi, hb⟩
  · rw [if_neg hq] at h1
    obtain ⟨rfl, hb⟩ := h1
    unfold newT
    rw [if_neg hq, (Bool.not_eq_true _).mp hq]
    have hz := hb.size
    have hL : FLs w.heap.size w.heap.size w' (.slice none 0 0) [] := ⟨none, 0, fun _ => .slice none 0 0, fun _ => w.heap.size, rfl, ⟨fun i hi => by simp at hi, fun i hi => by simp at hi, fun i hi => by simp at hi, fun i hi => by simp at hi⟩, Nat.le_refl _, Nat.le_refl _, fun g off s e => by cases e⟩
    have hF : FTb w.heap.size w.heap.size w' none 0 none 0 none 0 w.heap.size w.heap.size ⟨[], [], []⟩ := by
      refine ⟨Fresh.nil _ _, fun b hb => ?_, hL, fun g off s e => ?_, Fresh.nil _ _, fun b hb => ?_, Nat.le_refl _, Nat.le_refl _, Nat.le_refl _⟩
      · cases hb
      · cases e
      · cases hb
    exact ⟨none, 0, none, 0, none, 0, w.heap.size, w.heap.size, w.heap.size, w.heap.size, Nat.le_refl _, rfl, hF, hz, hb⟩
end Go.Proofs.Ytfhdnanbhigpmaa
