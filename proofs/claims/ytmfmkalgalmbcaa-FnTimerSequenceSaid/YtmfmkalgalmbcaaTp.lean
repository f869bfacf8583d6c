/- Plain laws: what an event does to a valid timer, and that it stays valid. No program is named here. -/
import Derived.Test.YtmfmkalgalmbcaaTv
namespace Go.Proofs.Ytmfmkalgalmbcaa
open Go.RowKit

def stepT (t : Tm) (k a : Int) : Tm × Bool :=
  if t.ph = 0 then (if k = 1 then (⟨1, a, a, 0, 0, 0, 0, false⟩, true) else (t, false))
  else if t.ph = 1 then (if k = 2 then (⟨2, a, t.ins, a, 0, 0, 0, false⟩, true) else if k = 6 then (⟨4, a, t.ins, 0, 0, 0, 0, true⟩, true) else (t, false))
  else if t.ph = 2 then (if k = 3 then (if a - t.la < 55 then ⟨1, a, t.ins, 0, 0, 0, 0, false⟩ else startedT a t.ins, true) else if k = 6 then (⟨4, a, t.ins, 0, 0, 0, 0, true⟩, true) else (t, false))
  else if t.ph = 3 then (if k = 4 then (⟨4, a, t.ins, 0, t.la, a, t.pe, t.fl⟩, true) else if k = 6 then (⟨4, a, t.ins, 0, t.la, a, 0, true⟩, true) else (t, false))
  else (if k = 5 then (if t.pe < 2000 then (if t.fl then (t, false) else (⟨4, a, t.ins, 0, t.st, t.sp, t.pe + 200, false⟩, true)) else (t, false)) else if k = 7 then (⟨0, a, 0, 0, 0, 0, 0, false⟩, true) else (t, false))
def Tm.zero : Tm := ⟨0, 0, 0, 0, 0, 0, 0, false⟩
def applyT (t : Tm) (k a : Int) : Tm × Bool := if validT t then (if inR a t.la 360000 then stepT t k a else (t, false)) else (.zero, false)
/-- The forms of a valid timer. -/
def VForm (t : Tm) : Prop := 0 ≤ t.ins ∧ t.ins ≤ t.la ∧ t.la ≤ 360000 ∧ (t = ⟨0, t.la, 0, 0, 0, 0, 0, false⟩ ∨ t = ⟨1, t.la, t.ins, 0, 0, 0, 0, false⟩ ∨ t = ⟨2, t.la, t.ins, t.la, 0, 0, 0, false⟩ ∨ t = startedT t.la t.ins ∨ (t.ph = 4 ∧ stoppedB t = true))
theorem valid_form {t : Tm} (h : validT t = true) : VForm t := by
  rw [validT, Bool.and_eq_true, Bool.and_eq_true, inR_iff, inR_iff] at h
  obtain ⟨⟨h1, h2⟩, ⟨h3, h4⟩, h5⟩ := h
  refine ⟨h3, h4, h2, ?_⟩
  by_cases p0 : t.ph = 0
  · rw [if_pos p0, tmEq_iff] at h5; exact .inl h5
  rw [if_neg p0] at h5
  by_cases p1 : t.ph = 1
  · rw [if_pos p1, tmEq_iff] at h5; exact .inr (.inl h5)
  rw [if_neg p1] at h5
  by_cases p2 : t.ph = 2
  · rw [if_pos p2, tmEq_iff] at h5; exact .inr (.inr (.inl h5))
  rw [if_neg p2] at h5
  by_cases p3 : t.ph = 3
  · rw [if_pos p3, tmEq_iff] at h5; exact .inr (.inr (.inr (.inl h5)))
  rw [if_neg p3] at h5
  by_cases p4 : t.ph = 4
  · rw [if_pos p4] at h5; exact .inr (.inr (.inr (.inr ⟨p4, h5⟩)))
  · rw [if_neg p4] at h5; cases h5
theorem started_ph (a b : Int) : (startedT a b).ph = 3 ∧ (startedT a b).la = a ∧ (startedT a b).ins = b ∧ (startedT a b).dn = 0 ∧ (startedT a b).st = a ∧ (startedT a b).sp = 0 ∧ 0 ≤ (startedT a b).pe ∧ (startedT a b).pe ≤ 200 ∧ (startedT a b).pe % 200 = 0 := by
  unfold startedT pen
  split
  · simp
  · rename_i h
    split
    · simp
    · split
      · simp
      · simp_all
theorem valid_started {a b : Int} (h0 : 0 ≤ b) (h1 : b ≤ a) (h2 : a ≤ 360000) : validT (startedT a b) = true := by
  obtain ⟨e1, e2, e3, _⟩ := started_ph a b
  have r1 : inR a 0 360000 = true := inR_iff.2 ⟨by omega, h2⟩
  have r2 : inR b 0 a = true := inR_iff.2 ⟨h0, h1⟩
  rw [validT, e1, e2, e3, r1, r2]
  simp [tmEq_iff]
theorem valid_step {t : Tm} (h : validT t = true) {k a : Int} (h1 : t.la ≤ a) (h2 : a ≤ 360000) : validT (stepT t k a).1 = true ∧ t.la ≤ (stepT t k a).1.la ∧ (stepT t k a).1.la ≤ 360000 ∧ ((stepT t k a).2 = false → (stepT t k a).1 = t) := by
  obtain ⟨f0, f1, f2, f⟩ := valid_form h
  have ra : inR a 0 360000 = true := inR_iff.2 ⟨by omega, h2⟩
  have ri : inR t.ins 0 a = true := inR_iff.2 ⟨f0, by omega⟩
  have r0 : inR 0 0 a = true := inR_iff.2 ⟨by omega, by omega⟩
  have rr : inR a 0 a = true := inR_iff.2 ⟨by omega, by omega⟩
  have self : validT t = true ∧ t.la ≤ t.la ∧ t.la ≤ 360000 ∧ (false = false → t = t) := ⟨h, Int.le_refl _, f2, fun _ => rfl⟩
  have v4 : ∀ {s p q : Int} {b : Bool}, stoppedB ⟨4, a, t.ins, 0, s, p, q, b⟩ = true → validT ⟨4, a, t.ins, 0, s, p, q, b⟩ = true := by
    intro s p q b hs
    rw [validT, ra, ri]
    simp [hs]
  unfold stepT
  rcases f with f | f | f | f | ⟨f, fs⟩
  · have p : t.ph = 0 := by rw [f]
    rw [if_pos p]
    by_cases hk : k = 1
    · rw [if_pos hk]
      exact ⟨by simp [validT, ra, rr, tmEq], h1, h2, fun e => by cases e⟩
    · rw [if_neg hk]; exact self
  · have p : t.ph = 1 := by rw [f]
    rw [if_neg (by omega), if_pos p]
    by_cases hk : k = 2
    · rw [if_pos hk]
      exact ⟨by simp [validT, ra, ri, tmEq], h1, h2, fun e => by cases e⟩
    · rw [if_neg hk]
      by_cases hk : k = 6
      · rw [if_pos hk]
        exact ⟨v4 (by simp [stoppedB]), h1, h2, fun e => by cases e⟩
      · rw [if_neg hk]; exact self
  · have p : t.ph = 2 := by rw [f]
    rw [if_neg (by omega), if_neg (by omega), if_pos p]
    by_cases hk : k = 3
    · rw [if_pos hk]
      by_cases hd : a - t.la < 55
      · simp only [hd, if_true]
        exact ⟨by simp [validT, ra, ri, tmEq], h1, h2, fun e => by cases e⟩
      · simp only [hd, if_false]
        have := started_ph a t.ins
        exact ⟨valid_started f0 (by omega) h2, by omega, by omega, fun e => by cases e⟩
    · rw [if_neg hk]
      by_cases hk : k = 6
      · rw [if_pos hk]
        exact ⟨v4 (by simp [stoppedB]), h1, h2, fun e => by cases e⟩
      · rw [if_neg hk]; exact self
  · have hs := started_ph t.la t.ins
    rw [← f] at hs
    obtain ⟨p, -, -, -, -, -, s7, s8, s9⟩ := hs
    rw [if_neg (by omega), if_neg (by omega), if_neg (by omega), if_pos p]
    by_cases hk : k = 4
    · rw [if_pos hk]
      exact ⟨v4 (by simp [stoppedB]; omega), h1, h2, fun e => by cases e⟩
    · rw [if_neg hk]
      by_cases hk : k = 6
      · rw [if_pos hk]
        exact ⟨v4 (by simp [stoppedB]; omega), h1, h2, fun e => by cases e⟩
      · rw [if_neg hk]; exact self
  · rw [if_neg (by omega), if_neg (by omega), if_neg (by omega), if_neg (by omega)]
    rw [stoppedB, decide_eq_true_eq] at fs
    obtain ⟨s1, ⟨s2, s3⟩, s4, s5⟩ := fs
    by_cases hk : k = 5
    · rw [if_pos hk]
      by_cases hp : t.pe < 2000
      · rw [if_pos hp]
        cases hf : t.fl
        · simp only [Bool.false_eq_true, if_false]
          refine ⟨v4 ?_, h1, h2, fun e => by cases e⟩
          rw [hf] at s5
          simp only [Bool.false_eq_true, and_false, or_false] at s5
          simp [stoppedB]
          omega
        · simp only [if_true]; exact ⟨self.1, self.2.1, self.2.2.1, fun _ => trivial⟩
      · rw [if_neg hp]; exact self
    · rw [if_neg hk]
      by_cases hk : k = 7
      · rw [if_pos hk]
        exact ⟨by simp [validT, ra, r0, tmEq], h1, h2, fun e => by cases e⟩
      · rw [if_neg hk]; exact self
theorem valid_apply {t : Tm} (h : validT t = true) (k a : Int) : validT (applyT t k a).1 = true ∧ t.la ≤ (applyT t k a).1.la ∧ (applyT t k a).1.la ≤ 360000 ∧ ((applyT t k a).2 = false → (applyT t k a).1 = t) := by
  unfold applyT
  rw [if_pos h]
  have f2 := (valid_form h).2.2.1
  cases hr : inR a t.la 360000
  · simp only [Bool.false_eq_true, if_false]
    exact ⟨h, Int.le_refl _, f2, fun _ => trivial⟩
  · simp only [if_true]
    have := inR_iff.1 hr
    exact valid_step h this.1 this.2
/-! A run. -/
abbrev Ev := Int × Int
def runS (s : Tm × Int) (e : Ev) : Tm × Int := ((applyT s.1 e.1 e.2).1, if (applyT s.1 e.1 e.2).2 then s.2 + 1 else s.2)
def runTo (t : Tm) (es : List Ev) : Tm × Int := es.foldl runS (t, 0)
def runRes (t : Tm) (es : List Ev) : Tm × Int := if validT t && decide (es.length ≤ 60) then runTo t es else (.zero, -1)
theorem runTo_more (t : Tm) (es : List Ev) (i : Nat) (hi : i < es.length) {k a : Int} (he : es.getD i (0, 0) = (k, a)) : runTo t (es.take (i + 1)) = runS (runTo t (es.take i)) (k, a) := by
  rw [List.getD_eq_getElem?_getD, List.getElem?_eq_getElem hi] at he
  have he2 : es[i] = (k, a) := he
  rw [runTo, List.take_succ_eq_append_getElem hi, List.foldl_append, he2]; rfl
theorem runTo_bd {t : Tm} (h : validT t = true) (es : List Ev) : validT (runTo t es).1 = true ∧ t.la ≤ (runTo t es).1.la ∧ 0 ≤ (runTo t es).2 ∧ (runTo t es).2 ≤ es.length := by
  have : ∀ (es : List Ev) (s : Tm × Int), validT s.1 = true → t.la ≤ s.1.la → 0 ≤ s.2 → validT (es.foldl runS s).1 = true ∧ t.la ≤ (es.foldl runS s).1.la ∧ 0 ≤ (es.foldl runS s).2 ∧ (es.foldl runS s).2 ≤ s.2 + es.length := by
    intro es
    induction es with
    | nil => intro s h1 h2 h3; exact ⟨h1, h2, h3, by simp⟩
    | cons e es ih =>
      intro s h1 h2 h3
      have hv := valid_apply h1 e.1 e.2
      have hs : (runS s e).2 = s.2 ∨ (runS s e).2 = s.2 + 1 := by
        unfold runS
        dsimp only
        split
        · exact .inr rfl
        · exact .inl rfl
      obtain ⟨a1, a2, a3, a4⟩ := ih (runS s e) hv.1 (Int.le_trans h2 hv.2.1) (by rcases hs with e | e <;> omega)
      rw [List.foldl_cons]
      refine ⟨a1, a2, a3, ?_⟩
      rw [List.length_cons]
      push_cast
      rcases hs with e | e <;> omega
  have h2 := this es (t, 0) h (Int.le_refl _) (Int.le_refl _)
  exact ⟨h2.1, h2.2.1, h2.2.2.1, by have := h2.2.2.2; simp at this; exact this⟩
theorem runTo_two {t : Tm} (es : List Ev) (k : Nat) : (runTo (runTo t (es.take k)).1 (es.drop k)).1 = (runTo t es).1 ∧ (runTo t (es.take k)).2 + (runTo (runTo t (es.take k)).1 (es.drop k)).2 = (runTo t es).2 := by
  have shift : ∀ (es : List Ev) (s : Tm) (n m : Int), (es.foldl runS (s, n + m)).1 = (es.foldl runS (s, m)).1 ∧ (es.foldl runS (s, n + m)).2 = n + (es.foldl runS (s, m)).2 := by
    intro es
    induction es with
    | nil => intro s n m; exact ⟨rfl, rfl⟩
    | cons e es ih =>
      intro s n m
      rw [List.foldl_cons, List.foldl_cons]
      have e1 : runS (s, n + m) e = ((applyT s e.1 e.2).1, n + (runS (s, m) e).2) := by
        unfold runS
        dsimp only
        split <;> simp <;> omega
      have e2 : runS (s, m) e = ((applyT s e.1 e.2).1, (runS (s, m) e).2) := rfl
      rw [e1]
      conv => rhs; rhs; rw [e2]
      conv => lhs; rhs; rw [e2]
      exact ih _ _ _
  have h1 : runTo t es = (es.drop k).foldl runS (runTo t (es.take k)) := by
    rw [runTo, runTo, ← List.foldl_append, List.take_append_drop]
  have h2 := shift (es.drop k) (runTo t (es.take k)).1 (runTo t (es.take k)).2 0
  rw [Int.add_zero] at h2
  rw [h1]
  exact ⟨h2.1.symm, h2.2.symm⟩
end Go.Proofs.Ytmfmkalgalmbcaa
