/- Plain laws: counts of members below a permutation, and draws of members, do not depend on the table. No program is named here. -/
import Derived.Test.YtpcnbjfkobeibaaWm
namespace Go.Proofs.Ytpcnbjfkobeibaa
namespace Grp

section
variable {n : Nat} {T T' : Tab} {G : List Nat → Prop}
theorem cnt_same (hc : Chain n T 0 G) (hc' : Chain n T' 0 G) (p : List Nat) : ∀ (m i : Nat) (u : List Nat) (a : Nat), m + i = n → walkG n T (actCnt n T p) m i u a = walkG n T (actCnt n T' p) m i u a := by
  intro m
  induction m with
  | zero => intro i u k _; rfl
  | succ m ih =>
    intro i u a hm
    have e : actCnt n T p i (vals n T i u) a = actCnt n T' p i (vals n T i u) a := by unfold actCnt; rw [ordG_eq hc hc' (show i + 1 ≤ n by omega)]
    rw [walkG, walkG, e]
    cases actCnt n T' p i (vals n T i u) a with
    | mk b o =>
      cases o with
      | none => rfl
      | some v => dsimp only; rw [ih (i + 1) _ _ (by omega)]
theorem cntR_eq (hc : Chain n T 0 G) (hc' : Chain n T' 0 G) (p : List Nat) : cntR n T p = cntR n T' p := by
  unfold cntR
  rw [cnt_same hc hc' p n 0 _ _ (by omega), walk_eq hc hc' (actCnt n T' p) n 0 (idp n) (idp n) 0 (by omega) IsP.idp IsP.idp (Sim.refl hc.1 (Nat.zero_le _) IsP.idp)]
theorem rndR_eq (hc : Chain n T 0 G) (hc' : Chain n T' 0 G) (s : Nat) : rndR n T s = rndR n T' s := by
  unfold rndR
  rw [walk_eq hc hc' actRnd n 0 (idp n) (idp n) s (by omega) IsP.idp IsP.idp (Sim.refl hc.1 (Nat.zero_le _) IsP.idp)]
/-- What is counted at a level stays below what lies above it. -/
theorem cnt_room {i c a : Nat} (hi : i < n) (hc : c ≤ (orb n T i).length) (ha : a + ordG n T i ≤ ordG n T 0) : a + c * ordG n T (i + 1) ≤ ordG n T 0 ∧ (c < (orb n T i).length → a + c * ordG n T (i + 1) + ordG n T (i + 1) ≤ ordG n T 0) := by
  rw [ordG_step hi] at ha
  have h1 := Nat.mul_le_mul_right (ordG n T (i + 1)) hc
  refine ⟨by omega, fun h => ?_⟩
  have h2 := Nat.mul_le_mul_right (ordG n T (i + 1)) (show c + 1 ≤ (orb n T i).length by omega)
  rw [Nat.succ_mul] at h2
  omega
theorem cnt_le_ord (hc : Chain n T 0 G) (p : List Nat) : ∀ (m i : Nat) (u : List Nat) (a : Nat), m + i = n → IsP n u → a + ordF n T i m ≤ ordG n T 0 → (walkG n T (actCnt n T p) m i u a).1 ≤ ordG n T 0 := by
  intro m
  induction m with
  | zero => intro i u a _ _ h; simp only [walkG]; omega
  | succ m ih =>
    intro i u a hm hu h
    have hin : i < n := by omega
    have hO : ordG n T (i + 1) = ordF n T (i + 1) m := by unfold ordG; rw [show n - (i + 1) = m by omega]
    have hO0 : ordG n T i = ordF n T i (m + 1) := by unfold ordG; rw [show n - i = m + 1 by omega]
    have hl := vals_length (n := n) (T := T) (i := i) hu
    have hcl : cntB (vals n T i u) (app p i) ≤ (orb n T i).length := by rw [← hl]; exact List.length_filter_le _ _
    have hr := cnt_room hin hcl (a := a) (by rw [hO0]; exact h)
    have e : actCnt n T p i (vals n T i u) a = (a + cntB (vals n T i u) (app p i) * ordG n T (i + 1), some (app p i)) := rfl
    rw [walkG, e]
    dsimp only
    by_cases hv : app p i ∈ vals n T i u
    · rw [if_pos hv]
      refine ih (i + 1) _ _ (by omega) (step_isP hc hin hu hv) ?_
      rw [← hO]
      exact hr.2 (by rw [← hl]; exact cnt_lt hv)
    · rw [if_neg hv]
      exact hr.1
theorem cntR_le (hc : Chain n T 0 G) (p : List Nat) : (cntR n T p).1 ≤ ordG n T 0 := cnt_le_ord hc p n 0 (idp n) 0 (by omega) IsP.idp (by show 0 + ordG n T 0 ≤ _; omega)
end
end Grp
end Go.Proofs.Ytpcnbjfkobeibaa
