/- Plain laws: walks down a chain, level by level; how many members lie below a level; the chain that a group alone gives. No program is named here. -/
import Derived.Test.YtpcnbjfkobeibaaWp
namespace Go.Proofs.Ytpcnbjfkobeibaa
namespace Grp

section
open Classical
/-- The table that a group alone gives. -/
noncomputable def tabOf (G : List Nat → Prop) : Tab := fun i y => if h : ∃ g, G g ∧ Fix i g ∧ app g i = y then some h.choose else none
theorem tabOf_chain {n : Nat} {G : List Nat → Prop} (hG : Sub n G) : Chain n (tabOf G) 0 G := by
  refine ⟨hG, fun g _ i hi => absurd hi (Nat.not_lt_zero _), fun j _ hj => ⟨fun y t ht => ?_, fun g hg hf => ?_⟩⟩
  · unfold tabOf at ht
    split at ht
    · rename_i h
      injection ht with ht
      rw [← ht]
      exact h.choose_spec
    · cases ht
  · unfold tabOf
    rw [dif_pos ⟨g, hg, hf, rfl⟩]; rfl
end
noncomputable def gT (n : Nat) (l : List (List Nat)) : Tab := tabOf (GenL n l)
theorem Full.gen {n : Nat} {T : Tab} {Gs : Nat → List (List Nat)} {l : List (List Nat)} (h : Full n T Gs 0) (hG : ∀ x, GenL n (Gs 0) x ↔ GenL n l x) : Chain n T 0 (GenL n l) := by
  have e : GenL n (Gs 0) = GenL n l := funext fun x => propext (hG x)
  rw [← e]
  exact h.chain 0 (Nat.le_refl _) (Nat.zero_le _)
section
variable {α : Type} {n : Nat} {T T' : Tab} {G : List Nat → Prop} {act : Nat → List Nat → α → α × Option Nat}
/-- What a walk from level i on still gives. -/
def Wk (n : Nat) (T : Tab) (act : Nat → List Nat → α → α × Option Nat) (i : Nat) (u : List Nat) (a : α) (R : α × Option (List Nat)) : Prop := walkG n T act (n - i) i u a = R
theorem Wk.go {i : Nat} {u : List Nat} {a a' : α} {R : α × Option (List Nat)} {v : Nat} (h : Wk n T act i u a R) (hi : i < n) (hA : act i (vals n T i u) a = (a', some v)) (hv : v ∈ vals n T i u) : Wk n T act (i + 1) (step T i u v) a' R := by
  unfold Wk at *
  obtain ⟨m, hm⟩ : ∃ m, n - i = m + 1 := ⟨n - i - 1, by omega⟩
  rw [hm, walkG, hA] at h
  dsimp only at h
  rw [if_pos hv] at h
  rw [show n - (i + 1) = m by omega]
  exact h
theorem Wk.stop {i : Nat} {u : List Nat} {a a' : α} {R : α × Option (List Nat)} (h : Wk n T act i u a R) (hi : i < n) (hA : act i (vals n T i u) a = (a', none)) : R = (a', none) := by
  unfold Wk at *
  obtain ⟨m, hm⟩ : ∃ m, n - i = m + 1 := ⟨n - i - 1, by omega⟩
  rw [hm, walkG, hA] at h
  exact h.symm
theorem Wk.off {i : Nat} {u : List Nat} {a a' : α} {R : α × Option (List Nat)} {v : Nat} (h : Wk n T act i u a R) (hi : i < n) (hA : act i (vals n T i u) a = (a', some v)) (hv : v ∉ vals n T i u) : R = (a', none) := by
  unfold Wk at *
  obtain ⟨m, hm⟩ : ∃ m, n - i = m + 1 := ⟨n - i - 1, by omega⟩
  rw [hm, walkG, hA] at h
  dsimp only at h
  rw [if_neg hv] at h
  exact h.symm
theorem Wk.end_ {u : List Nat} {a : α} {R : α × Option (List Nat)} (h : Wk n T act n u a R) : R = (a, some u) := by
  unfold Wk at h
  rw [Nat.sub_self, walkG] at h
  exact h.symm
theorem Wk.start (hc : Chain n T 0 G) (act : Nat → List Nat → α → α × Option Nat) {u : List Nat} (hu : IsP n u) (a : α) : Wk n T act 0 u a (walkG n (tabOf G) act n 0 u a) :=
  walk_eq hc (tabOf_chain hc.1) act n 0 u u a (by omega) hu hu (Sim.refl hc.1 (Nat.zero_le _) hu)
theorem walk_congr {act' : Nat → List Nat → α → α × Option Nat} (k : Nat) (he : ∀ i vs a, k ≤ i → act i vs a = act' i vs a) : ∀ (m i : Nat) (u : List Nat) (a : α), k ≤ i → walkG n T act m i u a = walkG n T act' m i u a := by
  intro m
  induction m with
  | zero => intro i u a _; rfl
  | succ m ih =>
    intro i u a hi
    rw [walkG, walkG, he i _ _ hi]
    cases act' i (vals n T i u) a with
    | mk a' o =>
      cases o with
      | none => rfl
      | some v =>
        dsimp only
        rw [ih (i + 1) _ _ (by omega)]
theorem Wk.congr {act' : Nat → List Nat → α → α × Option Nat} {i : Nat} {u : List Nat} {a : α} {R : α × Option (List Nat)} (h : Wk n T act i u a R) (he : ∀ j vs b, i ≤ j → act j vs b = act' j vs b) : Wk n T act' i u a R := by
  unfold Wk at *
  rw [← walk_congr i he _ i u a (Nat.le_refl _)]
  exact h
/-- A walk that is never ended ends with a permutation. -/
theorem walk_isP (hc : Chain n T 0 G) : ∀ (m i : Nat) (u : List Nat) (a : α), m + i = n → IsP n u → ∀ u', (walkG n T act m i u a).2 = some u' → IsP n u' := by
  intro m
  induction m with
  | zero => intro i u a _ hu u' h; simp only [walkG, Option.some.injEq] at h; rw [← h]; exact hu
  | succ m ih =>
    intro i u a hm hu u' h
    rw [walkG] at h
    cases hA : act i (vals n T i u) a with
    | mk a' o =>
      rw [hA] at h
      cases o with
      | none => cases h
      | some v =>
        dsimp only at h
        by_cases hv : v ∈ vals n T i u
        · rw [if_pos hv] at h
          exact ih (i + 1) _ _ (by omega) (step_isP hc (by omega) hu hv) u' h
        · rw [if_neg hv] at h; cases h
theorem mem_orb_self (hc : Chain n T 0 G) {i : Nat} (hi : i < n) : i ∈ orb n T i := by
  rw [mem_orb]
  refine ⟨hi, ?_⟩
  have := (hc.2.2 i (Nat.zero_le _) hi).2 (idp n) hc.1.2.1 (Fix.idp (by omega))
  rwa [app_idp hi] at this
theorem orb_pos (hc : Chain n T 0 G) {i : Nat} (hi : i < n) : 0 < (orb n T i).length := List.length_pos_of_mem (mem_orb_self hc hi)
theorem orb_ge (hc : Chain n T 0 G) {i : Nat} (hi : i < n) {y : Nat} (hy : y ∈ orb n T i) : i ≤ y := by
  rw [mem_orb] at hy
  obtain ⟨t, ht⟩ := Option.isSome_iff_exists.1 hy.2
  obtain ⟨h1, h2, h3⟩ := (hc.2.2 i (Nat.zero_le _) hi).1 y t ht
  rcases Nat.lt_or_ge y i with h | h
  · have e : app t y = app t i := by rw [h2 y h, h3]
    have := (hc.1.1 t h1).inj hy.1 hi e
    omega
  · exact h
theorem orb_le (hc : Chain n T 0 G) {i : Nat} (hi : i < n) : (orb n T i).length ≤ n - i := by
  have := length_le_of_subset (orb n T i) (List.range' i (n - i)) (nodup_filter_range _ _) fun y hy => by
    have h1 := orb_ge hc hi hy
    have h2 := (mem_orb.1 hy).1
    rw [List.mem_range'_1]
    omega
  rwa [List.length_range'] at this
/-- How many members fix the points before a level. -/
def ordF (n : Nat) (T : Tab) : Nat → Nat → Nat
  | _, 0 => 1
  | i, m + 1 => (orb n T i).length * ordF n T (i + 1) m
def ordG (n : Nat) (T : Tab) (i : Nat) : Nat := ordF n T i (n - i)
theorem ordG_end : ordG n T n = 1 := by unfold ordG; rw [Nat.sub_self]; rfl
theorem ordG_step {i : Nat} (hi : i < n) : ordG n T i = (orb n T i).length * ordG n T (i + 1) := by
  unfold ordG
  obtain ⟨m, hm⟩ : ∃ m, n - i = m + 1 := ⟨n - i - 1, by omega⟩
  rw [hm, ordF, show n - (i + 1) = m by omega]
def fac : Nat → Nat
  | 0 => 1
  | m + 1 => (m + 1) * fac m
theorem fac_pos : ∀ m, 0 < fac m := by
  intro m
  induction m with
  | zero => decide
  | succ m ih => exact Nat.mul_pos (Nat.succ_pos _) ih
theorem fac_mono : ∀ m k, fac m ≤ fac (m + k) := by
  intro m k
  induction k with
  | zero => exact Nat.le_refl _
  | succ k ih => exact Nat.le_trans ih (Nat.le_mul_of_pos_left _ (Nat.succ_pos _))
theorem ordF_le (hc : Chain n T 0 G) : ∀ m i, m + i = n → 0 < ordF n T i m ∧ ordF n T i m ≤ fac m := by
  intro m
  induction m with
  | zero => intro i _; exact ⟨Nat.one_pos, Nat.le_refl _⟩
  | succ m ih =>
    intro i hi
    obtain ⟨h1, h2⟩ := ih (i + 1) (by omega)
    have h3 := orb_pos hc (show i < n by omega)
    have h4 := orb_le hc (show i < n by omega)
    exact ⟨Nat.mul_pos h3 h1, Nat.mul_le_mul (by omega) h2⟩
theorem ordG_bound (hc : Chain n T 0 G) (hn : n ≤ 20) {i : Nat} (hi : i ≤ n) : 0 < ordG n T i ∧ ordG n T i ≤ 2432902008176640000 := by
  obtain ⟨h1, h2⟩ := ordF_le hc (n - i) i (by omega)
  refine ⟨h1, Nat.le_trans h2 ?_⟩
  have h3 := fac_mono (n - i) (20 - (n - i))
  rw [show n - i + (20 - (n - i)) = 20 by omega] at h3
  exact Nat.le_trans h3 (by decide)
theorem ordF_eq (hc : Chain n T 0 G) (hc' : Chain n T' 0 G) : ∀ m i, m + i = n → ordF n T i m = ordF n T' i m := by
  intro m
  induction m with
  | zero => intro i _; rfl
  | succ m ih => intro i hi; rw [ordF, ordF, ih (i + 1) (by omega), orb_eq hc hc' (by omega)]
theorem ordG_eq (hc : Chain n T 0 G) (hc' : Chain n T' 0 G) {i : Nat} (hi : i ≤ n) : ordG n T i = ordG n T' i := ordF_eq hc hc' (n - i) i (by omega)
theorem vals_pos (hc : Chain n T 0 G) {i : Nat} (hi : i < n) {u : List Nat} (hu : IsP n u) : 0 < (vals n T i u).length := by rw [vals_length hu]; exact orb_pos hc hi
theorem vals_head (hc : Chain n T 0 G) {i : Nat} (hi : i < n) {u : List Nat} (hu : IsP n u) : ∃ v, (vals n T i u).head? = some v ∧ v ∈ vals n T i u ∧ nxtI (vals n T i u) (-1) = (v : Int) ∧ app (vals n T i u) 0 = v := by
  have h := vals_pos hc hi hu
  cases hv : vals n T i u with
  | nil => rw [hv] at h; cases h
  | cons v l => exact ⟨v, rfl, by simp, by simp only [nxtI, List.find?_cons]; rw [decide_eq_true (by omega)], rfl⟩
end
/-- The least value at each level. -/
def actMin (_ : Nat) (vs : List Nat) (a : Unit) : Unit × Option Nat := (a, vs.head?)
def minR (n : Nat) (T : Tab) (u : List Nat) : Option (List Nat) := (walkG n T actMin n 0 u ()).2
/-- As far as a permutation goes. -/
def actLmp (p : List Nat) (i : Nat) (vs : List Nat) (_ : Nat) : Nat × Option Nat := (if app p i ∈ vs then i + 1 else i, some (app p i))
def lmpR (n : Nat) (T : Tab) (p : List Nat) : Nat := (walkG n T (actLmp p) n 0 (idp n) 0).1
/-- First entries that are given, then the least. -/
def actPre (ps : List Int) (i : Nat) (vs : List Nat) (a : Unit) : Unit × Option Nat := (a, if i < ps.length then vs.find? (fun v : Nat => decide ((v : Int) = ps.getD i 0)) else vs.head?)
def preR (n : Nat) (T : Tab) (ps : List Int) : Option (List Nat) := (walkG n T (actPre ps) n 0 (idp n) ()).2
theorem actPre_yes {ps : List Int} {i : Nat} {vs : List Nat} {v : Nat} (hi : i < ps.length) (he : ps.getD i 0 = (v : Int)) (hv : v ∈ vs) : actPre ps i vs () = ((), some v) := by
  unfold actPre
  rw [if_pos hi, he]
  cases hf : vs.find? (fun x : Nat => decide ((x : Int) = (v : Int))) with
  | none =>
    rw [List.find?_eq_none] at hf
    exact absurd (decide_eq_true rfl) (hf v hv)
  | some x =>
    have := List.find?_some hf
    have e : x = v := by have := of_decide_eq_true this; omega
    rw [e]
theorem actPre_no {ps : List Int} {i : Nat} {vs : List Nat} (hi : i < ps.length) (h : ∀ v : Nat, ps.getD i 0 = (v : Int) → v ∉ vs) : actPre ps i vs () = ((), none) := by
  unfold actPre
  rw [if_pos hi]
  cases hf : vs.find? (fun x : Nat => decide ((x : Int) = ps.getD i 0)) with
  | none => rfl
  | some x =>
    have h1 := List.find?_some hf
    have e : ps.getD i 0 = (x : Int) := by
      have h2 := of_decide_eq_true h1
      exact h2.symm
    exact absurd (List.mem_of_find?_eq_some hf) (h x e)
theorem actPre_late {ps : List Int} {i : Nat} (hi : ps.length ≤ i) (vs : List Nat) (a : Unit) : actPre ps i vs a = actMin i vs a := by
  unfold actPre actMin
  rw [if_neg (by omega)]
/-- The number of members that precede p. -/
def actCnt (n : Nat) (T : Tab) (p : List Nat) (i : Nat) (vs : List Nat) (a : Nat) : Nat × Option Nat := (a + cntB vs (app p i) * ordG n T (i + 1), some (app p i))
def cntR (n : Nat) (T : Tab) (p : List Nat) : Nat × Option (List Nat) := walkG n T (actCnt n T p) n 0 (idp n) 0
/-- The member of a rank. -/
def actAt (n : Nat) (T : Tab) (i : Nat) (vs : List Nat) (k : Nat) : Nat × Option Nat := (k % ordG n T (i + 1), vs[k / ordG n T (i + 1)]?)
def atR (n : Nat) (T : Tab) (k : Nat) : Option (List Nat) := (walkG n T (actAt n T) n 0 (idp n) k).2
def nextRnd (s : Nat) : Nat := (48271 * s + 11) % 999999937
/-- A member that a generator of numbers draws. -/
def actRnd (_ : Nat) (vs : List Nat) (s : Nat) : Nat × Option Nat := (nextRnd s, vs[nextRnd s % vs.length]?)
def rndR (n : Nat) (T : Tab) (s : Nat) : Option (List Nat) := (walkG n T actRnd n 0 (idp n) s).2
theorem cnt_lt {vs : List Nat} {v : Nat} (hv : v ∈ vs) : cntB vs (v : Int) < vs.length := by
  rcases Nat.lt_or_ge (cntB vs (v : Int)) vs.length with h | h
  · exact h
  · have h2 : (vs.filter fun x : Nat => decide ((x : Int) < (v : Int))).length = vs.length := Nat.le_antisymm (List.length_filter_le _ _) h
    have := (List.length_filter_eq_length_iff.1 h2) v hv
    simp at this
/-- Of one group, the chain's own table and the group's give one count. -/
theorem Wk.cnt {n : Nat} {T : Tab} {G : List Nat → Prop} (hc : Chain n T 0 G) (p : List Nat) : Wk n T (actCnt n (tabOf G) p) 0 (idp n) 0 (cntR n (tabOf G) p) := Wk.start hc _ IsP.idp 0
end Grp
end Go.Proofs.Ytpcnbjfkobeibaa
