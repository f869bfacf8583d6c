/- Plain laws: the values of a level as a sorted list; how many lie below a number, and the least above it. No program is named here. Plain laws: walks down a chain, level by level; how many members lie below a level; the chain that a group alone gives. No program is named here. Plain laws: all members in order of rank, level by level; strong generators. No program is named here. -/
import Derived.Test.YtpcnbjfkobeibaaGD
namespace Go.Proofs.Ytpcnbjfkobeibaa
section
namespace Grp

/-- Ascending. -/
def Asc (l : List Nat) : Prop := l.Pairwise (· < ·)
theorem asc_range_filter (n : Nat) (p : Nat → Bool) : Asc ((List.range n).filter p) := List.Pairwise.filter _ List.pairwise_lt_range
theorem asc_vals {n : Nat} {T : Tab} {i : Nat} {u : List Nat} : Asc (vals n T i u) := asc_range_filter _ _
theorem Asc.nodup {l : List Nat} (h : Asc l) : l.Nodup := List.Pairwise.imp (fun h => Nat.ne_of_lt h) h
def cntB (vs : List Nat) (x : Int) : Nat := (vs.filter fun v : Nat => decide ((v : Int) < x)).length
def nxtI (vs : List Nat) (x : Int) : Int := match vs.find? (fun v : Nat => decide (x < (v : Int))) with
  | some v => (v : Int)
  | none => -1
/-- What has been seen of the values: those of which dn holds. -/
def CntIs (vs : List Nat) (dn : Nat → Bool) (x : Int) (c : Nat) : Prop := c = (vs.filter fun v : Nat => dn v && decide ((v : Int) < x)).length
def NxtIs (vs : List Nat) (dn : Nat → Bool) (x nx : Int) : Prop :=
  (nx = -1 ∧ ∀ v, v ∈ vs → dn v = true → ¬ x < (v : Int)) ∨ ∃ v : Nat, v ∈ vs ∧ dn v = true ∧ x < (v : Int) ∧ nx = v ∧ ∀ v', v' ∈ vs → dn v' = true → x < ((v' : Nat) : Int) → v ≤ v'
theorem CntIs.start (vs : List Nat) (x : Int) {dn : Nat → Bool} (h : ∀ v, v ∈ vs → dn v = false) : CntIs vs dn x 0 := by
  unfold CntIs
  rw [List.filter_eq_nil_iff.2 fun v hv => by rw [h v hv]; simp]
  rfl
theorem filter_step {dn : Nat → Bool} (p : Nat → Bool) (a : Nat) (hd : dn a = false) : ∀ (vs : List Nat), vs.Nodup → a ∈ vs →
    (vs.filter fun v => (dn v || v == a) && p v).length = (vs.filter fun v => dn v && p v).length + if p a then 1 else 0 := by
  intro vs
  induction vs with
  | nil => intro _ h; simp at h
  | cons b l ih =>
    intro hn ha
    rw [List.nodup_cons] at hn
    by_cases e : b = a
    · subst e
      have hc : l.filter (fun v => (dn v || v == b) && p v) = l.filter fun v => dn v && p v := List.filter_congr fun v hv => by
        have : (v == b) = false := by simp; rintro rfl; exact hn.1 hv
        rw [this, Bool.or_false]
      rw [List.filter_cons, List.filter_cons, hc, hd]
      cases hp : p b <;> simp
    · have h2 := ih hn.2 (by simpa [Ne.symm e] using ha)
      have he : (b == a) = false := by simpa using e
      rw [List.filter_cons, List.filter_cons, he, Bool.or_false]
      split <;> simp [h2] <;> omega
theorem CntIs.step {vs : List Nat} {dn dn' : Nat → Bool} {x : Int} {c a : Nat} (h : CntIs vs dn x c) (hn : vs.Nodup) (ha : a ∈ vs) (hd : dn a = false) (he : ∀ v, dn' v = (dn v || v == a)) : CntIs vs dn' x (if (a : Int) < x then c + 1 else c) := by
  unfold CntIs at *
  have := filter_step (dn := dn) (fun v : Nat => decide ((v : Int) < x)) a hd vs hn ha
  simp only [he]
  rw [this, h]
  by_cases hx : (a : Int) < x <;> simp [hx]
theorem CntIs.fin {vs : List Nat} {dn : Nat → Bool} {x : Int} {c : Nat} (h : CntIs vs dn x c) (hd : ∀ v, v ∈ vs → dn v = true) : c = cntB vs x := by
  unfold CntIs at h
  rw [h, cntB]
  congr 1
  exact List.filter_congr fun v hv => by rw [hd v hv, Bool.true_and]
theorem CntIs.le {vs : List Nat} {dn : Nat → Bool} {x : Int} {c : Nat} (h : CntIs vs dn x c) : c ≤ vs.length := by rw [h]; exact List.length_filter_le _ _
theorem NxtIs.start (vs : List Nat) (x : Int) {dn : Nat → Bool} (h : ∀ v, v ∈ vs → dn v = false) : NxtIs vs dn x (-1) := .inl ⟨rfl, fun v hv hd => by rw [h v hv] at hd; cases hd⟩
theorem NxtIs.skip {vs : List Nat} {dn dn' : Nat → Bool} {x nx : Int} {a : Nat} (h : NxtIs vs dn x nx) (he : ∀ v, dn' v = (dn v || v == a)) (hs : ¬ x < (a : Int) ∨ (0 ≤ nx ∧ nx ≤ a)) : NxtIs vs dn' x nx := by
  rcases h with ⟨h1, h2⟩ | ⟨v, h1, h2, h3, h4, h5⟩
  · refine .inl ⟨h1, fun v hv hd => ?_⟩
    rw [he, Bool.or_eq_true] at hd
    rcases hd with hd | hd
    · exact h2 v hv hd
    · have : v = a := by simpa using hd
      subst this
      rcases hs with hs | hs
      · exact hs
      · omega
  · refine .inr ⟨v, h1, by rw [he, h2]; rfl, h3, h4, fun v' hv' hd hx => ?_⟩
    rw [he, Bool.or_eq_true] at hd
    rcases hd with hd | hd
    · exact h5 v' hv' hd hx
    · have : v' = a := by simpa using hd
      subst this
      rcases hs with hs | hs
      · exact absurd hx hs
      · omega
theorem NxtIs.take {vs : List Nat} {dn dn' : Nat → Bool} {x nx : Int} {a : Nat} (h : NxtIs vs dn x nx) (ha : a ∈ vs) (he : ∀ v, dn' v = (dn v || v == a)) (hx : x < (a : Int)) (hs : nx < 0 ∨ (a : Int) < nx) : NxtIs vs dn' x a := by
  refine .inr ⟨a, ha, by rw [he]; simp, hx, rfl, fun v' hv' hd hx' => ?_⟩
  rw [he, Bool.or_eq_true] at hd
  rcases hd with hd | hd
  · rcases h with ⟨h1, h2⟩ | ⟨v, h1, h2, h3, h4, h5⟩
    · exact absurd hx' (h2 v' hv' hd)
    · have := h5 v' hv' hd hx'
      omega
  · have : v' = a := by simpa using hd
    omega
theorem NxtIs.fin {vs : List Nat} {dn : Nat → Bool} {x nx : Int} (h : NxtIs vs dn x nx) (hA : Asc vs) (hd : ∀ v, v ∈ vs → dn v = true) : nx = nxtI vs x := by
  unfold nxtI
  cases hf : vs.find? (fun v : Nat => decide (x < (v : Int))) with
  | none =>
    rw [List.find?_eq_none] at hf
    rcases h with ⟨h1, h2⟩ | ⟨v, h1, h2, h3, h4, h5⟩
    · exact h1
    · exact absurd h3 (by simpa using hf v h1)
  | some a =>
    have ha := List.mem_of_find?_eq_some hf
    have hxa : x < (a : Int) := by simpa using List.find?_some hf
    rcases h with ⟨h1, h2⟩ | ⟨v, h1, h2, h3, h4, h5⟩
    · exact absurd hxa (h2 a ha (hd a ha))
    · have h6 := h5 a ha (hd a ha) hxa
      rw [h4]
      dsimp only
      rw [List.find?_eq_some_iff_append] at hf
      obtain ⟨_, as, bs, rfl, hno⟩ := hf
      have : v = a := by
        rcases List.mem_append.1 h1 with h7 | h7
        · exact absurd h3 (by simpa using hno v h7)
        · rcases List.mem_cons.1 h7 with h8 | h8
          · exact h8
          · have hp : (a :: bs).Pairwise (· < ·) := (List.pairwise_append.1 hA).2.1
            have := (List.pairwise_cons.1 hp).1 v h8
            omega
      rw [this]
/-- One more number laid into an ascending list. -/
def ins (v : Nat) : List Nat → List Nat
  | [] => [v]
  | a :: l => if a < v then a :: ins v l else v :: a :: l
theorem filter_ins {P Q : Nat → Bool} {v : Nat} (hP : P v = false) : ∀ (l : List Nat), (∀ x, x ∈ l → Q x = (P x || x == v)) → Asc l → v ∈ l → l.filter Q = ins v (l.filter P) := by
  intro l
  induction l with
  | nil => intro _ _ h; simp at h
  | cons a l ih =>
    intro hQ hA hv
    have hQ2 := fun x hx => hQ x (List.mem_cons_of_mem _ hx)
    have hA2 := List.pairwise_cons.1 hA
    by_cases e : a = v
    · subst e
      have hc : l.filter Q = l.filter P := List.filter_congr fun x hx => by
        have : (x == a) = false := by have := hA2.1 x hx; simp; omega
        rw [hQ2 x hx, this, Bool.or_false]
      rw [List.filter_cons, List.filter_cons, hP, hQ a (by simp), hP]
      simp only [beq_self_eq_true, Bool.or_true, if_true, hc]
      cases hl : l.filter P with
      | nil => simp [ins]
      | cons b m =>
        have hb : b ∈ l := (List.mem_filter.1 (show b ∈ l.filter P by rw [hl]; simp)).1
        have := hA2.1 b hb
        simp [ins]; omega
    · have hv2 : v ∈ l := by simpa [Ne.symm e] using hv
      have hav := hA2.1 v hv2
      have h2 := ih hQ2 hA2.2 hv2
      have he : (a == v) = false := by simpa using e
      rw [List.filter_cons, List.filter_cons, hQ a (by simp), he, Bool.or_false]
      cases hPa : P a with
      | true => simp [ins, hav, h2]
      | false => simpa using h2
theorem ins_split (v : Nat) : ∀ (l : List Nat), ins v l = l.take (cntB l v) ++ v :: l.drop (cntB l v) ∨ ¬ Asc l := by
  intro l
  by_cases hA : Asc l
  · refine .inl ?_
    induction l with
    | nil => simp [ins, cntB]
    | cons a l ih =>
      have hA2 := List.pairwise_cons.1 hA
      by_cases hav : a < v
      · have hc : cntB (a :: l) v = cntB l v + 1 := by unfold cntB; rw [List.filter_cons, if_pos (by simp; omega)]; simp
        rw [hc, ins, if_pos hav, ih hA2.2]
        simp
      · have hc : cntB (a :: l) v = 0 := by
          unfold cntB
          rw [List.filter_eq_nil_iff.2 fun x hx => ?_]
          · rfl
          · rcases List.mem_cons.1 hx with h | h
            · simp; omega
            · have := hA2.1 x h; simp; omega
        rw [hc, ins, if_neg hav]
        simp
  · exact .inr hA
/-- The values of a level, as far as the points below k reach. -/
def valsTo (n : Nat) (T : Tab) (i : Nat) (u : List Nat) (k : Nat) : List Nat := (List.range n).filter fun v => decide (app (inv u) v < k) && (T i (app (inv u) v)).isSome
theorem asc_valsTo {n : Nat} {T : Tab} {i : Nat} {u : List Nat} {k : Nat} : Asc (valsTo n T i u k) := asc_range_filter _ _
theorem valsTo_zero {n : Nat} {T : Tab} {i : Nat} {u : List Nat} : valsTo n T i u 0 = [] := by
  unfold valsTo
  exact List.filter_eq_nil_iff.2 fun v _ => by simp
theorem valsTo_all {n : Nat} {T : Tab} {i : Nat} {u : List Nat} (hu : IsP n u) : valsTo n T i u n = vals n T i u := by
  unfold valsTo vals
  exact List.filter_congr fun v hv => by
    have := hu.inv_lt (List.mem_range.1 hv)
    simp [this]
theorem valsTo_no {n : Nat} {T : Tab} {i : Nat} {u : List Nat} {k : Nat} (h : T i k = none) : valsTo n T i u (k + 1) = valsTo n T i u k := by
  unfold valsTo
  refine List.filter_congr fun v _ => ?_
  by_cases e : app (inv u) v = k
  · rw [e, h]; simp
  · have : decide (app (inv u) v < k + 1) = decide (app (inv u) v < k) := by
      rw [decide_eq_decide]; omega
    rw [this]
theorem valsTo_yes {n : Nat} {T : Tab} {i : Nat} {u : List Nat} (hu : IsP n u) {k : Nat} (hk : k < n) {t : List Nat} (h : T i k = some t) : valsTo n T i u (k + 1) = ins (app u k) (valsTo n T i u k) := by
  unfold valsTo
  refine filter_ins (v := app u k) ?_ _ (fun x hx => ?_) List.pairwise_lt_range (List.mem_range.2 (hu.lt hk))
  · rw [hu.inv_app_self hk]; simp
  · by_cases e : x = app u k
    · subst e
      rw [hu.inv_app_self hk, h]; simp
    · have hxe : (x == app u k) = false := by simpa using e
      rw [hxe, Bool.or_false]
      have hxn := List.mem_range.1 hx
      have hne : app (inv u) x ≠ k := fun e2 => e (by rw [← e2, hu.app_inv_self hxn])
      have : decide (app (inv u) x < k + 1) = decide (app (inv u) x < k) := by
        rw [decide_eq_decide]; omega
      rw [this]
end Grp
end
section
namespace Grp

section
open Classical
/-- The table that a group alone gives. -/
noncomputable def tabOf (G : List Nat → Prop) : Tab := fun i y => if h : ∃ g, G g ∧ Fix i g ∧ app g i = y then some h.choose else none
theorem tabOf_chain {n : Nat} {G : List Nat → Prop} (hG : Sub n G) : Chain n (tabOf G) 0 G := by
  refine ⟨hG, fun g _ i hi => absurd hi (Nat.not_lt_zero _), fun j _ hj => ⟨fun y t ht => ?_, fun g hg hf => ?_⟩⟩
  · unfold tabOf at ht
    split at ht
    · rename_i h
      injection ht with ht
      rw [← ht]
      exact h.choose_spec
    · cases ht
  · unfold tabOf
    rw [dif_pos ⟨g, hg, hf, rfl⟩]; rfl
end
noncomputable def gT (n : Nat) (l : List (List Nat)) : Tab := tabOf (GenL n l)
theorem Full.gen {n : Nat} {T : Tab} {Gs : Nat → List (List Nat)} {l : List (List Nat)} (h : Full n T Gs 0) (hG : ∀ x, GenL n (Gs 0) x ↔ GenL n l x) : Chain n T 0 (GenL n l) := by
  have e : GenL n (Gs 0) = GenL n l := funext fun x => propext (hG x)
  rw [← e]
  exact h.chain 0 (Nat.le_refl _) (Nat.zero_le _)
section
variable {α : Type} {n : Nat} {T T' : Tab} {G : List Nat → Prop} {act : Nat → List Nat → α → α × Option Nat}
/-- What a walk from level i on still gives. -/
def Wk (n : Nat) (T : Tab) (act : Nat → List Nat → α → α × Option Nat) (i : Nat) (u : List Nat) (a : α) (R : α × Option (List Nat)) : Prop := walkG n T act (n - i) i u a = R
theorem Wk.go {i : Nat} {u : List Nat} {a a' : α} {R : α × Option (List Nat)} {v : Nat} (h : Wk n T act i u a R) (hi : i < n) (hA : act i (vals n T i u) a = (a', some v)) (hv : v ∈ vals n T i u) : Wk n T act (i + 1) (step T i u v) a' R := by
  unfold Wk at *
  obtain ⟨m, hm⟩ : ∃ m, n - i = m + 1 := ⟨n - i - 1, by omega⟩
  rw [hm, walkG, hA] at h
  dsimp only at h
  rw [if_pos hv] at h
  rw [show n - (i + 1) = m by omega]
  exact h
theorem Wk.stop {i : Nat} {u : List Nat} {a a' : α} {R : α × Option (List Nat)} (h : Wk n T act i u a R) (hi : i < n) (hA : act i (vals n T i u) a = (a', none)) : R = (a', none) := by
  unfold Wk at *
  obtain ⟨m, hm⟩ : ∃ m, n - i = m + 1 := ⟨n - i - 1, by omega⟩
  rw [hm, walkG, hA] at h
  exact h.symm
theorem Wk.off {i : Nat} {u : List Nat} {a a' : α} {R : α × Option (List Nat)} {v : Nat} (h : Wk n T act i u a R) (hi : i < n) (hA : act i (vals n T i u) a = (a', some v)) (hv : v ∉ vals n T i u) : R = (a', none) := by
  unfold Wk at *
  obtain ⟨m, hm⟩ : ∃ m, n - i = m + 1 := ⟨n - i - 1, by omega⟩
  rw [hm, walkG, hA] at h
  dsimp only at h
  rw [if_neg hv] at h
  exact h.symm
theorem Wk.end_ {u : List Nat} {a : α} {R : α × Option (List Nat)} (h : Wk n T act n u a R) : R = (a, some u) := by
  unfold Wk at h
  rw [Nat.sub_self, walkG] at h
  exact h.symm
theorem Wk.start (hc : Chain n T 0 G) (act : Nat → List Nat → α → α × Option Nat) {u : List Nat} (hu : IsP n u) (a : α) : Wk n T act 0 u a (walkG n (tabOf G) act n 0 u a) :=
  walk_eq hc (tabOf_chain hc.1) act n 0 u u a (by omega) hu hu (Sim.refl hc.1 (Nat.zero_le _) hu)
theorem walk_congr {act' : Nat → List Nat → α → α × Option Nat} (k : Nat) (he : ∀ i vs a, k ≤ i → act i vs a = act' i vs a) : ∀ (m i : Nat) (u : List Nat) (a : α), k ≤ i → walkG n T act m i u a = walkG n T act' m i u a := by
  intro m
  induction m with
  | zero => intro i u a _; rfl
  | succ m ih =>
    intro i u a hi
    rw [walkG, walkG, he i _ _ hi]
    cases act' i (vals n T i u) a with
    | mk a' o =>
      cases o with
      | none => rfl
      | some v =>
        dsimp only
        rw [ih (i + 1) _ _ (by omega)]
theorem Wk.congr {act' : Nat → List Nat → α → α × Option Nat} {i : Nat} {u : List Nat} {a : α} {R : α × Option (List Nat)} (h : Wk n T act i u a R) (he : ∀ j vs b, i ≤ j → act j vs b = act' j vs b) : Wk n T act' i u a R := by
  unfold Wk at *
  rw [← walk_congr i he _ i u a (Nat.le_refl _)]
  exact h
/-- A walk that is never ended ends with a permutation. -/
theorem walk_isP (hc : Chain n T 0 G) : ∀ (m i : Nat) (u : List Nat) (a : α), m + i = n → IsP n u → ∀ u', (walkG n T act m i u a).2 = some u' → IsP n u' := by
  intro m
  induction m with
  | zero => intro i u a _ hu u' h; simp only [walkG, Option.some.injEq] at h; rw [← h]; exact hu
  | succ m ih =>
    intro i u a hm hu u' h
    rw [walkG] at h
    cases hA : act i (vals n T i u) a with
    | mk a' o =>
      rw [hA] at h
      cases o with
      | none => cases h
      | some v =>
        dsimp only at h
        by_cases hv : v ∈ vals n T i u
        · rw [if_pos hv] at h
          exact ih (i + 1) _ _ (by omega) (step_isP hc (by omega) hu hv) u' h
        · rw [if_neg hv] at h; cases h
theorem mem_orb_self (hc : Chain n T 0 G) {i : Nat} (hi : i < n) : i ∈ orb n T i := by
  rw [mem_orb]
  refine ⟨hi, ?_⟩
  have := (hc.2.2 i (Nat.zero_le _) hi).2 (idp n) hc.1.2.1 (Fix.idp (by omega))
  rwa [app_idp hi] at this
theorem orb_pos (hc : Chain n T 0 G) {i : Nat} (hi : i < n) : 0 < (orb n T i).length := List.length_pos_of_mem (mem_orb_self hc hi)
theorem orb_ge (hc : Chain n T 0 G) {i : Nat} (hi : i < n) {y : Nat} (hy : y ∈ orb n T i) : i ≤ y := by
  rw [mem_orb] at hy
  obtain ⟨t, ht⟩ := Option.isSome_iff_exists.1 hy.2
  obtain ⟨h1, h2, h3⟩ := (hc.2.2 i (Nat.zero_le _) hi).1 y t ht
  rcases Nat.lt_or_ge y i with h | h
  · have e : app t y = app t i := by rw [h2 y h, h3]
    have := (hc.1.1 t h1).inj hy.1 hi e
    omega
  · exact h
theorem orb_le (hc : Chain n T 0 G) {i : Nat} (hi : i < n) : (orb n T i).length ≤ n - i := by
  have := length_le_of_subset (orb n T i) (List.range' i (n - i)) (nodup_filter_range _ _) fun y hy => by
    have h1 := orb_ge hc hi hy
    have h2 := (mem_orb.1 hy).1
    rw [List.mem_range'_1]
    omega
  rwa [List.length_range'] at this
/-- How many members fix the points before a level. -/
def ordF (n : Nat) (T : Tab) : Nat → Nat → Nat
  | _, 0 => 1
  | i, m + 1 => (orb n T i).length * ordF n T (i + 1) m
def ordG (n : Nat) (T : Tab) (i : Nat) : Nat := ordF n T i (n - i)
theorem ordG_end : ordG n T n = 1 := by unfold ordG; rw [Nat.sub_self]; rfl
theorem ordG_step {i : Nat} (hi : i < n) : ordG n T i = (orb n T i).length * ordG n T (i + 1) := by
  unfold ordG
  obtain ⟨m, hm⟩ : ∃ m, n - i = m + 1 := ⟨n - i - 1, by omega⟩
  rw [hm, ordF, show n - (i + 1) = m by omega]
def fac : Nat → Nat
  | 0 => 1
  | m + 1 => (m + 1) * fac m
theorem fac_pos : ∀ m, 0 < fac m := by
  intro m
  induction m with
  | zero => decide
  | succ m ih => exact Nat.mul_pos (Nat.succ_pos _) ih
theorem fac_mono : ∀ m k, fac m ≤ fac (m + k) := by
  intro m k
  induction k with
  | zero => exact Nat.le_refl _
  | succ k ih => exact Nat.le_trans ih (Nat.le_mul_of_pos_left _ (Nat.succ_pos _))
theorem ordF_le (hc : Chain n T 0 G) : ∀ m i, m + i = n → 0 < ordF n T i m ∧ ordF n T i m ≤ fac m := by
  intro m
  induction m with
  | zero => intro i _; exact ⟨Nat.one_pos, Nat.le_refl _⟩
  | succ m ih =>
    intro i hi
    obtain ⟨h1, h2⟩ := ih (i + 1) (by omega)
    have h3 := orb_pos hc (show i < n by omega)
    have h4 := orb_le hc (show i < n by omega)
    exact ⟨Nat.mul_pos h3 h1, Nat.mul_le_mul (by omega) h2⟩
theorem ordG_bound (hc : Chain n T 0 G) (hn : n ≤ 20) {i : Nat} (hi : i ≤ n) : 0 < ordG n T i ∧ ordG n T i ≤ 2432902008176640000 := by
  obtain ⟨h1, h2⟩ := ordF_le hc (n - i) i (by omega)
  refine ⟨h1, Nat.le_trans h2 ?_⟩
  have h3 := fac_mono (n - i) (20 - (n - i))
  rw [show n - i + (20 - (n - i)) = 20 by omega] at h3
  exact Nat.le_trans h3 (by decide)
theorem ordF_eq (hc : Chain n T 0 G) (hc' : Chain n T' 0 G) : ∀ m i, m + i = n → ordF n T i m = ordF n T' i m := by
  intro m
  induction m with
  | zero => intro i _; rfl
  | succ m ih => intro i hi; rw [ordF, ordF, ih (i + 1) (by omega), orb_eq hc hc' (by omega)]
theorem ordG_eq (hc : Chain n T 0 G) (hc' : Chain n T' 0 G) {i : Nat} (hi : i ≤ n) : ordG n T i = ordG n T' i := ordF_eq hc hc' (n - i) i (by omega)
theorem vals_pos (hc : Chain n T 0 G) {i : Nat} (hi : i < n) {u : List Nat} (hu : IsP n u) : 0 < (vals n T i u).length := by rw [vals_length hu]; exact orb_pos hc hi
theorem vals_head (hc : Chain n T 0 G) {i : Nat} (hi : i < n) {u : List Nat} (hu : IsP n u) : ∃ v, (vals n T i u).head? = some v ∧ v ∈ vals n T i u ∧ nxtI (vals n T i u) (-1) = (v : Int) ∧ app (vals n T i u) 0 = v := by
  have h := vals_pos hc hi hu
  cases hv : vals n T i u with
  | nil => rw [hv] at h; cases h
  | cons v l => exact ⟨v, rfl, by simp, by simp only [nxtI, List.find?_cons]; rw [decide_eq_true (by omega)], rfl⟩
end
/-- The least value at each level. -/
def actMin (_ : Nat) (vs : List Nat) (a : Unit) : Unit × Option Nat := (a, vs.head?)
def minR (n : Nat) (T : Tab) (u : List Nat) : Option (List Nat) := (walkG n T actMin n 0 u ()).2
/-- As far as a permutation goes. -/
def actLmp (p : List Nat) (i : Nat) (vs : List Nat) (_ : Nat) : Nat × Option Nat := (if app p i ∈ vs then i + 1 else i, some (app p i))
def lmpR (n : Nat) (T : Tab) (p : List Nat) : Nat := (walkG n T (actLmp p) n 0 (idp n) 0).1
/-- First entries that are given, then the least. -/
def actPre (ps : List Int) (i : Nat) (vs : List Nat) (a : Unit) : Unit × Option Nat := (a, if i < ps.length then vs.find? (fun v : Nat => decide ((v : Int) = ps.getD i 0)) else vs.head?)
def preR (n : Nat) (T : Tab) (ps : List Int) : Option (List Nat) := (walkG n T (actPre ps) n 0 (idp n) ()).2
theorem actPre_yes {ps : List Int} {i : Nat} {vs : List Nat} {v : Nat} (hi : i < ps.length) (he : ps.getD i 0 = (v : Int)) (hv : v ∈ vs) : actPre ps i vs () = ((), some v) := by
  unfold actPre
  rw [if_pos hi, he]
  cases hf : vs.find? (fun x : Nat => decide ((x : Int) = (v : Int))) with
  | none =>
    rw [List.find?_eq_none] at hf
    exact absurd (decide_eq_true rfl) (hf v hv)
  | some x =>
    have := List.find?_some hf
    have e : x = v := by have := of_decide_eq_true this; omega
    rw [e]
theorem actPre_no {ps : List Int} {i : Nat} {vs : List Nat} (hi : i < ps.length) (h : ∀ v : Nat, ps.getD i 0 = (v : Int) → v ∉ vs) : actPre ps i vs () = ((), none) := by
  unfold actPre
  rw [if_pos hi]
  cases hf : vs.find? (fun x : Nat => decide ((x : Int) = ps.getD i 0)) with
  | none => rfl
  | some x =>
    have h1 := List.find?_some hf
    have e : ps.getD i 0 = (x : Int) := by
      have h2 := of_decide_eq_true h1
      exact h2.symm
    exact absurd (List.mem_of_find?_eq_some hf) (h x e)
theorem actPre_late {ps : List Int} {i : Nat} (hi : ps.length ≤ i) (vs : List Nat) (a : Unit) : actPre ps i vs a = actMin i vs a := by
  unfold actPre actMin
  rw [if_neg (by omega)]
/-- The number of members that precede p. -/
def actCnt (n : Nat) (T : Tab) (p : List Nat) (i : Nat) (vs : List Nat) (a : Nat) : Nat × Option Nat := (a + cntB vs (app p i) * ordG n T (i + 1), some (app p i))
def cntR (n : Nat) (T : Tab) (p : List Nat) : Nat × Option (List Nat) := walkG n T (actCnt n T p) n 0 (idp n) 0
/-- The member of a rank. -/
def actAt (n : Nat) (T : Tab) (i : Nat) (vs : List Nat) (k : Nat) : Nat × Option Nat := (k % ordG n T (i + 1), vs[k / ordG n T (i + 1)]?)
def atR (n : Nat) (T : Tab) (k : Nat) : Option (List Nat) := (walkG n T (actAt n T) n 0 (idp n) k).2
def nextRnd (s : Nat) : Nat := (48271 * s + 11) % 999999937
/-- A member that a generator of numbers draws. -/
def actRnd (_ : Nat) (vs : List Nat) (s : Nat) : Nat × Option Nat := (nextRnd s, vs[nextRnd s % vs.length]?)
def rndR (n : Nat) (T : Tab) (s : Nat) : Option (List Nat) := (walkG n T actRnd n 0 (idp n) s).2
theorem cnt_lt {vs : List Nat} {v : Nat} (hv : v ∈ vs) : cntB vs (v : Int) < vs.length := by
  rcases Nat.lt_or_ge (cntB vs (v : Int)) vs.length with h | h
  · exact h
  · have h2 : (vs.filter fun x : Nat => decide ((x : Int) < (v : Int))).length = vs.length := Nat.le_antisymm (List.length_filter_le _ _) h
    have := (List.length_filter_eq_length_iff.1 h2) v hv
    simp at this
/-- Of one group, the chain's own table and the group's give one count. -/
theorem Wk.cnt {n : Nat} {T : Tab} {G : List Nat → Prop} (hc : Chain n T 0 G) (p : List Nat) : Wk n T (actCnt n (tabOf G) p) 0 (idp n) 0 (cntR n (tabOf G) p) := Wk.start hc _ IsP.idp 0
end Grp
end
section
namespace Grp

def lvl (n : Nat) (T : Tab) (i : Nat) (L : List (List Nat)) : List (List Nat) := L.flatMap fun u => (vals n T i u).map (step T i u)
def allF (n : Nat) (T : Tab) : Nat → Nat → List (List Nat) → List (List Nat)
  | 0, _, L => L
  | m + 1, i, L => allF n T m (i + 1) (lvl n T i L)
/-- All members, by rank. -/
def memR (n : Nat) (T : Tab) : List (List Nat) := (List.range (ordG n T 0)).map fun k => (atR n T k).getD []
theorem flat_range {β : Type} (O : Nat) (vs : List Nat) (h : Nat → Nat → β) (h' : Nat → β) (he : ∀ q r v, vs[q]? = some v → r < O → h' (q * O + r) = h v r) :
    (vs.flatMap fun v => (List.range O).map (h v)) = (List.range (vs.length * O)).map h' := by
  have key : ∀ l, l ≤ vs.length → ((vs.take l).flatMap fun v => (List.range O).map (h v)) = (List.range (l * O)).map h' := by
    intro l
    induction l with
    | zero => intro _; simp
    | succ l ih =>
      intro hl
      obtain ⟨v, hv⟩ : ∃ v, vs[l]? = some v := ⟨vs[l], List.getElem?_eq_getElem (by omega)⟩
      rw [List.take_add_one, hv, Option.toList_some, List.flatMap_append, ih (by omega), Nat.succ_mul, List.range_add, List.map_append, List.flatMap_singleton, List.map_map]
      congr 1
      refine List.map_congr_left fun r hr => ?_
      exact (he l r v hv (List.mem_range.1 hr)).symm
  have := key vs.length (Nat.le_refl _)
  rwa [List.take_of_length_le (Nat.le_refl _)] at this
theorem flat_congr {α β : Type} {f g : α → List β} : ∀ {l : List α}, (∀ a, a ∈ l → f a = g a) → l.flatMap f = l.flatMap g := by
  intro l
  induction l with
  | nil => intro _; rfl
  | cons a l ih => intro h; rw [List.flatMap_cons, List.flatMap_cons, h a (by simp), ih fun b hb => h b (by simp [hb])]
section
variable {n : Nat} {T : Tab} {G : List Nat → Prop}
theorem lvl_isP (hc : Chain n T 0 G) {i : Nat} (hi : i < n) {L : List (List Nat)} (hL : ∀ u, u ∈ L → IsP n u) : ∀ u, u ∈ lvl n T i L → IsP n u := by
  intro u hu
  unfold lvl at hu
  rw [List.mem_flatMap] at hu
  obtain ⟨u0, h0, h1⟩ := hu
  rw [List.mem_map] at h1
  obtain ⟨v, hv, rfl⟩ := h1
  exact step_isP hc hi (hL u0 h0) hv
theorem allF_eq (hc : Chain n T 0 G) : ∀ (m i : Nat) (L : List (List Nat)), m + i = n → (∀ u, u ∈ L → IsP n u) →
    allF n T m i L = L.flatMap fun u => (List.range (ordF n T i m)).map fun k => ((walkG n T (actAt n T) m i u k).2).getD [] := by
  intro m
  induction m with
  | zero => intro i L _ _; simp [allF, ordF, walkG]
  | succ m ih =>
    intro i L hm hL
    have hin : i < n := by omega
    have hO : ordG n T (i + 1) = ordF n T (i + 1) m := by unfold ordG; rw [show n - (i + 1) = m by omega]
    rw [allF, ih (i + 1) _ (by omega) (lvl_isP hc hin hL), lvl, List.flatMap_assoc]
    refine flat_congr fun u hu => ?_
    rw [List.flatMap_map]
    have hlen : (orb n T i).length = (vals n T i u).length := (vals_length (hL u hu)).symm
    rw [ordF, hlen]
    refine flat_range _ _ _ _ fun q r v hq hr => ?_
    have hpos : 0 < ordF n T (i + 1) m := by omega
    have hd : (q * ordF n T (i + 1) m + r) / ordF n T (i + 1) m = q := by rw [Nat.mul_comm, Nat.mul_add_div hpos, Nat.div_eq_of_lt hr, Nat.add_zero]
    have hmd : (q * ordF n T (i + 1) m + r) % ordF n T (i + 1) m = r := by rw [Nat.mul_comm, Nat.mul_add_mod, Nat.mod_eq_of_lt hr]
    have hv : v ∈ vals n T i u := List.mem_of_getElem? hq
    rw [walkG, actAt, hO, hd, hmd, hq]
    dsimp only
    rw [if_pos hv]
theorem allF_mem (hc : Chain n T 0 G) : allF n T n 0 [idp n] = memR n T := by
  rw [allF_eq hc n 0 [idp n] (by omega) (fun u hu => by rw [List.mem_singleton.1 hu]; exact IsP.idp)]
  simp only [List.flatMap_cons, List.flatMap_nil, List.append_nil, memR, ordG, atR, Nat.sub_zero]
theorem at_some (hc : Chain n T 0 G) : ∀ (m i : Nat) (u : List Nat) (k : Nat), m + i = n → IsP n u → k < ordF n T i m → ∃ u', (walkG n T (actAt n T) m i u k).2 = some u' := by
  intro m
  induction m with
  | zero => intro i u k _ _ _; exact ⟨u, rfl⟩
  | succ m ih =>
    intro i u k hm hu hk
    have hin : i < n := by omega
    have hO : ordG n T (i + 1) = ordF n T (i + 1) m := by unfold ordG; rw [show n - (i + 1) = m by omega]
    have hpos := (ordF_le hc m (i + 1) (by omega)).1
    rw [ordF] at hk
    have hq : k / ordF n T (i + 1) m < (vals n T i u).length := by rw [vals_length hu]; exact Nat.div_lt_of_lt_mul (by rw [Nat.mul_comm]; exact hk)
    rw [walkG, actAt, hO, List.getElem?_eq_getElem hq]
    dsimp only
    rw [if_pos (List.getElem_mem hq)]
    exact ih (i + 1) _ _ (by omega) (step_isP hc hin hu (List.getElem_mem hq)) (Nat.mod_lt _ hpos)
theorem atR_some (hc : Chain n T 0 G) {k : Nat} (hk : k < ordG n T 0) : ∃ u, atR n T k = some u ∧ IsP n u := by
  obtain ⟨u, hu⟩ := at_some hc n 0 (idp n) k (by omega) IsP.idp hk
  exact ⟨u, hu, walk_isP hc n 0 _ _ (by omega) IsP.idp u hu⟩
end
/-! Of one group, all tables give one answer. -/
section
variable {n : Nat} {T T' : Tab} {G : List Nat → Prop}
theorem act_same (hc : Chain n T 0 G) (hc' : Chain n T' 0 G) : ∀ (m i : Nat) (u : List Nat) (k : Nat), m + i = n → walkG n T (actAt n T) m i u k = walkG n T (actAt n T') m i u k := by
  intro m
  induction m with
  | zero => intro i u k _; rfl
  | succ m ih =>
    intro i u k hm
    have e : actAt n T i (vals n T i u) k = actAt n T' i (vals n T i u) k := by unfold actAt; rw [ordG_eq hc hc' (show i + 1 ≤ n by omega)]
    rw [walkG, walkG, e]
    cases actAt n T' i (vals n T i u) k with
    | mk a o =>
      cases o with
      | none => rfl
      | some v => dsimp only; rw [ih (i + 1) _ _ (by omega)]
theorem atR_eq (hc : Chain n T 0 G) (hc' : Chain n T' 0 G) (k : Nat) : atR n T k = atR n T' k := by
  unfold atR
  rw [act_same hc hc' n 0 _ _ (by omega), walk_eq hc hc' (actAt n T') n 0 (idp n) (idp n) k (by omega) IsP.idp IsP.idp (Sim.refl hc.1 (Nat.zero_le _) IsP.idp)]
theorem memR_eq (hc : Chain n T 0 G) (hc' : Chain n T' 0 G) : memR n T = memR n T' := by
  unfold memR
  rw [ordG_eq hc hc' (Nat.zero_le _)]
  exact List.map_congr_left fun k _ => by rw [atR_eq hc hc']
theorem preR_eq (hc : Chain n T 0 G) (hc' : Chain n T' 0 G) (ps : List Int) : preR n T ps = preR n T' ps := by
  unfold preR
  rw [walk_eq hc hc' (actPre ps) n 0 (idp n) (idp n) () (by omega) IsP.idp IsP.idp (Sim.refl hc.1 (Nat.zero_le _) IsP.idp)]
/-- The first entries i are the identity's, the next is y. -/
def idTo (i : Nat) (y : Nat) : List Int := (List.range i).map (fun j : Nat => (j : Int)) ++ [(y : Int)]
theorem idTo_len (i y : Nat) : (idTo i y).length = i + 1 := by simp [idTo]
theorem idTo_before {i y j : Nat} (h : j < i) : (idTo i y).getD j 0 = (j : Int) := by
  unfold idTo
  rw [List.getD_eq_getElem?_getD, List.getElem?_append_left (by simpa using h)]
  simp [h]
theorem idTo_at (i y : Nat) : (idTo i y).getD i 0 = (y : Int) := by
  unfold idTo
  rw [List.getD_eq_getElem?_getD, List.getElem?_append_right (by simp)]
  simp
theorem pre_down (hc : Chain n T 0 G) (h1 : ∀ j, j < n → T j j = some (idp n)) {i y : Nat} (hi : i < n) {R : Unit × Option (List Nat)} (h : Wk n T (actPre (idTo i y)) 0 (idp n) () R) : ∀ j, j ≤ i → Wk n T (actPre (idTo i y)) j (idp n) () R := by
  intro j
  induction j with
  | zero => intro _; exact h
  | succ j ih =>
    intro hj
    have hv : j ∈ vals n T j (idp n) := by rw [← orb_vals]; exact mem_orb_self hc (by omega)
    have := (ih (by omega)).go (by omega) (actPre_yes (v := j) (by rw [idTo_len]; omega) (idTo_before (by omega)) hv) hv
    have e : step T j (idp n) j = idp n := by
      have h2 := (mem_vals.1 hv)
      have hh : app (inv (idp n)) j = j := by
        have := (IsP.idp (n := n)).inv_app_self (i := j) (by omega)
        rwa [app_idp (by omega)] at this
      unfold step
      rw [hh, h1 j (by omega)]
      exact comp_idp IsP.idp
    rwa [e] at this
theorem min_some (hc : Chain n T 0 G) : ∀ (m i : Nat) (u : List Nat), m + i = n → IsP n u → ∃ u', (walkG n T actMin m i u ()).2 = some u' := by
  intro m
  induction m with
  | zero => intro i u _ _; exact ⟨u, rfl⟩
  | succ m ih =>
    intro i u hm hu
    obtain ⟨v, h1, h2, -, -⟩ := vals_head hc (show i < n by omega) hu
    rw [walkG, actMin, h1]
    dsimp only
    rw [if_pos h2]
    exact ih (i + 1) _ (by omega) (step_isP hc (by omega) hu h2)
theorem minR_some (hc : Chain n T 0 G) {u : List Nat} (hu : IsP n u) : ∃ u', minR n T u = some u' ∧ IsP n u' := by
  obtain ⟨u', h⟩ := min_some hc n 0 u (by omega) hu
  exact ⟨u', h, walk_isP hc n 0 u () (by omega) hu u' h⟩
/-- There is a member with these first entries exactly if the point is in the level's orbit. -/
theorem pre_orb (hc : Chain n T 0 G) (h1 : ∀ j, j < n → T j j = some (idp n)) {i y : Nat} (hi : i < n) : (∃ u, preR n T (idTo i y) = some u) ↔ y ∈ orb n T i := by
  have hw := pre_down hc h1 hi (y := y) (R := walkG n T (actPre (idTo i y)) n 0 (idp n) ()) rfl i (Nat.le_refl _)
  rw [orb_vals]
  constructor
  · rintro ⟨u, hu⟩
    rcases Classical.em (y ∈ vals n T i (idp n)) with h | h
    · exact h
    · have := hw.stop hi (actPre_no (by rw [idTo_len]; omega) (fun v hv => by
        rw [idTo_at] at hv
        have e : v = y := by omega
        rw [e]; exact h))
      unfold preR at hu
      rw [this] at hu
      cases hu
  · intro h
    have h2 := hw.go hi (actPre_yes (v := y) (by rw [idTo_len]; omega) (idTo_at i y) h) h
    have h3 := h2.congr (act' := actMin) (fun j vs b hj => actPre_late (by rw [idTo_len]; omega) vs b)
    have hP := step_isP hc hi IsP.idp h
    obtain ⟨u', hu'⟩ := min_some hc (n - (i + 1)) (i + 1) (step T i (idp n) y) (by omega) hP
    refine ⟨u', ?_⟩
    unfold preR
    unfold Wk at h3
    rw [← h3]
    exact hu'
end
/-- The strong generators. -/
def sgR (n : Nat) (T : Tab) : List (List Nat) := (List.range n).flatMap fun i => (List.range n).filterMap fun y => if i < y then preR n T (idTo i y) else none
theorem sgR_eq {n : Nat} {T T' : Tab} {G : List Nat → Prop} (hc : Chain n T 0 G) (hc' : Chain n T' 0 G) : sgR n T = sgR n T' := by
  unfold sgR
  have e : preR n T = preR n T' := funext fun ps => preR_eq hc hc' ps
  rw [e]
end Grp
end
end Go.Proofs.Ytpcnbjfkobeibaa
