/- Plain laws: what a walk gives is a member; prefixes of members; the least of a coset; what the strong generators generate. No program is named here. IsMember and SameCoset at both packages. Conditions: as each contract says. -/
import Derived.Test.YtpcnbjfkobeibaaWm
import Derived.Test.YtpcnbjfkobeibaaMw
namespace Go.Proofs.Ytpcnbjfkobeibaa
section
namespace Grp

section
variable {n : Nat} {T T' : Tab} {G : List Nat → Prop}
theorem step_up (hc : Chain n T 0 G) {i : Nat} (hi : i < n) {u : List Nat} {v : Nat} (h : v ∈ vals n T i u) : Sim G i (step T i u v) u := by
  obtain ⟨t, e, e2⟩ := step_some h
  obtain ⟨x1, x2, -⟩ := (hc.2.2 i (Nat.zero_le _) hi).1 _ t e
  exact ⟨t, x1, x2, e2⟩
theorem Sim.trans (hG : Sub n G) {i : Nat} (hi : i ≤ n) {a b c : List Nat} (hc : IsP n c) (h : Sim G i a b) (h2 : Sim G i b c) : Sim G i a c := by
  obtain ⟨g, g1, g2, rfl⟩ := h
  obtain ⟨k, k1, k2, rfl⟩ := h2
  exact ⟨comp g k, hG.2.2.1 _ _ g1 k1, g2.comp (hG.1 g g1) hi k2, (comp_assoc (hG.1 g g1) (hG.1 k k1) hc).symm⟩
theorem Sim.mono {i j : Nat} (hij : i ≤ j) {a b : List Nat} (h : Sim G j a b) : Sim G i a b := by
  obtain ⟨g, g1, g2, e⟩ := h
  exact ⟨g, g1, g2.mono hij, e⟩
theorem Sim.mem (hG : Sub n G) {i : Nat} {u : List Nat} (h : Sim G i u (idp n)) : G u := by
  obtain ⟨g, g1, -, rfl⟩ := h
  rwa [comp_idp (hG.1 g g1)]
/-- Both have the same entries before i. -/
theorem Sim.before (hG : Sub n G) {i : Nat} (hi : i ≤ n) {a b : List Nat} (h : Sim G i a b) {j : Nat} (hj : j < i) : app a j = app b j := by
  obtain ⟨g, g1, g2, rfl⟩ := h
  rw [(hG.1 g g1).appc (by omega), g2 j hj]
theorem walk_up {α : Type} (hc : Chain n T 0 G) (act : Nat → List Nat → α → α × Option Nat) : ∀ (m i : Nat) (u : List Nat) (a : α), m + i = n → IsP n u → ∀ u', (walkG n T act m i u a).2 = some u' → Sim G i u' u := by
  intro m
  induction m with
  | zero =>
    intro i u a hm hu u' h
    simp only [walkG, Option.some.injEq] at h
    rw [← h]
    exact Sim.refl hc.1 (by omega) hu
  | succ m ih =>
    intro i u a hm hu u' h
    rw [walkG] at h
    cases hA : act i (vals n T i u) a with
    | mk a' o =>
      rw [hA] at h
      cases o with
      | none => cases h
      | some v =>
        dsimp only at h
        by_cases hv : v ∈ vals n T i u
        · rw [if_pos hv] at h
          have h1 := ih (i + 1) _ _ (by omega) (step_isP hc (by omega) hu hv) u' h
          exact (h1.mono (Nat.le_succ i)).trans hc.1 (by omega) hu (step_up hc (by omega) hv)
        · rw [if_neg hv] at h; cases h
theorem sim_step (hc : Chain n T 0 G) {i : Nat} (hi : i < n) {p u : List Nat} (hp : IsP n p) (hu : IsP n u) (h : Sim G i p u) : app p i ∈ vals n T i u ∧ Sim G (i + 1) p (step T i u (app p i)) := by
  have key : ∀ {w : List Nat}, IsP n w → Sim G i p w → app p i ∈ vals n T i w := by
    rintro w hw ⟨g, g1, g2, e⟩
    exact mem_vals.2 ⟨hp.lt hi, (isSome_iff hc hi hw (hp.lt hi)).2 ⟨g, g1, g2, by rw [← e]⟩⟩
  have hv := key hp (Sim.refl hc.1 (by omega) hp)
  refine ⟨key hu h, ?_⟩
  have h1 := step_sim hc hc hi hp hu h hv
  have hsp := step_isP hc hi hp hv
  have h2 : Sim G (i + 1) (step T i p (app p i)) p := by
    obtain ⟨t, e, e2⟩ := step_some hv
    obtain ⟨x1, x2, x3⟩ := (hc.2.2 i (Nat.zero_le _) hi).1 _ t e
    rw [hp.inv_app_self hi] at x3
    refine ⟨t, x1, fun j hj => ?_, e2⟩
    rcases Nat.lt_or_ge j i with hlt | hge
    · exact x2 j hlt
    · obtain rfl : j = i := by omega
      exact x3
  exact (h2.symm hc.1 (by omega) hp).trans hc.1 (by omega) (step_isP hc hi hu (key hu h)) h1
theorem step_agree (hc : Chain n T 0 G) {i : Nat} (hi : i < n) {p u : List Nat} (hu : IsP n u) (hv : app p i ∈ vals n T i u) (ha : ∀ j, j < i → app u j = app p j) : ∀ j, j < i + 1 → app (step T i u (app p i)) j = app p j := by
  intro j hj
  rcases Nat.lt_or_ge j i with h | h
  · rw [step_before hc hi hv h, ha j h]
  · obtain rfl : j = i := by omega
    exact step_at hc hi hu hv
theorem walk_lmp_yes {i m : Nat} {p u : List Nat} (hv : app p i ∈ vals n T i u) (a : Nat) : walkG n T (actLmp p) (m + 1) i u a = walkG n T (actLmp p) m (i + 1) (step T i u (app p i)) (i + 1) := by
  rw [walkG, actLmp]
  dsimp only
  rw [if_pos hv, if_pos hv]
theorem walk_lmp_no {i m : Nat} {p u : List Nat} (hv : app p i ∉ vals n T i u) (a : Nat) : walkG n T (actLmp p) (m + 1) i u a = (i, none) := by
  rw [walkG, actLmp]
  dsimp only
  rw [if_neg hv, if_neg hv]
theorem lmp_bd : ∀ (m i : Nat) (p u : List Nat), m + i = n → i ≤ (walkG n T (actLmp p) m i u i).1 ∧ (walkG n T (actLmp p) m i u i).1 ≤ n := by
  intro m
  induction m with
  | zero => intro i p u hm; simp only [walkG]; omega
  | succ m ih =>
    intro i p u hm
    by_cases hv : app p i ∈ vals n T i u
    · rw [walk_lmp_yes hv]
      have := ih (i + 1) p (step T i u (app p i)) (by omega)
      omega
    · rw [walk_lmp_no hv]
      dsimp only
      omega
theorem lmp_full (hc : Chain n T 0 G) {p : List Nat} (hp : IsP n p) : ∀ (m i : Nat) (u : List Nat), m + i = n → IsP n u → (∀ j, j < i → app u j = app p j) → ((walkG n T (actLmp p) m i u i).1 = n ↔ Sim G i p u) := by
  intro m
  induction m with
  | zero =>
    intro i u hm hu ha
    simp only [walkG]
    have e : u = p := ext_app hu.len hp.len fun j hj => ha j (by omega)
    rw [e]
    exact ⟨fun _ => Sim.refl hc.1 (by omega) hp, fun _ => by omega⟩
  | succ m ih =>
    intro i u hm hu ha
    have hi : i < n := by omega
    by_cases hv : app p i ∈ vals n T i u
    · rw [walk_lmp_yes hv, ih (i + 1) _ (by omega) (step_isP hc hi hu hv) (step_agree hc hi hu hv ha)]
      exact ⟨fun h => (h.mono (Nat.le_succ i)).trans hc.1 (by omega) hu (step_up hc hi hv), fun h => (sim_step hc hi hp hu h).2⟩
    · rw [walk_lmp_no hv]
      dsimp only
      exact ⟨fun h => absurd h (by omega), fun h => absurd (sim_step hc hi hp hu h).1 hv⟩
theorem lmpR_le {p : List Nat} : lmpR n T p ≤ n := (lmp_bd n 0 p (idp n) (by omega)).2
theorem lmpR_full (hc : Chain n T 0 G) {p : List Nat} (hp : IsP n p) : lmpR n T p = n ↔ G p := by
  unfold lmpR
  rw [lmp_full hc hp n 0 (idp n) (by omega) IsP.idp (fun j hj => absurd hj (Nat.not_lt_zero _))]
  exact ⟨fun h => h.mem hc.1, fun h => ⟨p, h, fun j hj => absurd hj (Nat.not_lt_zero _), (comp_idp hp).symm⟩⟩
/-- The first entries of p. -/
def PreOf (ps : List Int) (p : List Nat) : Prop := ∀ j, j < ps.length → ps.getD j 0 = ((app p j : Nat) : Int)
theorem walk_pre_yes {i m : Nat} {ps : List Int} {p u : List Nat} (hP : PreOf ps p) (hi : i < ps.length) (hv : app p i ∈ vals n T i u) : walkG n T (actPre ps) (m + 1) i u () = walkG n T (actPre ps) m (i + 1) (step T i u (app p i)) () := by
  rw [walkG, actPre_yes hi (hP i hi) hv]
  dsimp only
  rw [if_pos hv]
theorem walk_pre_no {i m : Nat} {ps : List Int} {p u : List Nat} (hP : PreOf ps p) (hi : i < ps.length) (hv : app p i ∉ vals n T i u) : (walkG n T (actPre ps) (m + 1) i u ()).2 = none := by
  rw [walkG, actPre_no hi (fun v e hm => hv (by
    rw [hP i hi] at e
    have e2 : app p i = v := by omega
    rwa [e2]))]
theorem walk_pre_late {i m : Nat} {ps : List Int} {u : List Nat} (hi : ps.length ≤ i) : walkG n T (actPre ps) m i u () = walkG n T actMin m i u () :=
  walk_congr i (fun j vs a hj => actPre_late (by omega) vs a) m i u () (Nat.le_refl _)
theorem pre_some (hc : Chain n T 0 G) {ps : List Int} {p : List Nat} (hP : PreOf ps p) : ∀ (m i : Nat) (u : List Nat), m + i = n → IsP n u → (walkG n T (actLmp p) m i u i).1 = ps.length → ∃ u', (walkG n T (actPre ps) m i u ()).2 = some u' := by
  intro m
  induction m with
  | zero => intro i u _ _ _; exact ⟨u, rfl⟩
  | succ m ih =>
    intro i u hm hu h
    have hi : i < n := by omega
    by_cases hv : app p i ∈ vals n T i u
    · rw [walk_lmp_yes hv] at h
      have hb := (lmp_bd (n := n) (T := T) m (i + 1) p (step T i u (app p i)) (by omega)).1
      rw [walk_pre_yes hP (show i < ps.length by omega) hv]
      exact ih (i + 1) _ (by omega) (step_isP hc hi hu hv) h
    · rw [walk_lmp_no hv] at h
      dsimp only at h
      rw [walk_pre_late (by omega)]
      exact min_some hc (m + 1) i u hm hu
theorem pre_none (hc : Chain n T 0 G) {ps : List Int} {p : List Nat} (hP : PreOf ps p) : ∀ (m i : Nat) (u : List Nat), m + i = n → IsP n u → (walkG n T (actLmp p) m i u i).1 + 1 = ps.length → (walkG n T (actLmp p) m i u i).1 < n → (walkG n T (actPre ps) m i u ()).2 = none := by
  intro m
  induction m with
  | zero => intro i u hm _ _ h; simp only [walkG] at h; omega
  | succ m ih =>
    intro i u hm hu h h2
    have hi : i < n := by omega
    by_cases hv : app p i ∈ vals n T i u
    · rw [walk_lmp_yes hv] at h h2
      have hb := (lmp_bd (n := n) (T := T) m (i + 1) p (step T i u (app p i)) (by omega)).1
      rw [walk_pre_yes hP (show i < ps.length by omega) hv]
      exact ih (i + 1) _ (by omega) (step_isP hc hi hu hv) h h2
    · rw [walk_lmp_no hv] at h
      dsimp only at h
      exact walk_pre_no hP (by omega) hv
theorem pre_full (hc : Chain n T 0 G) {ps : List Int} {p : List Nat} (hp : IsP n p) (hP : PreOf ps p) (hl : ps.length = n) : ∀ (m i : Nat) (u : List Nat), m + i = n → IsP n u → (∀ j, j < i → app u j = app p j) → (walkG n T (actLmp p) m i u i).1 = n → (walkG n T (actPre ps) m i u ()).2 = some p := by
  intro m
  induction m with
  | zero =>
    intro i u hm hu ha _
    have e : u = p := ext_app hu.len hp.len fun j hj => ha j (by omega)
    rw [e]
    rfl
  | succ m ih =>
    intro i u hm hu ha h
    have hi : i < n := by omega
    by_cases hv : app p i ∈ vals n T i u
    · rw [walk_lmp_yes hv] at h
      rw [walk_pre_yes hP (show i < ps.length by omega) hv]
      exact ih (i + 1) _ (by omega) (step_isP hc hi hu hv) (step_agree hc hi hu hv ha) h
    · rw [walk_lmp_no hv] at h
      dsimp only at h
      omega
/-- A member with a prefix begins with it. -/
theorem pre_at (hc : Chain n T 0 G) {ps : List Int} : ∀ (m i : Nat) (u : List Nat), m + i = n → IsP n u → (∀ j, j < i → j < ps.length → ((app u j : Nat) : Int) = ps.getD j 0) → ∀ u', (walkG n T (actPre ps) m i u ()).2 = some u' → ∀ j, j < n → j < ps.length → ((app u' j : Nat) : Int) = ps.getD j 0 := by
  intro m
  induction m with
  | zero =>
    intro i u hm hu ha u' h j hj hj2
    simp only [walkG, Option.some.injEq] at h
    rw [← h]
    exact ha j (by omega) hj2
  | succ m ih =>
    intro i u hm hu ha u' h
    have hi : i < n := by omega
    rw [walkG] at h
    cases hA : actPre ps i (vals n T i u) () with
    | mk a' o =>
      rw [hA] at h
      cases o with
      | none => cases h
      | some v =>
        dsimp only at h
        by_cases hv : v ∈ vals n T i u
        · rw [if_pos hv] at h
          refine ih (i + 1) _ (by omega) (step_isP hc hi hu hv) (fun j hj hj2 => ?_) u' h
          rcases Nat.lt_or_ge j i with h3 | h3
          · rw [step_before hc hi hv h3]; exact ha j h3 hj2
          · obtain rfl : j = i := by omega
            rw [step_at hc hi hu hv]
            unfold actPre at hA
            rw [if_pos hj2] at hA
            injection hA with _ hA
            have h3 := List.find?_some hA
            exact of_decide_eq_true h3
        · rw [if_neg hv] at h; cases h
theorem preR_mem (hc : Chain n T 0 G) {ps : List Int} {u : List Nat} (h : preR n T ps = some u) : G u := (walk_up hc (actPre ps) n 0 (idp n) () (by omega) IsP.idp u h).mem hc.1
theorem preR_at (hc : Chain n T 0 G) {ps : List Int} {u : List Nat} (h : preR n T ps = some u) {j : Nat} (hj : j < n) (hj2 : j < ps.length) : ((app u j : Nat) : Int) = ps.getD j 0 :=
  pre_at hc n 0 (idp n) (by omega) IsP.idp (fun j hj => absurd hj (Nat.not_lt_zero _)) u h j hj hj2
theorem lmp_pre_some (hc : Chain n T 0 G) {ps : List Int} {p : List Nat} (hP : PreOf ps p) (hl : ps.length = lmpR n T p) : ∃ u, preR n T ps = some u ∧ G u := by
  obtain ⟨u, hu⟩ := pre_some hc hP n 0 (idp n) (by omega) IsP.idp hl.symm
  exact ⟨u, hu, preR_mem hc hu⟩
theorem lmp_pre_none (hc : Chain n T 0 G) {ps : List Int} {p : List Nat} (hP : PreOf ps p) (hl : ps.length = lmpR n T p + 1) (hn : lmpR n T p < n) : preR n T ps = none :=
  pre_none hc hP n 0 (idp n) (by omega) IsP.idp hl.symm hn
theorem lmp_pre_full (hc : Chain n T 0 G) {ps : List Int} {p : List Nat} (hp : IsP n p) (hP : PreOf ps p) (hl : ps.length = n) (h : lmpR n T p = n) : preR n T ps = some p :=
  pre_full hc hp hP hl n 0 (idp n) (by omega) IsP.idp (fun j hj => absurd hj (Nat.not_lt_zero _)) h
/-! Cosets. -/
theorem sim_coset (hG : Sub n G) {p q : List Nat} (hp : IsP n p) (hq : IsP n q) : Sim G 0 q p ↔ G (comp q (inv p)) := by
  constructor
  · rintro ⟨g, g1, -, rfl⟩
    have hg := hG.1 g g1
    rwa [comp_assoc hg hp hp.inv, comp_inv hp, comp_idp hg]
  · intro h
    exact ⟨_, h, fun j hj => absurd hj (Nat.not_lt_zero _), by rw [comp_assoc hq hp.inv hp, inv_comp hp, comp_idp hq]⟩
theorem min_up (hc : Chain n T 0 G) {p x : List Nat} (hp : IsP n p) (h : minR n T p = some x) : Sim G 0 x p := walk_up hc actMin n 0 p () (by omega) hp x h
theorem min_coset (hc : Chain n T 0 G) {p q x y : List Nat} (hp : IsP n p) (hq : IsP n q) (hx : minR n T p = some x) (hy : minR n T q = some y) : x = y ↔ G (comp q (inv p)) := by
  have h1 := min_up hc hp hx
  have h2 := min_up hc hq hy
  rw [← sim_coset hc.1 hp hq]
  constructor
  · rintro rfl
    exact (h2.symm hc.1 (Nat.zero_le _) hq).trans hc.1 (Nat.zero_le _) hp h1
  · intro h
    have e : minR n T q = minR n T p := by
      unfold minR
      rw [walk_eq hc hc actMin n 0 q p () (by omega) hq hp h]
    rw [hx, hy] at e
    exact (Option.some.inj e).symm
theorem min_self (hc : Chain n T 0 G) {p x : List Nat} (hp : IsP n p) (hx : IsP n x) (h : minR n T p = some x) : G (comp p (inv x)) :=
  (sim_coset hc.1 hx hp).1 ((min_up hc hp h).symm hc.1 (Nat.zero_le _) hp)
theorem vals_head_le {i : Nat} {u : List Nat} {v x : Nat} (h : (vals n T i u).head? = some v) (hx : x ∈ vals n T i u) : v ≤ x := by
  have hs : (vals n T i u).Pairwise (· < ·) := List.Pairwise.filter _ List.pairwise_lt_range
  cases hv : vals n T i u with
  | nil => rw [hv] at h; cases h
  | cons a l =>
    rw [hv] at h hx hs
    simp only [List.head?_cons, Option.some.injEq] at h
    subst h
    rcases List.mem_cons.1 hx with rfl | hx
    · exact Nat.le_refl _
    · exact Nat.le_of_lt ((List.pairwise_cons.1 hs).1 x hx)
theorem min_least (hc : Chain n T 0 G) {p : List Nat} (hp : IsP n p) : ∀ (m i : Nat) (u : List Nat), m + i = n → IsP n u → Sim G i p u → ∀ u', (walkG n T actMin m i u ()).2 = some u' → ∀ k, i ≤ k → k < n → (∀ j, i ≤ j → j < k → app p j = app u' j) → app u' k ≤ app p k := by
  intro m
  induction m with
  | zero => intro i u hm hu _ u' _ k hik hk; omega
  | succ m ih =>
    intro i u hm hu hs u' h k hik hk ha
    have hi : i < n := by omega
    obtain ⟨v, h1, h2, -, -⟩ := vals_head hc hi hu
    rw [walkG, actMin, h1] at h
    dsimp only at h
    rw [if_pos h2] at h
    have hsp := step_isP hc hi hu h2
    have hup := walk_up hc actMin m (i + 1) _ () (by omega) hsp u' h
    have hvi : app u' i = v := by rw [hup.before hc.1 (by omega) (Nat.lt_succ_self i), step_at hc hi hu h2]
    have hst := sim_step hc hi hp hu hs
    rcases Nat.eq_or_lt_of_le hik with rfl | hlt
    · rw [hvi]; exact vals_head_le h1 hst.1
    · have e : app p i = v := by rw [ha i (Nat.le_refl _) hlt, hvi]
      have h3 := hst.2
      rw [e] at h3
      exact ih (i + 1) _ (by omega) hsp h3 u' h k hlt hk fun j hj hjk => ha j (by omega) hjk
/-- p does not precede the least of its coset. -/
theorem minR_least (hc : Chain n T 0 G) {p x : List Nat} (hp : IsP n p) (h : minR n T p = some x) {k : Nat} (hk : k < n) (ha : ∀ j, j < k → app p j = app x j) : app x k ≤ app p k :=
  min_least hc hp n 0 p (by omega) hp (Sim.refl hc.1 (Nat.zero_le _) hp) x h k (Nat.zero_le _) hk fun j _ hj => ha j hj
/-! Strong generators. -/
theorem one_chain (hc : Chain n T 0 G) : Chain n (fun i y => if i = y then some (idp n) else T i y) 0 G := by
  refine ⟨hc.1, hc.2.1, fun j h0 hj => ⟨fun y t ht => ?_, fun g hg hf => ?_⟩⟩
  · dsimp only at ht
    by_cases e : j = y
    · rw [if_pos e] at ht
      injection ht with ht
      subst ht e
      exact ⟨hc.1.2.1, Fix.idp (by omega), app_idp hj⟩
    · rw [if_neg e] at ht
      exact (hc.2.2 j h0 hj).1 y t ht
  · dsimp only
    by_cases e : j = app g j
    · rw [if_pos e]; rfl
    · rw [if_neg e]
      exact (hc.2.2 j h0 hj).2 g hg hf
theorem sgR_mem (hc : Chain n T 0 G) : ∀ u, u ∈ sgR n T → G u := by
  intro u hu
  unfold sgR at hu
  rw [List.mem_flatMap] at hu
  obtain ⟨i, -, hu⟩ := hu
  rw [List.mem_filterMap] at hu
  obtain ⟨y, -, hu⟩ := hu
  by_cases h : i < y
  · rw [if_pos h] at hu
    exact preR_mem hc hu
  · rw [if_neg h] at hu
    cases hu
theorem sgR_gen (hc : Chain n T 0 G) (x : List Nat) : GenL n (sgR n T) x ↔ G x := by
  have hle : ∀ g, GenL n (sgR n T) g → G g := fun g h => Gen.le hc.1 (sgR_mem hc) h
  have hS : ∀ s, s ∈ sgR n T → IsP n s := fun s hs => hc.1.1 s (sgR_mem hc s hs)
  refine ⟨hle x, fun h => ?_⟩
  have hc2 := tabOf_chain (GenL.sub hS)
  refine chain_all n 0 (by omega) hc2 hc hle (fun j h0 hj y hy e => ?_) x h
  rw [hc2.some_iff h0 hj]
  have hyo : y ∈ orb n T j := mem_orb.2 ⟨hy, e⟩
  have hge := orb_ge hc hj hyo
  rcases Nat.eq_or_lt_of_le hge with rfl | hlt
  · exact ⟨idp n, hc2.1.2.1, Fix.idp (by omega), app_idp hj⟩
  · have h1 := one_chain hc
    rw [orb_eq hc h1 hj] at hyo
    obtain ⟨u, hu⟩ := (pre_orb h1 (fun j _ => if_pos rfl) hj).2 hyo
    rw [preR_eq h1 hc] at hu
    refine ⟨u, GenL.of ?_, fun i hi => ?_, ?_⟩
    · unfold sgR
      rw [List.mem_flatMap]
      refine ⟨j, List.mem_range.2 hj, ?_⟩
      rw [List.mem_filterMap]
      exact ⟨y, List.mem_range.2 hy, by rw [if_pos hlt]; exact hu⟩
    · have := preR_at hc hu (j := i) (by omega) (by rw [idTo_len]; omega)
      rw [idTo_before hi] at this
      omega
    · have := preR_at hc hu (j := j) hj (by rw [idTo_len]; omega)
      rw [idTo_at] at this
      omega
theorem sgR_ord (hc : Chain n T 0 G) (hc' : Chain n T' 0 (GenL n (sgR n T))) {i : Nat} (hi : i ≤ n) : ordG n T' i = ordG n T i := by
  have e : GenL n (sgR n T) = G := funext fun x => propext (sgR_gen hc x)
  rw [e] at hc'
  exact ordG_eq hc' hc hi
end
end Grp
end
section
open Go.RowKit Grp

theorem implIn (C N : Nat) (T : Tab) (v : Value) (p : List Nat) (w : World) {G : List Nat → Prop} {ok' : Nat → Prop} (hC : CI w C N T) (hc : Chain N T 0 G) (hv : PermV ok' w v N p) (hp : IsP N p) (h0 : 0 < N) (hN : N ≤ 20) {b : Bool} (hb : b = true ↔ G p) :
    Calls Try.prog 94 #[.pointer (some ⟨C, 0, none⟩), .int .i64 0, v] w (ReadsBool b w) := by
  obtain ⟨B, s, Gs, h1, h2⟩ := hC
  have h := implHas B N C 0 s T Gs v p w h1 h2 hv hp (fun i y t _ hi ht => hc.1.1 t ((hc.2.2 i (Nat.zero_le _) hi).1 y t ht).1) (Nat.zero_le _) h0 hN
  have e : sift T 0 (N - 0) p = b := by
    have := sift_iff N 0 (by omega) hc hp (fun i hi => absurd hi (Nat.not_lt_zero _))
    rw [Nat.sub_zero]
    cases b with
    | true => exact this.2 (hb.1 rfl)
    | false =>
      cases hs : sift T 0 N p with
      | false => rfl
      | true => exact absurd (hb.2 (this.1 hs)) (by simp)
  rw [e] at h
  exact h
set_option maxRecDepth 100000 in
set_option maxHeartbeats 1000000 in
theorem specIn (C N : Nat) (T : Tab) (v : Value) (p : List Nat) (w : World) {G : List Nat → Prop} {ok' : Nat → Prop} (hC : CS w C N T) (hc : Chain N T 0 G) (hv : PermV ok' w v N p) (hp : IsP N p) (h0 : 0 < N) (hN : N ≤ 20) {b : Bool} (hb : b = true ↔ G p) :
    Calls Try.prog 96 #[.pointer (some ⟨C, 0, none⟩), v] w (ReadsBool b w) := by
  obtain ⟨s, t0, -, -, -⟩ := hC.cells
  have hCl : C < w.heap.size := by obtain ⟨B, s, Gs, h1, h2⟩ := hC; exact row_lt h1
  have hS : Calls Try.prog 136 #[.pointer (some ⟨C, 0, none⟩), .int .i64 0, v] w (SiftPost N b w) := by
    obtain ⟨B, s, Gs, h1, h2⟩ := hC
    have h := specSift B N C 0 s T Gs v p w h1 h2 hv hp (fun i y t _ hi ht => hc.1.1 t ((hc.2.2 i (Nat.zero_le _) hi).1 y t ht).1) (Nat.zero_le _) h0 hN
    have e : sift T 0 (N - 0) p = b := by
      have := sift_iff N 0 (by omega) hc hp (fun i hi => absurd hi (Nat.not_lt_zero _))
      rw [Nat.sub_zero]
      cases b with
      | true => exact this.2 (hb.1 rfl)
      | false =>
        cases hs : sift T 0 N p with
        | false => rfl
        | true => exact absurd (hb.2 (this.1 hs)) (by simp)
    rw [e] at h
    exact h
  have HS := Lib.hid hS
  clear hS hC hc hv hp hb
  go_enter Try.func96, Try.ntmps96
  go_wp2_with fail
  refine HS.out.mono ?_
  rintro e w1 ⟨v1, k, rfl, hk, hb1⟩
  have t1 : w1.cell? ⟨C, 0, none⟩ = some (.int .i64 (N : Int)) := (hb1.cell (p := ⟨C, 0, none⟩) hCl).trans t0
  clear t0 HS
  have hkb : ((k : Int) == (N : Int)) = b := by
    cases b with
    | true => simp only [beq_iff_eq]; have := hk.2 rfl; omega
    | false =>
      simp only [beq_eq_false_iff_ne, ne_eq]
      intro e
      have := hk.1 (by omega)
      simp at this
  have HKB := Lib.hid hkb
  clear hkb hk
  go_wp2_with fail
  go_ret
  exact ⟨ret_bool HKB.out, hb1⟩
noncomputable def ismQ (n : Int) (ls : List (List Int)) (xs : List Int) : Bool := okQ n ls xs && decide (lmpR n.toNat (tQ n ls) (toN xs) = n.toNat)
theorem ismQ_no {n : Int} {ls : List (List Int)} {xs : List Int} (h : okQ n ls xs = false) : ismQ n ls xs = false := by unfold ismQ; rw [h]; rfl
theorem ismQ_yes {N : Nat} {ps : List (List Nat)} {p : List Nat} (h : okQ (N : Int) (ps.map natI) (natI p) = true) : ismQ (N : Int) (ps.map natI) (natI p) = decide (lmpR N (gT N ps) p = N) := by
  unfold ismQ
  rw [h, tQ_eq, toN_natI]
  simp
theorem ismQ_iff {N : Nat} {ps : List (List Nat)} {p : List Nat} (hP : ∀ q, q ∈ ps → IsP N q) (hp : IsP N p) (h : okQ (N : Int) (ps.map natI) (natI p) = true) : ismQ (N : Int) (ps.map natI) (natI p) = true ↔ GenL N ps p := by
  rw [ismQ_yes h, decide_eq_true_iff]
  exact lmpR_full (gT_chain hP) hp
set_option maxRecDepth 100000 in
set_option maxHeartbeats 4000000 in
theorem implIsmNo (n : Int) (g c : Nat) (ls : List (List Int)) (A : Option Addr) (c' : Nat) (xs : List Int) (w : World) (h : LAt w (some ⟨g, 0, none⟩) ls) (hl : ls.length ≤ 1048576) (hs : ShortL ls) (hx : IntsAt w A xs) (hxl : xs.length ≤ 1048576) (hno : okQ n ls xs = false) :
    Calls Try.prog 43 #[.int .i64 n, .slice (some ⟨g, 0, none⟩) ls.length c, .slice A xs.length c'] w (ReadsBool false w) := by
  have HX := Lib.hid hx
  have HG0 := Lib.hid (implGs (some ⟨g, 0, none⟩) c n ls w h hl hs)
  clear h hs hx
  cases hgs : gsQ n ls with
  | false =>
    rw [hgs] at HG0
    clear hgs hno
    go_enter Try.func43, Try.ntmps43
    go_wp2_with (first | (go_at_call 73; refine HG0.out.mono ?_; rintro e w1 ⟨rfl, hB1⟩))
    go_ret
    exact ⟨rfl, hB1⟩
  | true =>
    have hbad : badL n xs = true := by unfold okQ at hno; rw [hgs] at hno; simpa using hno
    rw [hgs] at HG0
    by_cases hlen : (xs.length : Int) = n
    · have hpm : permQ xs = false := by rw [badL_perm hlen] at hbad; simpa using hbad
      have HP : Hid (∀ wx : World, IntsAt wx A xs → Calls Try.prog 75 #[.slice A xs.length c'] wx fun e w' => e = .returned (.bool false) ∧ wx = w') := fun wx hx => by have := implPerm A c' xs wx hx hxl; rwa [hpm] at this
      clear hgs hno hbad hpm
      subst hlen
      go_enter Try.func43, Try.ntmps43
      go_wp2_with (first | (go_at_call 73; refine HG0.out.mono ?_; rintro e w1 ⟨rfl, hB1⟩) | (go_at_call 74; refine (implLength _ _ _ _).mono ?_; rintro e w' ⟨rfl, rfl⟩) | (go_at_call 75; refine (HP.out _ (by exact HX.out.below hB1)).mono ?_; rintro e w' ⟨rfl, rfl⟩))
      go_ret
      exact ⟨rfl, hB1⟩
    · have hle : ((xs.length : Int) == n) = false := by simpa using hlen
      clear hgs hno hbad
      go_enter Try.func43, Try.ntmps43
      go_wp2_with (first | (go_at_call 73; refine HG0.out.mono ?_; rintro e w1 ⟨rfl, hB1⟩) | (go_at_call 74; refine (implLength _ _ _ _).mono ?_; rintro e w' ⟨rfl, rfl⟩))
      go_ret
      exact ⟨rfl, hB1⟩
set_option maxRecDepth 100000 in
set_option maxHeartbeats 4000000 in
theorem specIsmNo (n : Int) (g c : Nat) (ls : List (List Int)) (A : Option Addr) (c' : Nat) (xs : List Int) (w : World) (h : LAt w (some ⟨g, 0, none⟩) ls) (hl : ls.length ≤ 1048576) (hs : ShortL ls) (hx : IntsAt w A xs) (hxl : xs.length ≤ 1048576) (hxc : xs.length ≤ c') (hno : okQ n ls xs = false) :
    Calls Try.prog 44 #[.int .i64 n, .slice (some ⟨g, 0, none⟩) ls.length c, .slice A xs.length c'] w (ReadsBool false w) := by
  have HX := Lib.hid hx
  have HG0 := Lib.hid (specGs (some ⟨g, 0, none⟩) c n ls w h hl hs)
  clear h hs hx
  cases hgs : gsQ n ls with
  | false =>
    rw [hgs] at HG0
    clear hgs hno
    go_enter Try.func44, Try.ntmps44
    go_wp2_with (first | (go_at_call 53; refine HG0.out.mono ?_; rintro e w1 ⟨rfl, n1, rfl⟩))
    go_ret
    exact ⟨rfl, belowDrewN (Below.refl _ _) _⟩
  | true =>
    have hbad : badL n xs = true := by unfold okQ at hno; rw [hgs] at hno; simpa using hno
    rw [hgs] at HG0
    by_cases hlen : (xs.length : Int) = n
    · have hpm : permQ xs = false := by rw [badL_perm hlen] at hbad; simpa using hbad
      have HP : Hid (∀ wx : World, IntsAt wx A xs → Calls Try.prog 95 #[.slice A xs.length c'] wx (Quiet (.bool false) wx)) := fun wx hx => by have := specPerm A c' xs wx hx hxl hxc; rwa [hpm] at this
      clear hgs hno hbad hpm
      subst hlen
      go_enter Try.func44, Try.ntmps44
      go_wp2_with (first | (go_at_call 53; refine HG0.out.mono ?_; rintro e w1 ⟨rfl, n1, rfl⟩) | (go_at_call 95; refine (HP.out _ (by exact HX.out)).mono ?_; rintro e w2 ⟨rfl, n2, rfl⟩))
      go_ret
      exact ⟨rfl, belowDrewN (Below.refl _ _) _⟩
    · have hle : ((xs.length : Int) == n) = false := by simpa using hlen
      clear hgs hno hbad
      go_enter Try.func44, Try.ntmps44
      go_wp2_with (first | (go_at_call 53; refine HG0.out.mono ?_; rintro e w1 ⟨rfl, n1, rfl⟩))
      go_ret
      exact ⟨rfl, belowDrewN (Below.refl _ _) _⟩
/-- The list lies in memory, and wholly in blocks of its own where it is a list of generators of degree n. -/
def LMay (n : Int) (w : World) (g : Nat) (ls : List (List Int)) : Prop := LAt w (some ⟨g, 0, none⟩) ls ∧ (gsQ n ls = true → LOwn w g ls)
theorem LMay.below {n : Int} {w w' : World} {g : Nat} {ls : List (List Int)} (h : LMay n w g ls) (hb : Below w.heap.size w w') : LMay n w' g ls := ⟨h.1.below hb, fun e => (h.2 e).below hb⟩
theorem LOwn.may {n : Int} {w : World} {g : Nat} {ls : List (List Int)} (h : LOwn w g ls) : LMay n w g ls := ⟨h.at_, fun _ => h⟩
/-- A list of numbers, wholly in a block of its own where the lists ls are generators of degree n and it has n members. -/
def IMay (n : Int) (ls : List (List Int)) (w : World) (A : Option Addr) (c : Nat) (xs : List Int) : Prop := IntsAt w A xs ∧ xs.length ≤ c ∧ (gsQ n ls = true → (xs.length : Int) = n → Fresh 0 w (.slice A xs.length c) xs)
theorem IMay.below {n : Int} {ls : List (List Int)} {w w' : World} {A : Option Addr} {c : Nat} {xs : List Int} (h : IMay n ls w A c xs) (hb : Below w.heap.size w w') : IMay n ls w' A c xs := ⟨h.1.below hb, h.2.1, fun e e2 => (h.2.2 e e2).below hb⟩
theorem okQ_gs {n : Int} {ls : List (List Int)} {xs : List Int} (h : okQ n ls xs = true) : gsQ n ls = true ∧ (xs.length : Int) = n := by
  unfold okQ at h
  simp only [Bool.and_eq_true, Bool.not_eq_true'] at h
  refine ⟨h.1, ?_⟩
  apply Classical.byContradiction
  intro e
  rw [badL_len e] at h
  simp at h
set_option maxRecDepth 100000 in
set_option maxHeartbeats 4000000 in
theorem implIsm (n : Int) (g c : Nat) (ls : List (List Int)) (A : Option Addr) (c' : Nat) (xs : List Int) (w : World) (h : LMay n w g ls) (hl : ls.length ≤ 1048576) (hs : ShortL ls) (hx : IMay n ls w A c' xs) (hxl : xs.length ≤ 1048576) :
    Calls Try.prog 43 #[.int .i64 n, .slice (some ⟨g, 0, none⟩) ls.length c, .slice A xs.length c'] w (ReadsBool (ismQ n ls xs) w) := by
  cases hok : okQ n ls xs with
  | false => rw [ismQ_no hok]; exact implIsmNo n g c ls A c' xs w h.1 hl hs hx.1 hxl hok
  | true =>
    have hLO := h.2 (okQ_gs hok).1
    have hFX := hx.2.2 (okQ_gs hok).1 (okQ_gs hok).2
    obtain ⟨N, ps, p, rfl, h0, hN, rfl, h8, hP, rfl, hp, hgs, hbad⟩ := okQ_open hok
    have hiff := ismQ_iff hP hp hok
    obtain ⟨b0, hb0⟩ : ∃ b0, ismQ (N : Int) (ps.map natI) (natI p) = b0 := ⟨_, rfl⟩
    rw [hb0] at hiff
    rw [hb0]
    have hpm := okQ_perm hp hbad
    have hg0 := implGs (some ⟨g, 0, none⟩) c (N : Int) (ps.map natI) w h.1 hl hs
    rw [hgs] at hg0
    have hm : (ps.map natI).length = ps.length := List.length_map ..
    have hpl : (natI p).length = N := by rw [natI_len, hp.len]
    have hpp := fun (wx : World) (hx : IntsAt wx A (natI p)) => implPerm A c' (natI p) wx hx hxl
    rw [hpm] at hpp
    have hpv : PermV (fun _ => True) w (.slice A (natI p).length c') N p := hFX.perm hp.len h0 (fun _ _ _ => trivial)
    rw [hpl] at hpp hpv
    rw [hm] at hg0
    rw [hm, hpl]
    have HG0 := Lib.hid hg0
    have HPP := Lib.hid hpp
    have HL := Lib.hid hLO
    have HX := Lib.hid hx.1
    have HP := Lib.hid hP
    have HIP := Lib.hid hp
    have HPV := Lib.hid hpv
    have HIFF := Lib.hid hiff
    clear hok hbad hgs hpm hg0 hpp h hs hx hP hl hxl hm hpl hpv hiff hb0 hLO hFX
    go_enter Try.func43, Try.ntmps43
    go_wp2_with (first
      | (go_at_call 73; refine HG0.out.mono ?_; rintro e w1 ⟨rfl, hB1⟩)
      | (go_at_call 74; refine (implLength _ _ _ _).mono ?_; rintro e w' ⟨rfl, rfl⟩)
      | (go_at_call 75; refine (HPP.out _ (by exact HX.out.below hB1)).mono ?_; rintro e w' ⟨rfl, rfl⟩)
      | (go_at_call 76; refine (newI N ps g ps.length c _ (by exact HL.out.below hB1) rfl HP.out h0 hN h8).mono ?_; rintro e w2 ⟨C, T, rfl, hC, hc, hone, hb2⟩
          ; have HC := Lib.hid hC; have HCH := Lib.hid hc; have hB2 := belowStep hb2 hB1; clear hC hc hone hb2)
      | (go_at_call 94; refine (implIn C N _ _ p _ HC.out HCH.out (by exact HPV.out.keep (KeepI.below hB2)) HIP.out h0 hN HIFF.out).mono ?_; rintro e w3 ⟨rfl, hb3⟩))
    go_ret
    exact ⟨rfl, belowStep hb3 hB2⟩
set_option maxRecDepth 100000 in
set_option maxHeartbeats 4000000 in
theorem specIsm (n : Int) (g c : Nat) (ls : List (List Int)) (A : Option Addr) (c' : Nat) (xs : List Int) (w : World) (h : LMay n w g ls) (hl : ls.length ≤ 1048576) (hs : ShortL ls) (hx : IMay n ls w A c' xs) (hxl : xs.length ≤ 1048576) :
    Calls Try.prog 44 #[.int .i64 n, .slice (some ⟨g, 0, none⟩) ls.length c, .slice A xs.length c'] w (ReadsBool (ismQ n ls xs) w) := by
  cases hok : okQ n ls xs with
  | false => rw [ismQ_no hok]; exact specIsmNo n g c ls A c' xs w h.1 hl hs hx.1 hxl hx.2.1 hok
  | true =>
    have hLO := h.2 (okQ_gs hok).1
    have hFX := hx.2.2 (okQ_gs hok).1 (okQ_gs hok).2
    obtain ⟨N, ps, p, rfl, h0, hN, rfl, h8, hP, rfl, hp, hgs, hbad⟩ := okQ_open hok
    have hiff := ismQ_iff hP hp hok
    obtain ⟨b0, hb0⟩ : ∃ b0, ismQ (N : Int) (ps.map natI) (natI p) = b0 := ⟨_, rfl⟩
    rw [hb0] at hiff
    rw [hb0]
    have hpm := okQ_perm hp hbad
    have hg0 := specGs (some ⟨g, 0, none⟩) c (N : Int) (ps.map natI) w h.1 hl hs
    rw [hgs] at hg0
    have hm : (ps.map natI).length = ps.length := List.length_map ..
    have hpl : (natI p).length = N := by rw [natI_len, hp.len]
    have hxc := hx.2.1
    have hpp := fun (wx : World) (hx : IntsAt wx A (natI p)) => specPerm A c' (natI p) wx hx hxl hxc
    rw [hpm] at hpp
    have hpv : PermV (fun _ => True) w (.slice A (natI p).length c') N p := hFX.perm hp.len h0 (fun _ _ _ => trivial)
    rw [hpl] at hpp hpv
    rw [hm] at hg0
    rw [hm, hpl]
    have HG0 := Lib.hid hg0
    have HPP := Lib.hid hpp
    have HL := Lib.hid hLO
    have HX := Lib.hid hx.1
    have HP := Lib.hid hP
    have HIP := Lib.hid hp
    have HPV := Lib.hid hpv
    have HIFF := Lib.hid hiff
    clear hok hbad hgs hpm hg0 hpp h hs hx hP hl hxl hm hpl hpv hiff hb0 hLO hFX hxc
    go_enter Try.func44, Try.ntmps44
    go_wp2_with (first
      | (go_at_call 53; refine HG0.out.mono ?_; rintro e w0 ⟨rfl, n0, rfl⟩)
      | (go_at_call 95; refine (HPP.out _ (by exact HX.out)).mono ?_; rintro e w1 ⟨rfl, n1, rfl⟩)
      | (go_at_call 71; refine (newS N ps g ps.length c _ (by exact HL.out.below (belowDrewN (Below.refl _ _) _)) rfl HP.out h0 hN h8).mono ?_; rintro e w2 ⟨C, T, rfl, hC, hc, hone, hb2⟩
          ; have HC := Lib.hid hC; have HCH := Lib.hid hc; have hB2 := belowStep hb2 (belowDrewN (Below.refl w.heap.size w) _); clear hC hc hone hb2)
      | (go_at_call 96; refine (specIn C N _ _ p _ HC.out HCH.out (by exact HPV.out.keep (KeepI.below hB2)) HIP.out h0 hN HIFF.out).mono ?_; rintro e w3 ⟨rfl, hb3⟩))
    go_ret
    exact ⟨rfl, belowStep hb3 hB2⟩
/-! Cosets. -/
noncomputable def scQ (n : Int) (ls : List (List Int)) (ps qs : List Int) : Bool := okQ n ls ps && (okQ n ls qs && decide (cosQ n ls ps = cosQ n ls qs))
theorem scQ_no1 {n : Int} {ls : List (List Int)} {ps qs : List Int} (h : okQ n ls ps = false) : scQ n ls ps qs = false := by unfold scQ; rw [h]; rfl
theorem scQ_no2 {n : Int} {ls : List (List Int)} {ps qs : List Int} (h : okQ n ls qs = false) : scQ n ls ps qs = false := by unfold scQ; rw [h]; simp
theorem scQ_yes {n : Int} {ls : List (List Int)} {ps qs : List Int} (h : okQ n ls ps = true) (h2 : okQ n ls qs = true) : scQ n ls ps qs = decide (cosQ n ls ps = cosQ n ls qs) := by unfold scQ; rw [h, h2]; rfl
theorem scQ_iff {N : Nat} {l : List (List Nat)} {p q : List Nat} (hP : ∀ s, s ∈ l → IsP N s) (hp : IsP N p) (hq : IsP N q) (h : okQ (N : Int) (l.map natI) (natI p) = true) (h2 : okQ (N : Int) (l.map natI) (natI q) = true) : scQ (N : Int) (l.map natI) (natI p) (natI q) = true ↔ GenL N l (comp q (inv p)) := by
  rw [scQ_yes h h2, decide_eq_true_iff, cosQ_yes h, cosQ_yes h2]
  obtain ⟨x, hx, -⟩ := minR_some (gT_chain hP) hp
  obtain ⟨y, hy, -⟩ := minR_some (gT_chain hP) hq
  rw [hx, hy]
  exact min_coset (gT_chain hP) hp hq hx hy
set_option maxRecDepth 3000 in
set_option maxHeartbeats 1000000 in
theorem implAre (A B : Option Addr) (c d : Nat) (xs ys : List Int) (w : World) (hx : IntsAt w A xs) (hy : IntsAt w B ys) (hxl : xs.length ≤ 1048576) (hyl : ys.length ≤ 1048576) :
    Calls Try.prog 102 #[.slice A xs.length c, .slice B ys.length d] w fun e w' => e = .returned (.bool (decide (xs.length = ys.length) && (permQ xs && permQ ys))) ∧ w = w' := by
  have h1 := implPerm A c xs w hx hxl
  have h2 := implPerm B d ys w hy hyl
  obtain ⟨b1, hb1⟩ : ∃ b1, permQ xs = b1 := ⟨_, rfl⟩
  obtain ⟨b2, hb2⟩ : ∃ b2, permQ ys = b2 := ⟨_, rfl⟩
  rw [hb1] at h1 ⊢
  rw [hb2] at h2 ⊢
  have H1 := Lib.hid h1
  have H2 := Lib.hid h2
  clear h1 h2 hb1 hb2 hx hy
  by_cases hl : xs.length = ys.length
  · have hd : decide (xs.length = ys.length) = true := decide_eq_true hl
    rw [hd]
    have he : ((xs.length : Int) == (ys.length : Int)) = true := by simp only [beq_iff_eq]; omega
    clear hd hl
    cases b1
    · go_enter Try.func102, Try.ntmps102
      go_wp2_with (first | (go_at_call 75; refine H1.out.mono ?_; rintro e w1 ⟨rfl, rfl⟩))
      go_ret
      exact ⟨rfl, rfl⟩
    · go_enter Try.func102, Try.ntmps102
      go_wp2_with fail
      refine H1.out.mono ?_
      rintro e w1 ⟨rfl, rfl⟩
      go_wp2_with fail
      refine H2.out.mono ?_
      rintro e w1 ⟨rfl, rfl⟩
      go_wp2_with fail
      go_ret
      exact ⟨rfl, rfl⟩
  · have hd : decide (xs.length = ys.length) = false := decide_eq_false hl
    rw [hd]
    have he : ((xs.length : Int) == (ys.length : Int)) = false := by simp; omega
    clear hd hl
    go_enter Try.func102, Try.ntmps102
    go_wp2_with fail
    go_ret
    exact ⟨rfl, rfl⟩
theorem okQ_bad {n : Int} {ls : List (List Int)} {xs : List Int} (h : okQ n ls xs = false) (hg : gsQ n ls = true) : badL n xs = true := by unfold okQ at h; rw [hg] at h; simpa using h
/-- Of two lists, one is no permutation of the degree. -/
theorem areNo {n : Int} {ls : List (List Int)} {ps qs : List Int} (hg : gsQ n ls = true) (hl : (ps.length : Int) = n) (hno : okQ n ls ps = false ∨ okQ n ls qs = false) : (decide (ps.length = qs.length) && (permQ ps && permQ qs)) = false := by
  rcases hno with h | h
  · have hb := okQ_bad h hg
    rw [badL_perm hl] at hb
    have : permQ ps = false := by simpa using hb
    rw [this]; simp
  · have hb := okQ_bad h hg
    by_cases e : ps.length = qs.length
    · rw [badL_perm (by omega)] at hb
      have : permQ qs = false := by simpa using hb
      rw [this]; simp
    · rw [decide_eq_false e]; rfl
set_option maxRecDepth 100000 in
set_option maxHeartbeats 4000000 in
theorem implScNo (n : Int) (g c : Nat) (ls : List (List Int)) (A B : Option Addr) (c' d' : Nat) (ps qs : List Int) (w : World) (h : LAt w (some ⟨g, 0, none⟩) ls) (hl : ls.length ≤ 1048576) (hs : ShortL ls) (hx : IntsAt w A ps) (hy : IntsAt w B qs) (hxl : ps.length ≤ 1048576) (hyl : qs.length ≤ 1048576) (hno : okQ n ls ps = false ∨ okQ n ls qs = false) :
    Calls Try.prog 48 #[.int .i64 n, .slice (some ⟨g, 0, none⟩) ls.length c, .slice A ps.length c', .slice B qs.length d'] w (ReadsBool false w) := by
  have HX := Lib.hid hx
  have HY := Lib.hid hy
  have HG0 := Lib.hid (implGs (some ⟨g, 0, none⟩) c n ls w h hl hs)
  clear h hs hx hy
  cases hgs : gsQ n ls with
  | false =>
    rw [hgs] at HG0
    clear hgs hno
    go_enter Try.func48, Try.ntmps48
    go_wp2_with (first | (go_at_call 73; refine HG0.out.mono ?_; rintro e w1 ⟨rfl, hB1⟩))
    go_ret
    exact ⟨rfl, hB1⟩
  | true =>
    rw [hgs] at HG0
    by_cases hlen : (ps.length : Int) = n
    · have ha := areNo hgs hlen hno
      have HP : Hid (∀ wx : World, IntsAt wx A ps → IntsAt wx B qs → Calls Try.prog 102 #[.slice A ps.length c', .slice B qs.length d'] wx fun e w' => e = .returned (.bool false) ∧ wx = w') := fun wx hx hy => by have := implAre A B c' d' ps qs wx hx hy hxl hyl; rwa [ha] at this
      clear hgs hno ha
      subst hlen
      go_enter Try.func48, Try.ntmps48
      go_wp2_with (first | (go_at_call 73; refine HG0.out.mono ?_; rintro e w1 ⟨rfl, hB1⟩) | (go_at_call 74; refine (implLength _ _ _ _).mono ?_; rintro e w' ⟨rfl, rfl⟩) | (go_at_call 102; refine (HP.out _ (by exact HX.out.below hB1) (by exact HY.out.below hB1)).mono ?_; rintro e w' ⟨rfl, rfl⟩))
      go_ret
      exact ⟨rfl, hB1⟩
    · have hle : ((ps.length : Int) == n) = false := by simpa using hlen
      clear hgs hno
      go_enter Try.func48, Try.ntmps48
      go_wp2_with (first | (go_at_call 73; refine HG0.out.mono ?_; rintro e w1 ⟨rfl, hB1⟩) | (go_at_call 74; refine (implLength _ _ _ _).mono ?_; rintro e w' ⟨rfl, rfl⟩))
      go_ret
      exact ⟨rfl, hB1⟩
set_option maxRecDepth 100000 in
set_option maxHeartbeats 4000000 in
theorem specScNo (n : Int) (g c : Nat) (ls : List (List Int)) (A B : Option Addr) (c' d' : Nat) (ps qs : List Int) (w : World) (h : LAt w (some ⟨g, 0, none⟩) ls) (hl : ls.length ≤ 1048576) (hs : ShortL ls) (hx : IntsAt w A ps) (hy : IntsAt w B qs) (hxl : ps.length ≤ 1048576) (hyl : qs.length ≤ 1048576) (hxc : ps.length ≤ c') (hyc : qs.length ≤ d') (hno : okQ n ls ps = false ∨ okQ n ls qs = false) :
    Calls Try.prog 49 #[.int .i64 n, .slice (some ⟨g, 0, none⟩) ls.length c, .slice A ps.length c', .slice B qs.length d'] w (ReadsBool false w) := by
  have HG0 := Lib.hid (specGs (some ⟨g, 0, none⟩) c n ls w h hl hs)
  have HPX := Lib.hid (fun (wx : World) (hx : IntsAt wx A ps) => specPermOf A c' n ps wx hx hxl hxc)
  have HPY := Lib.hid (fun (wx : World) (hy : IntsAt wx B qs) => specPermOf B d' n qs wx hy hyl hyc)
  have HX := Lib.hid hx
  have HY := Lib.hid hy
  clear h hs hx hy
  cases hgs : gsQ n ls with
  | false =>
    rw [hgs] at HG0
    clear hgs hno
    go_enter Try.func49, Try.ntmps49
    go_wp2_with (first | (go_at_call 53; refine HG0.out.mono ?_; rintro e w1 ⟨rfl, n1, rfl⟩))
    go_ret
    exact ⟨rfl, belowDrewN (Below.refl _ _) _⟩
  | true =>
    rw [hgs] at HG0
    cases hbx : badL n ps with
    | true =>
      rw [hbx] at HPX
      clear hgs hno hbx HPY
      go_enter Try.func49, Try.ntmps49
      go_wp2_with (first | (go_at_call 53; refine HG0.out.mono ?_; rintro e w1 ⟨rfl, n1, rfl⟩) | (go_at_call 69; refine (HPX.out _ (by exact HX.out)).mono ?_; rintro e w2 ⟨rfl, n2, rfl⟩))
      go_ret
      exact ⟨rfl, belowDrewN (Below.refl _ _) _⟩
    | false =>
      have hby : badL n qs = true := by
        rcases hno with h | h
        · have := okQ_bad h hgs; rw [hbx] at this; cases this
        · exact okQ_bad h hgs
      rw [hbx] at HPX
      rw [hby] at HPY
      clear hgs hno hbx hby
      go_enter Try.func49, Try.ntmps49
      go_wp2_with fail
      refine HG0.out.mono ?_
      rintro e w1 ⟨rfl, n1, rfl⟩
      go_wp2_with fail
      refine (HPX.out _ (by exact HX.out)).mono ?_
      rintro e w2 ⟨rfl, n2, rfl⟩
      go_wp2_with fail
      refine (HPY.out _ (by exact HY.out)).mono ?_
      rintro e w3 ⟨rfl, n3, rfl⟩
      go_wp2_with fail
      go_ret
      exact ⟨rfl, belowDrewN (Below.refl _ _) _⟩
set_option maxRecDepth 100000 in
set_option maxHeartbeats 4000000 in
theorem implSc (n : Int) (g c : Nat) (ls : List (List Int)) (A B : Option Addr) (c' d' : Nat) (xs ys : List Int) (w : World) (h : LMay n w g ls) (hl : ls.length ≤ 1048576) (hs : ShortL ls) (hx : IMay n ls w A c' xs) (hy : IMay n ls w B d' ys) (hxl : xs.length ≤ 1048576) (hyl : ys.length ≤ 1048576) :
    Calls Try.prog 48 #[.int .i64 n, .slice (some ⟨g, 0, none⟩) ls.length c, .slice A xs.length c', .slice B ys.length d'] w (ReadsBool (scQ n ls xs ys) w) := by
  cases hok : okQ n ls xs with
  | false => rw [scQ_no1 hok]; exact implScNo n g c ls A B c' d' xs ys w h.1 hl hs hx.1 hy.1 hxl hyl (.inl hok)
  | true =>
  cases hok2 : okQ n ls ys with
  | false => rw [scQ_no2 hok2]; exact implScNo n g c ls A B c' d' xs ys w h.1 hl hs hx.1 hy.1 hxl hyl (.inr hok2)
  | true =>
    have hLO := h.2 (okQ_gs hok).1
    obtain ⟨N, ps, p, rfl, h0, hN, rfl, h8, hP, rfl, hp, hgs, hbad⟩ := okQ_open hok
    have hbad2 : badL (N : Int) ys = false := by
      have := hok2
      unfold okQ at this
      simp only [Bool.and_eq_true, Bool.not_eq_true'] at this
      exact this.2
    obtain ⟨q, rfl, hq⟩ := bad_open hbad2
    have hiff := scQ_iff hP hp hq hok hok2
    obtain ⟨b0, hb0⟩ : ∃ b0, scQ (N : Int) (ps.map natI) (natI p) (natI q) = b0 := ⟨_, rfl⟩
    rw [hb0] at hiff
    rw [hb0]
    have hpm := okQ_perm hp hbad
    have hqm := okQ_perm hq hbad2
    have hg0 := implGs (some ⟨g, 0, none⟩) c (N : Int) (ps.map natI) w h.1 hl hs
    rw [hgs] at hg0
    have hm : (ps.map natI).length = ps.length := List.length_map ..
    have hpl : (natI p).length = N := by rw [natI_len, hp.len]
    have hql : (natI q).length = N := by rw [natI_len, hq.len]
    have hpp := fun (wx : World) (hx : IntsAt wx A (natI p)) (hy : IntsAt wx B (natI q)) => implAre A B c' d' (natI p) (natI q) wx hx hy hxl hyl
    rw [hpm, hqm, hpl, hql, decide_eq_true (rfl : N = N)] at hpp
    rw [hm] at hg0
    rw [hm, hpl, hql]
    have HG0 := Lib.hid hg0
    have HPP := Lib.hid hpp
    have HL := Lib.hid hLO
    have HX := Lib.hid hx.1
    have HY := Lib.hid hy.1
    have HP := Lib.hid hP
    have HIP := Lib.hid hp
    have HIQ := Lib.hid hq
    have HIFF := Lib.hid hiff
    clear hok hok2 hbad hbad2 hgs hpm hqm hg0 hpp h hs hx hy hP hl hxl hyl hm hpl hql hiff hb0 hLO
    go_enter Try.func48, Try.ntmps48
    go_wp2_with (first
      | (go_at_call 73; refine HG0.out.mono ?_; rintro e w1 ⟨rfl, hB1⟩)
      | (go_at_call 74; refine (implLength _ _ _ _).mono ?_; rintro e w' ⟨rfl, rfl⟩)
      | (go_at_call 102; refine (HPP.out _ (by exact HX.out.below hB1) (by exact HY.out.below hB1)).mono ?_; rintro e w' ⟨rfl, rfl⟩)
      | (go_at_call 76; refine (newI N ps g ps.length c _ (by exact HL.out.below hB1) rfl HP.out h0 hN h8).mono ?_; rintro e w2 ⟨C, T, rfl, hC, hc, hone, hb2⟩
          ; have HC := Lib.hid hC; have HCH := Lib.hid hc; have hB2 := belowStep hb2 hB1; clear hC hc hone hb2)
      | (go_at_call 104; refine (implInverse A c' N p _ (by exact HX.out.below hB2) HIP.out (by omega)).mono ?_; rintro e w3 ⟨v3, rfl, hF3, hb3⟩
          ; obtain ⟨A3, c3, rfl, hI3, -⟩ := hF3.ints; rw [natI_len, HIP.out.inv.len]; have HI3 := Lib.hid hI3; have hB3 := belowStep hb3 hB2; have HC3 := Lib.hid (HC.out.below hb3); clear hF3 hI3)
      | (go_at_call 103; refine (implCompose B A3 d' c3 N q (inv p) _ (by exact HY.out.below hB3) HI3.out HIQ.out.len HIP.out.inv.len (by omega) (fun i hi => HIQ.out.lt hi)).mono ?_; rintro e w4 ⟨v4, rfl, hF4, hb4⟩
          ; have HPV := Lib.hid (hF4.perm (ok := fun _ => True) (by rw [comp_len, HIQ.out.len]) h0 (fun _ _ _ => trivial)); have hB4 := belowStep hb4 hB3; have HC4 := Lib.hid (HC3.out.below hb4); clear hF4)
      | (go_at_call 94; refine (implIn C N _ _ (comp q (inv p)) _ HC4.out HCH.out HPV.out (HIQ.out.comp HIP.out.inv) h0 hN HIFF.out).mono ?_; rintro e w5 ⟨rfl, hb5⟩))
    go_ret
    exact ⟨rfl, belowStep hb5 hB4⟩
set_option maxRecDepth 100000 in
set_option maxHeartbeats 4000000 in
theorem specSc (n : Int) (g c : Nat) (ls : List (List Int)) (A B : Option Addr) (c' d' : Nat) (xs ys : List Int) (w : World) (h : LMay n w g ls) (hl : ls.length ≤ 1048576) (hs : ShortL ls) (hx : IMay n ls w A c' xs) (hy : IMay n ls w B d' ys) (hxl : xs.length ≤ 1048576) (hyl : ys.length ≤ 1048576) :
    Calls Try.prog 49 #[.int .i64 n, .slice (some ⟨g, 0, none⟩) ls.length c, .slice A xs.length c', .slice B ys.length d'] w (ReadsBool (scQ n ls xs ys) w) := by
  cases hok : okQ n ls xs with
  | false => rw [scQ_no1 hok]; exact specScNo n g c ls A B c' d' xs ys w h.1 hl hs hx.1 hy.1 hxl hyl hx.2.1 hy.2.1 (.inl hok)
  | true =>
  cases hok2 : okQ n ls ys with
  | false => rw [scQ_no2 hok2]; exact specScNo n g c ls A B c' d' xs ys w h.1 hl hs hx.1 hy.1 hxl hyl hx.2.1 hy.2.1 (.inr hok2)
  | true =>
    have hLO := h.2 (okQ_gs hok).1
    obtain ⟨N, ps, p, rfl, h0, hN, rfl, h8, hP, rfl, hp, hgs, hbad⟩ := okQ_open hok
    have hbad2 : badL (N : Int) ys = false := by
      have := hok2
      unfold okQ at this
      simp only [Bool.and_eq_true, Bool.not_eq_true'] at this
      exact this.2
    obtain ⟨q, rfl, hq⟩ := bad_open hbad2
    have hiff := scQ_iff hP hp hq hok hok2
    obtain ⟨b0, hb0⟩ : ∃ b0, scQ (N : Int) (ps.map natI) (natI p) (natI q) = b0 := ⟨_, rfl⟩
    rw [hb0] at hiff
    rw [hb0]
    have hg0 := specGs (some ⟨g, 0, none⟩) c (N : Int) (ps.map natI) w h.1 hl hs
    rw [hgs] at hg0
    have hm : (ps.map natI).length = ps.length := List.length_map ..
    have hpl : (natI p).length = N := by rw [natI_len, hp.len]
    have hql : (natI q).length = N := by rw [natI_len, hq.len]
    have hxc := hx.2.1
    have hyc := hy.2.1
    have hpx := fun (wx : World) (hx : IntsAt wx A (natI p)) => specPermOf A c' (N : Int) (natI p) wx hx hxl hxc
    have hpy := fun (wx : World) (hy : IntsAt wx B (natI q)) => specPermOf B d' (N : Int) (natI q) wx hy hyl hyc
    rw [hbad, hpl] at hpx
    rw [hbad2, hql] at hpy
    rw [hm] at hg0
    rw [hm, hpl, hql]
    have HG0 := Lib.hid hg0
    have HPX := Lib.hid hpx
    have HPY := Lib.hid hpy
    have HL := Lib.hid hLO
    have HX := Lib.hid hx.1
    have HY := Lib.hid hy.1
    have HP := Lib.hid hP
    have HIP := Lib.hid hp
    have HIQ := Lib.hid hq
    have HIFF := Lib.hid hiff
    clear hok hok2 hbad hbad2 hgs hg0 hpx hpy h hs hx hy hP hl hxl hyl hm hpl hql hiff hb0 hLO hxc hyc
    go_enter Try.func49, Try.ntmps49
    go_wp2_with fail
    refine HG0.out.mono ?_
    rintro e w0 ⟨rfl, n0, rfl⟩
    go_wp2_with fail
    refine (HPX.out _ (by exact HX.out)).mono ?_
    rintro e w1 ⟨rfl, n1, rfl⟩
    go_wp2_with fail
    refine (HPY.out _ (by exact HY.out)).mono ?_
    rintro e w1 ⟨rfl, n2, rfl⟩
    go_wp2_with (first
      | (go_at_call 71; refine (newS N ps g ps.length c _ (by exact HL.out.below (belowDrewN (Below.refl _ _) _)) rfl HP.out h0 hN h8).mono ?_; rintro e w2 ⟨C, T, rfl, hC, hc, hone, hb2⟩
          ; have HC := Lib.hid hC; have HCH := Lib.hid hc; have hB2 := belowStep hb2 (belowDrewN (Below.refl w.heap.size w) _); clear hC hc hone hb2)
      | (go_at_call 105; refine (specInverse A c' N p _ (by exact HX.out.below hB2) HIP.out (by omega)).mono ?_; rintro e w3 ⟨v3, rfl, hF3, hb3⟩
          ; obtain ⟨A3, c3, rfl, hI3, -⟩ := hF3.ints; rw [natI_len, HIP.out.inv.len]; have HI3 := Lib.hid hI3; have hB3 := belowStep hb3 hB2; have HC3 := Lib.hid (HC.out.below hb3); clear hF3 hI3)
      | (go_at_call 98; refine (specCompose B A3 d' c3 N q (inv p) _ (by exact HY.out.below hB3) HI3.out HIQ.out.len HIP.out.inv.len (by omega) (fun i hi => HIQ.out.lt hi)).mono ?_; rintro e w4 ⟨v4, rfl, hF4, hb4⟩
          ; have HPV := Lib.hid (hF4.perm (ok := fun _ => True) (by rw [comp_len, HIQ.out.len]) h0 (fun _ _ _ => trivial)); have hB4 := belowStep hb4 hB3; have HC4 := Lib.hid (HC3.out.below hb4); clear hF4)
      | (go_at_call 96; refine (specIn C N _ _ (comp q (inv p)) _ HC4.out HCH.out HPV.out (HIQ.out.comp HIP.out.inv) h0 hN HIFF.out).mono ?_; rintro e w5 ⟨rfl, hb5⟩))
    go_ret
    exact ⟨rfl, belowStep hb5 hB4⟩
end
end Go.Proofs.Ytpcnbjfkobeibaa
