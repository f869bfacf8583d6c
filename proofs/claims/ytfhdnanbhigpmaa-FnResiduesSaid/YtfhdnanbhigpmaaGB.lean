/- Plain laws on permutations as lists of numbers: composition, inverses, groups, stabilizer chains and Schreier's lemma. No program is named here. Plain laws: what is computed down a stabilizer chain does not depend on the representatives. No program is named here. Plain laws: how a chain is built by adding permutations, level by level. No program is named here. -/
import Derived.WalkKit
namespace Go.Proofs.Ytfhdnanbhigpmaa
section
namespace Grp

def app (p : List Nat) (i : Nat) : Nat := p.getD i 0
def comp (p q : List Nat) : List Nat := p.map (app q)
def idp (n : Nat) : List Nat := List.range n
def inv (p : List Nat) : List Nat := (List.range p.length).map fun y => p.idxOf y

/-- p is a permutation of the points below n. -/
def IsP (n : Nat) (p : List Nat) : Prop := p.length = n ∧ (∀ i, i < n → app p i < n) ∧ ∀ i j, i < n → j < n → app p i = app p j → i = j

/-- An injection of the numbers below n into themselves hits each of them. -/
theorem onto_of_inj : ∀ (n : Nat) (f : Nat → Nat), (∀ i, i < n → f i < n) → (∀ i j, i < n → j < n → f i = f j → i = j) → ∀ y, y < n → ∃ i, i < n ∧ f i = y := by
  intro n
  induction n with
  | zero => intro f _ _ y hy; omega
  | succ n ih =>
    intro f hf hi y hy
    have hm := hf n (by omega)
    have hg1 : ∀ i, i < n → (if f i = n then f n else f i) < n := by
      intro i hin
      have h1 := hf i (by omega)
      split
      · rename_i h
        have : f n ≠ n := fun h2 => by have := hi i n (by omega) (by omega) (by rw [h, h2]); omega
        omega
      · omega
    have hg2 : ∀ i j, i < n → j < n → (if f i = n then f n else f i) = (if f j = n then f n else f j) → i = j := by
      intro i j hin hjn h
      by_cases h1 : f i = n
      · by_cases h2 : f j = n
        · exact hi i j (by omega) (by omega) (by rw [h1, h2])
        · rw [if_pos h1, if_neg h2] at h
          have := hi n j (by omega) (by omega) h
          omega
      · by_cases h2 : f j = n
        · rw [if_neg h1, if_pos h2] at h
          have := hi i n (by omega) (by omega) h
          omega
        · rw [if_neg h1, if_neg h2] at h
          exact hi i j (by omega) (by omega) h
    have hs := ih (fun i => if f i = n then f n else f i) hg1 hg2
    by_cases hym : y = f n
    · exact ⟨n, by omega, hym.symm⟩
    · by_cases hyn : y = n
      · obtain ⟨i, hin, hgi⟩ := hs (f n) (by omega)
        skip
        split at hgi
        · rename_i h; exact ⟨i, by omega, by omega⟩
        · have := hi i n (by omega) (by omega) hgi; omega
      · obtain ⟨i, hin, hgi⟩ := hs y (by omega)
        skip
        split at hgi
        · omega
        · exact ⟨i, by omega, hgi⟩

section
variable {n : Nat} {p q r : List Nat}
theorem IsP.len (h : IsP n p) : p.length = n := h.1
theorem IsP.lt (h : IsP n p) {i : Nat} (hi : i < n) : app p i < n := h.2.1 i hi
theorem IsP.inj (h : IsP n p) {i j : Nat} (hi : i < n) (hj : j < n) (e : app p i = app p j) : i = j := h.2.2 i j hi hj e
theorem IsP.onto (h : IsP n p) {y : Nat} (hy : y < n) : ∃ i, i < n ∧ app p i = y := onto_of_inj n (app p) h.2.1 h.2.2 y hy
theorem app_get (hi : r.length = n) {i : Nat} (h : i < n) : app r i = r[i]'(by omega) := by
  have : i < r.length := by omega
  simp [app, List.getD_eq_getElem?_getD, this]
theorem ext_app (hp : p.length = n) (hq : q.length = n) (h : ∀ i, i < n → app p i = app q i) : p = q := by
  refine List.ext_getElem (by omega) fun i h1 h2 => ?_
  have := h i (by omega)
  rwa [app_get hp (by omega), app_get hq (by omega)] at this
theorem comp_len : (comp p q).length = p.length := by simp [comp]
theorem app_comp {i : Nat} (hi : i < p.length) : app (comp p q) i = app q (app p i) := by simp [app, comp, List.getD_eq_getElem?_getD, hi]
theorem idp_len : (idp n).length = n := by simp [idp]
theorem app_idp {i : Nat} (hi : i < n) : app (idp n) i = i := by simp [app, idp, List.getD_eq_getElem?_getD, hi]
theorem inv_len : (inv p).length = p.length := by simp [inv]
theorem app_inv {y : Nat} (hy : y < p.length) : app (inv p) y = p.idxOf y := by simp [app, inv, List.getD_eq_getElem?_getD, hy]
theorem IsP.mem (h : IsP n p) {y : Nat} (hy : y < n) : y ∈ p := by
  obtain ⟨i, hi, e⟩ := h.onto hy
  rw [← e, app_get h.len hi]
  exact List.getElem_mem _
theorem IsP.inv_lt (h : IsP n p) {y : Nat} (hy : y < n) : app (inv p) y < n := by
  rw [app_inv (by rw [h.len]; exact hy)]
  have := List.idxOf_lt_length_of_mem (h.mem hy)
  rwa [h.len] at this
theorem IsP.app_inv_self (h : IsP n p) {y : Nat} (hy : y < n) : app p (app (inv p) y) = y := by
  have hl := List.idxOf_lt_length_of_mem (h.mem hy)
  rw [app_inv (by rw [h.len]; exact hy), app_get h.len (by rw [← h.len]; exact hl)]
  exact List.getElem_idxOf hl
theorem IsP.inv_app_self (h : IsP n p) {i : Nat} (hi : i < n) : app (inv p) (app p i) = i :=
  h.inj (h.inv_lt (h.lt hi)) hi (h.app_inv_self (h.lt hi))
theorem IsP.idp : IsP n (idp n) := ⟨idp_len, fun i hi => by rw [app_idp hi]; exact hi, fun i j hi hj e => by rwa [app_idp hi, app_idp hj] at e⟩
theorem IsP.comp (hp : IsP n p) (hq : IsP n q) : IsP n (comp p q) :=
  ⟨by rw [comp_len, hp.len], fun i hi => by rw [app_comp (by rw [hp.len]; exact hi)]; exact hq.lt (hp.lt hi),
    fun i j hi hj e => by
      rw [app_comp (by rw [hp.len]; exact hi), app_comp (by rw [hp.len]; exact hj)] at e
      exact hp.inj hi hj (hq.inj (hp.lt hi) (hp.lt hj) e)⟩
theorem IsP.inv (hp : IsP n p) : IsP n (inv p) :=
  ⟨by rw [inv_len, hp.len], fun i hi => hp.inv_lt hi, fun i j hi hj e => by
    have := congrArg (app p) e
    rwa [hp.app_inv_self hi, hp.app_inv_self hj] at this⟩
theorem IsP.appc (hp : IsP n p) {i : Nat} (hi : i < n) : app (Grp.comp p q) i = app q (app p i) := app_comp (by rw [hp.len]; exact hi)
theorem comp_assoc (hp : IsP n p) (hq : IsP n q) (_hr : IsP n r) : comp (comp p q) r = comp p (comp q r) := by
  refine ext_app (n := n) (by rw [comp_len, comp_len, hp.len]) (by rw [comp_len, hp.len]) fun i hi => ?_
  rw [(hp.comp hq).appc hi, hp.appc hi, hp.appc hi, hq.appc (hp.lt hi)]
theorem comp_idp (hp : IsP n p) : comp p (idp n) = p := by
  refine ext_app (n := n) (by rw [comp_len, hp.len]) hp.len fun i hi => ?_
  rw [hp.appc hi, app_idp (hp.lt hi)]
theorem idp_comp (hp : IsP n p) : comp (idp n) p = p := by
  refine ext_app (n := n) (by rw [comp_len, idp_len]) hp.len fun i hi => ?_
  rw [IsP.idp.appc hi, app_idp hi]
theorem comp_inv (hp : IsP n p) : comp p (inv p) = idp n := by
  refine ext_app (n := n) (by rw [comp_len, hp.len]) idp_len fun i hi => ?_
  rw [hp.appc hi, hp.inv_app_self hi, app_idp hi]
theorem inv_comp (hp : IsP n p) : comp (inv p) p = idp n := by
  refine ext_app (n := n) (by rw [comp_len, inv_len, hp.len]) idp_len fun i hi => ?_
  rw [hp.inv.appc hi, hp.app_inv_self hi, app_idp hi]
theorem inv_inv (hp : IsP n p) : inv (inv p) = p := by
  have h1 : comp (comp (inv (inv p)) (inv p)) p = comp (inv (inv p)) (comp (inv p) p) := comp_assoc hp.inv.inv hp.inv hp
  rw [inv_comp hp.inv, inv_comp hp, idp_comp hp, comp_idp hp.inv.inv] at h1
  exact h1.symm
theorem inv_of_comp (hp : IsP n p) (hq : IsP n q) : inv (comp p q) = comp (inv q) (inv p) := by
  refine ext_app (n := n) (by rw [inv_len, comp_len, hp.len]) (by rw [comp_len, inv_len, hq.len]) fun i hi => ?_
  refine (hp.comp hq).inj ((hp.comp hq).inv_lt hi) ?_ ?_
  · rw [hq.inv.appc hi]; exact hp.inv_lt (hq.inv_lt hi)
  · rw [(hp.comp hq).app_inv_self hi, hq.inv.appc hi, hp.appc (hp.inv_lt (hq.inv_lt hi)), hp.app_inv_self (hq.inv_lt hi), hq.app_inv_self hi]
end

/-- A set of permutations that is a group. -/
def Sub (n : Nat) (H : List Nat → Prop) : Prop := (∀ p, H p → IsP n p) ∧ H (idp n) ∧ (∀ p q, H p → H q → H (comp p q)) ∧ ∀ p, H p → H (inv p)
/-- The group that a set generates: the least group that holds it. -/
def Gen (n : Nat) (S : List Nat → Prop) (p : List Nat) : Prop := ∀ H, Sub n H → (∀ s, S s → H s) → H p
def Fix (k : Nat) (p : List Nat) : Prop := ∀ i, i < k → app p i = i
def Stab (G : List Nat → Prop) (k : Nat) (p : List Nat) : Prop := G p ∧ Fix k p

theorem Sub.all (n : Nat) : Sub n (IsP n) := ⟨fun _ h => h, IsP.idp, fun _ _ h1 h2 => h1.comp h2, fun _ h => h.inv⟩
theorem Gen.sub {n : Nat} {S : List Nat → Prop} (hS : ∀ s, S s → IsP n s) : Sub n (Gen n S) :=
  ⟨fun _ h => h _ (Sub.all n) hS, fun _ hH _ => hH.2.1, fun p q hp hq H hH hs => hH.2.2.1 p q (hp H hH hs) (hq H hH hs), fun p hp H hH hs => hH.2.2.2 p (hp H hH hs)⟩
theorem Gen.of {n : Nat} {S : List Nat → Prop} {s : List Nat} (h : S s) : Gen n S s := fun _ _ hs => hs s h
theorem Gen.le {n : Nat} {S : List Nat → Prop} {H : List Nat → Prop} (hH : Sub n H) (hs : ∀ s, S s → H s) {p : List Nat} (h : Gen n S p) : H p := h H hH hs
theorem Fix.mono {k l : Nat} {p : List Nat} (h : Fix l p) (hk : k ≤ l) : Fix k p := fun i hi => h i (by omega)
theorem Fix.comp {n k : Nat} {p q : List Nat} (hp : IsP n p) (hk : k ≤ n) (h1 : Fix k p) (h2 : Fix k q) : Fix k (comp p q) := fun i hi => by rw [hp.appc (by omega), h1 i hi, h2 i hi]
theorem Fix.inv {n k : Nat} {p : List Nat} (hp : IsP n p) (hk : k ≤ n) (h1 : Fix k p) : Fix k (inv p) := fun i hi => by
  have := hp.inv_app_self (i := i) (by omega)
  rwa [h1 i hi] at this
theorem Fix.idp {n k : Nat} (hk : k ≤ n) : Fix k (idp n) := fun i hi => app_idp (by omega)
theorem Stab.sub {n k : Nat} {G : List Nat → Prop} (h : Sub n G) (hk : k ≤ n) : Sub n (Stab G k) :=
  ⟨fun p hp => h.1 p hp.1, ⟨h.2.1, Fix.idp hk⟩, fun p q hp hq => ⟨h.2.2.1 p q hp.1 hq.1, hp.2.comp (h.1 p hp.1) hk hq.2⟩, fun p hp => ⟨h.2.2.2 p hp.1, hp.2.inv (h.1 p hp.1) hk⟩⟩
theorem Fix.all {n : Nat} {p : List Nat} (hp : IsP n p) (h : Fix n p) : p = Grp.idp n := ext_app hp.len idp_len fun i hi => by rw [h i hi, app_idp hi]

/-- T holds, from level k on, a representative for each point of each orbit of the stabilizers of G, and no others. -/
def Chain (n : Nat) (T : Nat → Nat → Option (List Nat)) (k : Nat) (G : List Nat → Prop) : Prop :=
  Sub n G ∧ (∀ g, G g → Fix k g) ∧ ∀ j, k ≤ j → j < n → (∀ y t, T j y = some t → G t ∧ Fix j t ∧ app t j = y) ∧ ∀ g, G g → Fix j g → (T j (app g j)).isSome = true

/-- Division by representatives from a level on: does nothing remain? -/
def sift (T : Nat → Nat → Option (List Nat)) (k : Nat) : Nat → List Nat → Bool
  | 0, _ => true
  | m + 1, p => match T k (app p k) with
    | none => false
    | some t => sift T (k + 1) m (comp p (inv t))

theorem Chain.next {n k : Nat} {T : Nat → Nat → Option (List Nat)} {G : List Nat → Prop} (h : Chain n T k G) (hk : k < n) : Chain n T (k + 1) (Stab G (k + 1)) := by
  obtain ⟨h1, h2, h3⟩ := h
  refine ⟨Stab.sub h1 (by omega), fun g hg => hg.2, fun j hkj hjn => ?_⟩
  obtain ⟨ha, hb⟩ := h3 j (by omega) hjn
  refine ⟨fun y t e => ?_, fun g hg hf => hb g hg.1 hf⟩
  obtain ⟨x1, x2, x3⟩ := ha y t e
  exact ⟨⟨x1, x2.mono hkj⟩, x2, x3⟩

theorem sift_iff {n : Nat} {T : Nat → Nat → Option (List Nat)} : ∀ (m k : Nat) {G : List Nat → Prop} {p : List Nat}, m + k = n → Chain n T k G → IsP n p → Fix k p → (sift T k m p = true ↔ G p) := by
  intro m
  induction m with
  | zero =>
    intro k G p hm hc hp hf
    have : p = idp n := Fix.all hp (by rwa [show n = k from by omega])
    subst this
    simp only [sift, true_iff]
    exact hc.1.2.1
  | succ m ih =>
    intro k G p hm hc hp hf
    obtain ⟨h1, h2, h3⟩ := hc
    obtain ⟨ha, hb⟩ := h3 k (Nat.le_refl _) (by omega)
    unfold sift
    cases hT : T k (app p k) with
    | none =>
      simp only [Bool.false_eq_true, false_iff]
      intro hG
      have := hb p hG hf
      rw [hT] at this
      cases this
    | some t =>
      obtain ⟨x1, x2, x3⟩ := ha _ t hT
      have ht := h1.1 t x1
      have hq : IsP n (comp p (inv t)) := hp.comp ht.inv
      have hfq : Fix (k + 1) (comp p (inv t)) := by
        intro i hi
        rw [hp.appc (by omega)]
        rcases Nat.lt_or_ge i k with h | h
        · rw [hf i h, x2.inv ht (by omega) i h]
        · obtain rfl : i = k := by omega
          rw [← x3, ht.inv_app_self (by omega)]
      dsimp only
      rw [ih (k + 1) (by omega) (Chain.next ⟨h1, h2, h3⟩ (by omega)) hq hfq]
      constructor
      · intro h
        have : comp (comp p (inv t)) t = p := by rw [comp_assoc hp ht.inv ht, inv_comp ht, comp_idp hp]
        rw [← this]
        exact h1.2.2.1 _ _ h.1 x1
      · intro h
        exact ⟨h1.2.2.1 _ _ h (h1.2.2.2 _ x1), hfq⟩

/-- SCHREIER: a level whose representatives are closed under the generators, and whose Schreier generators lie in the next group, makes a chain. -/
theorem schreier {n k : Nat} {T : Nat → Nat → Option (List Nat)} {S G' : List Nat → Prop} (hk : k < n) (hS : ∀ s, S s → IsP n s ∧ Fix k s) (hc : Chain n T (k + 1) G') (hle : ∀ g, G' g → Gen n S g)
    (hid : T k k = some (idp n)) (hT : ∀ y t, T k y = some t → Gen n S t ∧ app t k = y) (hcl : ∀ y t s, T k y = some t → S s → ∃ t', T k (app s y) = some t' ∧ G' (comp (comp t s) (inv t'))) : Chain n T k (Gen n S) := by
  have hG : Sub n (Gen n S) := Gen.sub fun s h => (hS s h).1
  have hfix : ∀ g, Gen n S g → Fix k g := fun g hg =>
    (hg (Stab (IsP n) k) (Stab.sub (Sub.all n) (by omega)) fun s hs => ⟨(hS s hs).1, (hS s hs).2⟩).2
  have hTP : ∀ y t, T k y = some t → IsP n t := fun y t e => hG.1 t (hT y t e).1
  have hTy : ∀ y t, T k y = some t → y < n := fun y t e => by rw [← (hT y t e).2]; exact (hTP y t e).lt hk
  have hG' := hc.1
  -- the set of the permutations that keep the orbit and whose Schreier generators lie in the next group
  have hH : Sub n (fun p => IsP n p ∧ ∀ y t, T k y = some t → ∃ t', T k (app p y) = some t' ∧ G' (comp (comp t p) (inv t'))) := by
    refine ⟨fun p h => h.1, ⟨IsP.idp, fun y t e => ⟨t, by rw [app_idp (hTy y t e)]; exact e, ?_⟩⟩, fun p q hp hq => ⟨hp.1.comp hq.1, fun y t e => ?_⟩, fun p hp => ⟨hp.1.inv, fun y t e => ?_⟩⟩
    · rw [comp_idp (hTP y t e), comp_inv (hTP y t e)]
      exact hG'.2.1
    · obtain ⟨t1, e1, g1⟩ := hp.2 y t e
      obtain ⟨t2, e2, g2⟩ := hq.2 _ t1 e1
      refine ⟨t2, by rw [hp.1.appc (hTy y t e)]; exact e2, ?_⟩
      have ht := hTP y t e
      have ht1 := hTP _ t1 e1
      have ht2 := hTP _ t2 e2
      have hp1 := hp.1
      have hq1 := hq.1
      have := hG'.2.2.1 _ _ g1 g2
      have e3 : comp (comp (comp t p) (inv t1)) (comp (comp t1 q) (inv t2)) = comp (comp t (comp p q)) (inv t2) := by
        rw [comp_assoc (ht.comp hp1) ht1.inv ((ht1.comp hq1).comp ht2.inv), ← comp_assoc ht1.inv (ht1.comp hq1) ht2.inv, ← comp_assoc ht1.inv ht1 hq1, inv_comp ht1, idp_comp hq1,
          ← comp_assoc (ht.comp hp1) hq1 ht2.inv, comp_assoc ht hp1 hq1]
      rwa [e3] at this
    · -- the point that p moves to y lies in the orbit
      have hp1 := hp.1
      have hy := hTy y t e
      have hf1 : ∀ i, i < n → (if (T k i).isSome then app p i else i) < n := fun i hi => by
        split
        · exact hp1.lt hi
        · exact hi
      have hf2 : ∀ i j, i < n → j < n → (if (T k i).isSome then app p i else i) = (if (T k j).isSome then app p j else j) → i = j := by
        intro i j hi hj h
        cases hi2 : T k i with
        | none =>
          cases hj2 : T k j with
          | none => simpa [hi2, hj2] using h
          | some tj =>
            simp [hi2, hj2] at h
            obtain ⟨t', e', _⟩ := hp.2 j tj hj2
            rw [← h, hi2] at e'
            cases e'
        | some ti =>
          cases hj2 : T k j with
          | none =>
            simp [hi2, hj2] at h
            obtain ⟨t', e', _⟩ := hp.2 i ti hi2
            rw [h, hj2] at e'
            cases e'
          | some tj =>
            simp [hi2, hj2] at h
            exact hp1.inj hi hj h
      obtain ⟨z, hz, hzy⟩ := onto_of_inj n _ hf1 hf2 y hy
      cases hz2 : T k z with
      | none => simp [hz2] at hzy; rw [hzy, e] at hz2; cases hz2
      | some tz =>
        simp [hz2] at hzy
        obtain ⟨t', e', g'⟩ := hp.2 z tz hz2
        rw [hzy, e] at e'
        injection e' with e'
        subst e'
        have htz := hTP z tz hz2
        have ht := hTP y t e
        refine ⟨tz, by rw [← hzy, hp1.inv_app_self hz]; exact hz2, ?_⟩
        have := hG'.2.2.2 _ g'
        rw [inv_of_comp (htz.comp hp1) ht.inv, inv_inv ht, inv_of_comp htz hp1, ← comp_assoc ht hp1.inv htz.inv] at this
        exact this
  have hin : ∀ g, Gen n S g → ∀ y t, T k y = some t → ∃ t', T k (app g y) = some t' ∧ G' (comp (comp t g) (inv t')) := fun g hg =>
    (hg _ hH fun s hs => ⟨(hS s hs).1, fun y t e => hcl y t s e hs⟩).2
  have hst : ∀ g, Gen n S g → Fix (k + 1) g → G' g := by
    intro g hg hf
    obtain ⟨t', e', h'⟩ := hin g hg k _ hid
    rw [hf k (by omega), hid] at e'
    injection e' with e'
    subst e'
    have hgp := hG.1 g hg
    have hi : inv (idp n) = idp n := by
      have := comp_inv (p := idp n) IsP.idp
      rwa [idp_comp IsP.idp.inv] at this
    rwa [idp_comp hgp, hi, comp_idp hgp] at h'
  refine ⟨hG, hfix, fun j hkj hjn => ?_⟩
  rcases Nat.eq_or_lt_of_le hkj with e | hlt
  · subst e
    refine ⟨fun y t e => ⟨(hT y t e).1, hfix t (hT y t e).1, (hT y t e).2⟩, fun g hg _ => ?_⟩
    obtain ⟨t', e', _⟩ := hin g hg k _ hid
    rw [e']
    rfl
  · obtain ⟨ha, hb⟩ := hc.2.2 j hlt hjn
    exact ⟨fun y t e => ⟨hle t (ha y t e).1, (ha y t e).2⟩, fun g hg hf => hb g (hst g hg (hf.mono (by omega))) hf⟩
end Grp
end
section
namespace Grp

def Sim (G : List Nat → Prop) (i : Nat) (u u' : List Nat) : Prop := ∃ g, G g ∧ Fix i g ∧ u = comp g u'
/-- The values that entry i can have, ascending. -/
def vals (n : Nat) (T : Nat → Nat → Option (List Nat)) (i : Nat) (u : List Nat) : List Nat := (List.range n).filter fun v => (T i (app (inv u) v)).isSome
/-- The entry i gets the value v. -/
def step (T : Nat → Nat → Option (List Nat)) (i : Nat) (u : List Nat) (v : Nat) : List Nat := match T i (app (inv u) v) with
  | some t => comp t u
  | none => u
/-- A walk down the levels: at each level an act sees the possible values and gives a value, or ends the walk. -/
def walkG {α : Type} (n : Nat) (T : Nat → Nat → Option (List Nat)) (act : Nat → List Nat → α → α × Option Nat) : Nat → Nat → List Nat → α → α × Option (List Nat)
  | 0, _, u, a => (a, some u)
  | m + 1, i, u, a => match act i (vals n T i u) a with
    | (a', none) => (a', none)
    | (a', some v) => if v ∈ vals n T i u then walkG n T act m (i + 1) (step T i u v) a' else (a', none)

section
variable {n : Nat} {T T' : Nat → Nat → Option (List Nat)} {G : List Nat → Prop}
theorem isSome_iff (hc : Chain n T 0 G) {i : Nat} (hi : i < n) {u : List Nat} (hu : IsP n u) {v : Nat} (hv : v < n) :
    (T i (app (inv u) v)).isSome = true ↔ ∃ g, G g ∧ Fix i g ∧ app (comp g u) i = v := by
  obtain ⟨ha, hb⟩ := hc.2.2 i (Nat.zero_le _) hi
  constructor
  · intro h
    cases hT : T i (app (inv u) v) with
    | none => rw [hT] at h; cases h
    | some t =>
      obtain ⟨x1, x2, x3⟩ := ha _ t hT
      refine ⟨t, x1, x2, ?_⟩
      rw [(hc.1.1 t x1).appc hi, x3, hu.app_inv_self hv]
  · rintro ⟨g, hg, hf, e⟩
    have hgp := hc.1.1 g hg
    rw [hgp.appc hi] at e
    rw [← e, hu.inv_app_self (hgp.lt hi)]
    exact hb g hg hf
theorem Sim.refl (hG : Sub n G) {i : Nat} (hi : i ≤ n) {u : List Nat} (hu : IsP n u) : Sim G i u u := ⟨idp n, hG.2.1, Fix.idp hi, (idp_comp hu).symm⟩
theorem Sim.symm (hG : Sub n G) {i : Nat} (hi : i ≤ n) {u u' : List Nat} (hu' : IsP n u') (h : Sim G i u u') : Sim G i u' u := by
  obtain ⟨g, h1, h2, rfl⟩ := h
  have hg := hG.1 g h1
  refine ⟨inv g, hG.2.2.2 g h1, h2.inv hg hi, ?_⟩
  rw [← comp_assoc hg.inv hg hu', inv_comp hg, idp_comp hu']
theorem Sim.isSome (hc : Chain n T 0 G) (hc' : Chain n T' 0 G) {i : Nat} (hi : i < n) {u u' : List Nat} (hu : IsP n u) (hu' : IsP n u') (h : Sim G i u u') {v : Nat} (hv : v < n) :
    (T i (app (inv u) v)).isSome = (T' i (app (inv u') v)).isSome := by
  rw [Bool.eq_iff_iff, isSome_iff hc hi hu hv, isSome_iff hc' hi hu' hv]
  have key : ∀ {a b : List Nat}, IsP n b → Sim G i a b → (∃ g, G g ∧ Fix i g ∧ app (comp g a) i = v) → ∃ g, G g ∧ Fix i g ∧ app (comp g b) i = v := by
    rintro a b hb ⟨h, h1, h2, rfl⟩ ⟨g, g1, g2, e⟩
    have hg := hc.1.1 g g1
    have hh := hc.1.1 h h1
    exact ⟨comp g h, hc.1.2.2.1 _ _ g1 h1, g2.comp hg (by omega) h2, by rw [comp_assoc hg hh hb]; exact e⟩
  exact ⟨key hu' h, key hu (h.symm hc.1 (by omega) hu')⟩
theorem vals_eq (hc : Chain n T 0 G) (hc' : Chain n T' 0 G) {i : Nat} (hi : i < n) {u u' : List Nat} (hu : IsP n u) (hu' : IsP n u') (h : Sim G i u u') : vals n T i u = vals n T' i u' := by
  unfold vals
  refine List.filter_congr fun v hv => ?_
  exact Sim.isSome hc hc' hi hu hu' h (List.mem_range.1 hv)
theorem mem_vals {i : Nat} {u : List Nat} {v : Nat} : v ∈ vals n T i u ↔ v < n ∧ (T i (app (inv u) v)).isSome = true := by simp [vals]
theorem step_some {i : Nat} {u : List Nat} {v : Nat} (h : v ∈ vals n T i u) : ∃ t, T i (app (inv u) v) = some t ∧ step T i u v = comp t u := by
  obtain ⟨_, h2⟩ := mem_vals.1 h
  cases hT : T i (app (inv u) v) with
  | none => rw [hT] at h2; cases h2
  | some t => exact ⟨t, rfl, by rw [step, hT]⟩
theorem step_isP (hc : Chain n T 0 G) {i : Nat} (hi : i < n) {u : List Nat} (hu : IsP n u) {v : Nat} (h : v ∈ vals n T i u) : IsP n (step T i u v) := by
  obtain ⟨t, e, e2⟩ := step_some h
  rw [e2]
  exact (hc.1.1 t ((hc.2.2 i (Nat.zero_le _) hi).1 _ t e).1).comp hu
theorem step_at (hc : Chain n T 0 G) {i : Nat} (hi : i < n) {u : List Nat} (hu : IsP n u) {v : Nat} (h : v ∈ vals n T i u) : app (step T i u v) i = v := by
  obtain ⟨t, e, e2⟩ := step_some h
  obtain ⟨x1, x2, x3⟩ := (hc.2.2 i (Nat.zero_le _) hi).1 _ t e
  rw [e2, (hc.1.1 t x1).appc hi, x3, hu.app_inv_self (mem_vals.1 h).1]
theorem step_before (hc : Chain n T 0 G) {i : Nat} (hi : i < n) {u : List Nat} {v : Nat} (h : v ∈ vals n T i u) {j : Nat} (hj : j < i) : app (step T i u v) j = app u j := by
  obtain ⟨t, e, e2⟩ := step_some h
  obtain ⟨x1, x2, x3⟩ := (hc.2.2 i (Nat.zero_le _) hi).1 _ t e
  rw [e2, (hc.1.1 t x1).appc (by omega), x2 j hj]
theorem step_sim (hc : Chain n T 0 G) (hc' : Chain n T' 0 G) {i : Nat} (hi : i < n) {u u' : List Nat} (hu : IsP n u) (hu' : IsP n u') (h : Sim G i u u') {v : Nat} (hv : v ∈ vals n T i u) : Sim G (i + 1) (step T i u v) (step T' i u' v) := by
  have hv' : v ∈ vals n T' i u' := by rw [← vals_eq hc hc' hi hu hu' h]; exact hv
  have hat := step_at hc hi hu hv
  have hat' := step_at hc' hi hu' hv'
  obtain ⟨t, e, e2⟩ := step_some hv
  obtain ⟨t', e', e2'⟩ := step_some hv'
  obtain ⟨x1, x2, x3⟩ := (hc.2.2 i (Nat.zero_le _) hi).1 _ t e
  obtain ⟨y1, y2, y3⟩ := (hc'.2.2 i (Nat.zero_le _) hi).1 _ t' e'
  obtain ⟨g, g1, g2, rfl⟩ := h
  have ht := hc.1.1 t x1
  have ht' := hc.1.1 t' y1
  have hg := hc.1.1 g g1
  rw [e2] at hat ⊢
  rw [e2'] at hat' ⊢
  have hM : IsP n (comp (comp t g) (inv t')) := (ht.comp hg).comp ht'.inv
  refine ⟨comp (comp t g) (inv t'), hc.1.2.2.1 _ _ (hc.1.2.2.1 _ _ x1 g1) (hc.1.2.2.2 _ y1), fun j hj => ?_, ?_⟩
  · rw [(ht.comp hg).appc (by omega), ht.appc (by omega)]
    rcases Nat.lt_or_ge j i with hlt | hge
    · rw [x2 j hlt, g2 j hlt, y2.inv ht' (by omega) j hlt]
    · obtain rfl : j = i := by omega
      -- both come to v through u'
      rw [ht.appc hi, hg.appc (ht.lt hi)] at hat
      rw [ht'.appc hi] at hat'
      have := hu'.inj (hg.lt (ht.lt hi)) (ht'.lt hi) (hat.trans hat'.symm)
      rw [this, ht'.inv_app_self hi]
  · rw [← comp_assoc hM ht' hu', comp_assoc (ht.comp hg) ht'.inv ht', inv_comp ht', comp_idp (ht.comp hg), comp_assoc ht hg hu']
theorem Sim.end_ (hG : Sub n G) {u u' : List Nat} (hu' : IsP n u') (h : Sim G n u u') : u = u' := by
  obtain ⟨g, g1, g2, rfl⟩ := h
  rw [Fix.all (hG.1 g g1) g2, idp_comp hu']
theorem walk_eq {α : Type} (hc : Chain n T 0 G) (hc' : Chain n T' 0 G) (act : Nat → List Nat → α → α × Option Nat) : ∀ (m i : Nat) (u u' : List Nat) (a : α), m + i = n → IsP n u → IsP n u' → Sim G i u u' →
    walkG n T act m i u a = walkG n T' act m i u' a := by
  intro m
  induction m with
  | zero =>
    intro i u u' a hm hu hu' h
    have e : u = u' := Sim.end_ (n := n) hc.1 hu' (by rwa [show n = i from by omega])
    rw [walkG, walkG, e]
  | succ m ih =>
    intro i u u' a hm hu hu' h
    have hv := vals_eq hc hc' (by omega) hu hu' h
    rw [walkG, walkG, ← hv]
    rcases act i (vals n T i u) a with ⟨a', _ | v⟩
    · rfl
    · dsimp only
      by_cases hin : v ∈ vals n T i u
      · rw [if_pos hin, if_pos hin]
        have hin' : v ∈ vals n T' i u' := by rw [← hv]; exact hin
        exact ih (i + 1) _ _ a' (by omega) (step_isP hc (by omega) hu hin) (step_isP hc' (by omega) hu' hin') (step_sim hc hc' (by omega) hu hu' h hin)
      · rw [if_neg hin, if_neg hin]
/-- The orbit of a level, and its size. -/
def orb (n : Nat) (T : Nat → Nat → Option (List Nat)) (i : Nat) : List Nat := (List.range n).filter fun y => (T i y).isSome
theorem orb_vals {i : Nat} : orb n T i = vals n T i (idp n) := by
  unfold orb vals
  refine List.filter_congr fun v hv => ?_
  have hinv : inv (idp n) = idp n := by
    have := comp_inv (p := idp n) IsP.idp
    rwa [idp_comp IsP.idp.inv] at this
  rw [hinv, app_idp (List.mem_range.1 hv)]
theorem orb_eq (hc : Chain n T 0 G) (hc' : Chain n T' 0 G) {i : Nat} (hi : i < n) : orb n T i = orb n T' i := by
  rw [orb_vals, orb_vals]
  exact vals_eq hc hc' hi IsP.idp IsP.idp (Sim.refl hc.1 (by omega) IsP.idp)
theorem length_le_of_subset : ∀ (l l' : List Nat), l.Nodup → (∀ x ∈ l, x ∈ l') → l.length ≤ l'.length := by
  intro l
  induction l with
  | nil => intro l' _ _; simp
  | cons a l ih =>
    intro l' hd hs
    have ha : a ∈ l' := hs a (by simp)
    rw [List.nodup_cons] at hd
    have := ih (l'.erase a) hd.2 fun x hx => by
      have hne : x ≠ a := fun e => hd.1 (e ▸ hx)
      exact (List.mem_erase_of_ne hne).2 (hs x (by simp [hx]))
    rw [List.length_erase_of_mem ha] at this
    have hpos : 0 < l'.length := List.length_pos_of_mem ha
    simp only [List.length_cons]
    omega
theorem nodup_filter_range (n : Nat) (p : Nat → Bool) : ((List.range n).filter p).Nodup := List.Pairwise.filter _ List.nodup_range
theorem nodup_map_app {p : List Nat} (hp : IsP n p) {l : List Nat} (hl : ∀ x ∈ l, x < n) (hd : l.Nodup) : (l.map (app p)).Nodup := by
  induction l with
  | nil => simp
  | cons a l ih =>
    rw [List.nodup_cons] at hd
    rw [List.map_cons, List.nodup_cons]
    refine ⟨fun h => ?_, ih (fun x hx => hl x (by simp [hx])) hd.2⟩
    obtain ⟨x, hx, e⟩ := List.mem_map.1 h
    have := hp.inj (hl x (by simp [hx])) (hl a (by simp)) e
    exact hd.1 (this ▸ hx)
theorem vals_length {i : Nat} {u : List Nat} (hu : IsP n u) : (vals n T i u).length = (orb n T i).length := by
  refine Nat.le_antisymm ?_ ?_
  · have := length_le_of_subset ((vals n T i u).map (app (inv u))) (orb n T i) (nodup_map_app hu.inv (fun x hx => (mem_vals.1 hx).1) (nodup_filter_range _ _)) fun x hx => by
      obtain ⟨v, hv, rfl⟩ := List.mem_map.1 hx
      have h := mem_vals.1 hv
      simp [orb, hu.inv_lt h.1, h.2]
    simpa using this
  · have := length_le_of_subset ((orb n T i).map (app u)) (vals n T i u) (nodup_map_app hu (fun x hx => by simp [orb] at hx; exact hx.1) (nodup_filter_range _ _)) fun x hx => by
      obtain ⟨y, hy, rfl⟩ := List.mem_map.1 hx
      simp only [orb, List.mem_filter, List.mem_range] at hy
      rw [mem_vals]
      exact ⟨hu.lt hy.1, by rw [hu.inv_app_self hy.1]; exact hy.2⟩
    simpa using this
end
end Grp
end
section
namespace Grp

abbrev Tab := Nat → Nat → Option (List Nat)
def GenL (n : Nat) (l : List (List Nat)) : List Nat → Prop := Gen n fun s => s ∈ l
/-- From level k on T is a chain of the groups that the lists generate. -/
structure Full (n : Nat) (T : Tab) (Gs : Nat → List (List Nat)) (k : Nat) : Prop where
  chain : ∀ j, k ≤ j → j ≤ n → Chain n T j (GenL n (Gs j))
  gens : ∀ j, k ≤ j → j ≤ n → ∀ s, s ∈ Gs j → IsP n s ∧ Fix j s
  one : ∀ j, k ≤ j → j < n → T j j = some (idp n)
  nest : ∀ j, k ≤ j → j < n → ∀ g, GenL n (Gs (j + 1)) g → GenL n (Gs j) g
theorem Full.next {n : Nat} {T : Tab} {Gs : Nat → List (List Nat)} {k : Nat} (h : Full n T Gs k) : Full n T Gs (k + 1) :=
  ⟨fun j hj hn => h.chain j (by omega) hn, fun j hj hn => h.gens j (by omega) hn, fun j hj hn => h.one j (by omega) hn, fun j hj hn => h.nest j (by omega) hn⟩
theorem Full.congr {n : Nat} {T T' : Tab} {Gs Gs' : Nat → List (List Nat)} {k : Nat} (h : Full n T Gs k) (hT : ∀ i, k ≤ i → T' i = T i) (hG : ∀ i, k ≤ i → Gs' i = Gs i) : Full n T' Gs' k := by
  refine ⟨fun j hj hn => ?_, fun j hj hn s hs => ?_, fun j hj hn => ?_, fun j hj hn g hg => ?_⟩
  · obtain ⟨a, b, c⟩ := h.chain j hj hn
    rw [hG j hj]
    refine ⟨a, b, fun i hi hin => ?_⟩
    rw [hT i (by omega)]
    exact c i hi hin
  · rw [hG j hj] at hs
    exact h.gens j hj hn s hs
  · rw [hT j hj]
    exact h.one j hj hn
  · rw [hG j hj]
    rw [hG (j + 1) (by omega)] at hg
    exact h.nest j hj hn g hg
theorem Full.sub {n : Nat} {T : Tab} {Gs : Nat → List (List Nat)} {k : Nat} (h : Full n T Gs k) (hk : k ≤ n) : Sub n (GenL n (Gs k)) := (h.chain k (Nat.le_refl _) hk).1
theorem GenL.isP {n : Nat} {l : List (List Nat)} (hl : ∀ s, s ∈ l → IsP n s) {p : List Nat} (h : GenL n l p) : IsP n p := (Gen.sub hl).1 p h
theorem GenL.sub {n : Nat} {l : List (List Nat)} (hl : ∀ s, s ∈ l → IsP n s) : Sub n (GenL n l) := Gen.sub hl
theorem GenL.of {n : Nat} {l : List (List Nat)} {s : List Nat} (h : s ∈ l) : GenL n l s := Gen.of h
theorem GenL.mono {n : Nat} {l l' : List (List Nat)} (h : ∀ s, s ∈ l → s ∈ l') {p : List Nat} (hp : GenL n l p) : GenL n l' p := fun H hH hs => hp H hH fun s hsl => hs s (h s hsl)
theorem GenL.same {n : Nat} {l : List (List Nat)} (hl : ∀ s, s ∈ l → IsP n s) {p : List Nat} (hp : GenL n l p) (x : List Nat) : GenL n (l ++ [p]) x ↔ GenL n l x := by
  constructor
  · intro h
    refine h _ (Gen.sub hl) fun s hs => ?_
    rcases List.mem_append.1 hs with h1 | h1
    · exact GenL.of h1
    · rw [List.mem_singleton.1 h1]; exact hp
  · exact GenL.mono fun s hs => List.mem_append.2 (.inl hs)
theorem Full.fix {n : Nat} {T : Tab} {Gs : Nat → List (List Nat)} {k : Nat} (h : Full n T Gs k) (hk : k ≤ n) {p : List Nat} (hp : GenL n (Gs k) p) : Fix k p := (h.chain k (Nat.le_refl _) hk).2.1 p hp
/-- Division tells membership. -/
theorem Full.has {n : Nat} {T : Tab} {Gs : Nat → List (List Nat)} {k : Nat} (h : Full n T Gs k) (hk : k ≤ n) {p : List Nat} (hp : IsP n p) (hf : Fix k p) : sift T k (n - k) p = true ↔ GenL n (Gs k) p :=
  sift_iff (n - k) k (by omega) (h.chain k (Nat.le_refl _) hk) hp hf
/-- A level is done. -/
theorem Full.make {n k : Nat} {T : Tab} {Gs : Nat → List (List Nat)} (hk : k < n) (h : Full n T Gs (k + 1)) (hg : ∀ s, s ∈ Gs k → IsP n s ∧ Fix k s) (hle : ∀ g, GenL n (Gs (k + 1)) g → GenL n (Gs k) g) (hid : T k k = some (idp n))
    (hT : ∀ y t, T k y = some t → GenL n (Gs k) t ∧ app t k = y) (hcl : ∀ y t s, T k y = some t → s ∈ Gs k → ∃ t', T k (app s y) = some t' ∧ GenL n (Gs (k + 1)) (comp (comp t s) (inv t'))) : Full n T Gs k := by
  have hch : Chain n T k (GenL n (Gs k)) := schreier hk hg (h.chain (k + 1) (Nat.le_refl _) (by omega)) hle hid hT (fun y t s => hcl y t s)
  refine ⟨fun j hj hn => ?_, fun j hj hn => ?_, fun j hj hn => ?_, fun j hj hn => ?_⟩
  · rcases Nat.eq_or_lt_of_le hj with rfl | hlt
    · exact hch
    · exact h.chain j hlt hn
  · rcases Nat.eq_or_lt_of_le hj with rfl | hlt
    · exact hg
    · exact h.gens j hlt hn
  · rcases Nat.eq_or_lt_of_le hj with rfl | hlt
    · exact hid
    · exact h.one j hlt hn
  · rcases Nat.eq_or_lt_of_le hj with rfl | hlt
    · exact hle
    · exact h.nest j hlt hn
/-- How many representatives lie from level k on. -/
def orbSum (n : Nat) (T : Tab) : Nat → Nat → Nat
  | _, 0 => 0
  | k, m + 1 => (orb n T k).length + orbSum n T (k + 1) m
theorem orb_len_le (n : Nat) (T : Tab) (k : Nat) : (orb n T k).length ≤ n := by
  have := List.length_filter_le (fun y => (T k y).isSome) (List.range n)
  rw [List.length_range] at this
  exact this
theorem orbSum_le (n : Nat) (T : Tab) : ∀ m k, orbSum n T k m ≤ m * n := by
  intro m
  induction m with
  | zero => intro k; simp [orbSum]
  | succ m ih =>
    intro k
    have h1 := ih (k + 1)
    have h2 := orb_len_le n T k
    rw [orbSum, Nat.succ_mul]
    omega
theorem filter_len_le {l : List Nat} {p q : Nat → Bool} (h : ∀ x ∈ l, p x = true → q x = true) : (l.filter p).length ≤ (l.filter q).length ∧ ((l.filter p).length = (l.filter q).length → ∀ x ∈ l, q x = true → p x = true) := by
  induction l with
  | nil => simp
  | cons a l ih =>
    obtain ⟨h1, h2⟩ := ih fun x hx => h x (List.mem_cons_of_mem _ hx)
    have ha := h a List.mem_cons_self
    cases hp : p a with
    | false =>
      cases hq : q a with
      | false =>
        simp only [List.filter_cons, hp, hq]
        refine ⟨by simpa using h1, fun e x hx hqx => ?_⟩
        rcases List.mem_cons.1 hx with rfl | hx
        · rw [hq] at hqx; cases hqx
        · exact h2 (by simpa using e) x hx hqx
      | true =>
        simp only [List.filter_cons, hp, hq]
        refine ⟨by simp; omega, fun e x hx hqx => ?_⟩
        simp at e
        omega
    | true =>
      have hq := ha hp
      simp only [List.filter_cons, hp, hq]
      refine ⟨by simpa using h1, fun e x hx hqx => ?_⟩
      rcases List.mem_cons.1 hx with rfl | hx
      · exact hp
      · exact h2 (by simpa using e) x hx hqx
theorem Chain.some_iff {n k : Nat} {T : Tab} {G : List Nat → Prop} (h : Chain n T k G) {j : Nat} (hkj : k ≤ j) (hjn : j < n) (y : Nat) : (T j y).isSome = true ↔ ∃ g, G g ∧ Fix j g ∧ app g j = y := by
  obtain ⟨ha, hb⟩ := h.2.2 j hkj hjn
  constructor
  · intro e
    obtain ⟨t, ht⟩ := Option.isSome_iff_exists.1 e
    obtain ⟨x1, x2, x3⟩ := ha y t ht
    exact ⟨t, x1, x2, x3⟩
  · rintro ⟨g, h1, h2, rfl⟩
    exact hb g h1 h2
/-- A chain that has all representatives' points of another's is that of the same group. -/
theorem chain_all {n : Nat} {T T' : Tab} : ∀ (m k : Nat) {G G' : List Nat → Prop}, m + k = n → Chain n T k G → Chain n T' k G' → (∀ g, G g → G' g) → (∀ j, k ≤ j → j < n → ∀ y, y < n → (T' j y).isSome = true → (T j y).isSome = true) → ∀ p, G' p → G p := by
  intro m
  induction m with
  | zero =>
    intro k G G' hm hc hc' hle hall p hp
    have h1 := hc'.2.1 p hp
    have h2 := Fix.all (hc'.1.1 p hp) (by rwa [show n = k from by omega])
    rw [h2]
    exact hc.1.2.1
  | succ m ih =>
    intro k G G' hm hc hc' hle hall p hp
    have hkn : k < n := by omega
    have hP := hc'.1.1 p hp
    have hf := hc'.2.1 p hp
    have hs := (hc'.some_iff (Nat.le_refl k) hkn (app p k)).2 ⟨p, hp, hf, rfl⟩
    have hs2 := hall k (Nat.le_refl _) hkn _ (hP.lt hkn) hs
    obtain ⟨t, ht, hft, hat⟩ := (hc.some_iff (Nat.le_refl k) hkn (app p k)).1 hs2
    have hTP := hc.1.1 t ht
    have hq' : G' (comp p (inv t)) := hc'.1.2.2.1 _ _ hp (hc'.1.2.2.2 _ (hle t ht))
    have hfq : Fix (k + 1) (comp p (inv t)) := by
      intro i hi
      rw [hP.appc (by omega)]
      rcases Nat.lt_or_ge i k with h | h
      · rw [hf i h, hft.inv hTP (by omega) i h]
      · obtain rfl : i = k := by omega
        rw [← hat, hTP.inv_app_self (by omega)]
    have h3 := ih (k + 1) (G := Stab G (k + 1)) (G' := Stab G' (k + 1)) (by omega) (hc.next hkn) (hc'.next hkn) (fun g hg => ⟨hle g hg.1, hg.2⟩) (fun j hj hjn y hy e => hall j (by omega) hjn y hy e) _ ⟨hq', hfq⟩
    have h4 := hc.1.2.2.1 _ _ h3.1 ht
    rwa [comp_assoc hP hTP.inv hTP, inv_comp hTP, comp_idp hP] at h4
theorem orbSum_mono {n : Nat} {T T' : Tab} : ∀ (m k : Nat), m + k = n → (∀ j, k ≤ j → j < n → ∀ y, y < n → (T j y).isSome = true → (T' j y).isSome = true) →
    orbSum n T k m ≤ orbSum n T' k m ∧ (orbSum n T k m = orbSum n T' k m → ∀ j, k ≤ j → j < n → ∀ y, y < n → (T' j y).isSome = true → (T j y).isSome = true) := by
  intro m
  induction m with
  | zero => intro k hm h; exact ⟨by simp [orbSum], fun _ j hj hn => by omega⟩
  | succ m ih =>
    intro k hm h
    obtain ⟨h1, h2⟩ := ih (k + 1) (by omega) fun j hj hn => h j (by omega) hn
    obtain ⟨h3, h4⟩ := filter_len_le (l := List.range n) (p := fun y => (T k y).isSome) (q := fun y => (T' k y).isSome) fun y hy => h k (Nat.le_refl _) (by omega) y (List.mem_range.1 hy)
    have h5 : (orb n T k).length ≤ (orb n T' k).length := h3
    rw [orbSum, orbSum]
    refine ⟨by omega, fun e j hj hn y hy hs => ?_⟩
    rcases Nat.eq_or_lt_of_le hj with rfl | hlt
    · exact h4 (by show (orb n T k).length = (orb n T' k).length; omega) y (List.mem_range.2 hy) hs
    · exact h2 (by omega) j hlt hn y hy hs
/-- A group that grows gets more representatives. -/
theorem Full.more {n k : Nat} {T T' : Tab} {Gs Gs' : Nat → List (List Nat)} (hk : k ≤ n) (h : Full n T Gs k) (h' : Full n T' Gs' k) {p : List Nat} (hp : ¬ GenL n (Gs k) p) (hp' : GenL n (Gs' k) p) (hle : ∀ g, GenL n (Gs k) g → GenL n (Gs' k) g) :
    orbSum n T k (n - k) + 1 ≤ orbSum n T' k (n - k) := by
  have hc := h.chain k (Nat.le_refl _) hk
  have hc' := h'.chain k (Nat.le_refl _) hk
  have hm : ∀ j, k ≤ j → j < n → ∀ y, y < n → (T j y).isSome = true → (T' j y).isSome = true := by
    intro j hj hn y _ e
    obtain ⟨g, h1, h2, h3⟩ := (hc.some_iff hj hn y).1 e
    exact (hc'.some_iff hj hn y).2 ⟨g, hle g h1, h2, h3⟩
  obtain ⟨h1, h2⟩ := orbSum_mono (n - k) k (by omega) hm
  rcases Nat.lt_or_ge (orbSum n T k (n - k)) (orbSum n T' k (n - k)) with h3 | h3
  · exact h3
  · exact absurd (chain_all (n - k) k (by omega) hc hc' hle (h2 (by omega)) p hp') hp
end Grp
end
end Go.Proofs.Ytfhdnanbhigpmaa
