/- Plain laws on permutations as lists of numbers: composition, inverses, groups, stabilizer chains and Schreier's lemma. No program is named here. -/
import Derived.WalkKit
namespace Go.Proofs.Ytpcnbjfkobeibaa
namespace Grp

def app (p : List Nat) (i : Nat) : Nat := p.getD i 0
def comp (p q : List Nat) : List Nat := p.map (app q)
def idp (n : Nat) : List Nat := List.range n
def inv (p : List Nat) : List Nat := (List.range p.length).map fun y => p.idxOf y

/-- p is a permutation of the points below n. -/
def IsP (n : Nat) (p : List Nat) : Prop := p.length = n ∧ (∀ i, i < n → app p i < n) ∧ ∀ i j, i < n → j < n → app p i = app p j → i = j

/-- An injection of the numbers below n into themselves hits each of them. -/
theorem onto_of_inj : ∀ (n : Nat) (f : Nat → Nat), (∀ i, i < n → f i < n) → (∀ i j, i < n → j < n → f i = f j → i = j) → ∀ y, y < n → ∃ i, i < n ∧ f i = y := by
  intro n
  induction n with
  | zero => intro f _ _ y hy; omega
  | succ n ih =>
    intro f hf hi y hy
    have hm := hf n (by omega)
    have hg1 : ∀ i, i < n → (if f i = n then f n else f i) < n := by
      intro i hin
      have h1 := hf i (by omega)
      split
      · rename_i h
        have : f n ≠ n := fun h2 => by have := hi i n (by omega) (by omega) (by rw [h, h2]); omega
        omega
      · omega
    have hg2 : ∀ i j, i < n → j < n → (if f i = n then f n else f i) = (if f j = n then f n else f j) → i = j := by
      intro i j hin hjn h
      by_cases h1 : f i = n
      · by_cases h2 : f j = n
        · exact hi i j (by omega) (by omega) (by rw [h1, h2])
        · rw [if_pos h1, if_neg h2] at h
          have := hi n j (by omega) (by omega) h
          omega
      · by_cases h2 : f j = n
        · rw [if_neg h1, if_pos h2] at h
          have := hi i n (by omega) (by omega) h
          omega
        · rw [if_neg h1, if_neg h2] at h
          exact hi i j (by omega) (by omega) h
    have hs := ih (fun i => if f i = n then f n else f i) hg1 hg2
    by_cases hym : y = f n
    · exact ⟨n, by omega, hym.symm⟩
    · by_cases hyn : y = n
      · obtain ⟨i, hin, hgi⟩ := hs (f n) (by omega)
        skip
        split at hgi
        · rename_i h; exact ⟨i, by omega, by omega⟩
        · have := hi i n (by omega) (by omega) hgi; omega
      · obtain ⟨i, hin, hgi⟩ := hs y (by omega)
        skip
        split at hgi
        · omega
        · exact ⟨i, by omega, hgi⟩

section
variable {n : Nat} {p q r : List Nat}
theorem IsP.len (h : IsP n p) : p.length = n := h.1
theorem IsP.lt (h : IsP n p) {i : Nat} (hi : i < n) : app p i < n := h.2.1 i hi
theorem IsP.inj (h : IsP n p) {i j : Nat} (hi : i < n) (hj : j < n) (e : app p i = app p j) : i = j := h.2.2 i j hi hj e
theorem IsP.onto (h : IsP n p) {y : Nat} (hy : y < n) : ∃ i, i < n ∧ app p i = y := onto_of_inj n (app p) h.2.1 h.2.2 y hy
theorem app_get (hi : r.length = n) {i : Nat} (h : i < n) : app r i = r[i]'(by omega) := by
  have : i < r.length := by omega
  simp [app, List.getD_eq_getElem?_getD, this]
theorem ext_app (hp : p.length = n) (hq : q.length = n) (h : ∀ i, i < n → app p i = app q i) : p = q := by
  refine List.ext_getElem (by omega) fun i h1 h2 => ?_
  have := h i (by omega)
  rwa [app_get hp (by omega), app_get hq (by omega)] at this
theorem comp_len : (comp p q).length = p.length := by simp [comp]
theorem app_comp {i : Nat} (hi : i < p.length) : app (comp p q) i = app q (app p i) := by simp [app, comp, List.getD_eq_getElem?_getD, hi]
theorem idp_len : (idp n).length = n := by simp [idp]
theorem app_idp {i : Nat} (hi : i < n) : app (idp n) i = i := by simp [app, idp, List.getD_eq_getElem?_getD, hi]
theorem inv_len : (inv p).length = p.length := by simp [inv]
theorem app_inv {y : Nat} (hy : y < p.length) : app (inv p) y = p.idxOf y := by simp [app, inv, List.getD_eq_getElem?_getD, hy]
theorem IsP.mem (h : IsP n p) {y : Nat} (hy : y < n) : y ∈ p := by
  obtain ⟨i, hi, e⟩ := h.onto hy
  rw [← e, app_get h.len hi]
  exact List.getElem_mem _
theorem IsP.inv_lt (h : IsP n p) {y : Nat} (hy : y < n) : app (inv p) y < n := by
  rw [app_inv (by rw [h.len]; exact hy)]
  have := List.idxOf_lt_length_of_mem (h.mem hy)
  rwa [h.len] at this
theorem IsP.app_inv_self (h : IsP n p) {y : Nat} (hy : y < n) : app p (app (inv p) y) = y := by
  have hl := List.idxOf_lt_length_of_mem (h.mem hy)
  rw [app_inv (by rw [h.len]; exact hy), app_get h.len (by rw [← h.len]; exact hl)]
  exact List.getElem_idxOf hl
theorem IsP.inv_app_self (h : IsP n p) {i : Nat} (hi : i < n) : app (inv p) (app p i) = i :=
  h.inj (h.inv_lt (h.lt hi)) hi (h.app_inv_self (h.lt hi))
theorem IsP.idp : IsP n (idp n) := ⟨idp_len, fun i hi => by rw [app_idp hi]; exact hi, fun i j hi hj e => by rwa [app_idp hi, app_idp hj] at e⟩
theorem IsP.comp (hp : IsP n p) (hq : IsP n q) : IsP n (comp p q) :=
  ⟨by rw [comp_len, hp.len], fun i hi => by rw [app_comp (by rw [hp.len]; exact hi)]; exact hq.lt (hp.lt hi),
    fun i j hi hj e => by
      rw [app_comp (by rw [hp.len]; exact hi), app_comp (by rw [hp.len]; exact hj)] at e
      exact hp.inj hi hj (hq.inj (hp.lt hi) (hp.lt hj) e)⟩
theorem IsP.inv (hp : IsP n p) : IsP n (inv p) :=
  ⟨by rw [inv_len, hp.len], fun i hi => hp.inv_lt hi, fun i j hi hj e => by
    have := congrArg (app p) e
    rwa [hp.app_inv_self hi, hp.app_inv_self hj] at this⟩
theorem IsP.appc (hp : IsP n p) {i : Nat} (hi : i < n) : app (Grp.comp p q) i = app q (app p i) := app_comp (by rw [hp.len]; exact hi)
theorem comp_assoc (hp : IsP n p) (hq : IsP n q) (_hr : IsP n r) : comp (comp p q) r = comp p (comp q r) := by
  refine ext_app (n := n) (by rw [comp_len, comp_len, hp.len]) (by rw [comp_len, hp.len]) fun i hi => ?_
  rw [(hp.comp hq).appc hi, hp.appc hi, hp.appc hi, hq.appc (hp.lt hi)]
theorem comp_idp (hp : IsP n p) : comp p (idp n) = p := by
  refine ext_app (n := n) (by rw [comp_len, hp.len]) hp.len fun i hi => ?_
  rw [hp.appc hi, app_idp (hp.lt hi)]
theorem idp_comp (hp : IsP n p) : comp (idp n) p = p := by
  refine ext_app (n := n) (by rw [comp_len, idp_len]) hp.len fun i hi => ?_
  rw [IsP.idp.appc hi, app_idp hi]
theorem comp_inv (hp : IsP n p) : comp p (inv p) = idp n := by
  refine ext_app (n := n) (by rw [comp_len, hp.len]) idp_len fun i hi => ?_
  rw [hp.appc hi, hp.inv_app_self hi, app_idp hi]
theorem inv_comp (hp : IsP n p) : comp (inv p) p = idp n := by
  refine ext_app (n := n) (by rw [comp_len, inv_len, hp.len]) idp_len fun i hi => ?_
  rw [hp.inv.appc hi, hp.app_inv_self hi, app_idp hi]
theorem inv_inv (hp : IsP n p) : inv (inv p) = p := by
  have h1 : comp (comp (inv (inv p)) (inv p)) p = comp (inv (inv p)) (comp (inv p) p) := comp_assoc hp.inv.inv hp.inv hp
  rw [inv_comp hp.inv, inv_comp hp, idp_comp hp, comp_idp hp.inv.inv] at h1
  exact h1.symm
theorem inv_of_comp (hp : IsP n p) (hq : IsP n q) : inv (comp p q) = comp (inv q) (inv p) := by
  refine ext_app (n := n) (by rw [inv_len, comp_len, hp.len]) (by rw [comp_len, inv_len, hq.len]) fun i hi => ?_
  refine (hp.comp hq).inj ((hp.comp hq).inv_lt hi) ?_ ?_
  · rw [hq.inv.appc hi]; exact hp.inv_lt (hq.inv_lt hi)
  · rw [(hp.comp hq).app_inv_self hi, hq.inv.appc hi, hp.appc (hp.inv_lt (hq.inv_lt hi)), hp.app_inv_self (hq.inv_lt hi), hq.app_inv_self hi]
end

/-- A set of permutations that is a group. -/
def Sub (n : Nat) (H : List Nat → Prop) : Prop := (∀ p, H p → IsP n p) ∧ H (idp n) ∧ (∀ p q, H p → H q → H (comp p q)) ∧ ∀ p, H p → H (inv p)
/-- The group that a set generates: the least group that holds it. -/
def Gen (n : Nat) (S : List Nat → Prop) (p : List Nat) : Prop := ∀ H, Sub n H → (∀ s, S s → H s) → H p
def Fix (k : Nat) (p : List Nat) : Prop := ∀ i, i < k → app p i = i
def Stab (G : List Nat → Prop) (k : Nat) (p : List Nat) : Prop := G p ∧ Fix k p

theorem Sub.all (n : Nat) : Sub n (IsP n) := ⟨fun _ h => h, IsP.idp, fun _ _ h1 h2 => h1.comp h2, fun _ h => h.inv⟩
theorem Gen.sub {n : Nat} {S : List Nat → Prop} (hS : ∀ s, S s → IsP n s) : Sub n (Gen n S) :=
  ⟨fun _ h => h _ (Sub.all n) hS, fun _ hH _ => hH.2.1, fun p q hp hq H hH hs => hH.2.2.1 p q (hp H hH hs) (hq H hH hs), fun p hp H hH hs => hH.2.2.2 p (hp H hH hs)⟩
theorem Gen.of {n : Nat} {S : List Nat → Prop} {s : List Nat} (h : S s) : Gen n S s := fun _ _ hs => hs s h
theorem Gen.le {n : Nat} {S : List Nat → Prop} {H : List Nat → Prop} (hH : Sub n H) (hs : ∀ s, S s → H s) {p : List Nat} (h : Gen n S p) : H p := h H hH hs
theorem Fix.mono {k l : Nat} {p : List Nat} (h : Fix l p) (hk : k ≤ l) : Fix k p := fun i hi => h i (by omega)
theorem Fix.comp {n k : Nat} {p q : List Nat} (hp : IsP n p) (hk : k ≤ n) (h1 : Fix k p) (h2 : Fix k q) : Fix k (comp p q) := fun i hi => by rw [hp.appc (by omega), h1 i hi, h2 i hi]
theorem Fix.inv {n k : Nat} {p : List Nat} (hp : IsP n p) (hk : k ≤ n) (h1 : Fix k p) : Fix k (inv p) := fun i hi => by
  have := hp.inv_app_self (i := i) (by omega)
  rwa [h1 i hi] at this
theorem Fix.idp {n k : Nat} (hk : k ≤ n) : Fix k (idp n) := fun i hi => app_idp (by omega)
theorem Stab.sub {n k : Nat} {G : List Nat → Prop} (h : Sub n G) (hk : k ≤ n) : Sub n (Stab G k) :=
  ⟨fun p hp => h.1 p hp.1, ⟨h.2.1, Fix.idp hk⟩, fun p q hp hq => ⟨h.2.2.1 p q hp.1 hq.1, hp.2.comp (h.1 p hp.1) hk hq.2⟩, fun p hp => ⟨h.2.2.2 p hp.1, hp.2.inv (h.1 p hp.1) hk⟩⟩
theorem Fix.all {n : Nat} {p : List Nat} (hp : IsP n p) (h : Fix n p) : p = Grp.idp n := ext_app hp.len idp_len fun i hi => by rw [h i hi, app_idp hi]

/-- T holds, from level k on, a representative for each point of each orbit of the stabilizers of G, and no others. -/
def Chain (n : Nat) (T : Nat → Nat → Option (List Nat)) (k : Nat) (G : List Nat → Prop) : Prop :=
  Sub n G ∧ (∀ g, G g → Fix k g) ∧ ∀ j, k ≤ j → j < n → (∀ y t, T j y = some t → G t ∧ Fix j t ∧ app t j = y) ∧ ∀ g, G g → Fix j g → (T j (app g j)).isSome = true

/-- Division by representatives from a level on: does nothing remain? -/
def sift (T : Nat → Nat → Option (List Nat)) (k : Nat) : Nat → List Nat → Bool
  | 0, _ => true
  | m + 1, p => match T k (app p k) with
    | none => false
    | some t => sift T (k + 1) m (comp p (inv t))

theorem Chain.next {n k : Nat} {T : Nat → Nat → Option (List Nat)} {G : List Nat → Prop} (h : Chain n T k G) (hk : k < n) : Chain n T (k + 1) (Stab G (k + 1)) := by
  obtain ⟨h1, h2, h3⟩ := h
  refine ⟨Stab.sub h1 (by omega), fun g hg => hg.2, fun j hkj hjn => ?_⟩
  obtain ⟨ha, hb⟩ := h3 j (by omega) hjn
  refine ⟨fun y t e => ?_, fun g hg hf => hb g hg.1 hf⟩
  obtain ⟨x1, x2, x3⟩ := ha y t e
  exact ⟨⟨x1, x2.mono hkj⟩, x2, x3⟩

theorem sift_iff {n : Nat} {T : Nat → Nat → Option (List Nat)} : ∀ (m k : Nat) {G : List Nat → Prop} {p : List Nat}, m + k = n → Chain n T k G → IsP n p → Fix k p → (sift T k m p = true ↔ G p) := by
  intro m
  induction m with
  | zero =>
    intro k G p hm hc hp hf
    have : p = idp n := Fix.all hp (by rwa [show n = k from by omega])
    subst this
    simp only [sift, true_iff]
    exact hc.1.2.1
  | succ m ih =>
    intro k G p hm hc hp hf
    obtain ⟨h1, h2, h3⟩ := hc
    obtain ⟨ha, hb⟩ := h3 k (Nat.le_refl _) (by omega)
    unfold sift
    cases hT : T k (app p k) with
    | none =>
      simp only [Bool.false_eq_true, false_iff]
      intro hG
      have := hb p hG hf
      rw [hT] at this
      cases this
    | some t =>
      obtain ⟨x1, x2, x3⟩ := ha _ t hT
      have ht := h1.1 t x1
      have hq : IsP n (comp p (inv t)) := hp.comp ht.inv
      have hfq : Fix (k + 1) (comp p (inv t)) := by
        intro i hi
        rw [hp.appc (by omega)]
        rcases Nat.lt_or_ge i k with h | h
        · rw [hf i h, x2.inv ht (by omega) i h]
        · obtain rfl : i = k := by omega
          rw [← x3, ht.inv_app_self (by omega)]
      dsimp only
      rw [ih (k + 1) (by omega) (Chain.next ⟨h1, h2, h3⟩ (by omega)) hq hfq]
      constructor
      · intro h
        have : comp (comp p (inv t)) t = p := by rw [comp_assoc hp ht.inv ht, inv_comp ht, comp_idp hp]
        rw [← this]
        exact h1.2.2.1 _ _ h.1 x1
      · intro h
        exact ⟨h1.2.2.1 _ _ h (h1.2.2.2 _ x1), hfq⟩

/-- SCHREIER: a level whose representatives are closed under the generators, and whose Schreier generators lie in the next group, makes a chain. -/
theorem schreier {n k : Nat} {T : Nat → Nat → Option (List Nat)} {S G' : List Nat → Prop} (hk : k < n) (hS : ∀ s, S s → IsP n s ∧ Fix k s) (hc : Chain n T (k + 1) G') (hle : ∀ g, G' g → Gen n S g)
    (hid : T k k = some (idp n)) (hT : ∀ y t, T k y = some t → Gen n S t ∧ app t k = y) (hcl : ∀ y t s, T k y = some t → S s → ∃ t', T k (app s y) = some t' ∧ G' (comp (comp t s) (inv t'))) : Chain n T k (Gen n S) := by
  have hG : Sub n (Gen n S) := Gen.sub fun s h => (hS s h).1
  have hfix : ∀ g, Gen n S g → Fix k g := fun g hg =>
    (hg (Stab (IsP n) k) (Stab.sub (Sub.all n) (by omega)) fun s hs => ⟨(hS s hs).1, (hS s hs).2⟩).2
  have hTP : ∀ y t, T k y = some t → IsP n t := fun y t e => hG.1 t (hT y t e).1
  have hTy : ∀ y t, T k y = some t → y < n := fun y t e => by rw [← (hT y t e).2]; exact (hTP y t e).lt hk
  have hG' := hc.1
  -- the set of the permutations that keep the orbit and whose Schreier generators lie in the next group
  have hH : Sub n (fun p => IsP n p ∧ ∀ y t, T k y = some t → ∃ t', T k (app p y) = some t' ∧ G' (comp (comp t p) (inv t'))) := by
    refine ⟨fun p h => h.1, ⟨IsP.idp, fun y t e => ⟨t, by rw [app_idp (hTy y t e)]; exact e, ?_⟩⟩, fun p q hp hq => ⟨hp.1.comp hq.1, fun y t e => ?_⟩, fun p hp => ⟨hp.1.inv, fun y t e => ?_⟩⟩
    · rw [comp_idp (hTP y t e), comp_inv (hTP y t e)]
      exact hG'.2.1
    · obtain ⟨t1, e1, g1⟩ := hp.2 y t e
      obtain ⟨t2, e2, g2⟩ := hq.2 _ t1 e1
      refine ⟨t2, by rw [hp.1.appc (hTy y t e)]; exact e2, ?_⟩
      have ht := hTP y t e
      have ht1 := hTP _ t1 e1
      have ht2 := hTP _ t2 e2
      have hp1 := hp.1
      have hq1 := hq.1
      have := hG'.2.2.1 _ _ g1 g2
      have e3 : comp (comp (comp t p) (inv t1)) (comp (comp t1 q) (inv t2)) = comp (comp t (comp p q)) (inv t2) := by
        rw [comp_assoc (ht.comp hp1) ht1.inv ((ht1.comp hq1).comp ht2.inv), ← comp_assoc ht1.inv (ht1.comp hq1) ht2.inv, ← comp_assoc ht1.inv ht1 hq1, inv_comp ht1, idp_comp hq1,
          ← comp_assoc (ht.comp hp1) hq1 ht2.inv, comp_assoc ht hp1 hq1]
      rwa [e3] at this
    · -- the point that p moves to y lies in the orbit
      have hp1 := hp.1
      have hy := hTy y t e
      have hf1 : ∀ i, i < n → (if (T k i).isSome then app p i else i) < n := fun i hi => by
        split
        · exact hp1.lt hi
        · exact hi
      have hf2 : ∀ i j, i < n → j < n → (if (T k i).isSome then app p i else i) = (if (T k j).isSome then app p j else j) → i = j := by
        intro i j hi hj h
        cases hi2 : T k i with
        | none =>
          cases hj2 : T k j with
          | none => simpa [hi2, hj2] using h
          | some tj =>
            simp [hi2, hj2] at h
            obtain ⟨t', e', _⟩ := hp.2 j tj hj2
            rw [← h, hi2] at e'
            cases e'
        | some ti =>
          cases hj2 : T k j with
          | none =>
            simp [hi2, hj2] at h
            obtain ⟨t', e', _⟩ := hp.2 i ti hi2
            rw [h, hj2] at e'
            cases e'
          | some tj =>
            simp [hi2, hj2] at h
            exact hp1.inj hi hj h
      obtain ⟨z, hz, hzy⟩ := onto_of_inj n _ hf1 hf2 y hy
      cases hz2 : T k z with
      | none => simp [hz2] at hzy; rw [hzy, e] at hz2; cases hz2
      | some tz =>
        simp [hz2] at hzy
        obtain ⟨t', e', g'⟩ := hp.2 z tz hz2
        rw [hzy, e] at e'
        injection e' with e'
        subst e'
        have htz := hTP z tz hz2
        have ht := hTP y t e
        refine ⟨tz, by rw [← hzy, hp1.inv_app_self hz]; exact hz2, ?_⟩
        have := hG'.2.2.2 _ g'
        rw [inv_of_comp (htz.comp hp1) ht.inv, inv_inv ht, inv_of_comp htz hp1, ← comp_assoc ht hp1.inv htz.inv] at this
        exact this
  have hin : ∀ g, Gen n S g → ∀ y t, T k y = some t → ∃ t', T k (app g y) = some t' ∧ G' (comp (comp t g) (inv t')) := fun g hg =>
    (hg _ hH fun s hs => ⟨(hS s hs).1, fun y t e => hcl y t s e hs⟩).2
  have hst : ∀ g, Gen n S g → Fix (k + 1) g → G' g := by
    intro g hg hf
    obtain ⟨t', e', h'⟩ := hin g hg k _ hid
    rw [hf k (by omega), hid] at e'
    injection e' with e'
    subst e'
    have hgp := hG.1 g hg
    have hi : inv (idp n) = idp n := by
      have := comp_inv (p := idp n) IsP.idp
      rwa [idp_comp IsP.idp.inv] at this
    rwa [idp_comp hgp, hi, comp_idp hgp] at h'
  refine ⟨hG, hfix, fun j hkj hjn => ?_⟩
  rcases Nat.eq_or_lt_of_le hkj with e | hlt
  · subst e
    refine ⟨fun y t e => ⟨(hT y t e).1, hfix t (hT y t e).1, (hT y t e).2⟩, fun g hg _ => ?_⟩
    obtain ⟨t', e', _⟩ := hin g hg k _ hid
    rw [e']
    rfl
  · obtain ⟨ha, hb⟩ := hc.2.2 j hlt hjn
    exact ⟨fun y t e => ⟨hle t (ha y t e).1, (ha y t e).2⟩, fun g hg hf => hb g (hst g hg (hf.mono (by omega))) hf⟩
end Grp
end Go.Proofs.Ytpcnbjfkobeibaa
