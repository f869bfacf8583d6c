/- Plain laws: how a chain is built by adding permutations, level by level. No program is named here. -/
import Derived.Test.YtpcnbjfkobeibaaG
import Derived.Test.YtpcnbjfkobeibaaGV
namespace Go.Proofs.Ytpcnbjfkobeibaa
namespace Grp

abbrev Tab := Nat → Nat → Option (List Nat)
def GenL (n : Nat) (l : List (List Nat)) : List Nat → Prop := Gen n fun s => s ∈ l
/-- From level k on T is a chain of the groups that the lists generate. -/
structure Full (n : Nat) (T : Tab) (Gs : Nat → List (List Nat)) (k : Nat) : Prop where
  chain : ∀ j, k ≤ j → j ≤ n → Chain n T j (GenL n (Gs j))
  gens : ∀ j, k ≤ j → j ≤ n → ∀ s, s ∈ Gs j → IsP n s ∧ Fix j s
  one : ∀ j, k ≤ j → j < n → T j j = some (idp n)
  nest : ∀ j, k ≤ j → j < n → ∀ g, GenL n (Gs (j + 1)) g → GenL n (Gs j) g
theorem Full.next {n : Nat} {T : Tab} {Gs : Nat → List (List Nat)} {k : Nat} (h : Full n T Gs k) : Full n T Gs (k + 1) :=
  ⟨fun j hj hn => h.chain j (by omega) hn, fun j hj hn => h.gens j (by omega) hn, fun j hj hn => h.one j (by omega) hn, fun j hj hn => h.nest j (by omega) hn⟩
theorem Full.congr {n : Nat} {T T' : Tab} {Gs Gs' : Nat → List (List Nat)} {k : Nat} (h : Full n T Gs k) (hT : ∀ i, k ≤ i → T' i = T i) (hG : ∀ i, k ≤ i → Gs' i = Gs i) : Full n T' Gs' k := by
  refine ⟨fun j hj hn => ?_, fun j hj hn s hs => ?_, fun j hj hn => ?_, fun j hj hn g hg => ?_⟩
  · obtain ⟨a, b, c⟩ := h.chain j hj hn
    rw [hG j hj]
    refine ⟨a, b, fun i hi hin => ?_⟩
    rw [hT i (by omega)]
    exact c i hi hin
  · rw [hG j hj] at hs
    exact h.gens j hj hn s hs
  · rw [hT j hj]
    exact h.one j hj hn
  · rw [hG j hj]
    rw [hG (j + 1) (by omega)] at hg
    exact h.nest j hj hn g hg
theorem Full.sub {n : Nat} {T : Tab} {Gs : Nat → List (List Nat)} {k : Nat} (h : Full n T Gs k) (hk : k ≤ n) : Sub n (GenL n (Gs k)) := (h.chain k (Nat.le_refl _) hk).1
theorem GenL.isP {n : Nat} {l : List (List Nat)} (hl : ∀ s, s ∈ l → IsP n s) {p : List Nat} (h : GenL n l p) : IsP n p := (Gen.sub hl).1 p h
theorem GenL.sub {n : Nat} {l : List (List Nat)} (hl : ∀ s, s ∈ l → IsP n s) : Sub n (GenL n l) := Gen.sub hl
theorem GenL.of {n : Nat} {l : List (List Nat)} {s : List Nat} (h : s ∈ l) : GenL n l s := Gen.of h
theorem GenL.mono {n : Nat} {l l' : List (List Nat)} (h : ∀ s, s ∈ l → s ∈ l') {p : List Nat} (hp : GenL n l p) : GenL n l' p := fun H hH hs => hp H hH fun s hsl => hs s (h s hsl)
theorem GenL.same {n : Nat} {l : List (List Nat)} (hl : ∀ s, s ∈ l → IsP n s) {p : List Nat} (hp : GenL n l p) (x : List Nat) : GenL n (l ++ [p]) x ↔ GenL n l x := by
  constructor
  · intro h
    refine h _ (Gen.sub hl) fun s hs => ?_
    rcases List.mem_append.1 hs with h1 | h1
    · exact GenL.of h1
    · rw [List.mem_singleton.1 h1]; exact hp
  · exact GenL.mono fun s hs => List.mem_append.2 (.inl hs)
theorem Full.fix {n : Nat} {T : Tab} {Gs : Nat → List (List Nat)} {k : Nat} (h : Full n T Gs k) (hk : k ≤ n) {p : List Nat} (hp : GenL n (Gs k) p) : Fix k p := (h.chain k (Nat.le_refl _) hk).2.1 p hp
/-- Division tells membership. -/
theorem Full.has {n : Nat} {T : Tab} {Gs : Nat → List (List Nat)} {k : Nat} (h : Full n T Gs k) (hk : k ≤ n) {p : List Nat} (hp : IsP n p) (hf : Fix k p) : sift T k (n - k) p = true ↔ GenL n (Gs k) p :=
  sift_iff (n - k) k (by omega) (h.chain k (Nat.le_refl _) hk) hp hf
/-- A level is done. -/
theorem Full.make {n k : Nat} {T : Tab} {Gs : Nat → List (List Nat)} (hk : k < n) (h : Full n T Gs (k + 1)) (hg : ∀ s, s ∈ Gs k → IsP n s ∧ Fix k s) (hle : ∀ g, GenL n (Gs (k + 1)) g → GenL n (Gs k) g) (hid : T k k = some (idp n))
    (hT : ∀ y t, T k y = some t → GenL n (Gs k) t ∧ app t k = y) (hcl : ∀ y t s, T k y = some t → s ∈ Gs k → ∃ t', T k (app s y) = some t' ∧ GenL n (Gs (k + 1)) (comp (comp t s) (inv t'))) : Full n T Gs k := by
  have hch : Chain n T k (GenL n (Gs k)) := schreier hk hg (h.chain (k + 1) (Nat.le_refl _) (by omega)) hle hid hT (fun y t s => hcl y t s)
  refine ⟨fun j hj hn => ?_, fun j hj hn => ?_, fun j hj hn => ?_, fun j hj hn => ?_⟩
  · rcases Nat.eq_or_lt_of_le hj with rfl | hlt
    · exact hch
    · exact h.chain j hlt hn
  · rcases Nat.eq_or_lt_of_le hj with rfl | hlt
    · exact hg
    · exact h.gens j hlt hn
  · rcases Nat.eq_or_lt_of_le hj with rfl | hlt
    · exact hid
    · exact h.one j hlt hn
  · rcases Nat.eq_or_lt_of_le hj with rfl | hlt
    · exact hle
    · exact h.nest j hlt hn
/-- How many representatives lie from level k on. -/
def orbSum (n : Nat) (T : Tab) : Nat → Nat → Nat
  | _, 0 => 0
  | k, m + 1 => (orb n T k).length + orbSum n T (k + 1) m
theorem orb_len_le (n : Nat) (T : Tab) (k : Nat) : (orb n T k).length ≤ n := by
  have := List.length_filter_le (fun y => (T k y).isSome) (List.range n)
  rw [List.length_range] at this
  exact this
theorem orbSum_le (n : Nat) (T : Tab) : ∀ m k, orbSum n T k m ≤ m * n := by
  intro m
  induction m with
  | zero => intro k; simp [orbSum]
  | succ m ih =>
    intro k
    have h1 := ih (k + 1)
    have h2 := orb_len_le n T k
    rw [orbSum, Nat.succ_mul]
    omega
theorem filter_len_le {l : List Nat} {p q : Nat → Bool} (h : ∀ x ∈ l, p x = true → q x = true) : (l.filter p).length ≤ (l.filter q).length ∧ ((l.filter p).length = (l.filter q).length → ∀ x ∈ l, q x = true → p x = true) := by
  induction l with
  | nil => simp
  | cons a l ih =>
    obtain ⟨h1, h2⟩ := ih fun x hx => h x (List.mem_cons_of_mem _ hx)
    have ha := h a List.mem_cons_self
    cases hp : p a with
    | false =>
      cases hq : q a with
      | false =>
        simp only [List.filter_cons, hp, hq]
        refine ⟨by simpa using h1, fun e x hx hqx => ?_⟩
        rcases List.mem_cons.1 hx with rfl | hx
        · rw [hq] at hqx; cases hqx
        · exact h2 (by simpa using e) x hx hqx
      | true =>
        simp only [List.filter_cons, hp, hq]
        refine ⟨by simp; omega, fun e x hx hqx => ?_⟩
        simp at e
        omega
    | true =>
      have hq := ha hp
      simp only [List.filter_cons, hp, hq]
      refine ⟨by simpa using h1, fun e x hx hqx => ?_⟩
      rcases List.mem_cons.1 hx with rfl | hx
      · exact hp
      · exact h2 (by simpa using e) x hx hqx
theorem Chain.some_iff {n k : Nat} {T : Tab} {G : List Nat → Prop} (h : Chain n T k G) {j : Nat} (hkj : k ≤ j) (hjn : j < n) (y : Nat) : (T j y).isSome = true ↔ ∃ g, G g ∧ Fix j g ∧ app g j = y := by
  obtain ⟨ha, hb⟩ := h.2.2 j hkj hjn
  constructor
  · intro e
    obtain ⟨t, ht⟩ := Option.isSome_iff_exists.1 e
    obtain ⟨x1, x2, x3⟩ := ha y t ht
    exact ⟨t, x1, x2, x3⟩
  · rintro ⟨g, h1, h2, rfl⟩
    exact hb g h1 h2
/-- A chain that has all representatives' points of another's is that of the same group. -/
theorem chain_all {n : Nat} {T T' : Tab} : ∀ (m k : Nat) {G G' : List Nat → Prop}, m + k = n → Chain n T k G → Chain n T' k G' → (∀ g, G g → G' g) → (∀ j, k ≤ j → j < n → ∀ y, y < n → (T' j y).isSome = true → (T j y).isSome = true) → ∀ p, G' p → G p := by
  intro m
  induction m with
  | zero =>
    intro k G G' hm hc hc' hle hall p hp
    have h1 := hc'.2.1 p hp
    have h2 := Fix.all (hc'.1.1 p hp) (by rwa [show n = k from by omega])
    rw [h2]
    exact hc.1.2.1
  | succ m ih =>
    intro k G G' hm hc hc' hle hall p hp
    have hkn : k < n := by omega
    have hP := hc'.1.1 p hp
    have hf := hc'.2.1 p hp
    have hs := (hc'.some_iff (Nat.le_refl k) hkn (app p k)).2 ⟨p, hp, hf, rfl⟩
    have hs2 := hall k (Nat.le_refl _) hkn _ (hP.lt hkn) hs
    obtain ⟨t, ht, hft, hat⟩ := (hc.some_iff (Nat.le_refl k) hkn (app p k)).1 hs2
    have hTP := hc.1.1 t ht
    have hq' : G' (comp p (inv t)) := hc'.1.2.2.1 _ _ hp (hc'.1.2.2.2 _ (hle t ht))
    have hfq : Fix (k + 1) (comp p (inv t)) := by
      intro i hi
      rw [hP.appc (by omega)]
      rcases Nat.lt_or_ge i k with h | h
      · rw [hf i h, hft.inv hTP (by omega) i h]
      · obtain rfl : i = k := by omega
        rw [← hat, hTP.inv_app_self (by omega)]
    have h3 := ih (k + 1) (G := Stab G (k + 1)) (G' := Stab G' (k + 1)) (by omega) (hc.next hkn) (hc'.next hkn) (fun g hg => ⟨hle g hg.1, hg.2⟩) (fun j hj hjn y hy e => hall j (by omega) hjn y hy e) _ ⟨hq', hfq⟩
    have h4 := hc.1.2.2.1 _ _ h3.1 ht
    rwa [comp_assoc hP hTP.inv hTP, inv_comp hTP, comp_idp hP] at h4
theorem orbSum_mono {n : Nat} {T T' : Tab} : ∀ (m k : Nat), m + k = n → (∀ j, k ≤ j → j < n → ∀ y, y < n → (T j y).isSome = true → (T' j y).isSome = true) →
    orbSum n T k m ≤ orbSum n T' k m ∧ (orbSum n T k m = orbSum n T' k m → ∀ j, k ≤ j → j < n → ∀ y, y < n → (T' j y).isSome = true → (T j y).isSome = true) := by
  intro m
  induction m with
  | zero => intro k hm h; exact ⟨by simp [orbSum], fun _ j hj hn => by omega⟩
  | succ m ih =>
    intro k hm h
    obtain ⟨h1, h2⟩ := ih (k + 1) (by omega) fun j hj hn => h j (by omega) hn
    obtain ⟨h3, h4⟩ := filter_len_le (l := List.range n) (p := fun y => (T k y).isSome) (q := fun y => (T' k y).isSome) fun y hy => h k (Nat.le_refl _) (by omega) y (List.mem_range.1 hy)
    have h5 : (orb n T k).length ≤ (orb n T' k).length := h3
    rw [orbSum, orbSum]
    refine ⟨by omega, fun e j hj hn y hy hs => ?_⟩
    rcases Nat.eq_or_lt_of_le hj with rfl | hlt
    · exact h4 (by show (orb n T k).length = (orb n T' k).length; omega) y (List.mem_range.2 hy) hs
    · exact h2 (by omega) j hlt hn y hy hs
/-- A group that grows gets more representatives. -/
theorem Full.more {n k : Nat} {T T' : Tab} {Gs Gs' : Nat → List (List Nat)} (hk : k ≤ n) (h : Full n T Gs k) (h' : Full n T' Gs' k) {p : List Nat} (hp : ¬ GenL n (Gs k) p) (hp' : GenL n (Gs' k) p) (hle : ∀ g, GenL n (Gs k) g → GenL n (Gs' k) g) :
    orbSum n T k (n - k) + 1 ≤ orbSum n T' k (n - k) := by
  have hc := h.chain k (Nat.le_refl _) hk
  have hc' := h'.chain k (Nat.le_refl _) hk
  have hm : ∀ j, k ≤ j → j < n → ∀ y, y < n → (T j y).isSome = true → (T' j y).isSome = true := by
    intro j hj hn y _ e
    obtain ⟨g, h1, h2, h3⟩ := (hc.some_iff hj hn y).1 e
    exact (hc'.some_iff hj hn y).2 ⟨g, hle g h1, h2, h3⟩
  obtain ⟨h1, h2⟩ := orbSum_mono (n - k) k (by omega) hm
  rcases Nat.lt_or_ge (orbSum n T k (n - k)) (orbSum n T' k (n - k)) with h3 | h3
  · exact h3
  · exact absurd (chain_all (n - k) k (by omega) hc hc' hle (h2 (by omega)) p hp') hp
end Grp
end Go.Proofs.Ytpcnbjfkobeibaa
