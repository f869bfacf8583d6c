/- Plain laws: a level's row of representatives grows until it is closed under the level's generators. No program is named here. Plain laws: representatives added one by one, each with its products, as the reference does it. No program is named here. -/
import Derived.Test.YtpcnbjfkobeibaaGB
namespace Go.Proofs.Ytpcnbjfkobeibaa
section
namespace Grp

def updT (T : Tab) (i y : Nat) (t : List Nat) : Tab := fun a b => if a = i ∧ b = y then some t else T a b
theorem updT_same (T : Tab) (i y : Nat) (t : List Nat) : updT T i y t i y = some t := by simp [updT]
theorem updT_other {T : Tab} {i y a b : Nat} (t : List Nat) (h : ¬ (a = i ∧ b = y)) : updT T i y t a b = T a b := by simp only [updT, h, if_false]
theorem updT_off {T : Tab} {i y a : Nat} (t : List Nat) (h : a ≠ i) : updT T i y t a = T a := by funext b; exact updT_other t (fun e => h e.1)
theorem updT_some {T : Tab} {i y a b : Nat} (t : List Nat) (h : (T a b).isSome = true) : (updT T i y t a b).isSome = true := by
  by_cases e : a = i ∧ b = y
  · rw [e.1, e.2, updT_same]; rfl
  · rw [updT_other t e]; exact h
/-- The row of level k holds members only. -/
structure RowIn (n k : Nat) (L : List (List Nat)) (T : Tab) : Prop where
  one : T k k = some (idp n)
  mem : ∀ y t, T k y = some t → y < n ∧ GenL n L t ∧ app t k = y
/-- Point y is done: its images under the generators have representatives. -/
def Clo (k : Nat) (L : List (List Nat)) (T : Tab) (y : Nat) : Prop := ∀ s, s ∈ L → (T k (app s y)).isSome = true
theorem Clo.upd {k : Nat} {L : List (List Nat)} {T : Tab} {y : Nat} (h : Clo k L T y) (z : Nat) (t : List Nat) : Clo k L (updT T k z t) y := fun s hs => updT_some t (h s hs)
theorem RowIn.add {n k : Nat} {L : List (List Nat)} {T : Tab} (h : RowIn n k L T) (hk : k < n) (hL : ∀ s, s ∈ L → IsP n s) {y : Nat} {t s : List Nat} (ht : T k y = some t) (hs : s ∈ L) (hno : T k (app s y) = none) : RowIn n k L (updT T k (app s y) (comp t s)) := by
  obtain ⟨m1, m2, m3⟩ := h.mem y t ht
  have htP := GenL.isP hL m2
  have hsP := hL s hs
  refine ⟨?_, fun z u e => ?_⟩
  · rw [updT_other]
    · exact h.one
    · rintro ⟨-, e⟩
      rw [← e, h.one] at hno
      cases hno
  · by_cases ez : z = app s y
    · subst ez
      rw [updT_same] at e
      injection e with e
      subst e
      refine ⟨hsP.lt m1, (GenL.sub hL).2.2.1 _ _ m2 (GenL.of hs), ?_⟩
      rw [htP.appc hk, m3]
    · rw [updT_other _ (fun e2 => ez e2.2)] at e
      exact h.mem z u e
theorem orb_upd {n k y : Nat} {T : Tab} {t : List Nat} (hy : y < n) (hno : T k y = none) : (orb n (updT T k y t) k).length = (orb n T k).length + 1 := by
  have key : ∀ (m : Nat), ((List.range m).filter fun z => (updT T k y t k z).isSome).length = ((List.range m).filter fun z => (T k z).isSome).length + (if y < m then 1 else 0) := by
    intro m
    induction m with
    | zero => simp
    | succ m ih =>
      rw [List.range_succ, List.filter_append, List.filter_append, List.length_append, List.length_append, ih]
      by_cases e : m = y
      · subst e
        simp [updT_same, hno]
      · have e3 : ([m].filter fun z => (updT T k y t k z).isSome) = ([m].filter fun z => (T k z).isSome) := by
          have h3 : updT T k y t k m = T k m := updT_other t (fun e2 => e e2.2)
          simp only [List.filter_cons, List.filter_nil, h3]
        rw [e3]
        have : (if y < m + 1 then 1 else 0) = (if y < m then 1 else 0 : Nat) := by
          by_cases h2 : y < m
          · rw [if_pos h2, if_pos (by omega)]
          · rw [if_neg h2, if_neg (by omega)]
        omega
  have := key n
  rw [if_pos hy] at this
  exact this
theorem mem_orb {n : Nat} {T : Tab} {k y : Nat} : y ∈ orb n T k ↔ y < n ∧ (T k y).isSome = true := by simp [orb]
/-- What a queue of points owes. -/
def Pend (k : Nat) (L : List (List Nat)) (T : Tab) (q : List Nat) : Prop := ∀ y, (T k y).isSome = true → y ∈ q ∨ Clo k L T y
def Pend1 (k : Nat) (L : List (List Nat)) (T : Tab) (h : Nat) (q : List Nat) : Prop := ∀ y, (T k y).isSome = true → y = h ∨ y ∈ q ∨ Clo k L T y
def CloTo (k : Nat) (L : List (List Nat)) (T : Tab) (h j : Nat) : Prop := ∀ i, i < j → (T k (app (L.getD i []) h)).isSome = true
theorem Pend.pop {k : Nat} {L : List (List Nat)} {T : Tab} {h : Nat} {q : List Nat} (hp : Pend k L T (h :: q)) : Pend1 k L T h q := fun y hy => by
  rcases hp y hy with h1 | h1
  · rcases List.mem_cons.1 h1 with h2 | h2
    · exact .inl h2
    · exact .inr (.inl h2)
  · exact .inr (.inr h1)
theorem Pend1.done {k : Nat} {L : List (List Nat)} {T : Tab} {h : Nat} {q : List Nat} (hp : Pend1 k L T h q) (hc : CloTo k L T h L.length) : Pend k L T q := fun y hy => by
  rcases hp y hy with h1 | h1 | h1
  · refine .inr fun s hs => ?_
    obtain ⟨i, hi, e⟩ := List.getElem_of_mem hs
    have := hc i hi
    rw [List.getD_eq_getElem?_getD, List.getElem?_eq_getElem hi] at this
    rw [h1, ← e]
    exact this
  · exact .inl h1
  · exact .inr h1
theorem Pend1.add {k : Nat} {L : List (List Nat)} {T : Tab} {h : Nat} {q : List Nat} (hp : Pend1 k L T h q) (z : Nat) (t : List Nat) : Pend1 k L (updT T k z t) h (q ++ [z]) := fun y hy => by
  by_cases e : y = z
  · exact .inr (.inl (by rw [e]; simp))
  · rw [updT_other t (fun e2 => e e2.2)] at hy
    rcases hp y hy with h1 | h1 | h1
    · exact .inl h1
    · exact .inr (.inl (List.mem_append.2 (.inl h1)))
    · exact .inr (.inr (h1.upd z t))
theorem CloTo.upd {k : Nat} {L : List (List Nat)} {T : Tab} {h j : Nat} (hc : CloTo k L T h j) (z : Nat) (t : List Nat) : CloTo k L (updT T k z t) h j := fun i hi => updT_some t (hc i hi)
theorem CloTo.more {k : Nat} {L : List (List Nat)} {T : Tab} {h j : Nat} (hc : CloTo k L T h j) (hs : (T k (app (L.getD j []) h)).isSome = true) : CloTo k L T h (j + 1) := fun i hi => by
  rcases Nat.lt_or_ge i j with h1 | h1
  · exact hc i h1
  · obtain rfl : i = j := by omega
    exact hs
theorem pend_all {k : Nat} {L : List (List Nat)} {T : Tab} (hp : Pend k L T []) : ∀ y, (T k y).isSome = true → Clo k L T y := fun y hy => by
  rcases hp y hy with h1 | h1
  · cases h1
  · exact h1
/-- What an added permutation does to the levels from k on. -/
structure Added (n k : Nat) (T : Tab) (Gs : Nat → List (List Nat)) (p : List Nat) (T' : Tab) (Gs' : Nat → List (List Nat)) : Prop where
  full : Full n T' Gs' k
  tab : ∀ i, i < k → T' i = T i
  gens : ∀ i, i < k → Gs' i = Gs i
  grp : ∀ x, GenL n (Gs' k) x ↔ GenL n (Gs k ++ [p]) x
  cnt : ∀ j, k ≤ j → j ≤ n → (Gs' j).length ≤ orbSum n T' j (n - j)
theorem Added.same {n k : Nat} {T : Tab} {Gs : Nat → List (List Nat)} {p : List Nat} (h : Full n T Gs k) (hk : k ≤ n) (hp : GenL n (Gs k) p) (hc : ∀ j, k ≤ j → j ≤ n → (Gs j).length ≤ orbSum n T j (n - j)) : Added n k T Gs p T Gs :=
  ⟨h, fun _ _ => rfl, fun _ _ => rfl, fun x => (GenL.same (fun s hs => (h.gens k (Nat.le_refl _) hk s hs).1) hp x).symm, hc⟩
/-- A level's products, done for some of the points and generators. -/
structure Prods (n k : Nat) (L : List (List Nat)) (T1 : Tab) (T : Tab) (Gs : Nat → List (List Nat)) (D : Nat → Nat → Prop) : Prop where
  full : Full n T Gs (k + 1)
  tab : ∀ i, i ≤ k → T i = T1 i
  gens : Gs k = L
  le : ∀ g, GenL n (Gs (k + 1)) g → GenL n L g
  done : ∀ y j t t', D y j → j < L.length → T k y = some t → T k (app (L.getD j []) y) = some t' → GenL n (Gs (k + 1)) (comp (comp t (L.getD j [])) (inv t'))
  cnt : ∀ j, k + 1 ≤ j → j ≤ n → (Gs j).length ≤ orbSum n T j (n - j)
theorem Prods.step {n k : Nat} {L : List (List Nat)} {T1 T T' : Tab} {Gs Gs' : Nat → List (List Nat)} {D : Nat → Nat → Prop} (h : Prods n k L T1 T Gs D) (hL : ∀ s, s ∈ L → IsP n s) (hR : RowIn n k L T1) {y j : Nat} {t t' : List Nat} (hj : j < L.length)
    (ht : T1 k y = some t) (ht' : T1 k (app (L.getD j []) y) = some t') (ha : Added n (k + 1) T Gs (comp (comp t (L.getD j [])) (inv t')) T' Gs') : Prods n k L T1 T' Gs' (fun a b => D a b ∨ (a = y ∧ b = j)) := by
  have hsub := GenL.sub hL
  have hsj : L.getD j [] ∈ L := by rw [List.getD_eq_getElem?_getD, List.getElem?_eq_getElem hj]; exact List.getElem_mem hj
  have hq : GenL n L (comp (comp t (L.getD j [])) (inv t')) := hsub.2.2.1 _ _ (hsub.2.2.1 _ _ (hR.mem y t ht).2.1 (GenL.of hsj)) (hsub.2.2.2 _ (hR.mem _ t' ht').2.1)
  have hup : ∀ g, GenL n (Gs (k + 1)) g → GenL n (Gs' (k + 1)) g := fun g hg => (ha.grp g).2 (GenL.mono (fun s hs => List.mem_append.2 (.inl hs)) hg)
  refine ⟨ha.full, fun i hi => (ha.tab i (by omega)).trans (h.tab i hi), (ha.gens k (by omega)).trans h.gens, fun g hg => ?_, fun a b u u' hd hb hu hu' => ?_, ha.cnt⟩
  · refine ((ha.grp g).1 hg) _ hsub fun s hs => ?_
    rcases List.mem_append.1 hs with h1 | h1
    · exact h.le s (GenL.of h1)
    · rw [List.mem_singleton.1 h1]; exact hq
  · rw [ha.tab k (by omega)] at hu hu'
    rcases hd with hd | ⟨rfl, rfl⟩
    · exact hup _ (h.done a b u u' hd hb hu hu')
    · rw [h.tab k (Nat.le_refl _)] at hu hu'
      rw [ht] at hu
      rw [ht'] at hu'
      injection hu with hu
      injection hu' with hu'
      subst hu hu'
      exact (ha.grp _).2 (GenL.of (by simp))
theorem Prods.congr {n k : Nat} {L : List (List Nat)} {T1 T : Tab} {Gs : Nat → List (List Nat)} {D D' : Nat → Nat → Prop} (h : Prods n k L T1 T Gs D) (hD : ∀ y j, j < L.length → D' y j → D y j) : Prods n k L T1 T Gs D' :=
  ⟨h.full, h.tab, h.gens, h.le, fun y j t t' hd hj ht ht' => h.done y j t t' (hD y j hj hd) hj ht ht', h.cnt⟩
theorem Prods.start {n k : Nat} {L : List (List Nat)} {T0 T1 : Tab} {Gs0 Gs : Nat → List (List Nat)} (h : Full n T0 Gs0 (k + 1)) (hT : ∀ i, i ≠ k → T1 i = T0 i) (hG : ∀ i, k + 1 ≤ i → Gs i = Gs0 i) (hk : Gs k = L) (hle : ∀ g, GenL n (Gs0 (k + 1)) g → GenL n L g) (hc : ∀ j, k + 1 ≤ j → j ≤ n → (Gs0 j).length ≤ orbSum n T0 j (n - j))
    (hsum : ∀ j, k + 1 ≤ j → orbSum n T1 j (n - j) = orbSum n T0 j (n - j)) : Prods n k L T1 T1 Gs (fun _ _ => False) :=
  ⟨h.congr (fun i hi => hT i (by omega)) hG, fun _ _ => rfl, hk, fun g hg => hle g (by rwa [hG (k + 1) (Nat.le_refl _)] at hg), fun _ _ _ _ h => h.elim, fun j hj hn => by rw [hG j hj, hsum j hj]; exact hc j hj hn⟩
theorem orbSum_congr {n : Nat} {T T' : Tab} : ∀ (m j : Nat), (∀ i, j ≤ i → T' i = T i) → orbSum n T' j m = orbSum n T j m := by
  intro m
  induction m with
  | zero => intro j _; rfl
  | succ m ih =>
    intro j h
    rw [orbSum, orbSum, ih (j + 1) fun i hi => h i (by omega)]
    unfold orb
    rw [h j (Nat.le_refl _)]
/-- Points and generators gone through. -/
def DoneTo (ys : List Nat) (a j : Nat) (y i : Nat) : Prop := y ∈ ys.take a ∨ (y = ys.getD a 0 ∧ i < j)
theorem DoneTo.step {ys : List Nat} {a j y i : Nat} (h : DoneTo ys a (j + 1) y i) : DoneTo ys a j y i ∨ (y = ys.getD a 0 ∧ i = j) := by
  rcases h with h | ⟨h1, h2⟩
  · exact .inl (.inl h)
  · rcases Nat.lt_or_ge i j with h3 | h3
    · exact .inl (.inr ⟨h1, h3⟩)
    · exact .inr ⟨h1, by omega⟩
theorem DoneTo.next {ys : List Nat} {a m y i : Nat} (ha : a < ys.length) (hi : i < m) (h : DoneTo ys (a + 1) 0 y i) : DoneTo ys a m y i := by
  rcases h with h | ⟨_, h2⟩
  · rw [List.take_succ_eq_append_getElem ha] at h
    rcases List.mem_append.1 h with h1 | h1
    · exact .inl h1
    · refine .inr ⟨?_, hi⟩
      rw [List.mem_singleton.1 h1, List.getD_eq_getElem?_getD, List.getElem?_eq_getElem ha]; rfl
  · omega
theorem DoneTo.all {ys : List Nat} {y i : Nat} (h : y ∈ ys) : DoneTo ys ys.length 0 y i := .inl (by rw [List.take_of_length_le (Nat.le_refl _)]; exact h)
/-- A level is done: all its points and generators have been gone through. -/
theorem Prods.end_ {n k : Nat} {L : List (List Nat)} {T0 T1 T : Tab} {Gs0 Gs : Nat → List (List Nat)} {D : Nat → Nat → Prop} {p : List Nat} (h : Prods n k L T1 T Gs D) (hk : k < n) (h0 : Full n T0 Gs0 k) (hc0 : (Gs0 k).length ≤ orbSum n T0 k (n - k)) (hp : IsP n p) (hf : Fix k p) (hno : ¬ GenL n (Gs0 k) p) (hLe : L = Gs0 k ++ [p])
    (hR : RowIn n k L T1) (hclo : ∀ y, (T1 k y).isSome = true → Clo k L T1 y) (hD : ∀ y j, (T1 k y).isSome = true → j < L.length → D y j) (hT0 : ∀ i, i < k → T1 i = T0 i) (hG0 : ∀ i, i < k → Gs i = Gs0 i) : Added n k T0 Gs0 p T Gs := by
  have hL : ∀ s, s ∈ L → IsP n s ∧ Fix k s := by
    intro s hs
    rw [hLe] at hs
    rcases List.mem_append.1 hs with h1 | h1
    · exact h0.gens k (Nat.le_refl _) (by omega) s h1
    · rw [List.mem_singleton.1 h1]; exact ⟨hp, hf⟩
  have hTk := h.tab k (Nat.le_refl _)
  have hfull : Full n T Gs k := by
    refine Full.make hk h.full (by rw [h.gens]; exact hL) (by rw [h.gens]; exact h.le) (by rw [hTk]; exact hR.one) (fun y t e => ?_) (fun y t s e hs => ?_)
    · rw [hTk] at e
      rw [h.gens]
      exact (hR.mem y t e).2
    · rw [h.gens] at hs
      obtain ⟨i, hi, rfl⟩ := List.getElem_of_mem hs
      have eg : L.getD i [] = L[i] := by rw [List.getD_eq_getElem?_getD, List.getElem?_eq_getElem hi]; rfl
      have e1 := e
      rw [hTk] at e1
      have h1 := hclo y (by rw [e1]; rfl) _ hs
      obtain ⟨t', ht'⟩ := Option.isSome_iff_exists.1 h1
      refine ⟨t', by rw [hTk]; exact ht', ?_⟩
      rw [← eg]
      exact h.done y i t t' (hD y i (by rw [e1]; rfl) hi) hi e (by rw [hTk, eg]; exact ht')
  refine ⟨hfull, fun i hi => (h.tab i (by omega)).trans (hT0 i hi), hG0, fun x => by rw [h.gens, hLe], fun j hj hn => ?_⟩
  rcases Nat.eq_or_lt_of_le hj with rfl | hlt
  · rw [h.gens, hLe, List.length_append, List.length_singleton]
    have := Full.more (by omega) h0 hfull hno (by rw [h.gens, hLe]; exact GenL.of (by simp)) (fun g hg => by rw [h.gens, hLe]; exact GenL.mono (fun s hs => List.mem_append.2 (.inl hs)) hg)
    omega
  · exact h.cnt j hlt hn
end Grp
end
section
namespace Grp

theorem Full.old {n k : Nat} {T : Tab} {Gs : Nat → List (List Nat)} (h : Full n T Gs k) (hk : k < n) {y : Nat} {t s : List Nat} (ht : T k y = some t) (hs : s ∈ Gs k) : ∃ t', T k (app s y) = some t' ∧ GenL n (Gs (k + 1)) (comp (comp t s) (inv t')) := by
  have hc := h.chain k (Nat.le_refl _) (by omega)
  obtain ⟨ha, hb⟩ := hc.2.2 k (Nat.le_refl _) hk
  obtain ⟨x1, x2, x3⟩ := ha y t ht
  have htP := hc.1.1 t x1
  have hsG : GenL n (Gs k) s := GenL.of hs
  have hsP := hc.1.1 s hsG
  have hts := hc.1.2.2.1 _ _ x1 hsG
  have he : app (comp t s) k = app s y := by rw [htP.appc hk, x3]
  have h1 := hb _ hts (hc.2.1 _ hts)
  rw [he] at h1
  obtain ⟨t', ht'⟩ := Option.isSome_iff_exists.1 h1
  obtain ⟨z1, z2, z3⟩ := ha _ t' ht'
  have htP' := hc.1.1 t' z1
  have hq := hc.1.2.2.1 _ _ hts (hc.1.2.2.2 _ z1)
  have hqP := hc.1.1 _ hq
  have hqF : Fix (k + 1) (comp (comp t s) (inv t')) := by
    intro i hi
    rcases Nat.lt_or_ge i k with h2 | h2
    · exact hc.2.1 _ hq i h2
    · obtain rfl : i = k := by omega
      rw [(htP.comp hsP).appc hk, he]
      have := htP'.inv_app_self hk
      rwa [z3] at this
  refine ⟨t', ht', ?_⟩
  have s1 := (sift_iff (n - (k + 1)) (k + 1) (by omega) (hc.next hk) hqP hqF).2 ⟨hq, hqF⟩
  exact (sift_iff (n - (k + 1)) (k + 1) (by omega) (h.chain (k + 1) (by omega) (by omega)) hqP hqF).1 s1
theorem GenL.one {n : Nat} {l : List (List Nat)} (hl : ∀ s, s ∈ l → IsP n s) : GenL n l (idp n) := (GenL.sub hl).2.1
/-- The state of the levels from k on while the row of level k grows. -/
structure Rowed (n k : Nat) (L : List (List Nat)) (T : Tab) (Gs : Nat → List (List Nat)) : Prop where
  full : Full n T Gs (k + 1)
  gens : Gs k = L
  row : RowIn n k L T
  le : ∀ g, GenL n (Gs (k + 1)) g → GenL n L g
  cnt : ∀ j, k + 1 ≤ j → j ≤ n → (Gs j).length ≤ orbSum n T j (n - j)
theorem RowIn.congr {n k : Nat} {L : List (List Nat)} {T T' : Tab} (h : RowIn n k L T) (e : T' k = T k) : RowIn n k L T' := ⟨by rw [e]; exact h.one, fun y t => by rw [e]; exact h.mem y t⟩
def Did (n k : Nat) (T : Tab) (Gs : Nat → List (List Nat)) (y : Nat) (t s : List Nat) : Prop := ∃ t', T k (app s y) = some t' ∧ GenL n (Gs (k + 1)) (comp (comp t s) (inv t'))
/-- What is kept from one state to a later one. -/
structure Later (n k : Nat) (T : Tab) (Gs : Nat → List (List Nat)) (T' : Tab) (Gs' : Nat → List (List Nat)) : Prop where
  tab : ∀ i, i < k → T' i = T i
  low : ∀ i, i ≤ k → Gs' i = Gs i
  ext : ∀ y t, T k y = some t → T' k y = some t
  up : ∀ g, GenL n (Gs (k + 1)) g → GenL n (Gs' (k + 1)) g
theorem Later.refl (n k : Nat) (T : Tab) (Gs : Nat → List (List Nat)) : Later n k T Gs T Gs := ⟨fun _ _ => rfl, fun _ _ => rfl, fun _ _ h => h, fun _ h => h⟩
theorem Later.trans {n k : Nat} {T T' T'' : Tab} {Gs Gs' Gs'' : Nat → List (List Nat)} (h : Later n k T Gs T' Gs') (h2 : Later n k T' Gs' T'' Gs'') : Later n k T Gs T'' Gs'' :=
  ⟨fun i hi => (h2.tab i hi).trans (h.tab i hi), fun i hi => (h2.low i hi).trans (h.low i hi), fun y t e => h2.ext y t (h.ext y t e), fun g e => h2.up g (h.up g e)⟩
theorem Did.later {n k : Nat} {T T' : Tab} {Gs Gs' : Nat → List (List Nat)} {y : Nat} {t s : List Nat} (h : Did n k T Gs y t s) (hl : Later n k T Gs T' Gs') : Did n k T' Gs' y t s := by
  obtain ⟨t', a, b⟩ := h
  exact ⟨t', hl.ext _ _ a, hl.up _ b⟩
/-- What the addition of a product does. -/
structure Prodded (n k : Nat) (L : List (List Nat)) (T : Tab) (Gs : Nat → List (List Nat)) (p : List Nat) (T' : Tab) (Gs' : Nat → List (List Nat)) : Prop where
  st : Rowed n k L T' Gs'
  later : Later n k T Gs T' Gs'
  got : ∃ t', T' k (app p k) = some t' ∧ GenL n (Gs' (k + 1)) (comp p (inv t'))
  new : ∀ y t, T' k y = some t → T k y = none → ∀ s, s ∈ L → Did n k T' Gs' y t s
/-- The point has a representative: what is left goes to the next level. -/
theorem Prodded.deep {n k : Nat} {L : List (List Nat)} {T T' : Tab} {Gs Gs' : Nat → List (List Nat)} {p t : List Nat} (h : Rowed n k L T Gs) (hL : ∀ s, s ∈ L → IsP n s) (hp : GenL n L p) (ht : T k (app p k) = some t) (ha : Added n (k + 1) T Gs (comp p (inv t)) T' Gs') : Prodded n k L T Gs p T' Gs' := by
  have hTk := ha.tab k (by omega)
  have hsub := GenL.sub hL
  have hup : ∀ g, GenL n (Gs (k + 1)) g → GenL n (Gs' (k + 1)) g := fun g hg => (ha.grp g).2 (GenL.mono (fun s hs => List.mem_append.2 (.inl hs)) hg)
  have hq : GenL n L (comp p (inv t)) := hsub.2.2.1 _ _ hp (hsub.2.2.2 _ (h.row.mem _ t ht).2.1)
  refine ⟨⟨ha.full, (ha.gens k (by omega)).trans h.gens, h.row.congr hTk, fun g hg => ?_, ha.cnt⟩, ⟨fun i hi => ha.tab i (by omega), fun i hi => ha.gens i (by omega), fun y u e => by rw [hTk]; exact e, hup⟩, ⟨t, by rw [hTk]; exact ht, (ha.grp _).2 (GenL.of (by simp))⟩, fun y u e hno => ?_⟩
  · refine ((ha.grp g).1 hg) _ hsub fun s hs => ?_
    rcases List.mem_append.1 hs with h1 | h1
    · exact h.le s (GenL.of h1)
    · rw [List.mem_singleton.1 h1]; exact hq
  · rw [hTk, hno] at e
    cases e
/-- A new representative p has been laid; its products with the first i generators are done. -/
structure Mid (n k : Nat) (L : List (List Nat)) (T : Tab) (Gs : Nat → List (List Nat)) (p : List Nat) (i : Nat) (T' : Tab) (Gs' : Nat → List (List Nat)) : Prop where
  st : Rowed n k L T' Gs'
  later : Later n k (updT T k (app p k) p) Gs T' Gs'
  own : ∀ j, j < i → j < L.length → Did n k T' Gs' (app p k) p (L.getD j [])
  new : ∀ y t, T' k y = some t → updT T k (app p k) p k y = none → ∀ s, s ∈ L → Did n k T' Gs' y t s
theorem Rowed.lay {n k : Nat} {L : List (List Nat)} {T : Tab} {Gs : Nat → List (List Nat)} {p : List Nat} (h : Rowed n k L T Gs) (hk : k < n) (hL : ∀ s, s ∈ L → IsP n s) (hp : GenL n L p) (hno : T k (app p k) = none) : Rowed n k L (updT T k (app p k) p) Gs := by
  refine ⟨h.full.congr (fun i hi => updT_off p (by omega)) (fun _ _ => rfl), h.gens, ⟨?_, fun y t e => ?_⟩, h.le, fun j hj hn => ?_⟩
  · rw [updT_other]
    · exact h.row.one
    · rintro ⟨-, e⟩
      rw [← e, h.row.one] at hno
      cases hno
  · by_cases ey : y = app p k
    · subst ey
      rw [updT_same] at e
      injection e with e
      subst e
      exact ⟨(GenL.isP hL hp).lt hk, hp, rfl⟩
    · rw [updT_other _ (fun e2 => ey e2.2)] at e
      exact h.row.mem y t e
  · rw [orbSum_congr (n - j) j (T := T) (T' := updT T k (app p k) p) (fun i hi => updT_off p (by omega))]
    exact h.cnt j hj hn
theorem Mid.start {n k : Nat} {L : List (List Nat)} {T : Tab} {Gs : Nat → List (List Nat)} {p : List Nat} (h : Rowed n k L T Gs) (hk : k < n) (hL : ∀ s, s ∈ L → IsP n s) (hp : GenL n L p) (hno : T k (app p k) = none) : Mid n k L T Gs p 0 (updT T k (app p k) p) Gs :=
  ⟨h.lay hk hL hp hno, Later.refl _ _ _ _, fun j hj => by omega, fun y t e hn => by rw [hn] at e; cases e⟩
theorem Mid.step {n k i : Nat} {L : List (List Nat)} {T T1 T2 : Tab} {Gs Gs1 Gs2 : Nat → List (List Nat)} {p : List Nat} (h : Mid n k L T Gs p i T1 Gs1) (hk : k < n) (hpP : IsP n p) (h2 : Prodded n k L T1 Gs1 (comp p (L.getD i [])) T2 Gs2) : Mid n k L T Gs p (i + 1) T2 Gs2 := by
  refine ⟨h2.st, h.later.trans h2.later, fun j hj hjl => ?_, fun y t e hno s hs => ?_⟩
  · rcases Nat.lt_or_ge j i with h3 | h3
    · exact (h.own j h3 hjl).later h2.later
    · obtain rfl : j = i := by omega
      obtain ⟨t', a, b⟩ := h2.got
      rw [hpP.appc hk] at a
      exact ⟨t', a, b⟩
  · cases e1 : T1 k y with
    | none => exact h2.new y t e e1 s hs
    | some u =>
      have := h2.later.ext y u e1
      rw [e] at this
      injection this with this
      subst this
      exact (h.new y t e1 hno s hs).later h2.later
theorem Mid.end_ {n k : Nat} {L : List (List Nat)} {T T' : Tab} {Gs Gs' : Nat → List (List Nat)} {p : List Nat} (h : Mid n k L T Gs p L.length T' Gs') (hk : k < n) (hpP : IsP n p) (hno : T k (app p k) = none) : Prodded n k L T Gs p T' Gs' := by
  have hp' : T' k (app p k) = some p := h.later.ext _ _ (updT_same _ _ _ _)
  refine ⟨h.st, ⟨fun i hi => (h.later.tab i hi).trans (updT_off p (by omega)), h.later.low, fun y t e => h.later.ext y t ?_, h.later.up⟩, ⟨p, hp', ?_⟩, fun y t e hn s hs => ?_⟩
  · rw [updT_other]
    · exact e
    · rintro ⟨-, e2⟩
      rw [e2, hno] at e
      cases e
  · rw [comp_inv hpP]
    exact (h.st.full.sub (by omega)).2.1
  · by_cases ey : y = app p k
    · subst ey
      rw [hp'] at e
      injection e with e
      subst e
      obtain ⟨i, hi, rfl⟩ := List.getElem_of_mem hs
      have := h.own i hi hi
      rwa [List.getD_eq_getElem?_getD, List.getElem?_eq_getElem hi] at this
    · exact h.new y t e (by rw [updT_other _ (fun e2 => ey e2.2)]; exact hn) s hs
/-- A generator p has been appended; the products of the first i of the known representatives with it are done. -/
structure KMid (n k : Nat) (L : List (List Nat)) (T : Tab) (Gs : Nat → List (List Nat)) (p : List Nat) (kn : List Nat) (i : Nat) (T' : Tab) (Gs' : Nat → List (List Nat)) : Prop where
  st : Rowed n k L T' Gs'
  later : Later n k T Gs T' Gs'
  own : ∀ j t, j < i → j < kn.length → T k (kn.getD j 0) = some t → Did n k T' Gs' (kn.getD j 0) t p
  new : ∀ y t, T' k y = some t → T k y = none → ∀ s, s ∈ L → Did n k T' Gs' y t s
theorem KMid.start {n k : Nat} {L : List (List Nat)} {T : Tab} {Gs : Nat → List (List Nat)} (p : List Nat) (kn : List Nat) (h : Rowed n k L T Gs) : KMid n k L T Gs p kn 0 T Gs :=
  ⟨h, Later.refl _ _ _ _, fun j t hj => by omega, fun y t e hn => by rw [hn] at e; cases e⟩
theorem KMid.step {n k i : Nat} {L : List (List Nat)} {T T1 T2 : Tab} {Gs Gs1 Gs2 : Nat → List (List Nat)} {p t : List Nat} {kn : List Nat} (h : KMid n k L T Gs p kn i T1 Gs1) (hk : k < n) (hL : ∀ s, s ∈ L → IsP n s) (hT0 : RowIn n k L T) (ht : T k (kn.getD i 0) = some t) (h2 : Prodded n k L T1 Gs1 (comp t p) T2 Gs2) : KMid n k L T Gs p kn (i + 1) T2 Gs2 := by
  obtain ⟨_, m2, m3⟩ := hT0.mem _ t ht
  have htP := GenL.isP hL m2
  refine ⟨h2.st, h.later.trans h2.later, fun j u hj hjl hu => ?_, fun y u e hno s hs => ?_⟩
  · rcases Nat.lt_or_ge j i with h3 | h3
    · exact (h.own j u h3 hjl hu).later h2.later
    · obtain rfl : j = i := by omega
      rw [ht] at hu
      injection hu with hu
      subst hu
      obtain ⟨t', a, b⟩ := h2.got
      rw [htP.appc hk, m3] at a
      exact ⟨t', a, b⟩
  · cases e1 : T1 k y with
    | none => exact h2.new y u e e1 s hs
    | some v =>
      have := h2.later.ext y v e1
      rw [e] at this
      injection this with this
      subst this
      exact (h.new y u e1 hno s hs).later h2.later
/-- A level is done, at the reference. -/
theorem KMid.end_ {n k : Nat} {L : List (List Nat)} {T0 T' : Tab} {Gs0 Gs Gs' : Nat → List (List Nat)} {p : List Nat} {kn : List Nat} (h : KMid n k L T0 Gs p kn kn.length T' Gs') (hk : k < n) (h0 : Full n T0 Gs0 k) (hc0 : (Gs0 k).length ≤ orbSum n T0 k (n - k)) (hp : IsP n p) (hf : Fix k p) (hno : ¬ GenL n (Gs0 k) p)
    (hLe : L = Gs0 k ++ [p]) (hGs : ∀ i, i ≠ k → Gs i = Gs0 i) (hkn : ∀ y, y < n → (T0 k y).isSome = true → y ∈ kn) : Added n k T0 Gs0 p T' Gs' := by
  have hL : ∀ s, s ∈ L → IsP n s ∧ Fix k s := by
    intro s hs
    rw [hLe] at hs
    rcases List.mem_append.1 hs with h1 | h1
    · exact h0.gens k (Nat.le_refl _) (by omega) s h1
    · rw [List.mem_singleton.1 h1]; exact ⟨hp, hf⟩
  have hGk : Gs' k = L := h.st.gens
  have hdid : ∀ y t s, T' k y = some t → s ∈ L → Did n k T' Gs' y t s := by
    intro y t s ht hs
    cases e0 : T0 k y with
    | none => exact h.new y t ht e0 s hs
    | some u =>
      have := h.later.ext y u e0
      rw [ht] at this
      injection this with this
      subst this
      rw [hLe] at hs
      rcases List.mem_append.1 hs with h1 | h1
      · have hold := Full.old h0 hk e0 h1
        obtain ⟨t', a, b⟩ := hold
        exact ⟨t', h.later.ext _ _ a, h.later.up _ (by rw [hGs (k + 1) (by omega)]; exact b)⟩
      · rw [List.mem_singleton.1 h1]
        have hch := h0.chain k (Nat.le_refl _) (by omega)
        obtain ⟨x1, x2, x3⟩ := (hch.2.2 k (Nat.le_refl _) hk).1 y t e0
        have hyn : y < n := by rw [← x3]; exact (hch.1.1 t x1).lt hk
        have hm := hkn y hyn (by rw [e0]; rfl)
        obtain ⟨i, hi, hiy⟩ := List.getElem_of_mem hm
        have hg : kn.getD i 0 = y := by rw [List.getD_eq_getElem?_getD, List.getElem?_eq_getElem hi]; exact hiy
        have := h.own i t hi hi (by rw [hg]; exact e0)
        rwa [hg] at this
  have hfull : Full n T' Gs' k := Full.make hk h.st.full (by rw [hGk]; exact hL) (by rw [hGk]; exact h.st.le) h.st.row.one (fun y t e => by rw [hGk]; exact (h.st.row.mem y t e).2) (fun y t s e hs => hdid y t s e (by rw [← hGk]; exact hs))
  refine ⟨hfull, fun i hi => h.later.tab i hi, fun i hi => (h.later.low i (by omega)).trans (hGs i (by omega)), fun x => by rw [hGk, hLe], fun j hj hn => ?_⟩
  rcases Nat.eq_or_lt_of_le hj with rfl | hlt
  · rw [hGk, hLe, List.length_append, List.length_singleton]
    have := Full.more (by omega) h0 hfull hno (by rw [hGk, hLe]; exact GenL.of (by simp)) (fun g hg => by rw [hGk, hLe]; exact GenL.mono (fun s hs => List.mem_append.2 (.inl hs)) hg)
    omega
  · exact h.st.cnt j hlt hn
theorem orb_ext {n k : Nat} {T T' : Tab} (h : ∀ y t, T k y = some t → T' k y = some t) : (orb n T k).length ≤ (orb n T' k).length :=
  (filter_len_le (l := List.range n) (p := fun y => (T k y).isSome) (q := fun y => (T' k y).isSome) fun y _ hy => by
    obtain ⟨t, ht⟩ := Option.isSome_iff_exists.1 hy
    rw [h y t ht]; rfl).1
end Grp
end
end Go.Proofs.Ytpcnbjfkobeibaa
