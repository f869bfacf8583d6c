/- Plain laws: representatives added one by one, each with its products, as the reference does it. No program is named here. -/
import Derived.Test.YtpcnbjfkobeibaaGC
namespace Go.Proofs.Ytpcnbjfkobeibaa
namespace Grp

theorem Full.old {n k : Nat} {T : Tab} {Gs : Nat → List (List Nat)} (h : Full n T Gs k) (hk : k < n) {y : Nat} {t s : List Nat} (ht : T k y = some t) (hs : s ∈ Gs k) : ∃ t', T k (app s y) = some t' ∧ GenL n (Gs (k + 1)) (comp (comp t s) (inv t')) := by
  have hc := h.chain k (Nat.le_refl _) (by omega)
  obtain ⟨ha, hb⟩ := hc.2.2 k (Nat.le_refl _) hk
  obtain ⟨x1, x2, x3⟩ := ha y t ht
  have htP := hc.1.1 t x1
  have hsG : GenL n (Gs k) s := GenL.of hs
  have hsP := hc.1.1 s hsG
  have hts := hc.1.2.2.1 _ _ x1 hsG
  have he : app (comp t s) k = app s y := by rw [htP.appc hk, x3]
  have h1 := hb _ hts (hc.2.1 _ hts)
  rw [he] at h1
  obtain ⟨t', ht'⟩ := Option.isSome_iff_exists.1 h1
  obtain ⟨z1, z2, z3⟩ := ha _ t' ht'
  have htP' := hc.1.1 t' z1
  have hq := hc.1.2.2.1 _ _ hts (hc.1.2.2.2 _ z1)
  have hqP := hc.1.1 _ hq
  have hqF : Fix (k + 1) (comp (comp t s) (inv t')) := by
    intro i hi
    rcases Nat.lt_or_ge i k with h2 | h2
    · exact hc.2.1 _ hq i h2
    · obtain rfl : i = k := by omega
      rw [(htP.comp hsP).appc hk, he]
      have := htP'.inv_app_self hk
      rwa [z3] at this
  refine ⟨t', ht', ?_⟩
  have s1 := (sift_iff (n - (k + 1)) (k + 1) (by omega) (hc.next hk) hqP hqF).2 ⟨hq, hqF⟩
  exact (sift_iff (n - (k + 1)) (k + 1) (by omega) (h.chain (k + 1) (by omega) (by omega)) hqP hqF).1 s1
theorem GenL.one {n : Nat} {l : List (List Nat)} (hl : ∀ s, s ∈ l → IsP n s) : GenL n l (idp n) := (GenL.sub hl).2.1
/-- The state of the levels from k on while the row of level k grows. -/
structure Rowed (n k : Nat) (L : List (List Nat)) (T : Tab) (Gs : Nat → List (List Nat)) : Prop where
  full : Full n T Gs (k + 1)
  gens : Gs k = L
  row : RowIn n k L T
  le : ∀ g, GenL n (Gs (k + 1)) g → GenL n L g
  cnt : ∀ j, k + 1 ≤ j → j ≤ n → (Gs j).length ≤ orbSum n T j (n - j)
theorem RowIn.congr {n k : Nat} {L : List (List Nat)} {T T' : Tab} (h : RowIn n k L T) (e : T' k = T k) : RowIn n k L T' := ⟨by rw [e]; exact h.one, fun y t => by rw [e]; exact h.mem y t⟩
def Did (n k : Nat) (T : Tab) (Gs : Nat → List (List Nat)) (y : Nat) (t s : List Nat) : Prop := ∃ t', T k (app s y) = some t' ∧ GenL n (Gs (k + 1)) (comp (comp t s) (inv t'))
/-- What is kept from one state to a later one. -/
structure Later (n k : Nat) (T : Tab) (Gs : Nat → List (List Nat)) (T' : Tab) (Gs' : Nat → List (List Nat)) : Prop where
  tab : ∀ i, i < k → T' i = T i
  low : ∀ i, i ≤ k → Gs' i = Gs i
  ext : ∀ y t, T k y = some t → T' k y = some t
  up : ∀ g, GenL n (Gs (k + 1)) g → GenL n (Gs' (k + 1)) g
theorem Later.refl (n k : Nat) (T : Tab) (Gs : Nat → List (List Nat)) : Later n k T Gs T Gs := ⟨fun _ _ => rfl, fun _ _ => rfl, fun _ _ h => h, fun _ h => h⟩
theorem Later.trans {n k : Nat} {T T' T'' : Tab} {Gs Gs' Gs'' : Nat → List (List Nat)} (h : Later n k T Gs T' Gs') (h2 : Later n k T' Gs' T'' Gs'') : Later n k T Gs T'' Gs'' :=
  ⟨fun i hi => (h2.tab i hi).trans (h.tab i hi), fun i hi => (h2.low i hi).trans (h.low i hi), fun y t e => h2.ext y t (h.ext y t e), fun g e => h2.up g (h.up g e)⟩
theorem Did.later {n k : Nat} {T T' : Tab} {Gs Gs' : Nat → List (List Nat)} {y : Nat} {t s : List Nat} (h : Did n k T Gs y t s) (hl : Later n k T Gs T' Gs') : Did n k T' Gs' y t s := by
  obtain ⟨t', a, b⟩ := h
  exact ⟨t', hl.ext _ _ a, hl.up _ b⟩
/-- What the addition of a product does. -/
structure Prodded (n k : Nat) (L : List (List Nat)) (T : Tab) (Gs : Nat → List (List Nat)) (p : List Nat) (T' : Tab) (Gs' : Nat → List (List Nat)) : Prop where
  st : Rowed n k L T' Gs'
  later : Later n k T Gs T' Gs'
  got : ∃ t', T' k (app p k) = some t' ∧ GenL n (Gs' (k + 1)) (comp p (inv t'))
  new : ∀ y t, T' k y = some t → T k y = none → ∀ s, s ∈ L → Did n k T' Gs' y t s
/-- The point has a representative: what is left goes to the next level. -/
theorem Prodded.deep {n k : Nat} {L : List (List Nat)} {T T' : Tab} {Gs Gs' : Nat → List (List Nat)} {p t : List Nat} (h : Rowed n k L T Gs) (hL : ∀ s, s ∈ L → IsP n s) (hp : GenL n L p) (ht : T k (app p k) = some t) (ha : Added n (k + 1) T Gs (comp p (inv t)) T' Gs') : Prodded n k L T Gs p T' Gs' := by
  have hTk := ha.tab k (by omega)
  have hsub := GenL.sub hL
  have hup : ∀ g, GenL n (Gs (k + 1)) g → GenL n (Gs' (k + 1)) g := fun g hg => (ha.grp g).2 (GenL.mono (fun s hs => List.mem_append.2 (.inl hs)) hg)
  have hq : GenL n L (comp p (inv t)) := hsub.2.2.1 _ _ hp (hsub.2.2.2 _ (h.row.mem _ t ht).2.1)
  refine ⟨⟨ha.full, (ha.gens k (by omega)).trans h.gens, h.row.congr hTk, fun g hg => ?_, ha.cnt⟩, ⟨fun i hi => ha.tab i (by omega), fun i hi => ha.gens i (by omega), fun y u e => by rw [hTk]; exact e, hup⟩, ⟨t, by rw [hTk]; exact ht, (ha.grp _).2 (GenL.of (by simp))⟩, fun y u e hno => ?_⟩
  · refine ((ha.grp g).1 hg) _ hsub fun s hs => ?_
    rcases List.mem_append.1 hs with h1 | h1
    · exact h.le s (GenL.of h1)
    · rw [List.mem_singleton.1 h1]; exact hq
  · rw [hTk, hno] at e
    cases e
/-- A new representative p has been laid; its products with the first i generators are done. -/
structure Mid (n k : Nat) (L : List (List Nat)) (T : Tab) (Gs : Nat → List (List Nat)) (p : List Nat) (i : Nat) (T' : Tab) (Gs' : Nat → List (List Nat)) : Prop where
  st : Rowed n k L T' Gs'
  later : Later n k (updT T k (app p k) p) Gs T' Gs'
  own : ∀ j, j < i → j < L.length → Did n k T' Gs' (app p k) p (L.getD j [])
  new : ∀ y t, T' k y = some t → updT T k (app p k) p k y = none → ∀ s, s ∈ L → Did n k T' Gs' y t s
theorem Rowed.lay {n k : Nat} {L : List (List Nat)} {T : Tab} {Gs : Nat → List (List Nat)} {p : List Nat} (h : Rowed n k L T Gs) (hk : k < n) (hL : ∀ s, s ∈ L → IsP n s) (hp : GenL n L p) (hno : T k (app p k) = none) : Rowed n k L (updT T k (app p k) p) Gs := by
  refine ⟨h.full.congr (fun i hi => updT_off p (by omega)) (fun _ _ => rfl), h.gens, ⟨?_, fun y t e => ?_⟩, h.le, fun j hj hn => ?_⟩
  · rw [updT_other]
    · exact h.row.one
    · rintro ⟨-, e⟩
      rw [← e, h.row.one] at hno
      cases hno
  · by_cases ey : y = app p k
    · subst ey
      rw [updT_same] at e
      injection e with e
      subst e
      exact ⟨(GenL.isP hL hp).lt hk, hp, rfl⟩
    · rw [updT_other _ (fun e2 => ey e2.2)] at e
      exact h.row.mem y t e
  · rw [orbSum_congr (n - j) j (T := T) (T' := updT T k (app p k) p) (fun i hi => updT_off p (by omega))]
    exact h.cnt j hj hn
theorem Mid.start {n k : Nat} {L : List (List Nat)} {T : Tab} {Gs : Nat → List (List Nat)} {p : List Nat} (h : Rowed n k L T Gs) (hk : k < n) (hL : ∀ s, s ∈ L → IsP n s) (hp : GenL n L p) (hno : T k (app p k) = none) : Mid n k L T Gs p 0 (updT T k (app p k) p) Gs :=
  ⟨h.lay hk hL hp hno, Later.refl _ _ _ _, fun j hj => by omega, fun y t e hn => by rw [hn] at e; cases e⟩
theorem Mid.step {n k i : Nat} {L : List (List Nat)} {T T1 T2 : Tab} {Gs Gs1 Gs2 : Nat → List (List Nat)} {p : List Nat} (h : Mid n k L T Gs p i T1 Gs1) (hk : k < n) (hpP : IsP n p) (h2 : Prodded n k L T1 Gs1 (comp p (L.getD i [])) T2 Gs2) : Mid n k L T Gs p (i + 1) T2 Gs2 := by
  refine ⟨h2.st, h.later.trans h2.later, fun j hj hjl => ?_, fun y t e hno s hs => ?_⟩
  · rcases Nat.lt_or_ge j i with h3 | h3
    · exact (h.own j h3 hjl).later h2.later
    · obtain rfl : j = i := by omega
      obtain ⟨t', a, b⟩ := h2.got
      rw [hpP.appc hk] at a
      exact ⟨t', a, b⟩
  · cases e1 : T1 k y with
    | none => exact h2.new y t e e1 s hs
    | some u =>
      have := h2.later.ext y u e1
      rw [e] at this
      injection this with this
      subst this
      exact (h.new y t e1 hno s hs).later h2.later
theorem Mid.end_ {n k : Nat} {L : List (List Nat)} {T T' : Tab} {Gs Gs' : Nat → List (List Nat)} {p : List Nat} (h : Mid n k L T Gs p L.length T' Gs') (hk : k < n) (hpP : IsP n p) (hno : T k (app p k) = none) : Prodded n k L T Gs p T' Gs' := by
  have hp' : T' k (app p k) = some p := h.later.ext _ _ (updT_same _ _ _ _)
  refine ⟨h.st, ⟨fun i hi => (h.later.tab i hi).trans (updT_off p (by omega)), h.later.low, fun y t e => h.later.ext y t ?_, h.later.up⟩, ⟨p, hp', ?_⟩, fun y t e hn s hs => ?_⟩
  · rw [updT_other]
    · exact e
    · rintro ⟨-, e2⟩
      rw [e2, hno] at e
      cases e
  · rw [comp_inv hpP]
    exact (h.st.full.sub (by omega)).2.1
  · by_cases ey : y = app p k
    · subst ey
      rw [hp'] at e
      injection e with e
      subst e
      obtain ⟨i, hi, rfl⟩ := List.getElem_of_mem hs
      have := h.own i hi hi
      rwa [List.getD_eq_getElem?_getD, List.getElem?_eq_getElem hi] at this
    · exact h.new y t e (by rw [updT_other _ (fun e2 => ey e2.2)]; exact hn) s hs
/-- A generator p has been appended; the products of the first i of the known representatives with it are done. -/
structure KMid (n k : Nat) (L : List (List Nat)) (T : Tab) (Gs : Nat → List (List Nat)) (p : List Nat) (kn : List Nat) (i : Nat) (T' : Tab) (Gs' : Nat → List (List Nat)) : Prop where
  st : Rowed n k L T' Gs'
  later : Later n k T Gs T' Gs'
  own : ∀ j t, j < i → j < kn.length → T k (kn.getD j 0) = some t → Did n k T' Gs' (kn.getD j 0) t p
  new : ∀ y t, T' k y = some t → T k y = none → ∀ s, s ∈ L → Did n k T' Gs' y t s
theorem KMid.start {n k : Nat} {L : List (List Nat)} {T : Tab} {Gs : Nat → List (List Nat)} (p : List Nat) (kn : List Nat) (h : Rowed n k L T Gs) : KMid n k L T Gs p kn 0 T Gs :=
  ⟨h, Later.refl _ _ _ _, fun j t hj => by omega, fun y t e hn => by rw [hn] at e; cases e⟩
theorem KMid.step {n k i : Nat} {L : List (List Nat)} {T T1 T2 : Tab} {Gs Gs1 Gs2 : Nat → List (List Nat)} {p t : List Nat} {kn : List Nat} (h : KMid n k L T Gs p kn i T1 Gs1) (hk : k < n) (hL : ∀ s, s ∈ L → IsP n s) (hT0 : RowIn n k L T) (ht : T k (kn.getD i 0) = some t) (h2 : Prodded n k L T1 Gs1 (comp t p) T2 Gs2) : KMid n k L T Gs p kn (i + 1) T2 Gs2 := by
  obtain ⟨_, m2, m3⟩ := hT0.mem _ t ht
  have htP := GenL.isP hL m2
  refine ⟨h2.st, h.later.trans h2.later, fun j u hj hjl hu => ?_, fun y u e hno s hs => ?_⟩
  · rcases Nat.lt_or_ge j i with h3 | h3
    · exact (h.own j u h3 hjl hu).later h2.later
    · obtain rfl : j = i := by omega
      rw [ht] at hu
      injection hu with hu
      subst hu
      obtain ⟨t', a, b⟩ := h2.got
      rw [htP.appc hk, m3] at a
      exact ⟨t', a, b⟩
  · cases e1 : T1 k y with
    | none => exact h2.new y u e e1 s hs
    | some v =>
      have := h2.later.ext y v e1
      rw [e] at this
      injection this with this
      subst this
      exact (h.new y u e1 hno s hs).later h2.later
/-- A level is done, at the reference. -/
theorem KMid.end_ {n k : Nat} {L : List (List Nat)} {T0 T' : Tab} {Gs0 Gs Gs' : Nat → List (List Nat)} {p : List Nat} {kn : List Nat} (h : KMid n k L T0 Gs p kn kn.length T' Gs') (hk : k < n) (h0 : Full n T0 Gs0 k) (hc0 : (Gs0 k).length ≤ orbSum n T0 k (n - k)) (hp : IsP n p) (hf : Fix k p) (hno : ¬ GenL n (Gs0 k) p)
    (hLe : L = Gs0 k ++ [p]) (hGs : ∀ i, i ≠ k → Gs i = Gs0 i) (hkn : ∀ y, y < n → (T0 k y).isSome = true → y ∈ kn) : Added n k T0 Gs0 p T' Gs' := by
  have hL : ∀ s, s ∈ L → IsP n s ∧ Fix k s := by
    intro s hs
    rw [hLe] at hs
    rcases List.mem_append.1 hs with h1 | h1
    · exact h0.gens k (Nat.le_refl _) (by omega) s h1
    · rw [List.mem_singleton.1 h1]; exact ⟨hp, hf⟩
  have hGk : Gs' k = L := h.st.gens
  have hdid : ∀ y t s, T' k y = some t → s ∈ L → Did n k T' Gs' y t s := by
    intro y t s ht hs
    cases e0 : T0 k y with
    | none => exact h.new y t ht e0 s hs
    | some u =>
      have := h.later.ext y u e0
      rw [ht] at this
      injection this with this
      subst this
      rw [hLe] at hs
      rcases List.mem_append.1 hs with h1 | h1
      · have hold := Full.old h0 hk e0 h1
        obtain ⟨t', a, b⟩ := hold
        exact ⟨t', h.later.ext _ _ a, h.later.up _ (by rw [hGs (k + 1) (by omega)]; exact b)⟩
      · rw [List.mem_singleton.1 h1]
        have hch := h0.chain k (Nat.le_refl _) (by omega)
        obtain ⟨x1, x2, x3⟩ := (hch.2.2 k (Nat.le_refl _) hk).1 y t e0
        have hyn : y < n := by rw [← x3]; exact (hch.1.1 t x1).lt hk
        have hm := hkn y hyn (by rw [e0]; rfl)
        obtain ⟨i, hi, hiy⟩ := List.getElem_of_mem hm
        have hg : kn.getD i 0 = y := by rw [List.getD_eq_getElem?_getD, List.getElem?_eq_getElem hi]; exact hiy
        have := h.own i t hi hi (by rw [hg]; exact e0)
        rwa [hg] at this
  have hfull : Full n T' Gs' k := Full.make hk h.st.full (by rw [hGk]; exact hL) (by rw [hGk]; exact h.st.le) h.st.row.one (fun y t e => by rw [hGk]; exact (h.st.row.mem y t e).2) (fun y t s e hs => hdid y t s e (by rw [← hGk]; exact hs))
  refine ⟨hfull, fun i hi => h.later.tab i hi, fun i hi => (h.later.low i (by omega)).trans (hGs i (by omega)), fun x => by rw [hGk, hLe], fun j hj hn => ?_⟩
  rcases Nat.eq_or_lt_of_le hj with rfl | hlt
  · rw [hGk, hLe, List.length_append, List.length_singleton]
    have := Full.more (by omega) h0 hfull hno (by rw [hGk, hLe]; exact GenL.of (by simp)) (fun g hg => by rw [hGk, hLe]; exact GenL.mono (fun s hs => List.mem_append.2 (.inl hs)) hg)
    omega
  · exact h.st.cnt j hlt hn
theorem orb_ext {n k : Nat} {T T' : Tab} (h : ∀ y t, T k y = some t → T' k y = some t) : (orb n T k).length ≤ (orb n T' k).length :=
  (filter_len_le (l := List.range n) (p := fun y => (T k y).isSome) (q := fun y => (T' k y).isSome) fun y _ hy => by
    obtain ⟨t, ht⟩ := Option.isSome_iff_exists.1 hy
    rw [h y t ht]; rfl).1
end Grp
end Go.Proofs.Ytpcnbjfkobeibaa
