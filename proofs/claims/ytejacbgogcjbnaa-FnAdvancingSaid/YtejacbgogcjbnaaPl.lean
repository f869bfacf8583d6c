/- Plain laws: normalizing twice, the order of entries, ranks without the last entry, who advances. No program is named here. -/
import Derived.Test.YtejacbgogcjbnaaRd
namespace Go.Proofs.Ytejacbgogcjbnaa
open Go.RowKit

/-! Normalizing twice. -/
theorem limited_idem {r : RR} (h : r.ok = true) (x : Int) : r.limited (r.limited x) = r.limited x := by
  have := (RR.ok_bd h).2.2.1
  unfold RR.limited
  by_cases h1 : r.lim ≤ x
  · rw [if_pos h1, if_neg (by omega)]
  · rw [if_neg h1, if_neg h1]
theorem fast_limited {r : RR} (h : r.ok = true) (x : Int) : r.fast (r.limited x) = r.fast x := by rw [RR.fast, RR.fast, limited_idem h]
theorem allowed_catt {r : RR} (h : r.ok = true) (xs : List Int) : r.catt ≤ r.allowed xs := by
  have := (RR.ok_bd h).2.2.2.2.2.1
  unfold RR.allowed
  split <;> omega
theorem any_map_fast {r : RR} (h : r.ok = true) (xs : List Int) : (xs.map r.limited).any r.fast = xs.any r.fast := by
  induction xs with
  | nil => rfl
  | cons x xs ih => rw [List.map_cons, List.any_cons, List.any_cons, ih, fast_limited h]
theorem meets_norm {r : RR} (h : r.ok = true) (xs : List Int) : r.meets (normL r xs) = r.meets xs := by
  have h1 := allowed_catt h xs
  have h2 : (normL r xs).take r.catt.toNat = (xs.take r.catt.toNat).map r.limited := by
    rw [normL, ← List.map_take, List.take_take, Nat.min_eq_left (by omega)]
  rw [RR.meets, RR.meets, h2, any_map_fast h]
theorem normL_size (r : RR) (xs : List Int) : (normL r xs).length = min (r.allowed xs).toNat xs.length := by rw [normL, List.length_map, List.length_take]
theorem allowed_norm {r : RR} (h : r.ok = true) (xs : List Int) : (normL r xs).length ≤ (r.allowed (normL r xs)).toNat := by
  obtain ⟨b1, b2, b3, b4, b5, b6, b7, b8, b9⟩ := RR.ok_bd h
  have hs := normL_size r xs
  have hm := meets_norm h xs
  cases h1 : r.meets xs
  · by_cases h2 : (xs.length : Int) < r.catt
    · have ha : r.allowed xs = r.att := by rw [RR.allowed, h1, if_pos (by simpa using h2)]
      rw [ha] at hs
      have hb : r.allowed (normL r xs) = r.att := by rw [RR.allowed, hm, h1, if_pos (by simp; omega)]
      rw [hb]; omega
    · have ha : r.allowed xs = r.catt := by rw [RR.allowed, h1, if_neg (by simpa using h2)]
      rw [ha] at hs
      have hb : r.allowed (normL r xs) = r.catt := by rw [RR.allowed, hm, h1, if_neg (by simp; omega)]
      rw [hb]; omega
  · have ha : r.allowed xs = r.att := by rw [RR.allowed, h1, if_pos (by simp)]
    rw [ha] at hs
    have hb : r.allowed (normL r xs) = r.att := by rw [RR.allowed, hm, h1, if_pos (by simp)]
    rw [hb]; omega
theorem normL_idem {r : RR} (h : r.ok = true) (xs : List Int) : normL r (normL r xs) = normL r xs := by
  have h1 := allowed_norm h xs
  have h2 : normL r (normL r xs) = (normL r xs).map r.limited := by
    conv => lhs; rw [normL]
    rw [List.take_of_length_le h1]
  rw [h2, normL, List.map_map]
  refine List.map_congr_left fun x _ => ?_
  exact limited_idem h x
theorem normL_le {r : RR} (h : r.ok = true) (xs : List Int) : ((normL r xs).length : Int) ≤ r.allowed xs := by
  have := normL_size r xs
  have := allowed_pos h xs
  omega

/-! The order of entries. -/
theorem lessR_asymm {a b : Int} (h : lessR a b = true) : lessR b a = false := by
  simp only [lessR, Bool.and_eq_true, Bool.not_eq_true', Bool.or_eq_true, beq_iff_eq, decide_eq_true_eq, beq_eq_false_iff_ne] at h
  obtain ⟨h1, h2⟩ := h
  have ha : (a == -1) = false := by simpa using h1
  simp only [lessR, ha, Bool.false_or]
  by_cases hb : b = -1
  · simp [hb]
  · have : ¬ b < a := by omega
    simp [this]
theorem lessE_asymm {xs ys : List Int} (hl : xs.length = ys.length) (h : lessE xs ys = true) : lessE ys xs = false := by
  unfold lessE at *
  by_cases h1 : xs.length = 5 ∧ avgOf xs ≠ avgOf ys
  · rw [if_pos h1] at h
    rw [if_pos ⟨hl ▸ h1.1, fun e => h1.2 e.symm⟩]
    exact lessR_asymm h
  · rw [if_neg h1] at h
    rw [if_neg (fun h2 => h1 ⟨hl.trans h2.1, fun e => h2.2 e.symm⟩)]
    exact lessR_asymm h

/-! Ranks without the last entry. -/
theorem egetD_take (es : List Ent) {m i : Nat} (h : i < m) : (es.take m).getD i (0, []) = es.getD i (0, []) := by simp [List.getD_eq_getElem?_getD, h]
theorem goodTo_take (es : List Ent) {m : Nat} (hm : m ≤ es.length) : ∀ i, i ≤ m → goodTo (es.take m) i = goodTo es i
  | 0, _ => rfl
  | i + 1, h => by
    rw [goodTo, goodTo, goodTo_take es hm i (by omega), egetD_take es (by omega), List.take_take, Nat.min_eq_left (by omega)]
theorem entsOk_take {es : List Ent} (h : entsOk es = true) {m : Nat} (hm : m ≤ es.length) : entsOk (es.take m) = true := by
  have h2 := h
  rw [entsOk, Bool.and_eq_true, decide_eq_true_eq] at h2
  have hl : (es.take m).length = m := by rw [List.length_take]; omega
  rw [entsOk, hl, goodTo_take es hm m (Nat.le_refl _), Bool.and_eq_true, decide_eq_true_eq]
  refine ⟨by omega, ?_⟩
  cases hg : goodTo es m
  · have := goodTo_false hg (es.length - m)
    rw [show m + (es.length - m) = es.length from by omega, h2.2] at this
    cases this
  · rfl
theorem sameLen_take {es : List Ent} (h : sameLen es = true) {m : Nat} (hm : m ≤ es.length) : sameLen (es.take m) = true := by
  have hl : (es.take m).length = m := by rw [List.length_take]; omega
  refine SameTo.all fun i hi => ?_
  rw [hl] at hi
  rw [egetD_take es hi, egetD_take es (show 0 < m by omega)]
  exact sameLen_at h (by omega)
theorem comparable_take {es : List Ent} (h : comparable es = true) {m : Nat} (hm : m ≤ es.length) : comparable (es.take m) = true := by
  rw [comparable, Bool.and_eq_true] at *
  exact ⟨entsOk_take h.1 hm, sameLen_take h.2 hm⟩
theorem countTo_take (less : Ent → Ent → Bool) (es : List Ent) (e : Ent) {m : Nat} (hm : m ≤ es.length) : ∀ k, k ≤ m → countTo less (es.take m) e k = countTo less es e k
  | 0, _ => rfl
  | k + 1, h => by rw [countTo, countTo, countTo_take less es e hm k (by omega), egetD_take es (by omega)]
theorem ranksTo_get (less : Ent → Ent → Bool) (es : List Ent) : ∀ n i, i < n → (ranksTo less es n).getD i 0 = countTo less es (es.getD i (0, [])) es.length
  | n + 1, i, h => by
    rw [ranksTo]
    have hl := ranksTo_len less es n
    rcases Nat.lt_or_ge i n with h1 | h1
    · rw [List.getD_eq_getElem?_getD, List.getElem?_append_left (by omega), ← List.getD_eq_getElem?_getD, ranksTo_get less es n i h1]
    · obtain rfl : i = n := by omega
      rw [List.getD_eq_getElem?_getD, List.getElem?_append_right (by omega), hl, Nat.sub_self]
      rfl
theorem ranksBy_get (less : Ent → Ent → Bool) (es : List Ent) {i : Nat} (h : i < es.length) : (ranksBy less es).getD i 0 = countTo less es (es.getD i (0, [])) es.length := ranksTo_get less es _ i h
theorem ranks_less (less : Ent → Ent → Bool) (es : List Ent) (hp : 0 < es.length) {i : Nat} (hi : i < es.length - 1) :
    (ranksBy less es).getD i 0 - (ranksBy less (es.take (es.length - 1))).getD i 0 = 0 ∨ (ranksBy less es).getD i 0 - (ranksBy less (es.take (es.length - 1))).getD i 0 = 1 := by
  have hl : (es.take (es.length - 1)).length = es.length - 1 := by rw [List.length_take]; omega
  rw [ranksBy_get less es (by omega), ranksBy_get less (es.take _) (by omega), hl, countTo_take less es _ (by omega) _ (Nat.le_refl _), egetD_take es hi]
  obtain ⟨n, hn⟩ : ∃ n, es.length = n + 1 := ⟨es.length - 1, by omega⟩
  rw [hn, Nat.add_sub_cancel, countTo]
  split <;> omega

/-! Who advances. -/
def cntB (p : Nat → Bool) : Nat → Nat
  | 0 => 0
  | k + 1 => if p k then cntB p k + 1 else cntB p k
theorem cntB_le (p : Nat → Bool) (k : Nat) : cntB p k ≤ k := by
  induction k with
  | zero => simp [cntB]
  | succ k ih => unfold cntB; split <;> omega
theorem cntB_congr {p q : Nat → Bool} : ∀ k, (∀ i, i < k → p i = q i) → cntB p k = cntB q k
  | 0, _ => rfl
  | k + 1, h => by rw [cntB, cntB, h k (by omega), cntB_congr k (fun i hi => h i (by omega))]
theorem cntB_add {p q s : Nat → Bool} : ∀ k, (∀ i, i < k → (s i = (p i || q i)) ∧ ¬ (p i = true ∧ q i = true)) → cntB s k = cntB p k + cntB q k
  | 0, _ => rfl
  | k + 1, h => by
    obtain ⟨h1, h2⟩ := h k (by omega)
    have ih := cntB_add (p := p) (q := q) (s := s) k (fun i hi => h i (by omega))
    rw [cntB, cntB, cntB, h1]
    cases hp : p k <;> cases hq : q k <;> simp [hp, hq] at * <;> omega
def goodB (es : List Ent) (i : Nat) : Bool := !(bestOf (es.getD i (0, [])).2 == -1)
theorem pickTo_size (es : List Ent) (rk : List Int) (r : Int) (k : Nat) : (pickTo es rk r k).length = cntB (fun i => rk.getD i 0 == r && goodB es i) k := by
  induction k with
  | zero => rfl
  | succ k ih =>
    rw [pickTo, cntB, goodB]
    split <;> simp [ih]
def inTo (es : List Ent) (rk : List Int) (m : Nat) (i : Nat) : Bool := decide (rk.getD i 0 ≤ (m : Int)) && goodB es i
theorem firstTo_size (es : List Ent) (rk : List Int) (hr : ∀ i, i < es.length → 1 ≤ rk.getD i 0) : ∀ m, (firstTo es rk m).length = cntB (inTo es rk m) es.length
  | 0 => by
    have : ∀ k, k ≤ es.length → cntB (inTo es rk 0) k = 0 := by
      intro k
      induction k with
      | zero => intro _; rfl
      | succ k ih =>
        intro hk
        have hn : inTo es rk 0 k = false := by
          have := hr k (by omega)
          have h2 : decide (rk.getD k 0 ≤ ((0 : Nat) : Int)) = false := decide_eq_false (by omega)
          rw [inTo, h2]; rfl
        rw [cntB, hn, ih (by omega)]; rfl
    rw [this _ (Nat.le_refl _)]; rfl
  | m + 1 => by
    rw [firstTo, List.length_append, firstTo_size es rk hr m, pickTo_size]
    refine (cntB_add _ fun i hi => ?_).symm
    rw [inTo, inTo]
    constructor
    · by_cases h1 : rk.getD i 0 ≤ (m : Int)
      · have h2 : rk.getD i 0 ≤ ((m + 1 : Nat) : Int) := by omega
        have h3 : ¬ rk.getD i 0 = ((m + 1 : Nat) : Int) := by omega
        rw [decide_eq_true h1, decide_eq_true h2, beq_eq_false_iff_ne.2 h3]; simp
      · by_cases h2 : rk.getD i 0 = ((m + 1 : Nat) : Int)
        · have h3 : rk.getD i 0 ≤ ((m + 1 : Nat) : Int) := by omega
          rw [decide_eq_true h3, decide_eq_false h1, beq_iff_eq.2 h2]; simp
        · have h3 : ¬ rk.getD i 0 ≤ ((m + 1 : Nat) : Int) := by omega
          rw [decide_eq_false h3, decide_eq_false h1, beq_eq_false_iff_ne.2 h2]; simp
    · intro ⟨h1, h2⟩
      rw [Bool.and_eq_true, decide_eq_true_eq] at h1
      rw [Bool.and_eq_true, beq_iff_eq] at h2
      omega
theorem pickTo_mem (es : List Ent) (rk : List Int) (r c : Int) : ∀ k, c ∈ pickTo es rk r k ↔ ∃ i, i < k ∧ rk.getD i 0 = r ∧ goodB es i = true ∧ (es.getD i (0, [])).1 = c
  | 0 => by simp [pickTo]
  | k + 1 => by
    rw [pickTo]
    have ih := pickTo_mem es rk r c k
    by_cases h : (rk.getD k 0 == r && !(bestOf (es.getD k (0, [])).2 == -1)) = true
    · have h2 := h
      rw [Bool.and_eq_true, beq_iff_eq] at h2
      rw [if_pos h, List.mem_append, List.mem_singleton, ih]
      constructor
      · rintro (⟨i, h1, h3⟩ | h1)
        · exact ⟨i, by omega, h3⟩
        · exact ⟨k, by omega, h2.1, h2.2, h1.symm⟩
      · rintro ⟨i, h1, h3, h4, h5⟩
        rcases Nat.lt_or_ge i k with h6 | h6
        · exact .inl ⟨i, h6, h3, h4, h5⟩
        · obtain rfl : i = k := by omega
          exact .inr h5.symm
    · rw [if_neg h, ih]
      constructor
      · rintro ⟨i, h1, h3⟩
        exact ⟨i, by omega, h3⟩
      · rintro ⟨i, h1, h3, h4, h5⟩
        rcases Nat.lt_or_ge i k with h6 | h6
        · exact ⟨i, h6, h3, h4, h5⟩
        · obtain rfl : i = k := by omega
          refine absurd ?_ h
          rw [Bool.and_eq_true, beq_iff_eq]
          exact ⟨h3, h4⟩
theorem firstTo_mem (es : List Ent) (rk : List Int) (c : Int) : ∀ m, c ∈ firstTo es rk m ↔ ∃ i, i < es.length ∧ 1 ≤ rk.getD i 0 ∧ rk.getD i 0 ≤ (m : Int) ∧ goodB es i = true ∧ (es.getD i (0, [])).1 = c
  | 0 => by
    constructor
    · intro h; simp [firstTo] at h
    · rintro ⟨i, h1, h2, h3, _⟩
      omega
  | m + 1 => by
    rw [firstTo, List.mem_append, firstTo_mem es rk c m, pickTo_mem]
    constructor
    · rintro (⟨i, h1, h2, h3, h4⟩ | ⟨i, h1, h2, h3, h4⟩)
      · exact ⟨i, h1, h2, by omega, h4⟩
      · exact ⟨i, h1, by omega, by omega, h3, h4⟩
    · rintro ⟨i, h1, h2, h3, h4, h5⟩
      by_cases h6 : rk.getD i 0 ≤ (m : Int)
      · exact .inl ⟨i, h1, h2, h6, h4, h5⟩
      · exact .inr ⟨i, h1, by omega, h4, h5⟩
theorem key_apart {es : List Ent} : ∀ {m : Nat}, goodTo es m = true → m ≤ es.length → ∀ i j, i < j → j < m → (es.getD i (0, [])).1 ≠ (es.getD j (0, [])).1
  | m + 1, h, hm, i, j, hij, hj => by
    rw [goodTo, Bool.and_eq_true, Bool.and_eq_true] at h
    rcases Nat.lt_or_ge j m with h1 | h1
    · exact key_apart h.1 (by omega) i j hij h1
    · obtain rfl : j = m := by omega
      intro e
      have h3 : sameK (es.getD j (0, [])).1 (es.take j) = true := by
        refine sameK_at (m := i) hij (by omega) (xs := (es.getD i (0, [])).2) ?_
        rw [← e]
      have h4 := h.2.2
      rw [h3] at h4
      cases h4
theorem key_eq {es : List Ent} (h : entsOk es = true) {i j : Nat} (hi : i < es.length) (hj : j < es.length) (e : (es.getD i (0, [])).1 = (es.getD j (0, [])).1) : i = j := by
  rw [entsOk, Bool.and_eq_true] at h
  rcases Nat.lt_trichotomy i j with h1 | h1 | h1
  · exact absurd e (key_apart h.2 (Nat.le_refl _) i j h1 hj)
  · exact h1
  · exact absurd e.symm (key_apart h.2 (Nat.le_refl _) j i h1 hi)
theorem norm_get0 (r : RR) (es : List Ent) {i : Nat} (hi : i < es.length) : (es.map (normE r)).getD i (0, []) = normE r (es.getD i (0, [])) := norm_get r es hi rfl
def memB (c : Int) (l : List Int) : Bool := l.any fun x => x == c
theorem memB_iff (c : Int) (l : List Int) : memB c l = true ↔ c ∈ l := by simp [memB]
theorem round_pos {r : RR} {es : List Ent} (h : roundOk r es = true) {i : Nat} (hi : i < es.length) : 1 ≤ (roundRes r es).getD i 0 := by
  rw [round_yes h, ranksBy_get _ _ (by simpa using hi)]
  exact (countTo_bd _ _ _ _).1
/-- Entry i advances. -/
def advB (r : RR) (es : List Ent) (i : Nat) : Bool := decide ((roundRes r es).getD i 0 ≤ r.adv) && decide (0 ≤ bestOf (normL r (es.getD i (0, [])).2))
theorem good_best {r : RR} {es : List Ent} (h : roundOk r es = true) {i : Nat} (hi : i < es.length) : goodB (es.map (normE r)) i = decide (0 ≤ bestOf (normL r (es.getD i (0, [])).2)) := by
  rw [roundOk, Bool.and_eq_true] at h
  have h1 := (entOk_parts ((entsOk_parts h.2).2 i hi)).2
  have h2 := best_isRes _ (normL_isRes r h1)
  rw [goodB, norm_get0 r es hi]
  show (!(bestOf (normL r (es.getD i (0, [])).2) == -1)) = _
  generalize bestOf (normL r (es.getD i (0, [])).2) = b at h2
  rw [isRes, Bool.or_eq_true, decide_eq_true_eq, inR_iff] at h2
  rcases h2 with rfl | h2
  · decide
  · have h3 : (b == -1) = false := by simp; omega
    have h4 : 0 ≤ b := h2.1
    rw [h3, decide_eq_true h4]; rfl
theorem inTo_adv {r : RR} {es : List Ent} (h : roundOk r es = true) {i : Nat} (hi : i < es.length) : inTo (es.map (normE r)) (roundRes r es) r.adv.toNat i = advB r es i := by
  have hr : 0 ≤ r.adv := by
    rw [roundOk, Bool.and_eq_true] at h
    exact (RR.ok_bd h.1).2.2.2.2.2.2.1
  rw [inTo, advB, good_best h hi, show ((r.adv.toNat : Nat) : Int) = r.adv from Int.toNat_of_nonneg hr]
theorem adv_size {r : RR} {es : List Ent} (h : roundOk r es = true) : (advRes r es).length = cntB (advB r es) es.length := by
  rw [adv_yes h, firstTo_size _ _ (fun i hi => round_pos h (by simpa using hi)), List.length_map]
  exact cntB_congr _ fun i hi => inTo_adv h hi
theorem adv_mem {r : RR} {es : List Ent} (h : roundOk r es = true) {i : Nat} (hi : i < es.length) : memB (es.getD i (0, [])).1 (advRes r es) = advB r es i := by
  have h0 := h
  rw [roundOk, Bool.and_eq_true] at h0
  rw [Bool.eq_iff_iff, memB_iff, adv_yes h, firstTo_mem, ← inTo_adv h hi, inTo, Bool.and_eq_true, decide_eq_true_eq]
  constructor
  · rintro ⟨j, h1, _, h3, h4, h5⟩
    rw [List.length_map] at h1
    rw [norm_get0 r es h1] at h5
    obtain rfl : j = i := key_eq h0.2 h1 hi h5
    exact ⟨h3, h4⟩
  · rintro ⟨h3, h4⟩
    exact ⟨i, by simpa using hi, round_pos h hi, h3, h4, by rw [norm_get0 r es hi]; rfl⟩
def memTo (c : Int) (l : List Int) (k : Nat) : Bool := memB c (l.take k)
theorem memTo_more (c : Int) (l : List Int) (k : Nat) (hk : k < l.length) {x : Int} (hx : l.getD k 0 = x) : memTo c l (k + 1) = (memTo c l k || (x == c)) := by
  rw [memTo, take_get l k hk, hx, memB, List.any_append]; simp [memTo, memB]
theorem memTo_all (c : Int) (l : List Int) : memTo c l l.length = memB c l := by rw [memTo, List.take_of_length_le (Nat.le_refl _)]
end Go.Proofs.Ytejacbgogcjbnaa
