/- Plain laws: ranks of entries, the first of them, normalized entries. No program is named here. -/
import Derived.Test.YtejacbgogcjbnaaEnts
import Derived.Test.YtejacbgogcjbnaaAllow
namespace Go.Proofs.Ytejacbgogcjbnaa
open Go.RowKit

def normL (r : RR) (xs : List Int) : List Int := (xs.take (r.allowed xs).toNat).map r.limited
def normE (r : RR) (e : Ent) : Ent := (e.1, normL r e.2)
def lessEE (a b : Ent) : Bool := lessE a.2 b.2
def fullE (r : RR) (a : Ent) : Bool := (a.2.length : Int) == r.att
def aheadE (r : RR) (a b : Ent) : Bool := if fullE r a != fullE r b then fullE r a else if fullE r a then lessE a.2 b.2 else lessR (bestOf a.2) (bestOf b.2)
def countTo (less : Ent → Ent → Bool) (es : List Ent) (e : Ent) : Nat → Int
  | 0 => 1
  | k + 1 => if less (es.getD k (0, [])) e then countTo less es e k + 1 else countTo less es e k
def ranksTo (less : Ent → Ent → Bool) (es : List Ent) : Nat → List Int
  | 0 => []
  | i + 1 => ranksTo less es i ++ [countTo less es (es.getD i (0, [])) es.length]
def ranksBy (less : Ent → Ent → Bool) (es : List Ent) : List Int := ranksTo less es es.length
theorem countTo_bd (less : Ent → Ent → Bool) (es : List Ent) (e : Ent) (k : Nat) : 1 ≤ countTo less es e k ∧ countTo less es e k ≤ 1 + k := by
  induction k with
  | zero => simp [countTo]
  | succ k ih => unfold countTo; split <;> omega
theorem countTo_yes {less : Ent → Ent → Bool} {es : List Ent} {e o : Ent} {k : Nat} {c : Int} (ho : es.getD k (0, []) = o) (hc : countTo less es e k = c) (h : less o e = true) : countTo less es e (k + 1) = c + 1 := by rw [countTo, ho, if_pos h, hc]
theorem countTo_no {less : Ent → Ent → Bool} {es : List Ent} {e o : Ent} {k : Nat} {c : Int} (ho : es.getD k (0, []) = o) (hc : countTo less es e k = c) (h : less o e = false) : countTo less es e (k + 1) = c := by rw [countTo, ho, if_neg (by rw [h]; decide), hc]
theorem ranksTo_len (less : Ent → Ent → Bool) (es : List Ent) (i : Nat) : (ranksTo less es i).length = i := by
  induction i with
  | zero => rfl
  | succ i ih => simp [ranksTo, ih]
theorem ranksBy_len (less : Ent → Ent → Bool) (es : List Ent) : (ranksBy less es).length = es.length := ranksTo_len _ _ _
theorem ranksTo_more {less : Ent → Ent → Bool} {es : List Ent} {i : Nat} {e : Ent} {l : List Int} {c : Int} (he : es.getD i (0, []) = e) (hl : ranksTo less es i = l) (hc : countTo less es e es.length = c) : ranksTo less es (i + 1) = l ++ [c] := by rw [ranksTo, he, hl, hc]
def pickTo (es : List Ent) (rk : List Int) (r : Int) : Nat → List Int
  | 0 => []
  | k + 1 => if rk.getD k 0 == r && !(bestOf (es.getD k (0, [])).2 == -1) then pickTo es rk r k ++ [(es.getD k (0, [])).1] else pickTo es rk r k
def firstTo (es : List Ent) (rk : List Int) : Nat → List Int
  | 0 => []
  | m + 1 => firstTo es rk m ++ pickTo es rk ((m + 1 : Nat) : Int) es.length
theorem pickTo_len (es : List Ent) (rk : List Int) (r : Int) (k : Nat) : (pickTo es rk r k).length ≤ k := by
  induction k with
  | zero => simp [pickTo]
  | succ k ih => unfold pickTo; split <;> (try simp) <;> omega
theorem firstTo_len (es : List Ent) (rk : List Int) (m : Nat) : (firstTo es rk m).length ≤ m * es.length := by
  induction m with
  | zero => simp [firstTo]
  | succ m ih =>
    have := pickTo_len es rk ((m + 1 : Nat) : Int) es.length
    rw [firstTo, List.length_append, Nat.succ_mul]
    omega
theorem pickTo_yes {es : List Ent} {rk : List Int} {r : Int} {k : Nat} {c : Int} {xs : List Int} {l : List Int} (he : es.getD k (0, []) = (c, xs)) (hr : rk.getD k 0 = r) (hb : bestOf xs ≠ -1) (hl : pickTo es rk r k = l) : pickTo es rk r (k + 1) = l ++ [c] := by
  rw [pickTo, he, hr, if_pos (by simp [hb]), hl]
theorem pickTo_no {es : List Ent} {rk : List Int} {r q : Int} {k : Nat} {c : Int} {xs : List Int} {l : List Int} (he : es.getD k (0, []) = (c, xs)) (hr : rk.getD k 0 = q) (hb : q ≠ r ∨ bestOf xs = -1) (hl : pickTo es rk r k = l) : pickTo es rk r (k + 1) = l := by
  rw [pickTo, he, hr, if_neg (by rcases hb with h | h <;> simp [h]), hl]
def sameLen (es : List Ent) : Bool := es.all fun e => e.2.length == (es.getD 0 (0, [])).2.length
def comparable (es : List Ent) : Bool := entsOk es && sameLen es
def ranksRes (es : List Ent) : List Int := if comparable es then ranksBy lessEE es else []
def podiumRes (es : List Ent) : List Int := if comparable es then firstTo es (ranksBy lessEE es) 3 else []
def roundRes (r : RR) (es : List Ent) : List Int := if r.ok && entsOk es then ranksBy (aheadE r) (es.map (normE r)) else []
def advRes (r : RR) (es : List Ent) : List Int := if r.ok && entsOk es then firstTo (es.map (normE r)) (ranksBy (aheadE r) (es.map (normE r))) r.adv.toNat else []
theorem sameLen_at {es : List Ent} (h : sameLen es = true) {i : Nat} (hi : i < es.length) : (es.getD i (0, [])).2.length = (es.getD 0 (0, [])).2.length := by
  rw [sameLen, List.all_eq_true] at h
  have := h (es.getD i (0, [])) (by rw [egetD_at _ _ hi]; exact List.getElem_mem hi)
  simpa using this
def SameTo (es : List Ent) (k : Nat) : Prop := ∀ i, i < k → (es.getD i (0, [])).2.length = (es.getD 0 (0, [])).2.length
theorem SameTo.more {es : List Ent} {k : Nat} (h : SameTo es k) (e : (es.getD k (0, [])).2.length = (es.getD 0 (0, [])).2.length) : SameTo es (k + 1) := by
  intro i hi
  rcases Nat.lt_or_ge i k with h1 | h1
  · exact h i h1
  · rwa [show i = k from by omega]
theorem SameTo.all {es : List Ent} (h : SameTo es es.length) : sameLen es = true := by
  rw [sameLen, List.all_eq_true]
  intro e he
  obtain ⟨k, hk, rfl⟩ := List.mem_iff_getElem.1 he
  have := h k hk
  rw [egetD_at _ _ hk] at this
  simpa using this
theorem sameLen_no {es : List Ent} {k : Nat} (hk : k < es.length) (e : (es.getD k (0, [])).2.length ≠ (es.getD 0 (0, [])).2.length) : sameLen es = false := by
  rw [Bool.eq_false_iff]
  intro h
  exact e (sameLen_at h hk)
theorem ranksRes_len (es : List Ent) : (ranksRes es).length ≤ 12 := by
  unfold ranksRes
  split
  · rename_i h
    rw [comparable, Bool.and_eq_true] at h
    rw [ranksBy_len]
    exact (entsOk_parts h.1).1
  · simp
theorem podiumRes_len (es : List Ent) : (podiumRes es).length ≤ 36 := by
  unfold podiumRes
  split
  · rename_i h
    rw [comparable, Bool.and_eq_true] at h
    have := firstTo_len es (ranksBy lessEE es) 3
    have := (entsOk_parts h.1).1
    omega
  · simp
theorem roundRes_len (r : RR) (es : List Ent) : (roundRes r es).length ≤ 12 := by
  unfold roundRes
  split
  · rename_i h
    rw [Bool.and_eq_true] at h
    rw [ranksBy_len, List.length_map]
    exact (entsOk_parts h.2).1
  · simp
theorem advRes_len (r : RR) (es : List Ent) : (advRes r es).length ≤ 144 := by
  unfold advRes
  split
  · rename_i h
    rw [Bool.and_eq_true] at h
    have h1 := firstTo_len (es.map (normE r)) (ranksBy (aheadE r) (es.map (normE r))) r.adv.toNat
    rw [List.length_map] at h1
    have h2 := (entsOk_parts h.2).1
    have h3 := (RR.ok_bd h.1).2.2.2.2.2.2.2.1
    have h4 : r.adv.toNat * es.length ≤ 12 * 12 := Nat.mul_le_mul (by omega) h2
    omega
  · simp
/-! Normalized entries are valid. -/
theorem normL_len (r : RR) (xs : List Int) : (normL r xs).length ≤ xs.length := by simp [normL]; omega
theorem allowed_pos {r : RR} (h : r.ok = true) (xs : List Int) : 1 ≤ r.allowed xs := by
  obtain ⟨b1, b2, b3, b4, b5, b6, b7, b8, b9⟩ := RR.ok_bd h
  unfold RR.allowed
  split
  · exact b1
  · rename_i hm
    rw [Bool.or_eq_true, not_or] at hm
    have h1 := hm.1
    by_cases hz : r.catt = 0
    · exact absurd (by simp [RR.meets, hz]) h1
    · omega
theorem normL_pos {r : RR} (h : r.ok = true) {xs : List Int} (hp : 0 < xs.length) : 0 < (normL r xs).length := by
  have := allowed_pos h xs
  simp [normL]
  omega
theorem normL_isRes (r : RR) {xs : List Int} (h : xs.all isRes = true) : (normL r xs).all isRes = true := by
  rw [normL, List.all_eq_true]
  intro y hy
  obtain ⟨x, hx, rfl⟩ := List.mem_map.1 hy
  exact limited_isRes (List.all_eq_true.1 h x (List.mem_of_mem_take hx))
theorem normE_ok {r : RR} (h : r.ok = true) {e : Ent} (he : entOk e.1 e.2 = true) : entOk (normE r e).1 (normE r e).2 = true := by
  rw [entOk, Bool.and_eq_true, Bool.and_eq_true, decide_eq_true_eq] at he
  have h1 := normL_pos h he.2.1
  have h2 := normL_isRes r (okTimes_all he.2.2)
  have h3 := normL_len r e.2
  have h4 := okTimes_len he.2.2
  rw [entOk, Bool.and_eq_true, Bool.and_eq_true, decide_eq_true_eq]
  refine ⟨he.1, h1, ?_⟩
  show okTimes (normL r e.2) = true
  rw [okTimes, h2]
  simp
  omega
theorem norm_get (r : RR) (es : List Ent) {i : Nat} (hi : i < es.length) {k : Int} {xs : List Int} (he : es.getD i (0, []) = (k, xs)) : (es.map (normE r)).getD i (0, []) = (k, normL r xs) := by
  rw [egetD_at _ _ (by simpa using hi), List.getElem_map, ← egetD_at _ _ hi, he]
  rfl
end Go.Proofs.Ytejacbgogcjbnaa
