/- Plain laws: all members in order of rank, level by level; strong generators. No program is named here. -/
import Derived.Test.YtpcnbjfkobeibaaWl
namespace Go.Proofs.Ytpcnbjfkobeibaa
namespace Grp

def lvl (n : Nat) (T : Tab) (i : Nat) (L : List (List Nat)) : List (List Nat) := L.flatMap fun u => (vals n T i u).map (step T i u)
def allF (n : Nat) (T : Tab) : Nat → Nat → List (List Nat) → List (List Nat)
  | 0, _, L => L
  | m + 1, i, L => allF n T m (i + 1) (lvl n T i L)
/-- All members, by rank. -/
def memR (n : Nat) (T : Tab) : List (List Nat) := (List.range (ordG n T 0)).map fun k => (atR n T k).getD []
theorem flat_range {β : Type} (O : Nat) (vs : List Nat) (h : Nat → Nat → β) (h' : Nat → β) (he : ∀ q r v, vs[q]? = some v → r < O → h' (q * O + r) = h v r) :
    (vs.flatMap fun v => (List.range O).map (h v)) = (List.range (vs.length * O)).map h' := by
  have key : ∀ l, l ≤ vs.length → ((vs.take l).flatMap fun v => (List.range O).map (h v)) = (List.range (l * O)).map h' := by
    intro l
    induction l with
    | zero => intro _; simp
    | succ l ih =>
      intro hl
      obtain ⟨v, hv⟩ : ∃ v, vs[l]? = some v := ⟨vs[l], List.getElem?_eq_getElem (by omega)⟩
      rw [List.take_add_one, hv, Option.toList_some, List.flatMap_append, ih (by omega), Nat.succ_mul, List.range_add, List.map_append, List.flatMap_singleton, List.map_map]
      congr 1
      refine List.map_congr_left fun r hr => ?_
      exact (he l r v hv (List.mem_range.1 hr)).symm
  have := key vs.length (Nat.le_refl _)
  rwa [List.take_of_length_le (Nat.le_refl _)] at this
theorem flat_congr {α β : Type} {f g : α → List β} : ∀ {l : List α}, (∀ a, a ∈ l → f a = g a) → l.flatMap f = l.flatMap g := by
  intro l
  induction l with
  | nil => intro _; rfl
  | cons a l ih => intro h; rw [List.flatMap_cons, List.flatMap_cons, h a (by simp), ih fun b hb => h b (by simp [hb])]
section
variable {n : Nat} {T : Tab} {G : List Nat → Prop}
theorem lvl_isP (hc : Chain n T 0 G) {i : Nat} (hi : i < n) {L : List (List Nat)} (hL : ∀ u, u ∈ L → IsP n u) : ∀ u, u ∈ lvl n T i L → IsP n u := by
  intro u hu
  unfold lvl at hu
  rw [List.mem_flatMap] at hu
  obtain ⟨u0, h0, h1⟩ := hu
  rw [List.mem_map] at h1
  obtain ⟨v, hv, rfl⟩ := h1
  exact step_isP hc hi (hL u0 h0) hv
theorem allF_eq (hc : Chain n T 0 G) : ∀ (m i : Nat) (L : List (List Nat)), m + i = n → (∀ u, u ∈ L → IsP n u) →
    allF n T m i L = L.flatMap fun u => (List.range (ordF n T i m)).map fun k => ((walkG n T (actAt n T) m i u k).2).getD [] := by
  intro m
  induction m with
  | zero => intro i L _ _; simp [allF, ordF, walkG]
  | succ m ih =>
    intro i L hm hL
    have hin : i < n := by omega
    have hO : ordG n T (i + 1) = ordF n T (i + 1) m := by unfold ordG; rw [show n - (i + 1) = m by omega]
    rw [allF, ih (i + 1) _ (by omega) (lvl_isP hc hin hL), lvl, List.flatMap_assoc]
    refine flat_congr fun u hu => ?_
    rw [List.flatMap_map]
    have hlen : (orb n T i).length = (vals n T i u).length := (vals_length (hL u hu)).symm
    rw [ordF, hlen]
    refine flat_range _ _ _ _ fun q r v hq hr => ?_
    have hpos : 0 < ordF n T (i + 1) m := by omega
    have hd : (q * ordF n T (i + 1) m + r) / ordF n T (i + 1) m = q := by rw [Nat.mul_comm, Nat.mul_add_div hpos, Nat.div_eq_of_lt hr, Nat.add_zero]
    have hmd : (q * ordF n T (i + 1) m + r) % ordF n T (i + 1) m = r := by rw [Nat.mul_comm, Nat.mul_add_mod, Nat.mod_eq_of_lt hr]
    have hv : v ∈ vals n T i u := List.mem_of_getElem? hq
    rw [walkG, actAt, hO, hd, hmd, hq]
    dsimp only
    rw [if_pos hv]
theorem allF_mem (hc : Chain n T 0 G) : allF n T n 0 [idp n] = memR n T := by
  rw [allF_eq hc n 0 [idp n] (by omega) (fun u hu => by rw [List.mem_singleton.1 hu]; exact IsP.idp)]
  simp only [List.flatMap_cons, List.flatMap_nil, List.append_nil, memR, ordG, atR, Nat.sub_zero]
theorem at_some (hc : Chain n T 0 G) : ∀ (m i : Nat) (u : List Nat) (k : Nat), m + i = n → IsP n u → k < ordF n T i m → ∃ u', (walkG n T (actAt n T) m i u k).2 = some u' := by
  intro m
  induction m with
  | zero => intro i u k _ _ _; exact ⟨u, rfl⟩
  | succ m ih =>
    intro i u k hm hu hk
    have hin : i < n := by omega
    have hO : ordG n T (i + 1) = ordF n T (i + 1) m := by unfold ordG; rw [show n - (i + 1) = m by omega]
    have hpos := (ordF_le hc m (i + 1) (by omega)).1
    rw [ordF] at hk
    have hq : k / ordF n T (i + 1) m < (vals n T i u).length := by rw [vals_length hu]; exact Nat.div_lt_of_lt_mul (by rw [Nat.mul_comm]; exact hk)
    rw [walkG, actAt, hO, List.getElem?_eq_getElem hq]
    dsimp only
    rw [if_pos (List.getElem_mem hq)]
    exact ih (i + 1) _ _ (by omega) (step_isP hc hin hu (List.getElem_mem hq)) (Nat.mod_lt _ hpos)
theorem atR_some (hc : Chain n T 0 G) {k : Nat} (hk : k < ordG n T 0) : ∃ u, atR n T k = some u ∧ IsP n u := by
  obtain ⟨u, hu⟩ := at_some hc n 0 (idp n) k (by omega) IsP.idp hk
  exact ⟨u, hu, walk_isP hc n 0 _ _ (by omega) IsP.idp u hu⟩
end
/-! Of one group, all tables give one answer. -/
section
variable {n : Nat} {T T' : Tab} {G : List Nat → Prop}
theorem act_same (hc : Chain n T 0 G) (hc' : Chain n T' 0 G) : ∀ (m i : Nat) (u : List Nat) (k : Nat), m + i = n → walkG n T (actAt n T) m i u k = walkG n T (actAt n T') m i u k := by
  intro m
  induction m with
  | zero => intro i u k _; rfl
  | succ m ih =>
    intro i u k hm
    have e : actAt n T i (vals n T i u) k = actAt n T' i (vals n T i u) k := by unfold actAt; rw [ordG_eq hc hc' (show i + 1 ≤ n by omega)]
    rw [walkG, walkG, e]
    cases actAt n T' i (vals n T i u) k with
    | mk a o =>
      cases o with
      | none => rfl
      | some v => dsimp only; rw [ih (i + 1) _ _ (by omega)]
theorem atR_eq (hc : Chain n T 0 G) (hc' : Chain n T' 0 G) (k : Nat) : atR n T k = atR n T' k := by
  unfold atR
  rw [act_same hc hc' n 0 _ _ (by omega), walk_eq hc hc' (actAt n T') n 0 (idp n) (idp n) k (by omega) IsP.idp IsP.idp (Sim.refl hc.1 (Nat.zero_le _) IsP.idp)]
theorem memR_eq (hc : Chain n T 0 G) (hc' : Chain n T' 0 G) : memR n T = memR n T' := by
  unfold memR
  rw [ordG_eq hc hc' (Nat.zero_le _)]
  exact List.map_congr_left fun k _ => by rw [atR_eq hc hc']
theorem preR_eq (hc : Chain n T 0 G) (hc' : Chain n T' 0 G) (ps : List Int) : preR n T ps = preR n T' ps := by
  unfold preR
  rw [walk_eq hc hc' (actPre ps) n 0 (idp n) (idp n) () (by omega) IsP.idp IsP.idp (Sim.refl hc.1 (Nat.zero_le _) IsP.idp)]
/-- The first entries i are the identity's, the next is y. -/
def idTo (i : Nat) (y : Nat) : List Int := (List.range i).map (fun j : Nat => (j : Int)) ++ [(y : Int)]
theorem idTo_len (i y : Nat) : (idTo i y).length = i + 1 := by simp [idTo]
theorem idTo_before {i y j : Nat} (h : j < i) : (idTo i y).getD j 0 = (j : Int) := by
  unfold idTo
  rw [List.getD_eq_getElem?_getD, List.getElem?_append_left (by simpa using h)]
  simp [h]
theorem idTo_at (i y : Nat) : (idTo i y).getD i 0 = (y : Int) := by
  unfold idTo
  rw [List.getD_eq_getElem?_getD, List.getElem?_append_right (by simp)]
  simp
theorem pre_down (hc : Chain n T 0 G) (h1 : ∀ j, j < n → T j j = some (idp n)) {i y : Nat} (hi : i < n) {R : Unit × Option (List Nat)} (h : Wk n T (actPre (idTo i y)) 0 (idp n) () R) : ∀ j, j ≤ i → Wk n T (actPre (idTo i y)) j (idp n) () R := by
  intro j
  induction j with
  | zero => intro _; exact h
  | succ j ih =>
    intro hj
    have hv : j ∈ vals n T j (idp n) := by rw [← orb_vals]; exact mem_orb_self hc (by omega)
    have := (ih (by omega)).go (by omega) (actPre_yes (v := j) (by rw [idTo_len]; omega) (idTo_before (by omega)) hv) hv
    have e : step T j (idp n) j = idp n := by
      have h2 := (mem_vals.1 hv)
      have hh : app (inv (idp n)) j = j := by
        have := (IsP.idp (n := n)).inv_app_self (i := j) (by omega)
        rwa [app_idp (by omega)] at this
      unfold step
      rw [hh, h1 j (by omega)]
      exact comp_idp IsP.idp
    rwa [e] at this
theorem min_some (hc : Chain n T 0 G) : ∀ (m i : Nat) (u : List Nat), m + i = n → IsP n u → ∃ u', (walkG n T actMin m i u ()).2 = some u' := by
  intro m
  induction m with
  | zero => intro i u _ _; exact ⟨u, rfl⟩
  | succ m ih =>
    intro i u hm hu
    obtain ⟨v, h1, h2, -, -⟩ := vals_head hc (show i < n by omega) hu
    rw [walkG, actMin, h1]
    dsimp only
    rw [if_pos h2]
    exact ih (i + 1) _ (by omega) (step_isP hc (by omega) hu h2)
theorem minR_some (hc : Chain n T 0 G) {u : List Nat} (hu : IsP n u) : ∃ u', minR n T u = some u' ∧ IsP n u' := by
  obtain ⟨u', h⟩ := min_some hc n 0 u (by omega) hu
  exact ⟨u', h, walk_isP hc n 0 u () (by omega) hu u' h⟩
/-- There is a member with these first entries exactly if the point is in the level's orbit. -/
theorem pre_orb (hc : Chain n T 0 G) (h1 : ∀ j, j < n → T j j = some (idp n)) {i y : Nat} (hi : i < n) : (∃ u, preR n T (idTo i y) = some u) ↔ y ∈ orb n T i := by
  have hw := pre_down hc h1 hi (y := y) (R := walkG n T (actPre (idTo i y)) n 0 (idp n) ()) rfl i (Nat.le_refl _)
  rw [orb_vals]
  constructor
  · rintro ⟨u, hu⟩
    rcases Classical.em (y ∈ vals n T i (idp n)) with h | h
    · exact h
    · have := hw.stop hi (actPre_no (by rw [idTo_len]; omega) (fun v hv => by
        rw [idTo_at] at hv
        have e : v = y := by omega
        rw [e]; exact h))
      unfold preR at hu
      rw [this] at hu
      cases hu
  · intro h
    have h2 := hw.go hi (actPre_yes (v := y) (by rw [idTo_len]; omega) (idTo_at i y) h) h
    have h3 := h2.congr (act' := actMin) (fun j vs b hj => actPre_late (by rw [idTo_len]; omega) vs b)
    have hP := step_isP hc hi IsP.idp h
    obtain ⟨u', hu'⟩ := min_some hc (n - (i + 1)) (i + 1) (step T i (idp n) y) (by omega) hP
    refine ⟨u', ?_⟩
    unfold preR
    unfold Wk at h3
    rw [← h3]
    exact hu'
end
/-- The strong generators. -/
def sgR (n : Nat) (T : Tab) : List (List Nat) := (List.range n).flatMap fun i => (List.range n).filterMap fun y => if i < y then preR n T (idTo i y) else none
theorem sgR_eq {n : Nat} {T T' : Tab} {G : List Nat → Prop} (hc : Chain n T 0 G) (hc' : Chain n T' 0 G) : sgR n T = sgR n T' := by
  unfold sgR
  have e : preR n T = preR n T' := funext fun ps => preR_eq hc hc' ps
  rw [e]
end Grp
end Go.Proofs.Ytpcnbjfkobeibaa
