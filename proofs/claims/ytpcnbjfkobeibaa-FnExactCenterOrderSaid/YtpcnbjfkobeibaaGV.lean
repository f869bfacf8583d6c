/- Plain laws: what is computed down a stabilizer chain does not depend on the representatives. No program is named here. -/
import Derived.Test.YtpcnbjfkobeibaaG
namespace Go.Proofs.Ytpcnbjfkobeibaa
namespace Grp

def Sim (G : List Nat → Prop) (i : Nat) (u u' : List Nat) : Prop := ∃ g, G g ∧ Fix i g ∧ u = comp g u'
/-- The values that entry i can have, ascending. -/
def vals (n : Nat) (T : Nat → Nat → Option (List Nat)) (i : Nat) (u : List Nat) : List Nat := (List.range n).filter fun v => (T i (app (inv u) v)).isSome
/-- The entry i gets the value v. -/
def step (T : Nat → Nat → Option (List Nat)) (i : Nat) (u : List Nat) (v : Nat) : List Nat := match T i (app (inv u) v) with
  | some t => comp t u
  | none => u
/-- A walk down the levels: at each level an act sees the possible values and gives a value, or ends the walk. -/
def walkG {α : Type} (n : Nat) (T : Nat → Nat → Option (List Nat)) (act : Nat → List Nat → α → α × Option Nat) : Nat → Nat → List Nat → α → α × Option (List Nat)
  | 0, _, u, a => (a, some u)
  | m + 1, i, u, a => match act i (vals n T i u) a with
    | (a', none) => (a', none)
    | (a', some v) => if v ∈ vals n T i u then walkG n T act m (i + 1) (step T i u v) a' else (a', none)

section
variable {n : Nat} {T T' : Nat → Nat → Option (List Nat)} {G : List Nat → Prop}
theorem isSome_iff (hc : Chain n T 0 G) {i : Nat} (hi : i < n) {u : List Nat} (hu : IsP n u) {v : Nat} (hv : v < n) :
    (T i (app (inv u) v)).isSome = true ↔ ∃ g, G g ∧ Fix i g ∧ app (comp g u) i = v := by
  obtain ⟨ha, hb⟩ := hc.2.2 i (Nat.zero_le _) hi
  constructor
  · intro h
    cases hT : T i (app (inv u) v) with
    | none => rw [hT] at h; cases h
    | some t =>
      obtain ⟨x1, x2, x3⟩ := ha _ t hT
      refine ⟨t, x1, x2, ?_⟩
      rw [(hc.1.1 t x1).appc hi, x3, hu.app_inv_self hv]
  · rintro ⟨g, hg, hf, e⟩
    have hgp := hc.1.1 g hg
    rw [hgp.appc hi] at e
    rw [← e, hu.inv_app_self (hgp.lt hi)]
    exact hb g hg hf
theorem Sim.refl (hG : Sub n G) {i : Nat} (hi : i ≤ n) {u : List Nat} (hu : IsP n u) : Sim G i u u := ⟨idp n, hG.2.1, Fix.idp hi, (idp_comp hu).symm⟩
theorem Sim.symm (hG : Sub n G) {i : Nat} (hi : i ≤ n) {u u' : List Nat} (hu' : IsP n u') (h : Sim G i u u') : Sim G i u' u := by
  obtain ⟨g, h1, h2, rfl⟩ := h
  have hg := hG.1 g h1
  refine ⟨inv g, hG.2.2.2 g h1, h2.inv hg hi, ?_⟩
  rw [← comp_assoc hg.inv hg hu', inv_comp hg, idp_comp hu']
theorem Sim.isSome (hc : Chain n T 0 G) (hc' : Chain n T' 0 G) {i : Nat} (hi : i < n) {u u' : List Nat} (hu : IsP n u) (hu' : IsP n u') (h : Sim G i u u') {v : Nat} (hv : v < n) :
    (T i (app (inv u) v)).isSome = (T' i (app (inv u') v)).isSome := by
  rw [Bool.eq_iff_iff, isSome_iff hc hi hu hv, isSome_iff hc' hi hu' hv]
  have key : ∀ {a b : List Nat}, IsP n b → Sim G i a b → (∃ g, G g ∧ Fix i g ∧ app (comp g a) i = v) → ∃ g, G g ∧ Fix i g ∧ app (comp g b) i = v := by
    rintro a b hb ⟨h, h1, h2, rfl⟩ ⟨g, g1, g2, e⟩
    have hg := hc.1.1 g g1
    have hh := hc.1.1 h h1
    exact ⟨comp g h, hc.1.2.2.1 _ _ g1 h1, g2.comp hg (by omega) h2, by rw [comp_assoc hg hh hb]; exact e⟩
  exact ⟨key hu' h, key hu (h.symm hc.1 (by omega) hu')⟩
theorem vals_eq (hc : Chain n T 0 G) (hc' : Chain n T' 0 G) {i : Nat} (hi : i < n) {u u' : List Nat} (hu : IsP n u) (hu' : IsP n u') (h : Sim G i u u') : vals n T i u = vals n T' i u' := by
  unfold vals
  refine List.filter_congr fun v hv => ?_
  exact Sim.isSome hc hc' hi hu hu' h (List.mem_range.1 hv)
theorem mem_vals {i : Nat} {u : List Nat} {v : Nat} : v ∈ vals n T i u ↔ v < n ∧ (T i (app (inv u) v)).isSome = true := by simp [vals]
theorem step_some {i : Nat} {u : List Nat} {v : Nat} (h : v ∈ vals n T i u) : ∃ t, T i (app (inv u) v) = some t ∧ step T i u v = comp t u := by
  obtain ⟨_, h2⟩ := mem_vals.1 h
  cases hT : T i (app (inv u) v) with
  | none => rw [hT] at h2; cases h2
  | some t => exact ⟨t, rfl, by rw [step, hT]⟩
theorem step_isP (hc : Chain n T 0 G) {i : Nat} (hi : i < n) {u : List Nat} (hu : IsP n u) {v : Nat} (h : v ∈ vals n T i u) : IsP n (step T i u v) := by
  obtain ⟨t, e, e2⟩ := step_some h
  rw [e2]
  exact (hc.1.1 t ((hc.2.2 i (Nat.zero_le _) hi).1 _ t e).1).comp hu
theorem step_at (hc : Chain n T 0 G) {i : Nat} (hi : i < n) {u : List Nat} (hu : IsP n u) {v : Nat} (h : v ∈ vals n T i u) : app (step T i u v) i = v := by
  obtain ⟨t, e, e2⟩ := step_some h
  obtain ⟨x1, x2, x3⟩ := (hc.2.2 i (Nat.zero_le _) hi).1 _ t e
  rw [e2, (hc.1.1 t x1).appc hi, x3, hu.app_inv_self (mem_vals.1 h).1]
theorem step_before (hc : Chain n T 0 G) {i : Nat} (hi : i < n) {u : List Nat} {v : Nat} (h : v ∈ vals n T i u) {j : Nat} (hj : j < i) : app (step T i u v) j = app u j := by
  obtain ⟨t, e, e2⟩ := step_some h
  obtain ⟨x1, x2, x3⟩ := (hc.2.2 i (Nat.zero_le _) hi).1 _ t e
  rw [e2, (hc.1.1 t x1).appc (by omega), x2 j hj]
theorem step_sim (hc : Chain n T 0 G) (hc' : Chain n T' 0 G) {i : Nat} (hi : i < n) {u u' : List Nat} (hu : IsP n u) (hu' : IsP n u') (h : Sim G i u u') {v : Nat} (hv : v ∈ vals n T i u) : Sim G (i + 1) (step T i u v) (step T' i u' v) := by
  have hv' : v ∈ vals n T' i u' := by rw [← vals_eq hc hc' hi hu hu' h]; exact hv
  have hat := step_at hc hi hu hv
  have hat' := step_at hc' hi hu' hv'
  obtain ⟨t, e, e2⟩ := step_some hv
  obtain ⟨t', e', e2'⟩ := step_some hv'
  obtain ⟨x1, x2, x3⟩ := (hc.2.2 i (Nat.zero_le _) hi).1 _ t e
  obtain ⟨y1, y2, y3⟩ := (hc'.2.2 i (Nat.zero_le _) hi).1 _ t' e'
  obtain ⟨g, g1, g2, rfl⟩ := h
  have ht := hc.1.1 t x1
  have ht' := hc.1.1 t' y1
  have hg := hc.1.1 g g1
  rw [e2] at hat ⊢
  rw [e2'] at hat' ⊢
  have hM : IsP n (comp (comp t g) (inv t')) := (ht.comp hg).comp ht'.inv
  refine ⟨comp (comp t g) (inv t'), hc.1.2.2.1 _ _ (hc.1.2.2.1 _ _ x1 g1) (hc.1.2.2.2 _ y1), fun j hj => ?_, ?_⟩
  · rw [(ht.comp hg).appc (by omega), ht.appc (by omega)]
    rcases Nat.lt_or_ge j i with hlt | hge
    · rw [x2 j hlt, g2 j hlt, y2.inv ht' (by omega) j hlt]
    · obtain rfl : j = i := by omega
      -- both come to v through u'
      rw [ht.appc hi, hg.appc (ht.lt hi)] at hat
      rw [ht'.appc hi] at hat'
      have := hu'.inj (hg.lt (ht.lt hi)) (ht'.lt hi) (hat.trans hat'.symm)
      rw [this, ht'.inv_app_self hi]
  · rw [← comp_assoc hM ht' hu', comp_assoc (ht.comp hg) ht'.inv ht', inv_comp ht', comp_idp (ht.comp hg), comp_assoc ht hg hu']
theorem Sim.end_ (hG : Sub n G) {u u' : List Nat} (hu' : IsP n u') (h : Sim G n u u') : u = u' := by
  obtain ⟨g, g1, g2, rfl⟩ := h
  rw [Fix.all (hG.1 g g1) g2, idp_comp hu']
theorem walk_eq {α : Type} (hc : Chain n T 0 G) (hc' : Chain n T' 0 G) (act : Nat → List Nat → α → α × Option Nat) : ∀ (m i : Nat) (u u' : List Nat) (a : α), m + i = n → IsP n u → IsP n u' → Sim G i u u' →
    walkG n T act m i u a = walkG n T' act m i u' a := by
  intro m
  induction m with
  | zero =>
    intro i u u' a hm hu hu' h
    have e : u = u' := Sim.end_ (n := n) hc.1 hu' (by rwa [show n = i from by omega])
    rw [walkG, walkG, e]
  | succ m ih =>
    intro i u u' a hm hu hu' h
    have hv := vals_eq hc hc' (by omega) hu hu' h
    rw [walkG, walkG, ← hv]
    rcases act i (vals n T i u) a with ⟨a', _ | v⟩
    · rfl
    · dsimp only
      by_cases hin : v ∈ vals n T i u
      · rw [if_pos hin, if_pos hin]
        have hin' : v ∈ vals n T' i u' := by rw [← hv]; exact hin
        exact ih (i + 1) _ _ a' (by omega) (step_isP hc (by omega) hu hin) (step_isP hc' (by omega) hu' hin') (step_sim hc hc' (by omega) hu hu' h hin)
      · rw [if_neg hin, if_neg hin]
/-- The orbit of a level, and its size. -/
def orb (n : Nat) (T : Nat → Nat → Option (List Nat)) (i : Nat) : List Nat := (List.range n).filter fun y => (T i y).isSome
theorem orb_vals {i : Nat} : orb n T i = vals n T i (idp n) := by
  unfold orb vals
  refine List.filter_congr fun v hv => ?_
  have hinv : inv (idp n) = idp n := by
    have := comp_inv (p := idp n) IsP.idp
    rwa [idp_comp IsP.idp.inv] at this
  rw [hinv, app_idp (List.mem_range.1 hv)]
theorem orb_eq (hc : Chain n T 0 G) (hc' : Chain n T' 0 G) {i : Nat} (hi : i < n) : orb n T i = orb n T' i := by
  rw [orb_vals, orb_vals]
  exact vals_eq hc hc' hi IsP.idp IsP.idp (Sim.refl hc.1 (by omega) IsP.idp)
theorem length_le_of_subset : ∀ (l l' : List Nat), l.Nodup → (∀ x ∈ l, x ∈ l') → l.length ≤ l'.length := by
  intro l
  induction l with
  | nil => intro l' _ _; simp
  | cons a l ih =>
    intro l' hd hs
    have ha : a ∈ l' := hs a (by simp)
    rw [List.nodup_cons] at hd
    have := ih (l'.erase a) hd.2 fun x hx => by
      have hne : x ≠ a := fun e => hd.1 (e ▸ hx)
      exact (List.mem_erase_of_ne hne).2 (hs x (by simp [hx]))
    rw [List.length_erase_of_mem ha] at this
    have hpos : 0 < l'.length := List.length_pos_of_mem ha
    simp only [List.length_cons]
    omega
theorem nodup_filter_range (n : Nat) (p : Nat → Bool) : ((List.range n).filter p).Nodup := List.Pairwise.filter _ List.nodup_range
theorem nodup_map_app {p : List Nat} (hp : IsP n p) {l : List Nat} (hl : ∀ x ∈ l, x < n) (hd : l.Nodup) : (l.map (app p)).Nodup := by
  induction l with
  | nil => simp
  | cons a l ih =>
    rw [List.nodup_cons] at hd
    rw [List.map_cons, List.nodup_cons]
    refine ⟨fun h => ?_, ih (fun x hx => hl x (by simp [hx])) hd.2⟩
    obtain ⟨x, hx, e⟩ := List.mem_map.1 h
    have := hp.inj (hl x (by simp [hx])) (hl a (by simp)) e
    exact hd.1 (this ▸ hx)
theorem vals_length {i : Nat} {u : List Nat} (hu : IsP n u) : (vals n T i u).length = (orb n T i).length := by
  refine Nat.le_antisymm ?_ ?_
  · have := length_le_of_subset ((vals n T i u).map (app (inv u))) (orb n T i) (nodup_map_app hu.inv (fun x hx => (mem_vals.1 hx).1) (nodup_filter_range _ _)) fun x hx => by
      obtain ⟨v, hv, rfl⟩ := List.mem_map.1 hx
      have h := mem_vals.1 hv
      simp [orb, hu.inv_lt h.1, h.2]
    simpa using this
  · have := length_le_of_subset ((orb n T i).map (app u)) (vals n T i u) (nodup_map_app hu (fun x hx => by simp [orb] at hx; exact hx.1) (nodup_filter_range _ _)) fun x hx => by
      obtain ⟨y, hy, rfl⟩ := List.mem_map.1 hx
      simp only [orb, List.mem_filter, List.mem_range] at hy
      rw [mem_vals]
      exact ⟨hu.lt hy.1, by rw [hu.inv_app_self hy.1]; exact hy.2⟩
    simpa using this
end
end Grp
end Go.Proofs.Ytpcnbjfkobeibaa
