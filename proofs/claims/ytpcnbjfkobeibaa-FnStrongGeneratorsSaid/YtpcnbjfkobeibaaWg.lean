/- Plain laws: the strong generators, one after another. No program is named here. -/
import Derived.Test.YtpcnbjfkobeibaaWm
namespace Go.Proofs.Ytpcnbjfkobeibaa
namespace Grp

def sgF (n : Nat) (T : Tab) (i : Nat) (y : Nat) : Option (List Nat) := if i < y then preR n T (idTo i y) else none
def sgTo (n : Nat) (T : Tab) (i : Nat) : List (List Nat) := (List.range i).flatMap fun i => (List.range n).filterMap (sgF n T i)
theorem sgTo_zero (n : Nat) (T : Tab) : sgTo n T 0 = [] := by simp [sgTo]
theorem sgTo_more (n : Nat) (T : Tab) (i : Nat) : sgTo n T (i + 1) = sgTo n T i ++ (List.range n).filterMap (sgF n T i) := by simp [sgTo, List.range_succ]
theorem sgTo_end (n : Nat) (T : Tab) : sgTo n T n = sgR n T := rfl
theorem sgTo_len (n : Nat) (T : Tab) (hn : n ≤ 20) : ∀ i, (sgTo n T i).length ≤ i * 20 := by
  intro i
  induction i with
  | zero => rw [sgTo_zero]; exact Nat.le_refl _
  | succ i ih =>
    rw [sgTo_more, List.length_append, Nat.succ_mul]
    have := List.length_filterMap_le (sgF n T i) (List.range n)
    rw [List.length_range] at this
    omega
theorem filterMap_sub {α β : Type} {f : α → Option β} {p : α → Bool} : ∀ (l : List α), (∀ x, x ∈ l → p x = false → f x = none) → (l.filter p).filterMap f = l.filterMap f := by
  intro l
  induction l with
  | nil => intro _; rfl
  | cons a l ih =>
    intro h
    have h2 := ih fun x hx => h x (List.mem_cons_of_mem _ hx)
    cases hp : p a with
    | true => rw [List.filter_cons, hp]; simp only [if_true, List.filterMap_cons, h2]
    | false => rw [List.filter_cons, hp]; simp only [Bool.false_eq_true, if_false, List.filterMap_cons, h a List.mem_cons_self hp, h2]
theorem sg_orb {n : Nat} {T : Tab} {G : List Nat → Prop} (hc : Chain n T 0 G) (h1 : ∀ j, j < n → T j j = some (idp n)) {i : Nat} (hi : i < n) : (orb n T i).filterMap (sgF n T i) = (List.range n).filterMap (sgF n T i) := by
  unfold orb
  refine filterMap_sub _ fun y hy hp => ?_
  unfold sgF
  split
  · cases ho : preR n T (idTo i y) with
    | none => rfl
    | some u =>
      have := (pre_orb hc h1 hi (y := y)).1 ⟨u, ho⟩
      rw [mem_orb] at this
      rw [this.2] at hp
      cases hp
  · rfl
theorem fm_more {β : Type} (f : Nat → Option β) (l : List Nat) (k : Nat) (hk : k < l.length) : (l.take (k + 1)).filterMap f = (l.take k).filterMap f ++ (f (app l k)).toList := by
  unfold app
  rw [List.take_add_one, List.filterMap_append, List.getElem?_eq_getElem hk, List.getD_eq_getElem?_getD, List.getElem?_eq_getElem hk]
  simp only [Option.toList_some, Option.getD_some, List.filterMap_cons, List.filterMap_nil]
  cases f l[k] <;> rfl
theorem fm_range {β : Type} (f : Nat → Option β) (k : Nat) : (List.range (k + 1)).filterMap f = (List.range k).filterMap f ++ (f k).toList := by
  rw [List.range_succ, List.filterMap_append]
  simp only [List.filterMap_cons, List.filterMap_nil]
  cases f k <;> rfl
theorem fm_low (n : Nat) (T : Tab) (i : Nat) : ∀ k, k ≤ i + 1 → (List.range k).filterMap (sgF n T i) = [] := by
  intro k
  induction k with
  | zero => intro _; rfl
  | succ k ih =>
    intro hk
    rw [fm_range, ih (by omega)]
    unfold sgF
    rw [if_neg (by omega)]
    rfl
theorem idTo_natI (i y : Nat) : idTo i y = (idp i).map (fun x : Nat => (x : Int)) ++ [(y : Int)] := rfl
theorem sgR_isP {n : Nat} {T : Tab} {G : List Nat → Prop} (hc : Chain n T 0 G) : ∀ u, u ∈ sgR n T → IsP n u := by
  intro u hu
  unfold sgR at hu
  rw [List.mem_flatMap] at hu
  obtain ⟨i, -, hu⟩ := hu
  rw [List.mem_filterMap] at hu
  obtain ⟨y, -, hu⟩ := hu
  split at hu
  · exact walk_isP hc n 0 (idp n) () (by omega) IsP.idp u hu
  · cases hu
end Grp
end Go.Proofs.Ytpcnbjfkobeibaa
