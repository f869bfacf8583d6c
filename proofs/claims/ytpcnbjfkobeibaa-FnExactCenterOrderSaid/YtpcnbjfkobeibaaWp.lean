/- Plain laws: the values of a level as a sorted list; how many lie below a number, and the least above it. No program is named here. -/
import Derived.Test.YtpcnbjfkobeibaaGC
namespace Go.Proofs.Ytpcnbjfkobeibaa
namespace Grp

/-- Ascending. -/
def Asc (l : List Nat) : Prop := l.Pairwise (· < ·)
theorem asc_range_filter (n : Nat) (p : Nat → Bool) : Asc ((List.range n).filter p) := List.Pairwise.filter _ List.pairwise_lt_range
theorem asc_vals {n : Nat} {T : Tab} {i : Nat} {u : List Nat} : Asc (vals n T i u) := asc_range_filter _ _
theorem Asc.nodup {l : List Nat} (h : Asc l) : l.Nodup := List.Pairwise.imp (fun h => Nat.ne_of_lt h) h
def cntB (vs : List Nat) (x : Int) : Nat := (vs.filter fun v : Nat => decide ((v : Int) < x)).length
def nxtI (vs : List Nat) (x : Int) : Int := match vs.find? (fun v : Nat => decide (x < (v : Int))) with
  | some v => (v : Int)
  | none => -1
/-- What has been seen of the values: those of which dn holds. -/
def CntIs (vs : List Nat) (dn : Nat → Bool) (x : Int) (c : Nat) : Prop := c = (vs.filter fun v : Nat => dn v && decide ((v : Int) < x)).length
def NxtIs (vs : List Nat) (dn : Nat → Bool) (x nx : Int) : Prop :=
  (nx = -1 ∧ ∀ v, v ∈ vs → dn v = true → ¬ x < (v : Int)) ∨ ∃ v : Nat, v ∈ vs ∧ dn v = true ∧ x < (v : Int) ∧ nx = v ∧ ∀ v', v' ∈ vs → dn v' = true → x < ((v' : Nat) : Int) → v ≤ v'
theorem CntIs.start (vs : List Nat) (x : Int) {dn : Nat → Bool} (h : ∀ v, v ∈ vs → dn v = false) : CntIs vs dn x 0 := by
  unfold CntIs
  rw [List.filter_eq_nil_iff.2 fun v hv => by rw [h v hv]; simp]
  rfl
theorem filter_step {dn : Nat → Bool} (p : Nat → Bool) (a : Nat) (hd : dn a = false) : ∀ (vs : List Nat), vs.Nodup → a ∈ vs →
    (vs.filter fun v => (dn v || v == a) && p v).length = (vs.filter fun v => dn v && p v).length + if p a then 1 else 0 := by
  intro vs
  induction vs with
  | nil => intro _ h; simp at h
  | cons b l ih =>
    intro hn ha
    rw [List.nodup_cons] at hn
    by_cases e : b = a
    · subst e
      have hc : l.filter (fun v => (dn v || v == b) && p v) = l.filter fun v => dn v && p v := List.filter_congr fun v hv => by
        have : (v == b) = false := by simp; rintro rfl; exact hn.1 hv
        rw [this, Bool.or_false]
      rw [List.filter_cons, List.filter_cons, hc, hd]
      cases hp : p b <;> simp
    · have h2 := ih hn.2 (by simpa [Ne.symm e] using ha)
      have he : (b == a) = false := by simpa using e
      rw [List.filter_cons, List.filter_cons, he, Bool.or_false]
      split <;> simp [h2] <;> omega
theorem CntIs.step {vs : List Nat} {dn dn' : Nat → Bool} {x : Int} {c a : Nat} (h : CntIs vs dn x c) (hn : vs.Nodup) (ha : a ∈ vs) (hd : dn a = false) (he : ∀ v, dn' v = (dn v || v == a)) : CntIs vs dn' x (if (a : Int) < x then c + 1 else c) := by
  unfold CntIs at *
  have := filter_step (dn := dn) (fun v : Nat => decide ((v : Int) < x)) a hd vs hn ha
  simp only [he]
  rw [this, h]
  by_cases hx : (a : Int) < x <;> simp [hx]
theorem CntIs.fin {vs : List Nat} {dn : Nat → Bool} {x : Int} {c : Nat} (h : CntIs vs dn x c) (hd : ∀ v, v ∈ vs → dn v = true) : c = cntB vs x := by
  unfold CntIs at h
  rw [h, cntB]
  congr 1
  exact List.filter_congr fun v hv => by rw [hd v hv, Bool.true_and]
theorem CntIs.le {vs : List Nat} {dn : Nat → Bool} {x : Int} {c : Nat} (h : CntIs vs dn x c) : c ≤ vs.length := by rw [h]; exact List.length_filter_le _ _
theorem NxtIs.start (vs : List Nat) (x : Int) {dn : Nat → Bool} (h : ∀ v, v ∈ vs → dn v = false) : NxtIs vs dn x (-1) := .inl ⟨rfl, fun v hv hd => by rw [h v hv] at hd; cases hd⟩
theorem NxtIs.skip {vs : List Nat} {dn dn' : Nat → Bool} {x nx : Int} {a : Nat} (h : NxtIs vs dn x nx) (he : ∀ v, dn' v = (dn v || v == a)) (hs : ¬ x < (a : Int) ∨ (0 ≤ nx ∧ nx ≤ a)) : NxtIs vs dn' x nx := by
  rcases h with ⟨h1, h2⟩ | ⟨v, h1, h2, h3, h4, h5⟩
  · refine .inl ⟨h1, fun v hv hd => ?_⟩
    rw [he, Bool.or_eq_true] at hd
    rcases hd with hd | hd
    · exact h2 v hv hd
    · have : v = a := by simpa using hd
      subst this
      rcases hs with hs | hs
      · exact hs
      · omega
  · refine .inr ⟨v, h1, by rw [he, h2]; rfl, h3, h4, fun v' hv' hd hx => ?_⟩
    rw [he, Bool.or_eq_true] at hd
    rcases hd with hd | hd
    · exact h5 v' hv' hd hx
    · have : v' = a := by simpa using hd
      subst this
      rcases hs with hs | hs
      · exact absurd hx hs
      · omega
theorem NxtIs.take {vs : List Nat} {dn dn' : Nat → Bool} {x nx : Int} {a : Nat} (h : NxtIs vs dn x nx) (ha : a ∈ vs) (he : ∀ v, dn' v = (dn v || v == a)) (hx : x < (a : Int)) (hs : nx < 0 ∨ (a : Int) < nx) : NxtIs vs dn' x a := by
  refine .inr ⟨a, ha, by rw [he]; simp, hx, rfl, fun v' hv' hd hx' => ?_⟩
  rw [he, Bool.or_eq_true] at hd
  rcases hd with hd | hd
  · rcases h with ⟨h1, h2⟩ | ⟨v, h1, h2, h3, h4, h5⟩
    · exact absurd hx' (h2 v' hv' hd)
    · have := h5 v' hv' hd hx'
      omega
  · have : v' = a := by simpa using hd
    omega
theorem NxtIs.fin {vs : List Nat} {dn : Nat → Bool} {x nx : Int} (h : NxtIs vs dn x nx) (hA : Asc vs) (hd : ∀ v, v ∈ vs → dn v = true) : nx = nxtI vs x := by
  unfold nxtI
  cases hf : vs.find? (fun v : Nat => decide (x < (v : Int))) with
  | none =>
    rw [List.find?_eq_none] at hf
    rcases h with ⟨h1, h2⟩ | ⟨v, h1, h2, h3, h4, h5⟩
    · exact h1
    · exact absurd h3 (by simpa using hf v h1)
  | some a =>
    have ha := List.mem_of_find?_eq_some hf
    have hxa : x < (a : Int) := by simpa using List.find?_some hf
    rcases h with ⟨h1, h2⟩ | ⟨v, h1, h2, h3, h4, h5⟩
    · exact absurd hxa (h2 a ha (hd a ha))
    · have h6 := h5 a ha (hd a ha) hxa
      rw [h4]
      dsimp only
      rw [List.find?_eq_some_iff_append] at hf
      obtain ⟨_, as, bs, rfl, hno⟩ := hf
      have : v = a := by
        rcases List.mem_append.1 h1 with h7 | h7
        · exact absurd h3 (by simpa using hno v h7)
        · rcases List.mem_cons.1 h7 with h8 | h8
          · exact h8
          · have hp : (a :: bs).Pairwise (· < ·) := (List.pairwise_append.1 hA).2.1
            have := (List.pairwise_cons.1 hp).1 v h8
            omega
      rw [this]
/-- One more number laid into an ascending list. -/
def ins (v : Nat) : List Nat → List Nat
  | [] => [v]
  | a :: l => if a < v then a :: ins v l else v :: a :: l
theorem filter_ins {P Q : Nat → Bool} {v : Nat} (hP : P v = false) : ∀ (l : List Nat), (∀ x, x ∈ l → Q x = (P x || x == v)) → Asc l → v ∈ l → l.filter Q = ins v (l.filter P) := by
  intro l
  induction l with
  | nil => intro _ _ h; simp at h
  | cons a l ih =>
    intro hQ hA hv
    have hQ2 := fun x hx => hQ x (List.mem_cons_of_mem _ hx)
    have hA2 := List.pairwise_cons.1 hA
    by_cases e : a = v
    · subst e
      have hc : l.filter Q = l.filter P := List.filter_congr fun x hx => by
        have : (x == a) = false := by have := hA2.1 x hx; simp; omega
        rw [hQ2 x hx, this, Bool.or_false]
      rw [List.filter_cons, List.filter_cons, hP, hQ a (by simp), hP]
      simp only [beq_self_eq_true, Bool.or_true, if_true, hc]
      cases hl : l.filter P with
      | nil => simp [ins]
      | cons b m =>
        have hb : b ∈ l := (List.mem_filter.1 (show b ∈ l.filter P by rw [hl]; simp)).1
        have := hA2.1 b hb
        simp [ins]; omega
    · have hv2 : v ∈ l := by simpa [Ne.symm e] using hv
      have hav := hA2.1 v hv2
      have h2 := ih hQ2 hA2.2 hv2
      have he : (a == v) = false := by simpa using e
      rw [List.filter_cons, List.filter_cons, hQ a (by simp), he, Bool.or_false]
      cases hPa : P a with
      | true => simp [ins, hav, h2]
      | false => simpa using h2
theorem ins_split (v : Nat) : ∀ (l : List Nat), ins v l = l.take (cntB l v) ++ v :: l.drop (cntB l v) ∨ ¬ Asc l := by
  intro l
  by_cases hA : Asc l
  · refine .inl ?_
    induction l with
    | nil => simp [ins, cntB]
    | cons a l ih =>
      have hA2 := List.pairwise_cons.1 hA
      by_cases hav : a < v
      · have hc : cntB (a :: l) v = cntB l v + 1 := by unfold cntB; rw [List.filter_cons, if_pos (by simp; omega)]; simp
        rw [hc, ins, if_pos hav, ih hA2.2]
        simp
      · have hc : cntB (a :: l) v = 0 := by
          unfold cntB
          rw [List.filter_eq_nil_iff.2 fun x hx => ?_]
          · rfl
          · rcases List.mem_cons.1 hx with h | h
            · simp; omega
            · have := hA2.1 x h; simp; omega
        rw [hc, ins, if_neg hav]
        simp
  · exact .inr hA
/-- The values of a level, as far as the points below k reach. -/
def valsTo (n : Nat) (T : Tab) (i : Nat) (u : List Nat) (k : Nat) : List Nat := (List.range n).filter fun v => decide (app (inv u) v < k) && (T i (app (inv u) v)).isSome
theorem asc_valsTo {n : Nat} {T : Tab} {i : Nat} {u : List Nat} {k : Nat} : Asc (valsTo n T i u k) := asc_range_filter _ _
theorem valsTo_zero {n : Nat} {T : Tab} {i : Nat} {u : List Nat} : valsTo n T i u 0 = [] := by
  unfold valsTo
  exact List.filter_eq_nil_iff.2 fun v _ => by simp
theorem valsTo_all {n : Nat} {T : Tab} {i : Nat} {u : List Nat} (hu : IsP n u) : valsTo n T i u n = vals n T i u := by
  unfold valsTo vals
  exact List.filter_congr fun v hv => by
    have := hu.inv_lt (List.mem_range.1 hv)
    simp [this]
theorem valsTo_no {n : Nat} {T : Tab} {i : Nat} {u : List Nat} {k : Nat} (h : T i k = none) : valsTo n T i u (k + 1) = valsTo n T i u k := by
  unfold valsTo
  refine List.filter_congr fun v _ => ?_
  by_cases e : app (inv u) v = k
  · rw [e, h]; simp
  · have : decide (app (inv u) v < k + 1) = decide (app (inv u) v < k) := by
      rw [decide_eq_decide]; omega
    rw [this]
theorem valsTo_yes {n : Nat} {T : Tab} {i : Nat} {u : List Nat} (hu : IsP n u) {k : Nat} (hk : k < n) {t : List Nat} (h : T i k = some t) : valsTo n T i u (k + 1) = ins (app u k) (valsTo n T i u k) := by
  unfold valsTo
  refine filter_ins (v := app u k) ?_ _ (fun x hx => ?_) List.pairwise_lt_range (List.mem_range.2 (hu.lt hk))
  · rw [hu.inv_app_self hk]; simp
  · by_cases e : x = app u k
    · subst e
      rw [hu.inv_app_self hk, h]; simp
    · have hxe : (x == app u k) = false := by simpa using e
      rw [hxe, Bool.or_false]
      have hxn := List.mem_range.1 hx
      have hne : app (inv u) x ≠ k := fun e2 => e (by rw [← e2, hu.app_inv_self hxn])
      have : decide (app (inv u) x < k + 1) = decide (app (inv u) x < k) := by
        rw [decide_eq_decide]; omega
      rw [this]
end Grp
end Go.Proofs.Ytpcnbjfkobeibaa
