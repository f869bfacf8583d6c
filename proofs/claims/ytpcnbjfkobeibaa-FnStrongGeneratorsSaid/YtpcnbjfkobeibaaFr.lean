/- A growing list of permutations of the call's own, each in blocks of its own. Conditions: as each lemma says. -/
import Derived.Test.YtpcnbjfkobeibaaQ
import Derived.Test.YtpcnbjfkobeibaaLo
import Derived.Deep.RegionHeld3
namespace Go.Proofs.Ytpcnbjfkobeibaa
open Go.RowKit Grp

/-- v is a list of the permutations l, in a row of the call's own; member i lies in blocks from B i on and below B (i + 1). -/
structure FrL (base : Nat) (w : World) (v : Value) (l : List (List Nat)) (V : Nat → Value) (B : Nat → Nat) : Prop where
  own : ∃ cs : List Value, w.ownsRow base 23 1 v l.length cs ∧ ∀ j, j < l.length → cs[j]? = some (V j)
  elt : ∀ j, j < l.length → Fresh (B j) w (V j) (natI (l.getD j []))
  cap : ∀ j, j < l.length → ∀ h, (V j).ownBlock = some h → h < B (j + 1)
  up : ∀ j, j < l.length → B j ≤ B (j + 1)
  low : base ≤ B 0
  top : B l.length ≤ w.heap.size
theorem FrL.nil (base : Nat) (w : World) (h : base ≤ w.heap.size) : FrL base w (.slice none 0 0) [] (fun _ => .slice none 0 0) (fun _ => base) :=
  ⟨⟨[], ⟨rfl, .inl ⟨rfl, rfl⟩⟩, fun j hj => by simp at hj⟩, fun j hj => by simp at hj, fun j hj => by simp at hj, fun j hj => by simp at hj, Nat.le_refl _, h⟩
theorem FrL.empty (base : Nat) (w : World) (h : base ≤ w.heap.size) : FrL base (w.alloc (.cells #[] 23)) (.slice (some ⟨w.heap.size, 0, none⟩) 0 0) [] (fun _ => .slice none 0 0) (fun _ => base) :=
  ⟨⟨[], ⟨rfl, .inr ⟨w.heap.size, 0, #[], rfl, h, heap_alloc_new w _, Nat.le_refl _, by unfold maxLen; omega, rfl, rfl⟩⟩, fun j hj => by simp at hj⟩, fun j hj => by simp at hj, fun j hj => by simp at hj, fun j hj => by simp at hj, Nat.le_refl _, by simp; omega⟩
theorem FrL.block {base : Nat} {w : World} {v : Value} {l : List (List Nat)} {V : Nat → Value} {B : Nat → Nat} (h : FrL base w v l V B) {b : Nat} (hb : v.ownBlock = some b) : base ≤ b ∧ ∃ cs, w.heap[b]? = some (.cells cs 23 (0, 0)) := by
  obtain ⟨cs, h1, _⟩ := h.own
  rcases h1.2 with ⟨rfl, hn⟩ | ⟨g, cap, cur, rfl, hbg, hg, _⟩
  · simp [Value.ownBlock] at hb
  · simp [Value.ownBlock] at hb
    subst hb
    exact ⟨hbg, _, hg⟩
theorem Fresh.blockI {B : Nat} {w : World} {v : Value} {xs : List Int} (h : Fresh B w v xs) {b : Nat} (hb : v.ownBlock = some b) : ∃ cs, w.heap[b]? = some (.cells cs 2 (0, 0)) := by
  rcases h.2 with ⟨rfl, hn⟩ | ⟨g, cap, cur, rfl, hbg, hg, _⟩
  · simp [Value.ownBlock] at hb
  · simp [Value.ownBlock] at hb
    subst hb
    exact ⟨_, hg⟩
/-- A row of lists and a list of numbers do not share a block. -/
theorem rowNe {base B : Nat} {w : World} {v u : Value} {l : List (List Nat)} {V : Nat → Value} {Bs : Nat → Nat} {xs : List Int} (h : FrL base w v l V Bs) (hu : Fresh B w u xs) {b : Nat} (hb : u.ownBlock = some b) : v.ownBlock ≠ some b := fun e => by
  obtain ⟨cs, h1⟩ := hu.blockI hb
  obtain ⟨_, ds, h2⟩ := h.block e
  rw [h1] at h2
  simp at h2
theorem Fresh.keptRow {base B : Nat} {w w' : World} {v u : Value} {l : List (List Nat)} {V : Nat → Value} {Bs : Nat → Nat} {xs : List Int} (hu : Fresh B w u xs) (h : FrL base w v l V Bs) (hg : w.grownBy w' v.ownBlock) : Fresh B w' u xs := by
  refine World.ownsRow.kept hu hg ?_
  cases hv : u.ownBlock with
  | none => exact .inl rfl
  | some b => exact .inr fun e => rowNe h hu hv e.symm
theorem FrL.below {base : Nat} {w w' : World} {v : Value} {l : List (List Nat)} {V : Nat → Value} {B : Nat → Nat} (h : FrL base w v l V B) (hb : Below w.heap.size w w') : FrL base w' v l V B := by
  obtain ⟨cs, h1, h2⟩ := h.own
  have h3 : w'.ownsRow base 23 1 v l.length cs := by
    refine World.ownsRow.kept h1 (gB hb none) ?_
    cases hv : v.ownBlock with
    | none => exact .inl rfl
    | some b => exact .inr fun e => by cases e
  exact ⟨⟨cs, h3, h2⟩, fun j hj => (h.elt j hj).below hb, h.cap, h.up, h.low, Nat.le_trans h.top hb.size⟩
theorem FrL.shape {base : Nat} {w : World} {v : Value} {l : List (List Nat)} {V : Nat → Value} {B : Nat → Nat} (h : FrL base w v l V B) : ∃ A c, v = .slice A l.length c ∧ ∀ j, j < l.length → ∃ g, A = some ⟨g, 0, none⟩ ∧ base ≤ g ∧ g < w.heap.size ∧ w.cell? ⟨g, j, none⟩ = some (V j) := by
  obtain ⟨cs, h1, h2⟩ := h.own
  rcases h1.2 with ⟨rfl, hn⟩ | ⟨g, cap, cur, rfl, hbg, hg, h3, h4, h5, h6⟩
  · exact ⟨none, 0, by rw [hn], fun j hj => by omega⟩
  · refine ⟨some ⟨g, 0, none⟩, cap, rfl, fun j hj => ⟨g, rfl, hbg, (Array.getElem?_eq_some_iff.1 hg).1, ?_⟩⟩
    rw [World.ownsRow.cellAt h1 j (by omega)]
    exact h2 j hj
/-- Read as lists of the call's own. -/
theorem FrL.fls {base : Nat} {w : World} {v : Value} {l : List (List Nat)} {V : Nat → Value} {B : Nat → Nat} (h : FrL base w v l V B) : FLs base w.heap.size w v (l.map natI) := by
  obtain ⟨A, c, rfl, hr⟩ := h.shape
  have hl : (l.map natI).length = l.length := List.length_map ..
  have hget : ∀ i, i < l.length → (l.map natI).getD i [] = natI (l.getD i []) := fun i hi => by
    rw [List.getD_eq_getElem?_getD, List.getElem?_map, List.getD_eq_getElem?_getD, List.getElem?_eq_getElem hi]
    rfl
  refine ⟨A, c, V, B, by rw [hl], ⟨fun i hi => ?_, fun i hi => ?_, fun i hi => h.cap i (by omega), fun i hi => h.up i (by omega)⟩, h.low, by rw [hl]; exact h.top, fun g off s e => ?_⟩
  · obtain ⟨g, e, h1, h2, h3⟩ := hr i (by omega)
    refine ⟨g, e, h2, h3, fun j hj e2 => ?_⟩
    refine rowNe h (h.elt j (by omega)) e2 ?_
    rw [e]
    rfl
  · rw [hget i (by omega)]
    exact h.elt i (by omega)
  · obtain ⟨cs, h1, _⟩ := h.own
    rcases h1.2 with ⟨he, hn⟩ | ⟨g', cap, cur, he, hbg, _⟩
    · injection he with he
      rw [he] at e
      cases e
    · injection he with he
      rw [he] at e
      injection e with e
      injection e with e
      omega
theorem getDsnoc (l : List (List Nat)) (p : List Nat) (j : Nat) (hj : j < l.length) : (l ++ [p]).getD j [] = l.getD j [] := by rw [List.getD_eq_getElem?_getD, List.getD_eq_getElem?_getD, List.getElem?_append_left hj]
theorem getDlast (l : List (List Nat)) (p : List Nat) : (l ++ [p]).getD l.length [] = p := by rw [List.getD_eq_getElem?_getD, List.getElem?_append_right (Nat.le_refl _), Nat.sub_self]; rfl
def updV {α : Type} (F : Nat → α) (p : Nat) (v : α) : Nat → α := fun j => if j = p then v else F j
theorem run_append_fr {w : World} {ty : TypeId} (base : Nat) (v : Value) (l : List (List Nat)) (V : Nat → Value) (B : Nat → Nat) (p : List Nat) (vp : Value) (hown : FrL base w v l V B) (g : Nat) (hcell : w.cell? ⟨g, 0, none⟩ = some vp) (hvp : Fresh (B l.length) w vp (natI p)) (hl : l.length ≤ 1048576) (hB : base ≤ w.heap.size) :
    ∃ A' c' w', (Builtin.append_ #[22, 22] ty #[v, .slice (some ⟨g, 0, none⟩) 1 1]).run Try.prog w = .ok (.slice A' (l.length + 1) c') w' ∧ FrL base w' (.slice A' (l.length + 1) c') (l ++ [p]) (updV V l.length vp) (updV B (l.length + 1) w.heap.size) ∧ w.grownBy w' v.ownBlock ∧ ((Value.slice A' (l.length + 1) c').ownBlock = v.ownBlock ∨ (Value.slice A' (l.length + 1) c').ownBlock = some w.heap.size) := by
  obtain ⟨i0, hi, hz0, hz1, hz2⟩ := info_parts listInfo
  obtain ⟨cs, h1, h2⟩ := hown.own
  obtain ⟨v', w', hr, hown', hgrow, _, hat⟩ := run_append_own_at (P := Try.prog) w base 22 ty 23 i0 (.slice none 0 0) 1 24 Try.underlying22 hi hz0 hz1 hz2 rfl (by decide) v l.length cs h1 ⟨g, 0, none⟩ 1 1 [vp] rfl
    (by intro j u hj; match j, hj with
        | 0, hj => simp at hj; subst hj; simpa [Addr.add] using hcell)
    (by intro u hu; simp at hu; subst hu; obtain ⟨A, c, hv, _⟩ := hvp.ints; rw [hv]; rfl) (by unfold maxLen; omega) (by omega) hB
  have hcl : cs.length = l.length := by simpa using h1.1
  have hlen : (l ++ [p]).length = l.length + 1 := by simp
  have hund := hvp.under
  have hF : FrL base w' v' (l ++ [p]) (updV V l.length vp) (updV B (l.length + 1) w.heap.size) := by
    refine ⟨⟨cs ++ [vp], by simpa using hown', fun j hj => ?_⟩, fun j hj => ?_, fun j hj h hh => ?_, fun j hj => ?_, ?_, ?_⟩
    · rw [hlen] at hj
      unfold updV
      by_cases e : j = l.length
      · subst e
        rw [if_pos rfl, List.getElem?_append_right (by omega), hcl, Nat.sub_self]
        rfl
      · rw [if_neg e, List.getElem?_append_left (by omega)]
        exact h2 j (by omega)
    · rw [hlen] at hj
      unfold updV
      by_cases e : j = l.length
      · subst e
        rw [if_pos rfl, if_neg (by omega), getDlast]
        exact hvp.keptRow hown hgrow
      · rw [if_neg e, if_neg (by omega), getDsnoc _ _ _ (by omega)]
        exact (hown.elt j (by omega)).keptRow hown hgrow
    · rw [hlen] at hj
      unfold updV at *
      by_cases e : j = l.length
      · subst e
        rw [if_pos rfl] at hh ⊢
        exact hund h hh
      · rw [if_neg e] at hh
        rw [if_neg (by omega)]
        exact hown.cap j (by omega) h hh
    · rw [hlen] at hj
      unfold updV
      by_cases e : j = l.length
      · subst e
        rw [if_neg (by omega), if_pos rfl]
        exact hown.top
      · rw [if_neg (by omega), if_neg (by omega)]
        exact hown.up j (by omega)
    · unfold updV
      rw [if_neg (by omega)]
      exact hown.low
    · rw [hlen]
      unfold updV
      rw [if_pos rfl]
      exact hgrow.size
  obtain ⟨A', c', e, _⟩ := hF.shape
  rw [hlen] at e
  subst e
  exact ⟨A', c', w', hr, hF, hgrow, hat⟩
theorem append_fr {w : World} {ops : Array Oper} {rest : List Oper} {o : Oper} {a : Act} {Q : Exit → Act → World → Prop} (hgd : o.guard = none) (s x : Operand)
    (hop : o.op = Op.call { callee := Callee.builtin Builtin.append, args := #[s, x], argTypes := #[22, 22] })
    (base : Nat) (v : Value) (l : List (List Nat)) (V : Nat → Value) (B : Nat → Nat) (p : List Nat) (vp : Value) (hs : a.eval s = v) (hown : FrL base w v l V B) (g : Nat) (hx : a.eval x = .slice (some ⟨g, 0, none⟩) 1 1) (hcell : w.cell? ⟨g, 0, none⟩ = some vp) (hvp : Fresh (B l.length) w vp (natI p)) (hl : l.length ≤ 1048576) (hB : base ≤ w.heap.size)
    (h : ∀ A' c' w', FrL base w' (.slice A' (l.length + 1) c') (l ++ [p]) (updV V l.length vp) (updV B (l.length + 1) w.heap.size) → w.grownBy w' v.ownBlock → ((Value.slice A' (l.length + 1) c').ownBlock = v.ownBlock ∨ (Value.slice A' (l.length + 1) c').ownBlock = some w.heap.size) → wpList Try.prog ops Q rest (a.put o.dst (.slice A' (l.length + 1) c')) w') : wpList Try.prog ops Q (o :: rest) a w := by
  refine wpList_plain hgd fun K hK => ?_
  obtain ⟨A', c', w', hr, h1, h2, h3⟩ := run_append_fr (ty := o.type) base v l V B p vp hown g hcell hvp hl hB
  unfold Oper.wp execOp
  simp only [hop, resolve, invoke, builtin, Sem.run_bind, Sem.run_pure, Result.andThen_ok, List.map_toArray, List.map_cons, List.map_nil, hs, hx, hr]
  exact hK _ _ (h A' c' w' h1 h2 h3)
theorem step_append_fr {w : World} {ops : Array Oper} {o : Oper} {a : Act} {K : Act → World → Prop} {Q : Exit → Act → World → Prop} {E : Prop} (hgd : o.guard = none) (s x : Operand)
    (hop : o.op = Op.call { callee := Callee.builtin Builtin.append, args := #[s, x], argTypes := #[22, 22] })
    (base : Nat) (v : Value) (l : List (List Nat)) (V : Nat → Value) (B : Nat → Nat) (p : List Nat) (vp : Value) (hs : a.eval s = v) (hown : FrL base w v l V B) (g : Nat) (hx : a.eval x = .slice (some ⟨g, 0, none⟩) 1 1) (hcell : w.cell? ⟨g, 0, none⟩ = some vp) (hvp : Fresh (B l.length) w vp (natI p)) (hl : l.length ≤ 1048576) (hB : base ≤ w.heap.size)
    (h : ∀ A' c' w', FrL base w' (.slice A' (l.length + 1) c') (l ++ [p]) (updV V l.length vp) (updV B (l.length + 1) w.heap.size) → w.grownBy w' v.ownBlock → ((Value.slice A' (l.length + 1) c').ownBlock = v.ownBlock ∨ (Value.slice A' (l.length + 1) c').ownBlock = some w.heap.size) → K (a.put o.dst (.slice A' (l.length + 1) c')) w') :
    if Region.wanted o (yielded ops a.tmps) = true then Oper.wp Try.prog o a w K Q else E := by
  have hw : Region.wanted o (yielded ops a.tmps) = true := by simp [Region.wanted, hgd]
  rw [if_pos hw]
  obtain ⟨A', c', w', hr, h1, h2, h3⟩ := run_append_fr (ty := o.type) base v l V B p vp hown g hcell hvp hl hB
  unfold Oper.wp execOp
  simp only [hop, resolve, invoke, builtin, Sem.run_bind, Sem.run_pure, Result.andThen_ok, List.map_toArray, List.map_cons, List.map_nil, hs, hx, hr]
  exact h A' c' w' h1 h2 h3
/-- A list of one. -/
theorem FrL.single {base Bv : Nat} {w : World} {v : Value} {p : List Nat} (h : base ≤ Bv) (h2 : Bv ≤ w.heap.size) (hv : Fresh Bv w v (natI p)) : FrL base (w.alloc (.cells #[v] 23)) (.slice (some ⟨w.heap.size, 0, none⟩) 1 1) [p] (fun _ => v) (fun j => if j = 0 then Bv else w.heap.size) := by
  have hund := hv.under
  have hvb := hv.below ((Below.refl w.heap.size w).alloc (Nat.le_refl _) (.cells #[v] 23))
  refine ⟨⟨[v], ⟨rfl, .inr ⟨w.heap.size, 1, #[v], rfl, Nat.le_trans h h2, heap_alloc_new w _, Nat.le_refl _, by unfold maxLen; omega, rfl, rfl⟩⟩, fun j hj => ?_⟩, fun j hj => ?_, fun j hj b hb => ?_, fun j hj => ?_, by simpa using h, by simp⟩
  · obtain rfl : j = 0 := by simpa using hj
    rfl
  · obtain rfl : j = 0 := by simpa using hj
    exact hvb
  · obtain rfl : j = 0 := by simpa using hj
    exact hund b hb
  · obtain rfl : j = 0 := by simpa using hj
    exact h2
theorem IntsAt.keptRow {w w' : World} {g : Nat} {row : Option Nat} {xs : List Int} (h : IntsAt w (some ⟨g, 0, none⟩) xs) (hg : w.grownBy w' row) (hne : row ≠ some g) : IntsAt w' (some ⟨g, 0, none⟩) xs := fun k hk => by
  obtain ⟨b, off, e, hb, hc⟩ := h k hk
  injection e with e
  injection e with e1 e2
  subst e1 e2
  exact ⟨g, 0, rfl, Nat.lt_of_lt_of_le hb hg.size, (World.cell?_of_block (a := ⟨g, 0 + k, none⟩) (hg.block g hb (fun e => hne e.symm))).trans hc⟩
/-- Below the row's base all is as it was. -/
theorem FrL.grew {base b : Nat} {a w w' : World} {v : Value} {l : List (List Nat)} {V : Nat → Value} {B : Nat → Nat} (h : FrL base w v l V B) (hb : Below b a w) (hg : w.grownBy w' v.ownBlock) (h1 : b ≤ base) (h2 : b ≤ w.heap.size) : Below b a w' :=
  hb.grown hg h2 fun _ hk => Nat.le_trans h1 (h.block hk).1
def ReadsLists (r : List (List Int)) (w : World) (e : Ending) (w' : World) : Prop := ∃ v, e = .returned v ∧ FLs w.heap.size w'.heap.size w' v r ∧ Below w.heap.size w w'
end Go.Proofs.Ytpcnbjfkobeibaa
