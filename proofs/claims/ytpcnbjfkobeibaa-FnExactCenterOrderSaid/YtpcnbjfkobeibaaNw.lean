/- The rows of a new chain in memory. Conditions: as each lemma says. -/
import Derived.Test.YtpcnbjfkobeibaaSt
namespace Go.Proofs.Ytpcnbjfkobeibaa
open Go.RowKit Grp

def idT (n : Nat) : Tab := fun i y => if y = i then some (idp n) else none
theorem genNil {n : Nat} {p : List Nat} : GenL n [] p ↔ p = idp n := by
  constructor
  · intro h
    refine h (fun q => q = idp n) ⟨fun q e => by rw [e]; exact IsP.idp, rfl, fun p q h1 h2 => by rw [h1, h2, idp_comp IsP.idp], fun q e => ?_⟩ (fun s hs => by cases hs)
    rw [e]
    have := comp_inv (p := idp n) IsP.idp
    rwa [idp_comp IsP.idp.inv] at this
  · rintro rfl
    exact fun H hH _ => hH.2.1
theorem fullStart (n : Nat) : Full n (idT n) (fun _ => []) 0 := by
  refine ⟨fun j _ hj => ⟨GenL.sub (fun s hs => by cases hs), fun g hg => ?_, fun i _ hin => ⟨fun y t e => ?_, fun g hg _ => ?_⟩⟩, fun j _ _ s hs => (by cases hs), fun j _ _ => by simp [idT], fun j _ _ g hg => hg⟩
  · rw [genNil.1 hg]; exact Fix.idp hj
  · unfold idT at e
    split at e
    · rename_i h
      injection e with e
      subst e h
      exact ⟨genNil.2 rfl, Fix.idp (by omega), app_idp hin⟩
    · cases e
  · rw [genNil.1 hg, app_idp hin]; simp [idT]
theorem genSnoc {n : Nat} {l1 l2 : List (List Nat)} {p : List Nat} (h2 : ∀ s, s ∈ l2 → IsP n s) (hp : IsP n p) (h : ∀ x, GenL n l1 x → GenL n l2 x) (x : List Nat) (hx : GenL n (l1 ++ [p]) x) : GenL n (l2 ++ [p]) x := by
  refine hx _ (GenL.sub fun s hs => ?_) fun s hs => ?_
  · rcases List.mem_append.1 hs with h3 | h3
    · exact h2 s h3
    · rw [List.mem_singleton.1 h3]; exact hp
  · rcases List.mem_append.1 hs with h3 | h3
    · exact GenL.mono (fun s hs => List.mem_append.2 (.inl hs)) (h s (GenL.of h3))
    · rw [List.mem_singleton.1 h3]; exact GenL.of (by simp)
theorem take_snoc (l : List (List Nat)) (i : Nat) (hi : i < l.length) : l.take (i + 1) = l.take i ++ [l.getD i []] := by
  rw [List.take_succ_eq_append_getElem hi, List.getD_eq_getElem?_getD, List.getElem?_eq_getElem hi]; rfl
theorem rowsInfo : (Try.prog.info? 22).map (fun i => (i.zero, i.size, i.bytes)) = some (some (.slice none 0 0), 1, 24) := by kernel_rfl
/-- The rows of the points below a are there; v lists them. -/
structure Rws (B n a : Nat) (w : World) (v : Value) (R : Nat → Nat) : Prop where
  own : ∃ rs : List Value, w.ownsRow B 22 1 v a rs ∧ ∀ i, i < a → rs[i]? = some (.slice (some ⟨R i, 0, none⟩) n n)
  row : ∀ i, i < a → ∃ cs : List Value, w.heap[R i]? = some (.cells cs.toArray 23 (0, 0)) ∧ ∀ y, y < n → ∃ u, cs[y]? = some u ∧ RepV (fun _ => True) w u n (idT n i y)
  inj : ∀ i j, i < a → j < a → R i = R j → i = j
  B3 : ∀ i, i < a → B ≤ R i
variable {B n a : Nat} {w w2 : World} {v : Value} {R : Nat → Nat}
theorem Rws.nil (B n : Nat) (w : World) (R : Nat → Nat) : Rws B n 0 w (.slice none 0 0) R :=
  ⟨⟨[], ⟨rfl, .inl ⟨rfl, rfl⟩⟩, fun i hi => by omega⟩, fun i hi => by omega, fun i j hi => by omega, fun i hi => by omega⟩
theorem Rws.block (h : Rws B n a w v R) {b : Nat} (hb : v.ownBlock = some b) : B ≤ b ∧ ∃ cs, w.heap[b]? = some (.cells cs 22 (0, 0)) := by
  obtain ⟨rs, h1, _⟩ := h.own
  rcases h1.2 with ⟨rfl, hn⟩ | ⟨g, cap, cur, rfl, hbg, hg, _⟩
  · simp [Value.ownBlock] at hb
  · simp [Value.ownBlock] at hb
    subst hb
    exact ⟨hbg, _, hg⟩
/-- A change of one block, or none, that is no row's, no list's and no block of numbers. -/
theorem Rws.kept {row : Option Nat} (h : Rws B n a w v R) (hg : w.grownBy w2 row) (hk : KeepI (fun _ => True) w w2) (h1 : ∀ b, row = some b → (∀ i, i < a → b ≠ R i) ∧ v.ownBlock ≠ some b) : Rws B n a w2 v R := by
  obtain ⟨⟨rs, o1, o2⟩, row', inj, B3⟩ := h
  refine ⟨⟨rs, o1.kept hg ?_, o2⟩, fun i hi => ?_, inj, B3⟩
  · cases hv : v.ownBlock with
    | none => exact .inl rfl
    | some b => exact .inr fun e => (h1 b e.symm).2 hv
  · obtain ⟨cs, c1, c2⟩ := row' i hi
    refine ⟨cs, (hg.block _ (row_lt c1) fun e => (h1 _ e.symm).1 i hi rfl).trans c1, fun y hy => ?_⟩
    obtain ⟨u, x1, x2⟩ := c2 y hy
    exact ⟨u, x1, x2.keep hk⟩
theorem Rws.below (h : Rws B n a w v R) (hb : Below w.heap.size w w2) : Rws B n a w2 v R := h.kept (gB hb none) (KeepI.below hb) (by simp)
/-- A store into a block of another type. -/
theorem Rws.set {C p : Nat} {tc : Array Value} {tt : TypeId} (h : Rws B n a w v R) (u : Value) (hC : w.heap[C]? = some (.cells tc tt (0, 0))) (h1 : tt ≠ 2) (h2 : tt ≠ 23) (h3 : tt ≠ 22) : Rws B n a (w.setCell ⟨C, p, none⟩ u) v R := by
  refine h.kept (row := some C) ⟨rfl, rfl, rfl, by simp, fun k _ hne => heap_setCell_other w ⟨C, p, none⟩ k u (fun e => hne (by rw [e]))⟩ (KeepI.set u hC h1) fun b e => ?_
  injection e with e
  subst e
  refine ⟨fun i hi e => ?_, fun e => ?_⟩
  · obtain ⟨cs, c1, _⟩ := h.row i hi
    rw [← e, hC] at c1
    simp at c1
    exact h2 c1.2
  · obtain ⟨_, cs, c1⟩ := h.block e
    rw [hC] at c1
    simp at c1
    exact h3 c1.2
/-- One more row. -/
theorem run_append_row {ty : TypeId} {r : Nat} {cs : List Value} (h : Rws B n a w v R) (hr : w.heap[r]? = some (.cells cs.toArray 23 (0, 0))) (hc : ∀ y, y < n → ∃ u, cs[y]? = some u ∧ RepV (fun _ => True) w u n (idT n a y)) (hrB : B ≤ r) (hne : ∀ i, i < a → r ≠ R i)
    (g : Nat) (hcell : w.cell? ⟨g, 0, none⟩ = some (.slice (some ⟨r, 0, none⟩) n n)) (ha : a ≤ 1048576) (hB : B ≤ w.heap.size) :
    ∃ A' c' w', (Builtin.append_ #[79, 79] ty #[v, .slice (some ⟨g, 0, none⟩) 1 1]).run Try.prog w = .ok (.slice A' (a + 1) c') w' ∧ Rws B n (a + 1) w' (.slice A' (a + 1) c') (fun i => if i = a then r else R i) ∧ w.grownBy w' v.ownBlock ∧
      ((Value.slice A' (a + 1) c').ownBlock = v.ownBlock ∨ (Value.slice A' (a + 1) c').ownBlock = some w.heap.size) ∧ KeepI (fun _ => True) w w' := by
  obtain ⟨i0, hi, hz0, hz1, hz2⟩ := info_parts rowsInfo
  obtain ⟨rs, o1, o2⟩ := h.own
  obtain ⟨v', w', hr', hown', hgrow, _, hat⟩ := run_append_own_at (P := Try.prog) w B 79 ty 22 i0 (.slice none 0 0) 1 24 Try.underlying79 hi hz0 hz1 hz2 rfl (by decide) v a rs o1 ⟨g, 0, none⟩ 1 1 [.slice (some ⟨r, 0, none⟩) n n] rfl
    (by intro j u hj; match j, hj with
        | 0, hj => simp at hj; subst hj; simpa [Addr.add] using hcell)
    (by intro u hu; simp at hu; subst hu; rfl) (by unfold maxLen; omega) (by omega) hB
  have hk : KeepI (fun _ => True) w w' := by
    cases hv : v.ownBlock with
    | none => rw [hv] at hgrow; exact KeepI.grown0 hgrow
    | some q =>
      obtain ⟨_, ds, hq⟩ := h.block hv
      rw [hv] at hgrow
      exact KeepI.grown hgrow hq (by decide)
  have hkeep : ∀ {H : Nat} {ds : Array Value}, w.heap[H]? = some (.cells ds 23 (0, 0)) → w'.heap[H]? = some (.cells ds 23 (0, 0)) := by
    intro H ds hH
    refine (hgrow.block H (row_lt hH) fun e => ?_).trans hH
    obtain ⟨_, es, he⟩ := h.block e.symm
    rw [hH] at he
    simp at he
  have hsh : ∃ A' c', v' = .slice A' (a + 1) c' := by
    rcases hown'.2 with ⟨rfl, hn⟩ | ⟨g', cap, cur, rfl, _⟩
    · omega
    · exact ⟨_, _, rfl⟩
  obtain ⟨A', c', rfl⟩ := hsh
  have hrl : rs.length = a := by simpa using o1.1
  refine ⟨A', c', w', hr', ⟨⟨rs ++ [.slice (some ⟨r, 0, none⟩) n n], hown', fun i hi => ?_⟩, fun i hi => ?_, fun i j hi hj e => ?_, fun i hi => ?_⟩, hgrow, hat, hk⟩
  · by_cases e : i = a
    · subst e
      rw [List.getElem?_append_right (by omega), hrl, Nat.sub_self]
      simp
    · rw [List.getElem?_append_left (by omega), o2 i (by omega)]
      simp [e]
  · by_cases e : i = a
    · subst e
      simp only [if_true]
      refine ⟨cs, hkeep hr, fun y hy => ?_⟩
      obtain ⟨u, x1, x2⟩ := hc y hy
      exact ⟨u, x1, x2.keep hk⟩
    · simp only [e, if_false]
      obtain ⟨ds, c1, c2⟩ := h.row i (by omega)
      refine ⟨ds, hkeep c1, fun y hy => ?_⟩
      obtain ⟨u, x1, x2⟩ := c2 y hy
      exact ⟨u, x1, x2.keep hk⟩
  · by_cases e1 : i = a
    · by_cases e2 : j = a
      · omega
      · simp only [e1, e2, if_true, if_false] at e
        exact absurd e (hne j (by omega))
    · by_cases e2 : j = a
      · simp only [e1, e2, if_true, if_false] at e
        exact absurd e.symm (hne i (by omega))
      · simp only [e1, e2, if_false] at e
        exact h.inj i j (by omega) (by omega) e
  · by_cases e : i = a
    · simp only [e, if_true]; exact hrB
    · simp only [e, if_false]; exact h.B3 i (by omega)
theorem append_row {ops : Array Oper} {rest : List Oper} {o : Oper} {ac : Act} {Q : Exit → Act → World → Prop} (hgd : o.guard = none) (s x : Operand)
    (hop : o.op = Op.call { callee := Callee.builtin Builtin.append, args := #[s, x], argTypes := #[79, 79] }) {r : Nat} {cs : List Value} (hs : ac.eval s = v) (h : Rws B n a w v R) (hr : w.heap[r]? = some (.cells cs.toArray 23 (0, 0))) (hc : ∀ y, y < n → ∃ u, cs[y]? = some u ∧ RepV (fun _ => True) w u n (idT n a y)) (hrB : B ≤ r) (hne : ∀ i, i < a → r ≠ R i)
    (g : Nat) (hx : ac.eval x = .slice (some ⟨g, 0, none⟩) 1 1) (hcell : w.cell? ⟨g, 0, none⟩ = some (.slice (some ⟨r, 0, none⟩) n n)) (ha : a ≤ 1048576) (hB : B ≤ w.heap.size)
    (hk : ∀ A' c' w', Rws B n (a + 1) w' (.slice A' (a + 1) c') (fun i => if i = a then r else R i) → w.grownBy w' v.ownBlock → ((Value.slice A' (a + 1) c').ownBlock = v.ownBlock ∨ (Value.slice A' (a + 1) c').ownBlock = some w.heap.size) → wpList Try.prog ops Q rest (ac.put o.dst (.slice A' (a + 1) c')) w') : wpList Try.prog ops Q (o :: rest) ac w := by
  refine wpList_plain hgd fun K hK => ?_
  obtain ⟨A', c', w', hr', h1, h2, h3, _⟩ := run_append_row (ty := o.type) h hr hc hrB hne g hcell ha hB
  unfold Oper.wp execOp
  simp only [hop, resolve, invoke, builtin, Sem.run_bind, Sem.run_pure, Result.andThen_ok, List.map_toArray, List.map_cons, List.map_nil, hs, hx, hr']
  exact hK _ _ (hk A' c' w' h1 h2 h3)
/-- Blocks of other types behind an append to the rows' list. -/
theorem Rws.keep (_h : Rws B n a w v R) (hg : w.grownBy w2 v.ownBlock) {H : Nat} {cs : Array Value} {t : TypeId} (hH : w.heap[H]? = some (.cells cs t (0, 0))) (hne : v.ownBlock ≠ some H) : w2.heap[H]? = some (.cells cs t (0, 0)) :=
  (hg.block H (row_lt hH) (fun e => hne e.symm)).trans hH
theorem Rws.neType (h : Rws B n a w v R) {H : Nat} {cs : Array Value} {t : TypeId} (hH : w.heap[H]? = some (.cells cs t (0, 0))) (ht : t ≠ 22) : v.ownBlock ≠ some H := by
  intro e
  obtain ⟨_, ds, hd⟩ := h.block e
  rw [hH] at hd
  simp at hd
  exact ht hd.2
end Go.Proofs.Ytpcnbjfkobeibaa
