/- The lists of generators of a new chain in memory, at the reference. Conditions: as each lemma says. -/
import Derived.Test.YtpcnbjfkobeibaaNw
import Derived.Test.YtpcnbjfkobeibaaSp
namespace Go.Proofs.Ytpcnbjfkobeibaa
open Go.RowKit Grp

theorem al2 (w : World) (a b : Obj) : ((w.alloc a).alloc b).heap[w.heap.size + 1]? = some b := by
  have := heap_alloc_new (w.alloc a) b
  rwa [show (w.alloc a).heap.size = w.heap.size + 1 from by simp] at this
/-- Empty lists for the levels below a are there; v lists them. -/
structure Gls (B a : Nat) (w : World) (v : Value) (G : Nat → Nat) : Prop where
  own : ∃ gs : List Value, w.ownsRow B 22 1 v a gs ∧ ∀ i, i < a → gs[i]? = some (.slice (some ⟨G i, 0, none⟩) 0 0)
  blk : ∀ i, i < a → w.heap[G i]? = some (.cells #[] 23 (0, 0))
  inj : ∀ i j, i < a → j < a → G i = G j → i = j
  B3 : ∀ i, i < a → B ≤ G i
variable {B n a : Nat} {w w2 : World} {v : Value} {G : Nat → Nat}
theorem Gls.nil (B : Nat) (w : World) (G : Nat → Nat) : Gls B 0 w (.slice none 0 0) G :=
  ⟨⟨[], ⟨rfl, .inl ⟨rfl, rfl⟩⟩, fun i hi => by omega⟩, fun i hi => by omega, fun i j hi => by omega, fun i hi => by omega⟩
theorem Gls.block (h : Gls B a w v G) {b : Nat} (hb : v.ownBlock = some b) : B ≤ b ∧ ∃ cs, w.heap[b]? = some (.cells cs 22 (0, 0)) := by
  obtain ⟨gs, h1, _⟩ := h.own
  rcases h1.2 with ⟨rfl, hn⟩ | ⟨g, cap, cur, rfl, hbg, hg, _⟩
  · simp [Value.ownBlock] at hb
  · simp [Value.ownBlock] at hb
    subst hb
    exact ⟨hbg, _, hg⟩
theorem Gls.kept {row : Option Nat} (h : Gls B a w v G) (hg : w.grownBy w2 row) (h1 : ∀ b, row = some b → (∀ i, i < a → b ≠ G i) ∧ v.ownBlock ≠ some b) : Gls B a w2 v G := by
  obtain ⟨⟨gs, o1, o2⟩, blk, inj, B3⟩ := h
  refine ⟨⟨gs, o1.kept hg ?_, o2⟩, fun i hi => (hg.block _ (row_lt (blk i hi)) fun e => (h1 _ e.symm).1 i hi rfl).trans (blk i hi), inj, B3⟩
  cases hv : v.ownBlock with
  | none => exact .inl rfl
  | some b => exact .inr fun e => (h1 b e.symm).2 hv
theorem Gls.below (h : Gls B a w v G) (hb : Below w.heap.size w w2) : Gls B a w2 v G := h.kept (gB hb none) (by simp)
theorem Gls.neType (h : Gls B a w v G) {H : Nat} {cs : Array Value} {t : TypeId} (hH : w.heap[H]? = some (.cells cs t (0, 0))) (ht : t ≠ 22) : v.ownBlock ≠ some H := by
  intro e
  obtain ⟨_, ds, hd⟩ := h.block e
  rw [hH] at hd
  simp at hd
  exact ht hd.2
/-- A change of a block of another type. -/
theorem Gls.other {C : Nat} {tc : Array Value} {tt : TypeId} (h : Gls B a w v G) (hg : w.grownBy w2 (some C)) (hC : w.heap[C]? = some (.cells tc tt (0, 0))) (h2 : tt ≠ 23) (h3 : tt ≠ 22) : Gls B a w2 v G := by
  refine h.kept hg fun b e => ?_
  injection e with e
  subst e
  refine ⟨fun i hi e => ?_, h.neType hC h3⟩
  have := h.blk i hi
  rw [← e, hC] at this
  simp at this
  exact h2 this.2
/-- One more empty list. -/
theorem append_none {ops : Array Oper} {rest : List Oper} {o : Oper} {ac : Act} {Q : Exit → Act → World → Prop} (hgd : o.guard = none) (s x : Operand)
    (hop : o.op = Op.call { callee := Callee.builtin Builtin.append, args := #[s, x], argTypes := #[79, 79] }) {r : Nat} (hs : ac.eval s = v) (h : Gls B a w v G) (hr : w.heap[r]? = some (.cells #[] 23 (0, 0))) (hrB : B ≤ r) (hne : ∀ i, i < a → r ≠ G i)
    (g : Nat) (hx : ac.eval x = .slice (some ⟨g, 0, none⟩) 1 1) (hcell : w.cell? ⟨g, 0, none⟩ = some (.slice (some ⟨r, 0, none⟩) 0 0)) (ha : a ≤ 1048576) (hB : B ≤ w.heap.size)
    (hk : ∀ A' c' w', Gls B (a + 1) w' (.slice A' (a + 1) c') (fun i => if i = a then r else G i) → w.grownBy w' v.ownBlock → ((Value.slice A' (a + 1) c').ownBlock = v.ownBlock ∨ (Value.slice A' (a + 1) c').ownBlock = some w.heap.size) → wpList Try.prog ops Q rest (ac.put o.dst (.slice A' (a + 1) c')) w') : wpList Try.prog ops Q (o :: rest) ac w := by
  refine wpList_plain hgd fun K hK => ?_
  obtain ⟨i0, hi, hz0, hz1, hz2⟩ := info_parts rowsInfo
  obtain ⟨gs, o1, o2⟩ := h.own
  obtain ⟨v', w', hr', hown', hgrow, _, hat⟩ := run_append_own_at (P := Try.prog) w B 79 o.type 22 i0 (.slice none 0 0) 1 24 Try.underlying79 hi hz0 hz1 hz2 rfl (by decide) v a gs o1 ⟨g, 0, none⟩ 1 1 [.slice (some ⟨r, 0, none⟩) 0 0] rfl
    (by intro j u hj; match j, hj with
        | 0, hj => simp at hj; subst hj; simpa [Addr.add] using hcell)
    (by intro u hu; simp at hu; subst hu; rfl) (by unfold maxLen; omega) (by omega) hB
  have hkeep : ∀ {H : Nat} {ds : Array Value}, w.heap[H]? = some (.cells ds 23 (0, 0)) → w'.heap[H]? = some (.cells ds 23 (0, 0)) := by
    intro H ds hH
    refine (hgrow.block H (row_lt hH) fun e => ?_).trans hH
    obtain ⟨_, es, he⟩ := h.block e.symm
    rw [hH] at he
    simp at he
  have hsh : ∃ A' c', v' = .slice A' (a + 1) c' := by
    rcases hown'.2 with ⟨rfl, hn⟩ | ⟨g', cap, cur, rfl, _⟩
    · omega
    · exact ⟨_, _, rfl⟩
  obtain ⟨A', c', rfl⟩ := hsh
  have hrl : gs.length = a := by simpa using o1.1
  unfold Oper.wp execOp
  simp only [hop, resolve, invoke, builtin, Sem.run_bind, Sem.run_pure, Result.andThen_ok, List.map_toArray, List.map_cons, List.map_nil, hs, hx, hr']
  refine hK _ _ (hk A' c' w' ⟨⟨gs ++ [.slice (some ⟨r, 0, none⟩) 0 0], hown', fun i hi => ?_⟩, fun i hi => ?_, fun i j hi hj e => ?_, fun i hi => ?_⟩ hgrow hat)
  · by_cases e : i = a
    · subst e
      rw [List.getElem?_append_right (by omega), hrl, Nat.sub_self]
      simp
    · rw [List.getElem?_append_left (by omega), o2 i (by omega)]
      simp [e]
  · by_cases e : i = a
    · simp only [e, if_true]; exact hkeep hr
    · simp only [e, if_false]; exact hkeep (h.blk i (by omega))
  · by_cases e1 : i = a
    · by_cases e2 : j = a
      · omega
      · simp only [e1, e2, if_true, if_false] at e
        exact absurd e (hne j (by omega))
    · by_cases e2 : j = a
      · simp only [e1, e2, if_true, if_false] at e
        exact absurd e.symm (hne i (by omega))
      · simp only [e1, e2, if_false] at e
        exact h.inj i j (by omega) (by omega) e
  · by_cases e : i = a
    · simp only [e, if_true]; exact hrB
    · simp only [e, if_false]; exact h.B3 i (by omega)
theorem Gls.grownRows {a' : Nat} {vt : Value} {R : Nat → Nat} (h : Gls B a w v G) (hR : Rws B n a' w vt R) (hg : w.grownBy w2 vt.ownBlock) (hne : ∀ b, vt.ownBlock = some b → v.ownBlock ≠ some b) : Gls B a w2 v G := by
  refine h.kept hg fun b hb => ⟨fun i hi e => ?_, hne b hb⟩
  obtain ⟨_, ds, hd⟩ := hR.block hb
  have := h.blk i hi
  rw [← e, hd] at this
  simp at this
theorem Rws.grownLists {a' : Nat} {vt : Value} {R : Nat → Nat} (h : Rws B n a' w vt R) (hG : Gls B a w v G) (hg : w.grownBy w2 v.ownBlock) (hne : ∀ b, vt.ownBlock = some b → v.ownBlock ≠ some b) : Rws B n a' w2 vt R := by
  refine h.kept hg ?_ fun b hb => ⟨fun i hi e => ?_, fun e => hne b e hb⟩
  · cases hv : v.ownBlock with
    | none => rw [hv] at hg; exact KeepI.grown0 hg
    | some q =>
      obtain ⟨_, ds, hq⟩ := hG.block hv
      rw [hv] at hg
      exact KeepI.grown hg hq (by decide)
  · obtain ⟨_, ds, hd⟩ := hG.block hb
    obtain ⟨cs, c1, _⟩ := h.row i hi
    rw [← e, hd] at c1
    simp at c1
theorem Gls.keep (_h : Gls B a w v G) (hg : w.grownBy w2 v.ownBlock) {H : Nat} {cs : Array Value} {t : TypeId} (hH : w.heap[H]? = some (.cells cs t (0, 0))) (hne : v.ownBlock ≠ some H) : w2.heap[H]? = some (.cells cs t (0, 0)) :=
  (hg.block H (row_lt hH) (fun e => hne e.symm)).trans hH
/-- The new chain's parts, read as a chain. -/
theorem Rws.body2 {vt vg : Value} {R : Nat → Nat} (h : Rws B n n w vt R) (hG : Gls B n w vg G) (hn : 0 < n) (hne : ∀ b, vt.ownBlock = some b → vg.ownBlock ≠ some b) (hRG : ∀ i j, i < n → j < n → G i ≠ R j) :
    ∃ Rb cr Gb cg, vt = .slice (some ⟨Rb, 0, none⟩) n cr ∧ vg = .slice (some ⟨Gb, 0, none⟩) n cg ∧ Body (fun _ => True) B n w ⟨Rb, Gb, cr, cg, R⟩ (idT n) (fun _ => []) := by
  obtain ⟨rs, o1, o2⟩ := h.own
  obtain ⟨gs, q1, q2⟩ := hG.own
  rcases o1.2 with ⟨rfl, h0⟩ | ⟨g, cap, cur, rfl, hbg, hg, hnc, hcm, hcs, htake⟩
  · omega
  rcases q1.2 with ⟨rfl, h0⟩ | ⟨g2, cap2, cur2, rfl, hbg2, hg2, hnc2, hcm2, hcs2, htake2⟩
  · omega
  have hget : ∀ {cu : Array Value} {l : List Value} {i : Nat} {x : Value}, cu.toList.take (n * 1) = l → l[i]? = some x → cu.toList[i]? = some x := by
    intro cu l i x e hx
    rw [← e, List.getElem?_take] at hx
    split at hx
    · exact hx
    · cases hx
  refine ⟨g, cap, g2, cap2, rfl, rfl, ⟨⟨cur.toList, by simpa using hg, fun i hi => hget htake (o2 i hi)⟩, fun i hi => h.row i hi, ⟨cur2.toList, by simpa using hg2, fun i hi => ⟨.slice (some ⟨G i, 0, none⟩) 0 0, hget htake2 (q2 i hi), ⟨[], ⟨rfl, .inr ⟨G i, 0, #[], rfl, hG.B3 i hi, hG.blk i hi, Nat.le_refl _, by unfold maxLen; omega, by simp, by simp⟩⟩, fun j hj => by simp at hj⟩, fun b hb => ?_⟩⟩, fun i j hi hj e => h.inj i j hi hj e, fun e => hne g (by simp [Value.ownBlock]) (by simp [Value.ownBlock]; exact e.symm), hbg, hbg2, fun i hi => h.B3 i hi⟩⟩
  have hbG : G i = b := by simpa [Value.ownBlock] using hb
  subst hbG
  refine ⟨fun j hj => hRG i j hi hj, fun j u hj hu hub => ?_⟩
  have hju := hget htake2 (q2 j hj)
  rw [hu] at hju
  obtain rfl : u = .slice (some ⟨G j, 0, none⟩) 0 0 := Option.some.inj hju
  have : G j = G i := by simpa [Value.ownBlock] using hub
  exact hG.inj i j hi hj this.symm
end Go.Proofs.Ytpcnbjfkobeibaa
