/- A queue of numbers: a slice that is appended to at its end and cut at its front. Conditions: as each lemma says. The state of a chain while a permutation is added at a level; one generator appended. Conditions: as each lemma says. -/
import Derived.Test.YtpcnbjfkobeibaaDm
import Derived.Test.YtpcnbjfkobeibaaHas
namespace Go.Proofs.Ytpcnbjfkobeibaa
section
open Go.RowKit Grp

/-- v is a queue of the numbers q, in block g of the call's own. -/
def QueueV (B : Nat) (w : World) (v : Value) (g : Nat) (q : List Int) : Prop :=
  ∃ off cap cs, v = .slice (some ⟨g, off, none⟩) q.length cap ∧ B ≤ g ∧ w.heap[g]? = some (.cells cs 2 (0, 0)) ∧ off + cap ≤ cs.size ∧ q.length ≤ cap ∧ cap ≤ maxLen ∧ ∀ j, j < q.length → cs[off + j]? = some (.int .i64 (q.getD j 0))
theorem QueueV.keep {B : Nat} {w w' : World} {v : Value} {g : Nat} {q : List Int} (h : QueueV B w v g q) (hk : ∀ cs, w.heap[g]? = some (.cells cs 2 (0, 0)) → w'.heap[g]? = some (.cells cs 2 (0, 0))) : QueueV B w' v g q := by
  obtain ⟨off, cap, cs, h1, h2, h3, h4⟩ := h
  exact ⟨off, cap, cs, h1, h2, hk cs h3, h4⟩
theorem QueueV.below {B : Nat} {w w' : World} {v : Value} {g : Nat} {q : List Int} (h : QueueV B w v g q) (hb : Below w.heap.size w w') : QueueV B w' v g q := h.keep fun _ e => rowB hb e
theorem QueueV.block {B : Nat} {w : World} {v : Value} {g : Nat} {q : List Int} (h : QueueV B w v g q) : ∃ cs, w.heap[g]? = some (.cells cs 2 (0, 0)) := by
  obtain ⟨off, cap, cs, h1, h2, h3, h4⟩ := h
  exact ⟨cs, h3⟩
theorem QueueV.low {B : Nat} {w : World} {v : Value} {g : Nat} {q : List Int} (h : QueueV B w v g q) : B ≤ g := by
  obtain ⟨off, cap, cs, h1, h2, h3, h4⟩ := h
  exact h2
theorem QueueV.of {B : Nat} {w : World} {v : Value} {q : List Int} (h : Fresh B w v q) (hq : 0 < q.length) : ∃ g, QueueV B w v g q := by
  rcases h.2 with ⟨rfl, h0⟩ | ⟨g, cap, cur, rfl, hb, hg, hnc, hcm, hcs, htake⟩
  · omega
  · refine ⟨g, 0, cap, cur, rfl, hb, hg, by omega, hnc, hcm, fun j hj => ?_⟩
    have := World.ownsRow.cellAt h j (by omega)
    rw [cell_of_row w g j cur _ (0, 0) hg] at this
    rw [Nat.zero_add, this, List.getElem?_map, List.getElem?_eq_getElem hj, getD_at _ _ hj]; rfl
/-- The first number. -/
theorem QueueV.head {B : Nat} {w : World} {v : Value} {g : Nat} {x : Int} {q : List Int} (h : QueueV B w v g (x :: q)) :
    ∃ off cap, v = .slice (some ⟨g, off, none⟩) (q.length + 1) cap ∧ q.length + 1 ≤ cap ∧ w.cell? ⟨g, off, none⟩ = some (.int .i64 x) := by
  obtain ⟨off, cap, cs, h1, h2, h3, h4, h5, h6, h7⟩ := h
  refine ⟨off, cap, h1, h5, ?_⟩
  have := h7 0 (by simp)
  rw [cell_of_row w g off cs _ (0, 0) h3]
  simpa using this
/-- What remains behind the first number. -/
theorem QueueV.tail {B : Nat} {w : World} {g off cap : Nat} {x : Int} {q : List Int} (h : QueueV B w (.slice (some ⟨g, off, none⟩) (q.length + 1) cap) g (x :: q)) :
    QueueV B w (.slice (some ⟨g, off + 1, none⟩) q.length (cap - 1)) g q ∧ (cap = 1 → QueueV B w (.slice (some ⟨g, off, none⟩) q.length 0) g q) := by
  obtain ⟨off', cap', cs, h1, h2, h3, h4, h5, h6, h7⟩ := h
  simp only [Value.slice.injEq, Option.some.injEq, Addr.mk.injEq, true_and, and_true] at h1
  obtain ⟨e1, _, e2⟩ := h1
  subst e1 e2
  rw [List.length_cons] at h5
  refine ⟨⟨off + 1, cap - 1, cs, rfl, h2, h3, by omega, by omega, by omega, fun j hj => ?_⟩, fun hc => ⟨off, 0, cs, rfl, h2, h3, by omega, by omega, by omega, fun j hj => by omega⟩⟩
  have := h7 (j + 1) (by simp; omega)
  rw [show off + 1 + j = off + (j + 1) from by omega, this]
  simp
section
variable {P : Program} (w : World)
theorem run_append_room_off (t ty e : TypeId) (i : TypeInfo) (ht : P.underlying t = some (.slice e)) (hi : P.info? e = some i)
    (g off sLen sCap : Nat) (cur : Array Value) (hg : w.heap[g]? = some (.cells cur e (0, 0)))
    (a : Addr) (m c : Nat) (news : List Value) (hl : news.length = m * i.size) (hnews : ∀ j u, news[j]? = some u → w.cell? (a.add j) = some u) (h1 : ∀ u ∈ news, u.oneCell' = true)
    (hroom : sLen + m ≤ sCap) (hfit : off + sLen * i.size + news.length ≤ cur.size) :
    (Builtin.append_ #[t, t] ty #[.slice (some ⟨g, off, none⟩) sLen sCap, .slice (some a) m c]).run P w =
      .ok (.slice (some ⟨g, off, none⟩) (sLen + m) sCap) (w.setRow g (cur.toList.take (off + sLen * i.size) ++ news ++ cur.toList.drop (off + sLen * i.size + news.length)).toArray) := by
  have hf := run_firstCells_some (P := P) w i.size m a m c news hl hnews
  have hst := run_storeCells_at P g (off + sLen * i.size) e news 0 cur w hg (by simpa using hfit) h1
  simp only [Nat.add_zero] at hst
  simp [Builtin.append_, run_underlying ht, sizeOf, typeInfo, hi, Builtin.lenOf, hroom, hf, Addr.add_lit, hst]
end
theorem append_q {w : World} {ops : Array Oper} {rest : List Oper} {o : Oper} {a : Act} {Q : Exit → Act → World → Prop} (hgd : o.guard = none) (s x : Operand)
    (hop : o.op = Op.call { callee := Callee.builtin Builtin.append, args := #[s, x], argTypes := #[23, 23] })
    (B : Nat) (v : Value) (gq : Nat) (q : List Int) (n : Int) (hs : a.eval s = v) (hq : QueueV B w v gq q) (g : Nat) (hx : a.eval x = .slice (some ⟨g, 0, none⟩) 1 1)
    (hcell : w.cell? ⟨g, 0, none⟩ = some (.int .i64 n)) (hl : q.length ≤ 1048576) (hB : B ≤ w.heap.size)
    (h : ∀ v' g' w', QueueV B w' v' g' (q ++ [n]) → ((g' = gq ∧ w.grownBy w' (some gq)) ∨ (w.heap.size ≤ g' ∧ Below w.heap.size w w')) → wpList Try.prog ops Q rest (a.put o.dst v') w') : wpList Try.prog ops Q (o :: rest) a w := by
  obtain ⟨i0, hi, hz0, hz1, hz2⟩ := info_parts intInfo
  obtain ⟨off, cap, cs, rfl, h2, h3, h4, h5, h6, h7⟩ := hq
  have hnews : ∀ j u, [Value.int .i64 n][j]? = some u → w.cell? ((⟨g, 0, none⟩ : Addr).add j) = some u := by
    intro j u hj
    match j, hj with
    | 0, hj => simp at hj; subst hj; simpa [Addr.add] using hcell
  have h1 : ∀ u ∈ [Value.int .i64 n], u.oneCell' = true := by intro u hu; simp at hu; subst hu; rfl
  have hlen1 : (q ++ [n]).length = q.length + 1 := by simp
  refine wpList_plain hgd fun K hK => ?_
  by_cases hroom : q.length + 1 ≤ cap
  · have hr := run_append_room_off (P := Try.prog) w 23 o.type 2 i0 Try.underlying23 hi gq off q.length cap cs h3 ⟨g, 0, none⟩ 1 1 [.int .i64 n] (by rw [hz1]; rfl) hnews h1 hroom (by rw [hz1]; simp; omega)
    unfold Oper.wp execOp
    simp only [hop, resolve, invoke, builtin, Sem.run_bind, Sem.run_pure, Result.andThen_ok, List.map_toArray, List.map_cons, List.map_nil, hs, hx, hr]
    refine hK _ _ (h _ gq _ ?_ (.inl ⟨rfl, ⟨rfl, rfl, rfl, by simp, fun k _ hk => setRow_other w gq k _ (fun e => hk (by rw [e]))⟩⟩))
    rw [hz1]
    refine ⟨off, cap, _, by rw [hlen1], h2, setRow_heap w gq cs _ 2 _ h3, ?_, by omega, h6, fun j hj => ?_⟩
    · simp only [List.size_toArray, List.length_append, List.length_take, List.length_drop, Array.length_toList, List.length_cons, List.length_nil]
      omega
    · rw [hlen1] at hj
      rw [List.getElem?_toArray]
      have hl1 : (cs.toList.take (off + q.length * 1)).length = off + q.length := by have hsz : cs.toList.length = cs.size := Array.length_toList; rw [List.length_take, hsz]; omega
      rcases Nat.lt_or_ge j q.length with hj1 | hj1
      · rw [List.append_assoc, List.getElem?_append_left (by omega), List.getElem?_take, if_pos (by omega), Array.getElem?_toList, h7 j hj1]
        rw [List.getD_eq_getElem?_getD, List.getD_eq_getElem?_getD, List.getElem?_append_left hj1]
      · obtain rfl : j = q.length := by omega
        rw [List.append_assoc, List.getElem?_append_right (by omega), hl1, Nat.sub_self, List.getD_eq_getElem?_getD, List.getElem?_append_right (Nat.le_refl _), Nat.sub_self]
        rfl
  · have holds : ∀ j u, (q.map (Value.int .i64))[j]? = some u → w.cell? ((⟨gq, off, none⟩ : Addr).add j) = some u := by
      intro j u hj
      have hjl : j < q.length := by
        rcases Nat.lt_or_ge j q.length with h8 | h8
        · exact h8
        · rw [List.getElem?_eq_none (by simpa using h8)] at hj; cases hj
      rw [Addr.add_lit, cell_of_row w gq _ cs _ (0, 0) h3, h7 j hjl, ← hj, List.getElem?_map, List.getElem?_eq_getElem hjl, getD_at _ _ hjl]; rfl
    have hr := run_append_grow (P := Try.prog) w 23 o.type 2 i0 (.int .i64 0) Try.underlying23 hi hz0 ⟨gq, off, none⟩ q.length cap (q.map (Value.int .i64)) (by rw [hz1]; simp) holds ⟨g, 0, none⟩ 1 1 [.int .i64 n] (by rw [hz1]; rfl) hnews (by omega) (by omega) (growslice_fits (by omega) (by rw [hz2]; omega))
    unfold Oper.wp execOp
    simp only [hop, resolve, invoke, builtin, Sem.run_bind, Sem.run_pure, Result.andThen_ok, List.map_toArray, List.map_cons, List.map_nil, hs, hx, hr]
    have hge := grownCap_ge w (q.length + 1) cap 2
    refine hK _ _ (h _ w.heap.size _ ?_ (.inr ⟨Nat.le_refl _, ((Below.refl _ _).drew).alloc (Nat.le_refl _) _⟩))
    refine ⟨0, _, _, by rw [hlen1], hB, heap_alloc_new w.drew _, ?_, by omega, grownCap_le_maxLen w _ _ _ (by unfold maxLen; omega), fun j hj => ?_⟩
    · simp [size_zeroCells, Value.cells]; omega
    · rw [hlen1] at hj
      rw [Nat.zero_add]
      rcases Nat.lt_or_ge j q.length with hj1 | hj1
      · rw [Array.getElem?_append_left (by simp; omega), Array.getElem?_append_left (by simpa using hj1)]
        simp [List.getD_eq_getElem?_getD, List.getElem?_append_left hj1, hj1]
      · obtain rfl : j = q.length := by omega
        rw [Array.getElem?_append_left (by simp), Array.getElem?_append_right (by simp)]
        simp [List.getD_eq_getElem?_getD]
end
section
open Go.RowKit Grp

variable {ok : Nat → Prop}
/-- What is known between the start w of an addition at level k and the world wr. -/
structure St (ok : Nat → Prop) (tt : TypeId) (tc : Array Value) (B n k C : Nat) (s : Sh) (w wr : World) (T : Tab) (Gs : Nat → List (List Nat)) (v0 : Value) : Prop where
  top : wr.heap[C]? = some (.cells tc tt (0, 0))
  body : Body ok B n wr s T Gs
  cell : wr.cell? ⟨s.Gb, k, none⟩ = some v0
  low : ∀ i, i < k → wr.cell? ⟨s.Gb, i, none⟩ = w.cell? ⟨s.Gb, i, none⟩
  below : Below B w wr
  keep : KeepI (fun _ => True) w wr
variable {tt : TypeId} {tc : Array Value} {B n k C : Nat} {s : Sh} {w wr w2 : World} {T : Tab} {Gs : Nat → List (List Nat)} {v0 : Value}
theorem Body.gbRow (h : Body ok B n w s T Gs) : ∃ gs : List Value, w.heap[s.Gb]? = some (.cells gs.toArray 22 (0, 0)) := by
  obtain ⟨gs, h1, _⟩ := h.gb
  exact ⟨gs, h1⟩
theorem cell_same {g p : Nat} {o : Obj} (h : wr.heap[g]? = some o) (h2 : w2.heap[g]? = some o) : w2.cell? ⟨g, p, none⟩ = wr.cell? ⟨g, p, none⟩ :=
  World.cell?_of_block (a := ⟨g, p, none⟩) (h2.trans h.symm)
theorem St.step {ok' : Nat → Prop} {T' : Tab} (h : St ok tt tc B n k C s w wr T Gs v0) (ht : w2.heap[C]? = some (.cells tc tt (0, 0))) (hb : Body ok' B n w2 s T' Gs) (hc : ∀ gs : List Value, wr.heap[s.Gb]? = some (.cells gs.toArray 22 (0, 0)) → w2.heap[s.Gb]? = some (.cells gs.toArray 22 (0, 0)))
    (hbel : Below B w w2) (hk : KeepI (fun _ => True) w w2) : St ok' tt tc B n k C s w w2 T' Gs v0 := by
  obtain ⟨gs, h1⟩ := h.body.gbRow
  have h2 := hc gs h1
  exact ⟨ht, hb, (cell_same h1 h2).trans h.cell, fun i hi => (cell_same h1 h2).trans (h.low i hi), hbel, hk⟩
theorem St.more (h : St ok tt tc B n k C s w wr T Gs v0) (hb : Below wr.heap.size wr w2) (hB : B ≤ wr.heap.size) : St ok tt tc B n k C s w w2 T Gs v0 :=
  h.step (rowB hb h.top) (h.body.below hb) (fun _ e => rowB hb e) (h.below.trans (hb.mono hB)) (h.keep.trans (KeepI.below hb))
theorem St.weak {ok' : Nat → Prop} (h : St ok tt tc B n k C s w wr T Gs v0) (ho : ∀ b, ok b → b < wr.heap.size → ok' b) : St ok' tt tc B n k C s w wr T Gs v0 :=
  ⟨h.top, h.body.weak ho, h.cell, h.low, h.below, h.keep⟩
theorem St.size (h : St ok tt tc B n k C s w wr T Gs v0) : B ≤ wr.heap.size := by
  obtain ⟨gs, h1⟩ := h.body.gbRow
  exact Nat.le_trans h.body.B2 (Nat.le_of_lt (row_lt h1))
/-- A representative is laid. -/
theorem St.row {y : Nat} {v : Value} {t : List Nat} (h : St ok tt tc B n k C s w wr T Gs v0) (hk : k < n) (hy : y < n) (hv : PermV ok wr v n t) (htt : tt ≠ 23) : St ok tt tc B n k C s w (wr.setCell ⟨s.R k, y, none⟩ v) (updT T k y t) Gs v0 := by
  obtain ⟨b1, b2, b3⟩ := h.body.setRow hk hy hv
  obtain ⟨cs, c1, _⟩ := h.body.row k hk
  refine h.step (rowS h.top fun e => ?_) b1 (fun gs e => rowS e fun e2 => ?_) (h.below.trans b3) (h.keep.trans (KeepI.set v c1 (by decide)))
  · dsimp only at e
    have := h.top
    rw [e, c1] at this
    simp at this
    exact htt this.2.symm
  · dsimp only at e2
    rw [e2, c1] at e
    simp at e
/-- The queue has grown in its own block. -/
theorem St.queue {g : Nat} {ds : Array Value} (h : St ok tt tc B n k C s w wr T Gs v0) (hg : wr.grownBy w2 (some g)) (hd : wr.heap[g]? = some (.cells ds 2 (0, 0))) (hn : ¬ ok g) (hgB : B ≤ g) (hgw : w.heap.size ≤ g) (htt : tt ≠ 2) : St ok tt tc B n k C s w w2 T Gs v0 := by
  have other : ∀ {H : Nat} {cs : Array Value} {t : TypeId}, wr.heap[H]? = some (.cells cs t (0, 0)) → t ≠ 2 → w2.heap[H]? = some (.cells cs t (0, 0)) := by
    intro H cs t hH ht
    refine (hg.block H (row_lt hH) fun e => ?_).trans hH
    injection e with e
    rw [e, hd] at hH
    simp at hH
    exact ht hH.2.symm
  refine h.step (other h.top htt) (h.body.other hg hd hn) (fun gs e => other e (by decide)) (h.below.grown hg h.size (fun q hq => by injection hq with hq; omega)) ?_
  refine ⟨Nat.le_trans h.keep.1 hg.size, fun b cs _ e => ?_⟩
  have e1 := h.keep.2 b cs trivial e
  refine (hg.block b (row_lt e1) fun e2 => ?_).trans e1
  injection e2 with e2
  have := row_lt e
  omega
theorem listInfo : (Try.prog.info? 23).map (fun i => (i.zero, i.size, i.bytes)) = some (some (.slice none 0 0), 1, 24) := by kernel_rfl
theorem getD_snoc (l : List (List Nat)) (p : List Nat) (j : Nat) (hj : j < l.length) : (l ++ [p]).getD j [] = l.getD j [] := by rw [List.getD_eq_getElem?_getD, List.getD_eq_getElem?_getD, List.getElem?_append_left hj]
theorem getD_last (l : List (List Nat)) (p : List Nat) : (l ++ [p]).getD l.length [] = p := by rw [List.getD_eq_getElem?_getD, List.getElem?_append_right (Nat.le_refl _), Nat.sub_self]; rfl
theorem run_append_gen {w : World} {ty : TypeId} (B n : Nat) (v : Value) (l : List (List Nat)) (p : List Nat) (vp : Value) (hown : GenV ok B n w v l) (g : Nat) (hcell : w.cell? ⟨g, 0, none⟩ = some vp) (hvp : PermV ok w vp n p) (hl : l.length ≤ 1048576) (hB : B ≤ w.heap.size) :
    ∃ A' c' w', (Builtin.append_ #[22, 22] ty #[v, .slice (some ⟨g, 0, none⟩) 1 1]).run Try.prog w = .ok (.slice A' (l.length + 1) c') w' ∧ GenV ok B n w' (.slice A' (l.length + 1) c') (l ++ [p]) ∧ w.grownBy w' v.ownBlock ∧ ((Value.slice A' (l.length + 1) c').ownBlock = v.ownBlock ∨ (Value.slice A' (l.length + 1) c').ownBlock = some w.heap.size) := by
  obtain ⟨i0, hi, hz0, hz1, hz2⟩ := info_parts listInfo
  obtain ⟨cs, h1, h2⟩ := hown
  obtain ⟨v', w', hr, hown', hgrow, _, hat⟩ := run_append_own_at (P := Try.prog) w B 22 ty 23 i0 (.slice none 0 0) 1 24 Try.underlying22 hi hz0 hz1 hz2 rfl (by decide) v l.length cs h1 ⟨g, 0, none⟩ 1 1 [vp] rfl
    (by intro j u hj; match j, hj with
        | 0, hj => simp at hj; subst hj; simpa [Addr.add] using hcell)
    (by intro u hu; simp at hu; subst hu; obtain ⟨g', c', hv, _⟩ := hvp.ints; rw [hv]; rfl) (by unfold maxLen; omega) (by omega) hB
  have hk : KeepI ok w w' := by
    cases hv : v.ownBlock with
    | none => rw [hv] at hgrow; exact KeepI.grown0 hgrow
    | some q =>
      obtain ⟨ds, hq⟩ := (show GenV ok B n w v l from ⟨cs, h1, h2⟩).block hv
      rw [hv] at hgrow
      exact KeepI.grown hgrow hq (by decide)
  have hG : GenV ok B n w' v' (l ++ [p]) := by
    refine ⟨cs ++ [vp], by simpa using hown', fun j hj => ?_⟩
    have hcl : cs.length = l.length := by simpa using h1.1
    rcases Nat.lt_or_ge j l.length with h3 | h3
    · obtain ⟨u, a, b⟩ := h2 j h3
      exact ⟨u, by rw [List.getElem?_append_left (by omega)]; exact a, by rw [getD_snoc _ _ _ h3]; exact b.keep hk⟩
    · have : j = l.length := by simp at hj; omega
      subst this
      exact ⟨vp, by rw [List.getElem?_append_right (by omega), hcl, Nat.sub_self]; rfl, by rw [getD_last]; exact hvp.keep hk⟩
  obtain ⟨A', c', e, _⟩ := hG.shape
  have e2 : (l ++ [p]).length = l.length + 1 := by simp
  rw [e2] at e
  subst e
  exact ⟨A', c', w', hr, hG, hgrow, hat⟩
theorem GenV.below {v : Value} {l : List (List Nat)} (h : GenV ok B n w v l) (hb : Below w.heap.size w w2) : GenV ok B n w2 v l := h.kept (gB hb none) (KeepI.below hb) (by simp)
theorem PermV.below {v : Value} {p : List Nat} (h : PermV ok w v n p) (hb : Below w.heap.size w w2) : PermV ok w2 v n p := h.keep (KeepI.below hb)
/-- The place of the lists behind an append to one of them. -/
theorem Body.gbKept {i : Nat} {v : Value} (h : Body ok B n w s T Gs) (hi : i < n) (hc : w.cell? ⟨s.Gb, i, none⟩ = some v) (hg : w.grownBy w2 v.ownBlock) : w2.cell? ⟨s.Gb, i, none⟩ = some v ∧ w2.frozen? ⟨s.Gb, i, none⟩ = false ∧ ∀ {H : Nat} {cs : Array Value} {t : TypeId}, w.heap[H]? = some (.cells cs t (0, 0)) → t ≠ 23 → w2.heap[H]? = some (.cells cs t (0, 0)) := by
  obtain ⟨gs, g1, g2⟩ := h.gb
  obtain ⟨v', a, b, _⟩ := g2 i hi
  have hvv : v' = v := by
    have := list_cell g1 a
    rw [hc] at this
    exact (Option.some.inj this).symm
  subst hvv
  have keep : ∀ {H : Nat} {cs : Array Value} {t : TypeId}, w.heap[H]? = some (.cells cs t (0, 0)) → t ≠ 23 → w2.heap[H]? = some (.cells cs t (0, 0)) := by
    intro H cs t hH ht
    refine (hg.block H (row_lt hH) fun e => ?_).trans hH
    obtain ⟨ds, hd⟩ := b.block e.symm
    rw [hH] at hd
    simp at hd
    exact ht hd.2
  have h1 := keep g1 (by decide)
  exact ⟨(cell_same g1 h1).trans hc, row_free h1, keep⟩
theorem step_append_gen {w : World} {ops : Array Oper} {o : Oper} {a : Act} {K : Act → World → Prop} {Q : Exit → Act → World → Prop} {E : Prop} (hgd : o.guard = none) (s x : Operand)
    (hop : o.op = Op.call { callee := Callee.builtin Builtin.append, args := #[s, x], argTypes := #[22, 22] })
    (B n : Nat) (v : Value) (l : List (List Nat)) (p : List Nat) (vp : Value) (ll : Nat) (hll : l.length = ll) (hs : a.eval s = v) (hown : GenV ok B n w v l) (g : Nat) (hx : a.eval x = .slice (some ⟨g, 0, none⟩) 1 1) (hcell : w.cell? ⟨g, 0, none⟩ = some vp) (hvp : PermV ok w vp n p) (hl : ll ≤ 1048576) (hB : B ≤ w.heap.size)
    (h : ∀ A' c' w', GenV ok B n w' (.slice A' (ll + 1) c') (l ++ [p]) → w.grownBy w' v.ownBlock → ((Value.slice A' (ll + 1) c').ownBlock = v.ownBlock ∨ (Value.slice A' (ll + 1) c').ownBlock = some w.heap.size) → K (a.put o.dst (.slice A' (ll + 1) c')) w') :
    if Region.wanted o (yielded ops a.tmps) = true then Oper.wp Try.prog o a w K Q else E := by
  subst hll
  have hw : Region.wanted o (yielded ops a.tmps) = true := by simp [Region.wanted, hgd]
  rw [if_pos hw]
  obtain ⟨A', c', w', hr, h1, h2, h3⟩ := run_append_gen (ty := o.type) B n v l p vp hown g hcell hvp hl hB
  unfold Oper.wp execOp
  simp only [hop, resolve, invoke, builtin, Sem.run_bind, Sem.run_pure, Result.andThen_ok, List.map_toArray, List.map_cons, List.map_nil, hs, hx, hr]
  exact h A' c' w' h1 h2 h3
theorem Body.gbRow2 (h : Body ok B n w s T Gs) : ∃ gs : List Value, w.heap[s.Gb]? = some (.cells gs.toArray 22 (0, 0)) ∧ ∀ i, i < n → i < gs.length := by
  obtain ⟨gs, h1, h2⟩ := h.gb
  refine ⟨gs, h1, fun i hi => ?_⟩
  obtain ⟨v, a, _⟩ := h2 i hi
  exact (List.getElem?_eq_some_iff.1 a).1
/-- Behind the first store: the state in which the level's row grows. -/
theorem St.start {gs : List Value} {v2 : Value} {Gs' : Nat → List (List Nat)} (hw : w.heap[s.Gb]? = some (.cells gs.toArray 22 (0, 0))) (h2 : w2.heap[s.Gb]? = some (.cells gs.toArray 22 (0, 0))) (hk : k < gs.length) (hC : w2.heap[C]? = some (.cells tc tt (0, 0))) (htt : tt ≠ 22)
    (hb : Body ok B n (w2.setCell ⟨s.Gb, k, none⟩ v2) s T Gs') (hbel : Below B w (w2.setCell ⟨s.Gb, k, none⟩ v2)) (hkeep : KeepI (fun _ => True) w (w2.setCell ⟨s.Gb, k, none⟩ v2)) : St ok tt tc B n k C s w (w2.setCell ⟨s.Gb, k, none⟩ v2) T Gs' v2 := by
  have h3 := list_store (p := k) v2 h2
  refine ⟨rowS hC fun e => ?_, hb, list_cell h3 (by rw [List.getElem?_set, if_pos rfl, if_pos hk]), fun i hi => ?_, hbel, hkeep⟩
  · dsimp only at e
    rw [e, h2] at hC
    simp at hC
    exact htt hC.2.symm
  · have e1 : gs[i]? = some gs[i] := List.getElem?_eq_getElem (by omega)
    rw [list_cell h3 (v := gs[i]) (by rw [List.getElem?_set, if_neg (by omega)]; exact e1), list_cell hw e1]
/-- The level's list, read. -/
theorem St.gen (h : St ok tt tc B n k C s w wr T Gs v0) (hk : k < n) : GenV ok B n wr v0 (Gs k) := by
  obtain ⟨v, h1, h2, _⟩ := h.body.readGb hk
  rw [h.cell] at h1
  obtain rfl : v0 = v := Option.some.inj h1
  exact h2
theorem GenV.at_ {A : Option Addr} {m c : Nat} {l : List (List Nat)} (h : GenV ok B n w (.slice A m c) l) {j : Nat} (hj : j < m) : ∃ g u, A = some ⟨g, 0, none⟩ ∧ g < w.heap.size ∧ w.cell? ⟨g, j, none⟩ = some u ∧ PermV ok w u n (l.getD j []) ∧ l.length = m := by
  obtain ⟨A', c', e, h2⟩ := h.shape
  simp only [Value.slice.injEq] at e
  obtain ⟨rfl, rfl, rfl⟩ := e
  obtain ⟨g, u, a, b, c, d⟩ := h2 j hj
  exact ⟨g, u, a, b, c, d, rfl⟩
theorem QueueV.mono {B' : Nat} {v : Value} {g : Nat} {q : List Int} (h : QueueV B w v g q) (hB : B' ≤ B) : QueueV B' w v g q := by
  obtain ⟨off, cap, cs, h1, h2, h3⟩ := h
  exact ⟨off, cap, cs, h1, Nat.le_trans hB h2, h3⟩
/-- The queue, grown: in its own block or in a new one. -/
theorem St.queued {gq g' : Nat} {v' : Value} {q : List Int} {ds : Array Value} (h : St (fun b => b ≠ gq) tt tc B n k C s w wr T Gs v0) (hd : wr.heap[gq]? = some (.cells ds 2 (0, 0))) (hgB : w.heap.size ≤ gq) (hBw : B ≤ w.heap.size) (htt : tt ≠ 2)
    (hq : QueueV w.heap.size w2 v' g' q) (hor : (g' = gq ∧ wr.grownBy w2 (some gq)) ∨ (wr.heap.size ≤ g' ∧ Below wr.heap.size wr w2)) : St (fun b => b ≠ g') tt tc B n k C s w w2 T Gs v0 ∧ QueueV w.heap.size w2 v' g' q := by
  refine ⟨?_, hq⟩
  rcases hor with ⟨rfl, hg⟩ | ⟨hg, hb⟩
  · exact h.queue hg hd (fun e => e rfl) (Nat.le_trans hBw hgB) hgB htt
  · exact (h.weak (ok' := fun b => b ≠ g') fun b _ hb2 => by omega).more hb h.size
/-! Queues of points. -/
theorem natI_cons (h : Nat) (q : List Nat) : natI (h :: q) = (h : Int) :: natI q := rfl
theorem natI_snoc (q : List Nat) (x : Nat) : natI q ++ [(x : Int)] = natI (q ++ [x]) := by simp [natI]
theorem queue_head {v : Value} {g h : Nat} {q : List Nat} (hq : QueueV B w v g (natI (h :: q))) : ∃ off cap, v = .slice (some ⟨g, off, none⟩) (q.length + 1) cap ∧ q.length + 1 ≤ cap ∧ w.cell? ⟨g, off, none⟩ = some (.int .i64 (h : Int)) := by
  rw [natI_cons] at hq
  obtain ⟨off, cap, h1, h2, h3⟩ := hq.head
  rw [natI_len] at h1 h2
  exact ⟨off, cap, h1, h2, h3⟩
theorem queue_nil {v : Value} {g : Nat} (hq : QueueV B w v g (natI [])) : ∃ off cap, v = .slice (some ⟨g, off, none⟩) 0 cap := by
  obtain ⟨off, cap, cs, h1, _⟩ := hq
  exact ⟨off, cap, h1⟩
theorem queue_tail {g off cap h : Nat} {q : List Nat} (hq : QueueV B w (.slice (some ⟨g, off, none⟩) (q.length + 1) cap) g (natI (h :: q))) :
    QueueV B w (.slice (some ⟨g, off + 1, none⟩) q.length (cap - 1)) g (natI q) ∧ (cap = 1 → QueueV B w (.slice (some ⟨g, off, none⟩) q.length 0) g (natI q)) := by
  rw [natI_cons] at hq
  have e : q.length = (natI q).length := (natI_len q).symm
  rw [e] at hq ⊢
  exact hq.tail
/-- Behind an addition at the next level. -/
theorem St.after {ok' : Nat → Prop} {T' : Tab} {Gs' : Nat → List (List Nat)} (h : St ok tt tc B n k C s w wr T Gs v0) (ht : w2.heap[C]? = some (.cells tc tt (0, 0))) (hb : Body ok' B n w2 s T' Gs') (hl : ∀ i, i < k + 1 → w2.cell? ⟨s.Gb, i, none⟩ = wr.cell? ⟨s.Gb, i, none⟩) (hbel : Below B wr w2) (hk : KeepI (fun _ => True) wr w2) : St ok' tt tc B n k C s w w2 T' Gs' v0 :=
  ⟨ht, hb, (hl k (by omega)).trans h.cell, fun i hi => (hl i (by omega)).trans (h.low i hi), h.below.trans hbel, h.keep.trans hk⟩
theorem getD_mem {l : List (List Nat)} {j : Nat} (h : j < l.length) : l.getD j [] ∈ l := by rw [List.getD_eq_getElem?_getD, List.getElem?_eq_getElem h]; exact List.getElem_mem h
theorem updG_same (Gs : Nat → List (List Nat)) (k : Nat) (l : List (List Nat)) : updG Gs k l k = l := by simp [updG]
end
end Go.Proofs.Ytpcnbjfkobeibaa
