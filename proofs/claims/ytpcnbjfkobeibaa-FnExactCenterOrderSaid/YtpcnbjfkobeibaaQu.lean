/- A queue of numbers: a slice that is appended to at its end and cut at its front. Conditions: as each lemma says. -/
import Derived.Test.YtpcnbjfkobeibaaDm
namespace Go.Proofs.Ytpcnbjfkobeibaa
open Go.RowKit Grp

/-- v is a queue of the numbers q, in block g of the call's own. -/
def QueueV (B : Nat) (w : World) (v : Value) (g : Nat) (q : List Int) : Prop :=
  ∃ off cap cs, v = .slice (some ⟨g, off, none⟩) q.length cap ∧ B ≤ g ∧ w.heap[g]? = some (.cells cs 2 (0, 0)) ∧ off + cap ≤ cs.size ∧ q.length ≤ cap ∧ cap ≤ maxLen ∧ ∀ j, j < q.length → cs[off + j]? = some (.int .i64 (q.getD j 0))
theorem QueueV.keep {B : Nat} {w w' : World} {v : Value} {g : Nat} {q : List Int} (h : QueueV B w v g q) (hk : ∀ cs, w.heap[g]? = some (.cells cs 2 (0, 0)) → w'.heap[g]? = some (.cells cs 2 (0, 0))) : QueueV B w' v g q := by
  obtain ⟨off, cap, cs, h1, h2, h3, h4⟩ := h
  exact ⟨off, cap, cs, h1, h2, hk cs h3, h4⟩
theorem QueueV.below {B : Nat} {w w' : World} {v : Value} {g : Nat} {q : List Int} (h : QueueV B w v g q) (hb : Below w.heap.size w w') : QueueV B w' v g q := h.keep fun _ e => rowB hb e
theorem QueueV.block {B : Nat} {w : World} {v : Value} {g : Nat} {q : List Int} (h : QueueV B w v g q) : ∃ cs, w.heap[g]? = some (.cells cs 2 (0, 0)) := by
  obtain ⟨off, cap, cs, h1, h2, h3, h4⟩ := h
  exact ⟨cs, h3⟩
theorem QueueV.low {B : Nat} {w : World} {v : Value} {g : Nat} {q : List Int} (h : QueueV B w v g q) : B ≤ g := by
  obtain ⟨off, cap, cs, h1, h2, h3, h4⟩ := h
  exact h2
theorem QueueV.of {B : Nat} {w : World} {v : Value} {q : List Int} (h : Fresh B w v q) (hq : 0 < q.length) : ∃ g, QueueV B w v g q := by
  rcases h.2 with ⟨rfl, h0⟩ | ⟨g, cap, cur, rfl, hb, hg, hnc, hcm, hcs, htake⟩
  · omega
  · refine ⟨g, 0, cap, cur, rfl, hb, hg, by omega, hnc, hcm, fun j hj => ?_⟩
    have := World.ownsRow.cellAt h j (by omega)
    rw [cell_of_row w g j cur _ (0, 0) hg] at this
    rw [Nat.zero_add, this, List.getElem?_map, List.getElem?_eq_getElem hj, getD_at _ _ hj]; rfl
/-- The first number. -/
theorem QueueV.head {B : Nat} {w : World} {v : Value} {g : Nat} {x : Int} {q : List Int} (h : QueueV B w v g (x :: q)) :
    ∃ off cap, v = .slice (some ⟨g, off, none⟩) (q.length + 1) cap ∧ q.length + 1 ≤ cap ∧ w.cell? ⟨g, off, none⟩ = some (.int .i64 x) := by
  obtain ⟨off, cap, cs, h1, h2, h3, h4, h5, h6, h7⟩ := h
  refine ⟨off, cap, h1, h5, ?_⟩
  have := h7 0 (by simp)
  rw [cell_of_row w g off cs _ (0, 0) h3]
  simpa using this
/-- What remains behind the first number. -/
theorem QueueV.tail {B : Nat} {w : World} {g off cap : Nat} {x : Int} {q : List Int} (h : QueueV B w (.slice (some ⟨g, off, none⟩) (q.length + 1) cap) g (x :: q)) :
    QueueV B w (.slice (some ⟨g, off + 1, none⟩) q.length (cap - 1)) g q ∧ (cap = 1 → QueueV B w (.slice (some ⟨g, off, none⟩) q.length 0) g q) := by
  obtain ⟨off', cap', cs, h1, h2, h3, h4, h5, h6, h7⟩ := h
  simp only [Value.slice.injEq, Option.some.injEq, Addr.mk.injEq, true_and, and_true] at h1
  obtain ⟨e1, _, e2⟩ := h1
  subst e1 e2
  rw [List.length_cons] at h5
  refine ⟨⟨off + 1, cap - 1, cs, rfl, h2, h3, by omega, by omega, by omega, fun j hj => ?_⟩, fun hc => ⟨off, 0, cs, rfl, h2, h3, by omega, by omega, by omega, fun j hj => by omega⟩⟩
  have := h7 (j + 1) (by simp; omega)
  rw [show off + 1 + j = off + (j + 1) from by omega, this]
  simp
section
variable {P : Program} (w : World)
theorem run_append_room_off (t ty e : TypeId) (i : TypeInfo) (ht : P.underlying t = some (.slice e)) (hi : P.info? e = some i)
    (g off sLen sCap : Nat) (cur : Array Value) (hg : w.heap[g]? = some (.cells cur e (0, 0)))
    (a : Addr) (m c : Nat) (news : List Value) (hl : news.length = m * i.size) (hnews : ∀ j u, news[j]? = some u → w.cell? (a.add j) = some u) (h1 : ∀ u ∈ news, u.oneCell' = true)
    (hroom : sLen + m ≤ sCap) (hfit : off + sLen * i.size + news.length ≤ cur.size) :
    (Builtin.append_ #[t, t] ty #[.slice (some ⟨g, off, none⟩) sLen sCap, .slice (some a) m c]).run P w =
      .ok (.slice (some ⟨g, off, none⟩) (sLen + m) sCap) (w.setRow g (cur.toList.take (off + sLen * i.size) ++ news ++ cur.toList.drop (off + sLen * i.size + news.length)).toArray) := by
  have hf := run_firstCells_some (P := P) w i.size m a m c news hl hnews
  have hst := run_storeCells_at P g (off + sLen * i.size) e news 0 cur w hg (by simpa using hfit) h1
  simp only [Nat.add_zero] at hst
  simp [Builtin.append_, run_underlying ht, sizeOf, typeInfo, hi, Builtin.lenOf, hroom, hf, Addr.add_lit, hst]
end
theorem append_q {w : World} {ops : Array Oper} {rest : List Oper} {o : Oper} {a : Act} {Q : Exit → Act → World → Prop} (hgd : o.guard = none) (s x : Operand)
    (hop : o.op = Op.call { callee := Callee.builtin Builtin.append, args := #[s, x], argTypes := #[23, 23] })
    (B : Nat) (v : Value) (gq : Nat) (q : List Int) (n : Int) (hs : a.eval s = v) (hq : QueueV B w v gq q) (g : Nat) (hx : a.eval x = .slice (some ⟨g, 0, none⟩) 1 1)
    (hcell : w.cell? ⟨g, 0, none⟩ = some (.int .i64 n)) (hl : q.length ≤ 1048576) (hB : B ≤ w.heap.size)
    (h : ∀ v' g' w', QueueV B w' v' g' (q ++ [n]) → ((g' = gq ∧ w.grownBy w' (some gq)) ∨ (w.heap.size ≤ g' ∧ Below w.heap.size w w')) → wpList Try.prog ops Q rest (a.put o.dst v') w') : wpList Try.prog ops Q (o :: rest) a w := by
  obtain ⟨i0, hi, hz0, hz1, hz2⟩ := info_parts intInfo
  obtain ⟨off, cap, cs, rfl, h2, h3, h4, h5, h6, h7⟩ := hq
  have hnews : ∀ j u, [Value.int .i64 n][j]? = some u → w.cell? ((⟨g, 0, none⟩ : Addr).add j) = some u := by
    intro j u hj
    match j, hj with
    | 0, hj => simp at hj; subst hj; simpa [Addr.add] using hcell
  have h1 : ∀ u ∈ [Value.int .i64 n], u.oneCell' = true := by intro u hu; simp at hu; subst hu; rfl
  have hlen1 : (q ++ [n]).length = q.length + 1 := by simp
  refine wpList_plain hgd fun K hK => ?_
  by_cases hroom : q.length + 1 ≤ cap
  · have hr := run_append_room_off (P := Try.prog) w 23 o.type 2 i0 Try.underlying23 hi gq off q.length cap cs h3 ⟨g, 0, none⟩ 1 1 [.int .i64 n] (by rw [hz1]; rfl) hnews h1 hroom (by rw [hz1]; simp; omega)
    unfold Oper.wp execOp
    simp only [hop, resolve, invoke, builtin, Sem.run_bind, Sem.run_pure, Result.andThen_ok, List.map_toArray, List.map_cons, List.map_nil, hs, hx, hr]
    refine hK _ _ (h _ gq _ ?_ (.inl ⟨rfl, ⟨rfl, rfl, rfl, by simp, fun k _ hk => setRow_other w gq k _ (fun e => hk (by rw [e]))⟩⟩))
    rw [hz1]
    refine ⟨off, cap, _, by rw [hlen1], h2, setRow_heap w gq cs _ 2 _ h3, ?_, by omega, h6, fun j hj => ?_⟩
    · simp only [List.size_toArray, List.length_append, List.length_take, List.length_drop, Array.length_toList, List.length_cons, List.length_nil]
      omega
    · rw [hlen1] at hj
      rw [List.getElem?_toArray]
      have hl1 : (cs.toList.take (off + q.length * 1)).length = off + q.length := by have hsz : cs.toList.length = cs.size := Array.length_toList; rw [List.length_take, hsz]; omega
      rcases Nat.lt_or_ge j q.length with hj1 | hj1
      · rw [List.append_assoc, List.getElem?_append_left (by omega), List.getElem?_take, if_pos (by omega), Array.getElem?_toList, h7 j hj1]
        rw [List.getD_eq_getElem?_getD, List.getD_eq_getElem?_getD, List.getElem?_append_left hj1]
      · obtain rfl : j = q.length := by omega
        rw [List.append_assoc, List.getElem?_append_right (by omega), hl1, Nat.sub_self, List.getD_eq_getElem?_getD, List.getElem?_append_right (Nat.le_refl _), Nat.sub_self]
        rfl
  · have holds : ∀ j u, (q.map (Value.int .i64))[j]? = some u → w.cell? ((⟨gq, off, none⟩ : Addr).add j) = some u := by
      intro j u hj
      have hjl : j < q.length := by
        rcases Nat.lt_or_ge j q.length with h8 | h8
        · exact h8
        · rw [List.getElem?_eq_none (by simpa using h8)] at hj; cases hj
      rw [Addr.add_lit, cell_of_row w gq _ cs _ (0, 0) h3, h7 j hjl, ← hj, List.getElem?_map, List.getElem?_eq_getElem hjl, getD_at _ _ hjl]; rfl
    have hr := run_append_grow (P := Try.prog) w 23 o.type 2 i0 (.int .i64 0) Try.underlying23 hi hz0 ⟨gq, off, none⟩ q.length cap (q.map (Value.int .i64)) (by rw [hz1]; simp) holds ⟨g, 0, none⟩ 1 1 [.int .i64 n] (by rw [hz1]; rfl) hnews (by omega) (by omega) (growslice_fits (by omega) (by rw [hz2]; omega))
    unfold Oper.wp execOp
    simp only [hop, resolve, invoke, builtin, Sem.run_bind, Sem.run_pure, Result.andThen_ok, List.map_toArray, List.map_cons, List.map_nil, hs, hx, hr]
    have hge := grownCap_ge w (q.length + 1) cap 2
    refine hK _ _ (h _ w.heap.size _ ?_ (.inr ⟨Nat.le_refl _, ((Below.refl _ _).drew).alloc (Nat.le_refl _) _⟩))
    refine ⟨0, _, _, by rw [hlen1], hB, heap_alloc_new w.drew _, ?_, by omega, grownCap_le_maxLen w _ _ _ (by unfold maxLen; omega), fun j hj => ?_⟩
    · simp [size_zeroCells, Value.cells]; omega
    · rw [hlen1] at hj
      rw [Nat.zero_add]
      rcases Nat.lt_or_ge j q.length with hj1 | hj1
      · rw [Array.getElem?_append_left (by simp; omega), Array.getElem?_append_left (by simpa using hj1)]
        simp [List.getD_eq_getElem?_getD, List.getElem?_append_left hj1, hj1]
      · obtain rfl : j = q.length := by omega
        rw [Array.getElem?_append_left (by simp), Array.getElem?_append_right (by simp)]
        simp [List.getD_eq_getElem?_getD]
end Go.Proofs.Ytpcnbjfkobeibaa
