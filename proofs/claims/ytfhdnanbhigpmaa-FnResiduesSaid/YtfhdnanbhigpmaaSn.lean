/- A map of the call's own that holds the keys seen. No conditions. -/
import Derived.Test.YtfhdnanbhigpmaaPg
import Derived.Maps.OwnOps
import Derived.Maps.OwnSet
import Derived.StringKeys
namespace Go.Proofs.Ytfhdnanbhigpmaa
open Go.RowKit

def hasK (K : List ByteArray) (s : ByteArray) : Bool := K.any fun k => decide (k = s)
theorem hasK_iff {K : List ByteArray} {s : ByteArray} : hasK K s = true ↔ s ∈ K := by
  unfold hasK
  rw [List.any_eq_true]
  exact ⟨fun ⟨k, h1, h2⟩ => by rw [← of_decide_eq_true h2]; exact h1, fun h => ⟨s, h, decide_eq_true rfl⟩⟩
theorem hasK_cons (K : List ByteArray) (a s : ByteArray) : hasK (a :: K) s = (decide (a = s) || hasK K s) := rfl
/-- Block b is a map of the call's own in which the keys K, and no others, read true. -/
def SeenAt (w : World) (b n : Nat) (K : List ByteArray) : Prop :=
  ∃ D : DataW Unit, w.ownsMap Try.prog 9 (plainElem Try.prog 4) b n D ∧ Maps.IsMap D ∧ ∀ (s : ByteArray) (z : DataW Unit), D.atKey (.string s.data.toList) z = if hasK K s = true then .lit (.bool true) else z
theorem keyedS : Maps.Keyed Try.prog 9 := Maps.string_keyed Try.underlying9
theorem listEq {a b : ByteArray} : a.data.toList = b.data.toList ↔ a = b := ⟨fun h => ByteArray.ext (Array.toList_inj.1 h), fun h => by rw [h]⟩
theorem SeenAt.made (w : World) : SeenAt (w.alloc (.map #[] 0)) w.heap.size 0 [] :=
  ⟨.map [], World.ownsMap_made _ _ _ _, ⟨[], rfl⟩, fun s z => by simp [DataW.atKey, hasK]⟩
theorem SeenAt.lt {w : World} {b n : Nat} {K : List ByteArray} (h : SeenAt w b n K) : b < w.heap.size := by
  obtain ⟨D, h1, -⟩ := h
  exact h1.lt
theorem SeenAt.map {w : World} {b n : Nat} {K : List ByteArray} (h : SeenAt w b n K) : ∃ es c, w.heap[b]? = some (.map es c) := by
  obtain ⟨D, ⟨es, c, h1, -⟩, -⟩ := h
  exact ⟨es, c, h1⟩
theorem SeenAt.kept {w w' : World} {b n : Nat} {K : List ByteArray} {row : Option Nat} (h : SeenAt w b n K) (hg : w.grownBy w' row) (hne : some b ≠ row) : SeenAt w' b n K := by
  obtain ⟨D, h1, h2⟩ := h
  exact ⟨D, h1.kept hg hne, h2⟩
theorem SeenAt.below {w w' : World} {b n : Nat} {K : List ByteArray} (h : SeenAt w b n K) (hb : Below w.heap.size w w') : SeenAt w' b n K := h.kept (gB hb none) (by simp)
theorem SeenAt.mono {w : World} {b n n' : Nat} {K : List ByteArray} (h : SeenAt w b n K) (hn : n ≤ n') : SeenAt w b n' K := by
  obtain ⟨D, h1, h2⟩ := h
  exact ⟨D, h1.mono hn, h2⟩
/-- The map is no block of cells. -/
theorem SeenAt.ne {w : World} {b n g : Nat} {K : List ByteArray} {cs : Array Value} {T : TypeId} {m : Nat × Nat} (h : SeenAt w b n K) (hg : w.heap[g]? = some (.cells cs T m)) : b ≠ g := by
  intro e
  obtain ⟨es, c, h1⟩ := h.map
  rw [e, hg] at h1
  cases h1
set_option maxRecDepth 100000 in
theorem SeenAt.look {w : World} {b n : Nat} {K : List ByteArray} (h : SeenAt w b n K) (s : ByteArray) (hs : s.size ≤ maxLen) :
    (Instr.lookup 94 (.map (some b)) (.string s) false).run Try.prog w = .ok (.bool (hasK K s)) w := by
  obtain ⟨D, h1, h2, h3⟩ := h
  have hz : (zeroValue 4).run Try.prog w = .ok (.bool false) w := by kernel_rfl
  obtain ⟨v, ps, hrun, hv⟩ := h1.lookup keyedS Try.underlying94 hz (plainElem_bool Try.underlying4 false) (WideMaps.keyOf_string_mk Try.underlying9 hs)
  rw [hrun]
  rw [h3] at hv
  have e : v = .bool (hasK K s) := by
    unfold plainElem at hv
    rw [Try.underlying4] at hv
    cases hk : hasK K s with
    | true =>
      rw [if_pos hk] at hv
      cases v <;> simp at hv
      rw [hv.1]
    | false =>
      rw [if_neg (by rw [hk]; decide)] at hv
      cases v <;> simp at hv
      rw [hv.1]
  rw [e]
theorem SeenAt.put {w : World} {b n : Nat} {K : List ByteArray} (h : SeenAt w b n K) (s : ByteArray) (hs : s.size ≤ maxLen) (hn : n < maxLen) :
    ∃ w', (Instr.mapUpdate 94 (.map (some b)) (.string s) (.bool true)).run Try.prog w = .ok () w' ∧ SeenAt w' b (n + 1) (s :: K) ∧ w.grownBy w' (some b) := by
  obtain ⟨D, h1, h2, h3⟩ := h
  obtain ⟨w', r1, r2, r3⟩ := h1.update keyedS Try.underlying94 hn (WideMaps.keyOf_string_mk Try.underlying9 hs) (plainElem_bool Try.underlying4 true)
  refine ⟨w', r1, ⟨_, r2, r2.isMap, fun x z => ?_⟩, r3⟩
  rw [hasK_cons]
  by_cases e : x = s
  · subst e
    rw [Maps.atKey_put_same h2 (by unfold WideAt.IsKeyLit; trivial), decide_eq_true rfl]
    rfl
  · have hne : (Lit.string x.data.toList) ≠ .string s.data.toList := fun e2 => e (listEq.1 (by injection e2))
    rw [Maps.atKey_put_other hne, h3, decide_eq_false (fun e2 => e e2.symm)]
    rfl
theorem wpList_seen {w : World} {ops : Array Oper} {rest : List Oper} {o : Oper} {a : Act} {Q : Exit → Act → World → Prop}
    (hg : o.guard = none) (m x : Operand) (hop : o.op = Op.lookup 94 m x false) (b n : Nat) (K : List ByteArray) (s : ByteArray) (hm : a.eval m = .map (some b)) (hx : a.eval x = .string s) (h : SeenAt w b n K) (hs : s.size ≤ maxLen)
    (hK : wpList Try.prog ops Q rest (a.put o.dst (.bool (hasK K s))) w) : wpList Try.prog ops Q (o :: rest) a w := by
  refine wpList_plain hg fun K' hK' => ?_
  have hrun := h.look s hs
  unfold Oper.wp
  simp [execOp, hop, hm, hx, hrun, Result.andThen]
  exact hK' _ _ hK
theorem wpList_see {w : World} {ops : Array Oper} {rest : List Oper} {o : Oper} {a : Act} {Q : Exit → Act → World → Prop}
    (hg : o.guard = none) (m x y : Operand) (hop : o.op = Op.mapUpdate 94 m x y ∨ o.op = Op.insert 94 m x y) (b n : Nat) (K : List ByteArray) (s : ByteArray) (hm : a.eval m = .map (some b)) (hx : a.eval x = .string s) (hy : a.eval y = .bool true) (h : SeenAt w b n K) (hs : s.size ≤ maxLen) (hn : n < maxLen)
    (hK : ∀ w', SeenAt w' b (n + 1) (s :: K) → w.grownBy w' (some b) → wpList Try.prog ops Q rest (a.put o.dst undef) w') : wpList Try.prog ops Q (o :: rest) a w := by
  refine wpList_plain hg fun K' hK' => ?_
  obtain ⟨w', hrun, h1, h2⟩ := h.put s hs hn
  unfold Oper.wp
  rcases hop with hop | hop
  · simp [execOp, hop, hm, hx, hy, hrun, Result.andThen]
    exact hK' _ _ (hK w' h1 h2)
  · simp [execOp, hop, hm, hx, hy, hrun, Result.andThen]
    exact hK' _ _ (hK w' h1 h2)
/-! Lists of lists, and lists, beside a map that is written. -/
theorem PgAt.mapped {lo bm : Nat} {z : Option Nat} {w w' : World} {v : Value} {ls : List (List Int)} {B : Nat → Nat} (h : PgAt lo z w v ls B) (hm : ∃ es c, w.heap[bm]? = some (.map es c)) (hg : w.grownBy w' (some bm)) : PgAt lo z w' v ls B := by
  obtain ⟨es, c, hm⟩ := hm
  have hcells : ∀ {T : TypeId} {B0 sz n : Nat} {u : Value} {cs : List Value} {b : Nat}, w.ownsRow B0 T sz u n cs → u.ownBlock = some b → u.ownBlock ≠ some bm := by
    intro T B0 sz n u cs b ho hb e
    rcases ho.2 with ⟨rfl, _⟩ | ⟨g, cap, cur, rfl, _, hg2, _⟩
    · cases e
    · simp only [Value.ownBlock, Option.some.injEq] at e
      rw [e, hm] at hg2
      cases hg2
  obtain ⟨⟨cs, h1, h2⟩, h3, h4, h5, h6⟩ := h
  refine ⟨⟨cs, World.ownsRow.kept h1 hg ?_, fun j hj => ?_⟩, h3, Nat.le_trans h4 hg.size, h5, h6⟩
  · cases hv : v.ownBlock with
    | none => exact .inl rfl
    | some b => exact .inr (by rw [← hv]; exact hcells h1 hv)
  · obtain ⟨u, e, hu, hs⟩ := h2 j hj
    refine ⟨u, e, World.ownsRow.kept hu hg ?_, hs⟩
    cases hv : u.ownBlock with
    | none => exact .inl rfl
    | some b => exact .inr (by rw [← hv]; exact hcells hu hv)
theorem Fresh.mapped {B bm : Nat} {w w' : World} {v : Value} {xs : List Int} (h : Fresh B w v xs) (hm : ∃ es c, w.heap[bm]? = some (.map es c)) (hg : w.grownBy w' (some bm)) : Fresh B w' v xs := by
  obtain ⟨es, c, hm⟩ := hm
  refine World.ownsRow.kept h hg ?_
  rcases h.2 with ⟨rfl, _⟩ | ⟨g, cap, cur, rfl, _, hg2, _⟩
  · exact .inl rfl
  · refine .inr fun e => ?_
    simp only [Value.ownBlock, Option.some.injEq] at e
    rw [e, hm] at hg2
    cases hg2
end Go.Proofs.Ytfhdnanbhigpmaa
