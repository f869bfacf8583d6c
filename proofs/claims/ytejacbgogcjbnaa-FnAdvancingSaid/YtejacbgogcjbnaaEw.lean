/- Entries appended to a list of the call's own. Conditions: as each contract says. -/
import Derived.Test.YtejacbgogcjbnaaAh
namespace Go.Proofs.Ytejacbgogcjbnaa
open Go.RowKit

theorem ownsRow_below {w w' : World} {B : Nat} {T : TypeId} {s : Nat} {v : Value} {n : Nat} {cs : List Value} (h : w.ownsRow B T s v n cs) (hb : Below w.heap.size w w') : w'.ownsRow B T s v n cs := by
  refine ⟨h.1, ?_⟩
  rcases h.2 with hn | ⟨g, cap, cur, rfl, hbg, hgg, rest⟩
  · exact .inl hn
  · exact .inr ⟨g, cap, cur, rfl, hbg, by rw [hb.block g (Array.getElem?_eq_some_iff.1 hgg).1]; exact hgg, rest⟩
/-- v is a list of the call's own (blocks from B on) of the entries es; their results lie in other blocks. -/
def EntsW (B : Nat) (w : World) (v : Value) (es : List Ent) : Prop :=
  ∃ cs : List Value, w.ownsRow B 32 2 v es.length cs ∧ ∀ i, i < es.length → ∃ Ai ci, (es.getD i (0, [])).2.length ≤ ci ∧ cs[i * 2]? = some (.int .i64 (es.getD i (0, [])).1) ∧ cs[i * 2 + 1]? = some (.slice Ai (es.getD i (0, [])).2.length ci) ∧ IntsAt w Ai (es.getD i (0, [])).2 ∧ (0 < (es.getD i (0, [])).2.length → Sep v Ai)
theorem EntsW.nil (B : Nat) (w : World) : EntsW B w (.slice none 0 0) [] := ⟨[], ⟨rfl, .inl ⟨rfl, rfl⟩⟩, fun i hi => by simp at hi⟩
theorem EntsW.below {B : Nat} {w w' : World} {v : Value} {es : List Ent} (h : EntsW B w v es) (hb : Below w.heap.size w w') : EntsW B w' v es := by
  obtain ⟨cs, h1, h2⟩ := h
  refine ⟨cs, ownsRow_below h1 hb, fun i hi => ?_⟩
  obtain ⟨Ai, ci, a, b, c, d, e⟩ := h2 i hi
  exact ⟨Ai, ci, a, b, c, d.below hb, e⟩
theorem EntsW.mono {B B' : Nat} {w : World} {v : Value} {es : List Ent} (h : EntsW B w v es) (hB : B' ≤ B) : EntsW B' w v es := by
  obtain ⟨cs, h1, h2⟩ := h
  refine ⟨cs, ⟨h1.1, ?_⟩, h2⟩
  rcases h1.2 with hn | ⟨g, cap, cur, rfl, hbg, rest⟩
  · exact .inl hn
  · exact .inr ⟨g, cap, cur, rfl, by omega, rest⟩
theorem EntsW.under {B : Nat} {w : World} {v : Value} {es : List Ent} (h : EntsW B w v es) : ∀ k, v.ownBlock = some k → k < w.heap.size := by
  obtain ⟨cs, h1, _⟩ := h
  intro k hk
  rcases h1.2 with ⟨rfl, _⟩ | ⟨g, cap, cur, rfl, hbg, hgg, _⟩
  · simp [Value.ownBlock] at hk
  · simp [Value.ownBlock] at hk
    subst hk
    exact (Array.getElem?_eq_some_iff.1 hgg).1
theorem EntsW.ents {B : Nat} {w : World} {v : Value} {es : List Ent} (h : EntsW B w v es) : ∃ A c, v = .slice A es.length c ∧ es.length ≤ c ∧ EntsAt w A es := by
  obtain ⟨cs, h1, h2⟩ := h
  rcases h1.2 with ⟨rfl, hn⟩ | ⟨g, cap, cur, rfl, hb, hg, hnc, hcm, hcs, htake⟩
  · refine ⟨none, 0, by rw [hn], by omega, fun k hk => by omega⟩
  · have hlt : g < w.heap.size := (Array.getElem?_eq_some_iff.1 hg).1
    refine ⟨_, cap, rfl, hnc, fun k hk => ⟨g, 0, rfl, hlt, ?_⟩⟩
    obtain ⟨Ai, ci, a, b, c, d, _⟩ := h2 k hk
    refine ⟨Ai, ci, a, ?_, ?_, d⟩
    · rw [Nat.zero_add, World.ownsRow.cellAt h1 (k * 2) (by omega)]; exact b
    · rw [Nat.zero_add, World.ownsRow.cellAt h1 (k * 2 + 1) (by omega)]; exact c
theorem egetD_snoc (es : List Ent) (e : Ent) (i : Nat) (hi : i < es.length) : (es ++ [e]).getD i (0, []) = es.getD i (0, []) := by
  rw [List.getD_eq_getElem?_getD, List.getD_eq_getElem?_getD, List.getElem?_append_left hi]
theorem egetD_last (es : List Ent) (e : Ent) : (es ++ [e]).getD es.length (0, []) = e := by
  rw [List.getD_eq_getElem?_getD, List.getElem?_append_right (Nat.le_refl _), Nat.sub_self]; rfl
theorem append_ent {w : World} {ops : Array Oper} {rest : List Oper} {o : Oper} {a : Act} {Q : Exit → Act → World → Prop} (hgd : o.guard = none) (s x : Operand)
    (hop : o.op = Op.call { callee := Callee.builtin Builtin.append, args := #[s, x], argTypes := #[26, 26] })
    (B : Nat) (v : Value) (es : List Ent) (k : Int) (A1 : Option Addr) (c1 : Nat) (xs1 : List Int) (hs : a.eval s = v) (hown : EntsW B w v es) (g : Nat) (hx : a.eval x = .slice (some ⟨g, 0, none⟩) 1 1)
    (hc0 : w.cell? ⟨g, 0, none⟩ = some (.int .i64 k)) (hc1 : w.cell? ⟨g, 1, none⟩ = some (.slice A1 xs1.length c1)) (hI : IntsAt w A1 xs1) (hlc : xs1.length ≤ c1) (hsep : 0 < xs1.length → Sep v A1) (hl : es.length ≤ 1048576) (hB : B ≤ w.heap.size)
    (h : ∀ v' w', EntsW B w' v' (es ++ [(k, xs1)]) → w.grownBy w' v.ownBlock → Below B w w' → wpList Try.prog ops Q rest (a.put o.dst v') w') : wpList Try.prog ops Q (o :: rest) a w := by
  obtain ⟨i0, hi, hz0, hz1, hz2⟩ := info_parts entInfo
  obtain ⟨cs, ho, hE⟩ := hown
  have hcl : cs.length = es.length * 2 := ho.1
  refine wpList_append_own_at _ hgd s x 26 hop B 32 i0 _ 2 32 Try.underlying26 hi hz0 hz1 hz2 rfl (by decide) v es.length cs hs ho ⟨g, 0, none⟩ 1 1 [.int .i64 k, .slice A1 xs1.length c1] hx rfl ?_ ?_ ?_ ?_ hB ?_
  · intro j u hj
    match j, hj with
    | 0, hj => simp at hj; subst hj; simpa [Addr.add] using hc0
    | 1, hj => simp at hj; subst hj; simpa [Addr.add] using hc1
  · intro u hu
    simp at hu
    rcases hu with rfl | rfl <;> rfl
  · unfold maxLen; omega
  · omega
  · intro v' w' hown' hgrow _ hat
    refine h v' w' ⟨cs ++ [.int .i64 k, .slice A1 xs1.length c1], by simpa using hown', fun i hi => ?_⟩ hgrow ((Below.refl _ _).grown hgrow hB (fun k hk => (World.ownsRow.lt ho k hk).1))
    have keep : ∀ (Ai : Option Addr) (ys : List Int), IntsAt w Ai ys → (0 < ys.length → Sep v Ai) → IntsAt w' Ai ys := by
      intro Ai ys hY hS
      rcases Nat.eq_zero_or_pos ys.length with h0 | h0
      · intro j hj; omega
      · exact hY.sep hgrow (hS h0)
    have sepn : ∀ (Ai : Option Addr) (ys : List Int), IntsAt w Ai ys → 0 < ys.length → Sep v Ai → Sep v' Ai := by
      intro Ai ys hY hp hS h b off f1 e2 e3
      rcases hat with h4 | h4
      · exact hS h b off (h4 ▸ f1) e2 e3
      · obtain ⟨b', off', e', hb', _⟩ := hY 0 hp
        rw [e2] at e'
        have e5 : b = b' := by have := Option.some.inj e'; simpa using congrArg Addr.block this
        rw [h4] at f1
        have e6 : w.heap.size = h := by simpa using f1
        omega
    rcases Nat.lt_or_ge i es.length with h1 | h1
    · rw [egetD_snoc _ _ _ h1]
      obtain ⟨Ai, ci, e1, e2, e3, e4, e5⟩ := hE i h1
      exact ⟨Ai, ci, e1, by rw [List.getElem?_append_left (by omega)]; exact e2, by rw [List.getElem?_append_left (by omega)]; exact e3, keep Ai _ e4 e5, fun hp => sepn Ai _ e4 hp (e5 hp)⟩
    · have hie : i = es.length := by simp at hi; omega
      subst hie
      rw [egetD_last]
      refine ⟨A1, c1, hlc, ?_, ?_, keep A1 _ hI hsep, fun hp => sepn A1 _ hI hp (hsep hp)⟩
      · rw [List.getElem?_append_right (by omega), hcl, Nat.sub_self]; rfl
      · rw [List.getElem?_append_right (by omega), hcl, show es.length * 2 + 1 - es.length * 2 = 1 from by omega]; rfl
end Go.Proofs.Ytejacbgogcjbnaa
