/- append of a list of numbers onto a list of the call's own; slices.Clone. Conditions: as each contract says. -/
import Derived.Test.YtfhdnanbhigpmaaMark
namespace Go.Proofs.Ytfhdnanbhigpmaa
open Go.RowKit

theorem run_append_nil {P : Program} (w : World) (base : Nat) (t ty e : TypeId) (i : TypeInfo) (size : Nat) (ht : P.underlying t = some (.slice e)) (hi : P.info? e = some i)
    (v : Value) (n : Nat) (xs : List Value) (hown : w.ownsRow base e size v n xs) (c : Nat) : (Builtin.append_ #[t, t] ty #[v, .slice none 0 c]).run P w = .ok v w := by
  rcases hown.2 with ⟨rfl, _⟩ | ⟨g, cap, cur, rfl, _, _, hnc, _⟩
  · simp [Builtin.append_, run_underlying ht, sizeOf, typeInfo, hi, Builtin.lenOf, Builtin.firstCells]
  · simp [Builtin.append_, run_underlying ht, sizeOf, typeInfo, hi, Builtin.lenOf, Builtin.firstCells, hnc, storeCells]

set_option maxRecDepth 100000 in
theorem append_ints {w : World} {ops : Array Oper} {rest : List Oper} {o : Oper} {a : Act} {Q : Exit → Act → World → Prop} (hgd : o.guard = none) (s x : Operand)
    (hop : o.op = Op.call { callee := Callee.builtin Builtin.append, args := #[s, x], argTypes := #[31, 31] })
    (B : Nat) (v : Value) (xs ys : List Int) (hs : a.eval s = v) (hown : Fresh B w v xs) (A : Option Addr) (m c : Nat) (hm : ys.length = m) (hx : a.eval x = .slice A m c)
    (hy : IntsAt w A ys) (hl : xs.length + m ≤ 1048576) (hB : B ≤ w.heap.size)
    (h : ∀ v' w', Fresh B w' v' (xs ++ ys) → w.grownBy w' v.ownBlock → Below B w w' → wpList Try.prog ops Q rest (a.put o.dst v') w') : wpList Try.prog ops Q (o :: rest) a w := by
  obtain ⟨i0, hi, hz0, hz1, hz2⟩ := info_parts intInfo
  subst hm
  cases A with
  | none =>
    have hys : ys = [] := by
      rcases Nat.eq_zero_or_pos ys.length with h0 | h0
      · exact List.eq_nil_of_length_eq_zero h0
      · obtain ⟨b, off, e, _⟩ := hy 0 h0
        cases e
    subst hys
    refine wpList_plain hgd fun K hK => ?_
    have hrun := run_append_nil w B 31 o.type 2 i0 1 Try.underlying31 hi v xs.length _ hown c
    unfold Oper.wp
    have hx' : a.eval x = .slice none 0 c := by simpa using hx
    simp [execOp, hop, resolve, invoke, builtin, hs, hx', hrun, Result.andThen]
    exact hK _ _ (h _ _ (by simpa using hown) (World.grownBy.refl _ _) (Below.refl _ _))
  | some ad =>
    refine wpList_append_own _ hgd s x 31 hop B 2 i0 (.int .i64 0) 1 8 Try.underlying31 hi hz0 hz1 hz2 rfl (by decide) v xs.length (xs.map (Value.int .i64)) hs hown ad ys.length c (ys.map (Value.int .i64)) hx (by simp) ?_ ?_ ?_ ?_ hB ?_
    · intro j u hj
      have hjl : j < ys.length := by simpa using (List.getElem?_eq_some_iff.1 hj).1
      obtain ⟨b, off, e, _, hc⟩ := hy j hjl
      injection e with e
      subst e
      rw [Addr.add_lit, hc]
      rw [List.getElem?_map, List.getElem?_eq_getElem hjl] at hj
      rw [getD_at _ _ hjl]
      exact hj
    · exact ints_oneCell _ _
    · unfold maxLen; omega
    · omega
    · intro v' w' hown' hgrow _
      refine h v' w' ?_ hgrow ((Below.refl _ _).grown hgrow hB hown.block)
      simpa [Fresh] using hown'

set_option maxHeartbeats 1000000 in
theorem cloneInts (A : Option Addr) (c : Nat) (xs : List Int) (w : World) (hx : IntsAt w A xs) (hl : xs.length ≤ 1048576) (hne : A ≠ none) :
    Calls Try.prog 85 #[.slice A xs.length c] w fun e w' => ∃ v, e = .returned v ∧ Fresh w.heap.size w' v xs ∧ Below w.heap.size w w' := by
  obtain ⟨ad, rfl⟩ : ∃ ad, A = some ad := by cases A with | none => exact absurd rfl hne | some ad => exact ⟨ad, rfl⟩
  have hq := fun wx : World => Lib.run_eql_slice_nil (P := Try.prog) wx 31 2 (some ad) xs.length c 0 0 Try.underlying31
  have hE : Fresh w.heap.size (w.alloc (.cells #[] 2)) (.slice (some ⟨w.heap.size, 0, none⟩) 0 0) [] := Fresh.empty (Nat.le_refl _)
  go_enter Try.func85, Try.ntmps85
  go_wp2_with (first | (at_builtin; refine append_ints rfl (.tmp 5) (.tmp 6) rfl w.heap.size _ [] xs rfl hE (some ad) xs.length c rfl rfl (by exact hx.below (by repeat (first | exact Below.refl _ _ | assumption | refine Below.setCell ?_ (by first | omega | (simp <;> omega)) _ | refine Below.alloc ?_ (by first | omega | (simp <;> omega)) _ | refine Below.drew ?_))) (by simpa using hl) (by simp) ?_; intro v1 w1 hF1 hg1 hb1))
  go_ret
  exact ⟨_, rfl, by simpa using hF1, ((Below.refl _ _).alloc (Nat.le_refl _) _).trans hb1⟩
end Go.Proofs.Ytfhdnanbhigpmaa
