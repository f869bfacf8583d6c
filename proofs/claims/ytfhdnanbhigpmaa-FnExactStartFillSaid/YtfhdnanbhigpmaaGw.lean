/- A list appended, at a step of a region that draws its order. No conditions. -/
import Derived.Test.YtfhdnanbhigpmaaSt
namespace Go.Proofs.Ytfhdnanbhigpmaa
open Go.RowKit

/-- One list more. -/
theorem wp_append_gr {w : World} {o : Oper} {a : Act} {K : Act → World → Prop} {Q : Exit → Act → World → Prop} (s x : Operand)
    (hop : o.op = Op.call { callee := Callee.builtin Builtin.append, args := #[s, x], argTypes := #[27, 27] })
    (lo : Nat) (zs : Nat → Prop) (v : Value) (ls : List (List Int)) (ys : List Int) (Ay : Option Addr) (cy : Nat) (hs : a.eval s = v) (hown : GrAt lo zs w v ls) (hz : ∀ b, zs b → b < w.heap.size) (g : Nat) (hx : a.eval x = .slice (some ⟨g, 0, none⟩) 1 1)
    (hcell : w.cell? ⟨g, 0, none⟩ = some (.slice Ay ys.length cy)) (hcy : ys.length ≤ cy) (hy : IntsAt w Ay ys) (hyz : 0 < ys.length → ∀ g off s, Ay = some ⟨g, off, s⟩ → ¬ zs g ∧ v.ownBlock ≠ some g) (hl : ls.length ≤ 1048576) (hB : lo ≤ w.heap.size)
    (h : ∀ A' c' w', GrAt lo zs w' (.slice A' (ls.length + 1) c') (ls ++ [ys]) → w.grownBy w' v.ownBlock → ((Value.slice A' (ls.length + 1) c').ownBlock = v.ownBlock ∨ (Value.slice A' (ls.length + 1) c').ownBlock = some w.heap.size) → K (a.put o.dst (.slice A' (ls.length + 1) c')) w') : o.wp Try.prog a w K Q := by
  obtain ⟨i0, hi, hz0, hz1, hz2⟩ := info_parts listInfo
  have ho := hown.own
  obtain ⟨cs, h1, h2, h3⟩ := hown
  have hcl : cs.length = ls.length := by simpa using h1.1
  obtain ⟨v', w', hr, hown', hgrow, -, hat⟩ := run_append_own_at (P := Try.prog) w lo 27 o.type 31 i0 (.slice none 0 0) 1 24 Try.underlying27 hi hz0 hz1 hz2 rfl (by decide) v ls.length cs h1 ⟨g, 0, none⟩ 1 1 [.slice Ay ys.length cy] rfl
    (by intro j u2 hj; match j, hj with
        | 0, hj => simp at hj; subst hj; simpa [Addr.add] using hcell)
    (by intro u2 hu2; simp at hu2; subst hu2; rfl) (by unfold maxLen; omega) (by omega) hB
  obtain ⟨A', c', hv'⟩ : ∃ A' c', v' = .slice A' (ls.length + 1) c' := by
    rcases hown'.2 with ⟨e, h⟩ | ⟨g, cap, cur, rfl, _⟩
    · omega
    · exact ⟨_, _, rfl⟩
  subst hv'
  unfold Oper.wp execOp
  simp only [hop, resolve, invoke, builtin, Sem.run_bind, Sem.run_pure, Result.andThen_ok, List.map_toArray, List.map_cons, List.map_nil, hs, hx, hr]
  refine h A' c' w' ⟨cs ++ [.slice Ay ys.length cy], by simpa using hown', fun b hb e => ?_, fun j hj => ?_⟩ hgrow hat
  · rcases hat with e2 | e2
    · exact h2 b (e2 ▸ hb) e
    · rw [e2] at hb
      injection hb with hb
      have := hz b e
      omega
  · have hnew : ∀ g2, g2 < w.heap.size → v.ownBlock ≠ some g2 → (Value.slice A' (ls.length + 1) c').ownBlock ≠ some g2 := fun g2 hg2 hne e => by
      rcases hat with e2 | e2
      · exact hne (e2 ▸ e)
      · rw [e2] at e
        injection e with e
        omega
    rw [List.length_append, List.length_singleton] at hj
    by_cases e : j = ls.length
    · subst e
      refine ⟨Ay, cy, ?_, ?_, ?_, ?_⟩
      · rw [List.getElem?_append_right (by omega), hcl, Nat.sub_self, getDlastI]
        rfl
      · rw [getDlastI]; exact hcy
      · rw [getDlastI]; exact hy.kept hgrow (fun hl2 g2 off s2 e2 => (hyz hl2 g2 off s2 e2).2)
      · rw [getDlastI]
        exact fun hl2 g2 off s2 e2 => ⟨(hyz hl2 g2 off s2 e2).1, hnew g2 (hy.first hl2 e2) (hyz hl2 g2 off s2 e2).2⟩
    · obtain ⟨Aj, cj, g1, g2, g3, g4⟩ := h3 j (by omega)
      refine ⟨Aj, cj, ?_, ?_, ?_, ?_⟩
      · rw [List.getElem?_append_left (by omega), getDsnocI _ _ _ (by omega)]
        exact g1
      · rw [getDsnocI _ _ _ (by omega)]; exact g2
      · rw [getDsnocI _ _ _ (by omega)]; exact g3.kept hgrow (fun hl2 g5 off s2 e2 => (g4 hl2 g5 off s2 e2).2)
      · rw [getDsnocI _ _ _ (by omega)]
        exact fun hl2 g5 off s2 e2 => ⟨(g4 hl2 g5 off s2 e2).1, hnew g5 (g3.first hl2 e2) (g4 hl2 g5 off s2 e2).2⟩
theorem step_append_gr {w : World} {ops : Array Oper} {o : Oper} {a : Act} {K : Act → World → Prop} {Q : Exit → Act → World → Prop} {E : Prop} (hgd : o.guard = none) (s x : Operand)
    (hop : o.op = Op.call { callee := Callee.builtin Builtin.append, args := #[s, x], argTypes := #[27, 27] })
    (lo : Nat) (zs : Nat → Prop) (v : Value) (ls : List (List Int)) (ys : List Int) (Ay : Option Addr) (cy : Nat) (hs : a.eval s = v) (hown : GrAt lo zs w v ls) (hz : ∀ b, zs b → b < w.heap.size) (g : Nat) (hx : a.eval x = .slice (some ⟨g, 0, none⟩) 1 1)
    (hcell : w.cell? ⟨g, 0, none⟩ = some (.slice Ay ys.length cy)) (hcy : ys.length ≤ cy) (hy : IntsAt w Ay ys) (hyz : 0 < ys.length → ∀ g off s, Ay = some ⟨g, off, s⟩ → ¬ zs g ∧ v.ownBlock ≠ some g) (hl : ls.length ≤ 1048576) (hB : lo ≤ w.heap.size)
    (h : ∀ A' c' w', GrAt lo zs w' (.slice A' (ls.length + 1) c') (ls ++ [ys]) → w.grownBy w' v.ownBlock → ((Value.slice A' (ls.length + 1) c').ownBlock = v.ownBlock ∨ (Value.slice A' (ls.length + 1) c').ownBlock = some w.heap.size) → K (a.put o.dst (.slice A' (ls.length + 1) c')) w') :
    if Region.wanted o (yielded ops a.tmps) = true then Oper.wp Try.prog o a w K Q else E := by
  have hw : Region.wanted o (yielded ops a.tmps) = true := by simp [Region.wanted, hgd]
  rw [if_pos hw]
  exact wp_append_gr s x hop lo zs v ls ys Ay cy hs hown hz g hx hcell hcy hy hyz hl hB h
end Go.Proofs.Ytfhdnanbhigpmaa
