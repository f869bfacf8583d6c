/- Slices of lists of the call's own whose rows may lie anywhere but in some blocks; grown by append. No conditions. -/
import Derived.Test.YtfhdnanbhigpmaaSn
import Derived.Test.YtfhdnanbhigpmaaBf
namespace Go.Proofs.Ytfhdnanbhigpmaa
open Go.RowKit

/-- The header lies in a block of the call's own; no row lies there or in a block of zs. -/
def GrAt (lo : Nat) (zs : Nat → Prop) (w : World) (v : Value) (ls : List (List Int)) : Prop :=
  ∃ cs : List Value, w.ownsRow lo 31 1 v ls.length cs ∧ (∀ b, v.ownBlock = some b → ¬ zs b) ∧
    ∀ j, j < ls.length → ∃ Aj cj, cs[j]? = some (.slice Aj (ls.getD j []).length cj) ∧ (ls.getD j []).length ≤ cj ∧ IntsAt w Aj (ls.getD j []) ∧ (0 < (ls.getD j []).length → ∀ g off s, Aj = some ⟨g, off, s⟩ → ¬ zs g ∧ v.ownBlock ≠ some g)
theorem IntsAt.first {w : World} {A : Option Addr} {xs : List Int} (h : IntsAt w A xs) (hl : 0 < xs.length) {g off : Nat} {s : Option Nat} (e : A = some ⟨g, off, s⟩) : g < w.heap.size := by
  obtain ⟨b, off2, e2, hb, -⟩ := h 0 hl
  rw [e] at e2
  injection e2 with e2
  injection e2 with e1
  omega
theorem IntsAt.kept {w w' : World} {A : Option Addr} {xs : List Int} {row : Option Nat} (h : IntsAt w A xs) (hg : w.grownBy w' row) (hr : 0 < xs.length → ∀ g off s, A = some ⟨g, off, s⟩ → row ≠ some g) : IntsAt w' A xs := by
  intro k hk
  obtain ⟨b, off, e, hb, hc⟩ := h k hk
  exact ⟨b, off, e, Nat.lt_of_lt_of_le hb hg.size, (World.cell?_of_block (a := ⟨b, off + k, none⟩) (hg.block b hb (fun e2 => hr (by omega) b off none e e2.symm))).trans hc⟩
theorem GrAt.nil (lo : Nat) (zs : Nat → Prop) (w : World) : GrAt lo zs w (.slice none 0 0) [] :=
  ⟨[], World.ownsRow_nil _ _ _ _, (fun b hb => by cases hb), (fun j hj => by simp at hj)⟩
theorem GrAt.own {lo : Nat} {zs : Nat → Prop} {w : World} {v : Value} {ls : List (List Int)} (h : GrAt lo zs w v ls) : ∀ b, v.ownBlock = some b → lo ≤ b ∧ b < w.heap.size ∧ ¬ zs b := by
  obtain ⟨cs, h1, h2, -⟩ := h
  exact fun b hb => ⟨(World.ownsRow.lt h1 b hb).1, (World.ownsRow.lt h1 b hb).2, h2 b hb⟩
theorem GrAt.kept {lo : Nat} {zs : Nat → Prop} {w w' : World} {v : Value} {ls : List (List Int)} {row : Option Nat} (h : GrAt lo zs w v ls) (hg : w.grownBy w' row) (hr : ∀ g, row = some g → zs g) : GrAt lo zs w' v ls := by
  obtain ⟨cs, h1, h2, h3⟩ := h
  refine ⟨cs, World.ownsRow.kept h1 hg ?_, h2, fun j hj => ?_⟩
  · cases hv : v.ownBlock with
    | none => exact .inl rfl
    | some b => exact .inr fun e => h2 b hv (hr b e.symm)
  · obtain ⟨Aj, cj, g1, g2, g3, g4⟩ := h3 j hj
    exact ⟨Aj, cj, g1, g2, g3.kept hg (fun hl g off s e e2 => (g4 hl g off s e).1 (hr g e2)), g4⟩
theorem GrAt.below {lo : Nat} {zs : Nat → Prop} {w w' : World} {v : Value} {ls : List (List Int)} (h : GrAt lo zs w v ls) (hb : Below w.heap.size w w') : GrAt lo zs w' v ls := h.kept (gB hb none) (fun g e => by cases e)
theorem GrAt.other {lo : Nat} {zs zs' : Nat → Prop} {w : World} {v : Value} {ls : List (List Int)} (h : GrAt lo zs w v ls) (hz : ∀ b, zs' b → zs b ∨ w.heap.size ≤ b) : GrAt lo zs' w v ls := by
  have ho := h.own
  obtain ⟨cs, h1, h2, h3⟩ := h
  refine ⟨cs, h1, fun b hb e => ?_, fun j hj => ?_⟩
  · have := ho b hb
    rcases hz b e with e2 | e2
    · exact h2 b hb e2
    · omega
  · obtain ⟨Aj, cj, g1, g2, g3, g4⟩ := h3 j hj
    refine ⟨Aj, cj, g1, g2, g3, fun hl g off s e => ⟨fun e2 => ?_, (g4 hl g off s e).2⟩⟩
    rcases hz g e2 with e3 | e3
    · exact (g4 hl g off s e).1 e3
    · have := g3.first hl e
      omega
theorem GrAt.shape {lo : Nat} {zs : Nat → Prop} {w : World} {v : Value} {ls : List (List Int)} (h : GrAt lo zs w v ls) : ∃ A c, v = .slice A ls.length c ∧ ls.length ≤ c ∧ (A = none ∨ ∃ g, A = some ⟨g, 0, none⟩) := by
  obtain ⟨cs, h1, -⟩ := h
  rcases h1.2 with ⟨rfl, h⟩ | ⟨g, cap, cur, rfl, _, _, h3, _⟩
  · exact ⟨none, 0, by rw [h], by omega, .inl rfl⟩
  · exact ⟨_, cap, rfl, h3, .inr ⟨g, rfl⟩⟩
/-- A row read. -/
theorem GrAt.at_ {lo : Nat} {zs : Nat → Prop} {w : World} {A : Option Addr} {n c : Nat} {ls : List (List Int)} (h : GrAt lo zs w (.slice A n c) ls) {j : Nat} (hj : j < ls.length) :
    ∃ g Aj cj, A = some ⟨g, 0, none⟩ ∧ g < w.heap.size ∧ w.cell? ⟨g, j, none⟩ = some (.slice Aj (ls.getD j []).length cj) ∧ (ls.getD j []).length ≤ cj ∧ IntsAt w Aj (ls.getD j []) ∧ (0 < (ls.getD j []).length → ∀ g2 off s, Aj = some ⟨g2, off, s⟩ → ¬ zs g2) := by
  have ho := h.own
  obtain ⟨cs, h1, h2, h3⟩ := h
  obtain ⟨Aj, cj, g1, g2, g3, g4⟩ := h3 j hj
  rcases h1.2 with ⟨e, h⟩ | ⟨g, cap, cur, e, _, _, _, _⟩
  · omega
  · injection e with e1 e2 e3
    subst e1 e2 e3
    refine ⟨g, Aj, cj, rfl, (ho g rfl).2.1, ?_, g2, g3, fun hl g2 off s e => (g4 hl g2 off s e).1⟩
    rw [World.ownsRow.cellAt h1 j (show j < ls.length * 1 by omega)]
    exact g1
theorem GrAt.lat {lo : Nat} {zs : Nat → Prop} {w : World} {A : Option Addr} {n c : Nat} {ls : List (List Int)} (h : GrAt lo zs w (.slice A n c) ls) : LAt w A ls := fun i hi => by
  obtain ⟨g, Aj, cj, e, h1, h2, h3, h4, -⟩ := h.at_ hi
  exact ⟨g, 0, Aj, cj, e, h1, h3, by rw [Nat.zero_add]; exact h2, h4⟩
/-- One list more. -/
theorem append_gr {w : World} {ops : Array Oper} {rest : List Oper} {o : Oper} {a : Act} {Q : Exit → Act → World → Prop} (hgd : o.guard = none) (s x : Operand)
    (hop : o.op = Op.call { callee := Callee.builtin Builtin.append, args := #[s, x], argTypes := #[27, 27] })
    (lo : Nat) (zs : Nat → Prop) (v : Value) (ls : List (List Int)) (ys : List Int) (Ay : Option Addr) (cy : Nat) (hs : a.eval s = v) (hown : GrAt lo zs w v ls) (hz : ∀ b, zs b → b < w.heap.size) (g : Nat) (hx : a.eval x = .slice (some ⟨g, 0, none⟩) 1 1)
    (hcell : w.cell? ⟨g, 0, none⟩ = some (.slice Ay ys.length cy)) (hcy : ys.length ≤ cy) (hy : IntsAt w Ay ys) (hyz : 0 < ys.length → ∀ g off s, Ay = some ⟨g, off, s⟩ → ¬ zs g ∧ v.ownBlock ≠ some g) (hl : ls.length ≤ 1048576) (hB : lo ≤ w.heap.size)
    (h : ∀ A' c' w', GrAt lo zs w' (.slice A' (ls.length + 1) c') (ls ++ [ys]) → w.grownBy w' v.ownBlock → ((Value.slice A' (ls.length + 1) c').ownBlock = v.ownBlock ∨ (Value.slice A' (ls.length + 1) c').ownBlock = some w.heap.size) → wpList Try.prog ops Q rest (a.put o.dst (.slice A' (ls.length + 1) c')) w') : wpList Try.prog ops Q (o :: rest) a w := by
  obtain ⟨i0, hi, hz0, hz1, hz2⟩ := info_parts listInfo
  have ho := hown.own
  obtain ⟨cs, h1, h2, h3⟩ := hown
  have hcl : cs.length = ls.length := by simpa using h1.1
  refine wpList_append_own_at _ hgd s x 27 hop lo 31 i0 (.slice none 0 0) 1 24 Try.underlying27 hi hz0 hz1 hz2 rfl (by decide) v ls.length cs hs h1 ⟨g, 0, none⟩ 1 1 [.slice Ay ys.length cy] hx rfl
    (by intro j u2 hj; match j, hj with
        | 0, hj => simp at hj; subst hj; simpa [Addr.add] using hcell)
    (by intro u2 hu2; simp at hu2; subst hu2; rfl) (by unfold maxLen; omega) (by omega) hB ?_
  intro v' w' hown' hgrow _ hat
  obtain ⟨A', c', hv'⟩ : ∃ A' c', v' = .slice A' (ls.length + 1) c' := by
    rcases hown'.2 with ⟨e, h⟩ | ⟨g, cap, cur, rfl, _⟩
    · omega
    · exact ⟨_, _, rfl⟩
  subst hv'
  refine h A' c' w' ⟨cs ++ [.slice Ay ys.length cy], by simpa using hown', fun b hb e => ?_, fun j hj => ?_⟩ hgrow hat
  · rcases hat with e2 | e2
    · exact h2 b (e2 ▸ hb) e
    · rw [e2] at hb
      injection hb with hb
      have := hz b e
      omega
  · have hnew : ∀ g2, g2 < w.heap.size → v.ownBlock ≠ some g2 → (Value.slice A' (ls.length + 1) c').ownBlock ≠ some g2 := fun g2 hg2 hne e => by
      rcases hat with e2 | e2
      · exact hne (e2 ▸ e)
      · rw [e2] at e
        injection e with e
        omega
    rw [List.length_append, List.length_singleton] at hj
    by_cases e : j = ls.length
    · subst e
      refine ⟨Ay, cy, ?_, ?_, ?_, ?_⟩
      · rw [List.getElem?_append_right (by omega), hcl, Nat.sub_self, getDlastI]
        rfl
      · rw [getDlastI]; exact hcy
      · rw [getDlastI]; exact hy.kept hgrow (fun hl2 g2 off s2 e2 => (hyz hl2 g2 off s2 e2).2)
      · rw [getDlastI]
        exact fun hl2 g2 off s2 e2 => ⟨(hyz hl2 g2 off s2 e2).1, hnew g2 (hy.first hl2 e2) (hyz hl2 g2 off s2 e2).2⟩
    · obtain ⟨Aj, cj, g1, g2, g3, g4⟩ := h3 j (by omega)
      refine ⟨Aj, cj, ?_, ?_, ?_, ?_⟩
      · rw [List.getElem?_append_left (by omega), getDsnocI _ _ _ (by omega)]
        exact g1
      · rw [getDsnocI _ _ _ (by omega)]; exact g2
      · rw [getDsnocI _ _ _ (by omega)]; exact g3.kept hgrow (fun hl2 g5 off s2 e2 => (g4 hl2 g5 off s2 e2).2)
      · rw [getDsnocI _ _ _ (by omega)]
        exact fun hl2 g5 off s2 e2 => ⟨(g4 hl2 g5 off s2 e2).1, hnew g5 (g3.first hl2 e2) (g4 hl2 g5 off s2 e2).2⟩
end Go.Proofs.Ytfhdnanbhigpmaa
