/- A list appended, at a step of a region that draws its order. No conditions. Slices of lists whose rows are blocks of the call's own. No conditions. -/
import Derived.Test.YtfhdnanbhigpmaaSt
namespace Go.Proofs.Ytfhdnanbhigpmaa
section
open Go.RowKit

/-- One list more. -/
theorem wp_append_gr {w : World} {o : Oper} {a : Act} {K : Act → World → Prop} {Q : Exit → Act → World → Prop} (s x : Operand)
    (hop : o.op = Op.call { callee := Callee.builtin Builtin.append, args := #[s, x], argTypes := #[27, 27] })
    (lo : Nat) (zs : Nat → Prop) (v : Value) (ls : List (List Int)) (ys : List Int) (Ay : Option Addr) (cy : Nat) (hs : a.eval s = v) (hown : GrAt lo zs w v ls) (hz : ∀ b, zs b → b < w.heap.size) (g : Nat) (hx : a.eval x = .slice (some ⟨g, 0, none⟩) 1 1)
    (hcell : w.cell? ⟨g, 0, none⟩ = some (.slice Ay ys.length cy)) (hcy : ys.length ≤ cy) (hy : IntsAt w Ay ys) (hyz : 0 < ys.length → ∀ g off s, Ay = some ⟨g, off, s⟩ → ¬ zs g ∧ v.ownBlock ≠ some g) (hl : ls.length ≤ 1048576) (hB : lo ≤ w.heap.size)
    (h : ∀ A' c' w', GrAt lo zs w' (.slice A' (ls.length + 1) c') (ls ++ [ys]) → w.grownBy w' v.ownBlock → ((Value.slice A' (ls.length + 1) c').ownBlock = v.ownBlock ∨ (Value.slice A' (ls.length + 1) c').ownBlock = some w.heap.size) → K (a.put o.dst (.slice A' (ls.length + 1) c')) w') : o.wp Try.prog a w K Q := by
  obtain ⟨i0, hi, hz0, hz1, hz2⟩ := info_parts listInfo
  have ho := hown.own
  obtain ⟨cs, h1, h2, h3⟩ := hown
  have hcl : cs.length = ls.length := by simpa using h1.1
  obtain ⟨v', w', hr, hown', hgrow, -, hat⟩ := run_append_own_at (P := Try.prog) w lo 27 o.type 31 i0 (.slice none 0 0) 1 24 Try.underlying27 hi hz0 hz1 hz2 rfl (by decide) v ls.length cs h1 ⟨g, 0, none⟩ 1 1 [.slice Ay ys.length cy] rfl
    (by intro j u2 hj; match j, hj with
        | 0, hj => simp at hj; subst hj; simpa [Addr.add] using hcell)
    (by intro u2 hu2; simp at hu2; subst hu2; rfl) (by unfold maxLen; omega) (by omega) hB
  obtain ⟨A', c', hv'⟩ : ∃ A' c', v' = .slice A' (ls.length + 1) c' := by
    rcases hown'.2 with ⟨e, h⟩ | ⟨g, cap, cur, rfl, _⟩
    · omega
    · exact ⟨_, _, rfl⟩
  subst hv'
  unfold Oper.wp execOp
  simp only [hop, resolve, invoke, builtin, Sem.run_bind, Sem.run_pure, Result.andThen_ok, List.map_toArray, List.map_cons, List.map_nil, hs, hx, hr]
  refine h A' c' w' ⟨cs ++ [.slice Ay ys.length cy], by simpa using hown', fun b hb e => ?_, fun j hj => ?_⟩ hgrow hat
  · rcases hat with e2 | e2
    · exact h2 b (e2 ▸ hb) e
    · rw [e2] at hb
      injection hb with hb
      have := hz b e
      omega
  · have hnew : ∀ g2, g2 < w.heap.size → v.ownBlock ≠ some g2 → (Value.slice A' (ls.length + 1) c').ownBlock ≠ some g2 := fun g2 hg2 hne e => by
      rcases hat with e2 | e2
      · exact hne (e2 ▸ e)
      · rw [e2] at e
        injection e with e
        omega
    rw [List.length_append, List.length_singleton] at hj
    by_cases e : j = ls.length
    · subst e
      refine ⟨Ay, cy, ?_, ?_, ?_, ?_⟩
      · rw [List.getElem?_append_right (by omega), hcl, Nat.sub_self, getDlastI]
        rfl
      · rw [getDlastI]; exact hcy
      · rw [getDlastI]; exact hy.kept hgrow (fun hl2 g2 off s2 e2 => (hyz hl2 g2 off s2 e2).2)
      · rw [getDlastI]
        exact fun hl2 g2 off s2 e2 => ⟨(hyz hl2 g2 off s2 e2).1, hnew g2 (hy.first hl2 e2) (hyz hl2 g2 off s2 e2).2⟩
    · obtain ⟨Aj, cj, g1, g2, g3, g4⟩ := h3 j (by omega)
      refine ⟨Aj, cj, ?_, ?_, ?_, ?_⟩
      · rw [List.getElem?_append_left (by omega), getDsnocI _ _ _ (by omega)]
        exact g1
      · rw [getDsnocI _ _ _ (by omega)]; exact g2
      · rw [getDsnocI _ _ _ (by omega)]; exact g3.kept hgrow (fun hl2 g5 off s2 e2 => (g4 hl2 g5 off s2 e2).2)
      · rw [getDsnocI _ _ _ (by omega)]
        exact fun hl2 g5 off s2 e2 => ⟨(g4 hl2 g5 off s2 e2).1, hnew g5 (g3.first hl2 e2) (g4 hl2 g5 off s2 e2).2⟩
theorem step_append_gr {w : World} {ops : Array Oper} {o : Oper} {a : Act} {K : Act → World → Prop} {Q : Exit → Act → World → Prop} {E : Prop} (hgd : o.guard = none) (s x : Operand)
    (hop : o.op = Op.call { callee := Callee.builtin Builtin.append, args := #[s, x], argTypes := #[27, 27] })
    (lo : Nat) (zs : Nat → Prop) (v : Value) (ls : List (List Int)) (ys : List Int) (Ay : Option Addr) (cy : Nat) (hs : a.eval s = v) (hown : GrAt lo zs w v ls) (hz : ∀ b, zs b → b < w.heap.size) (g : Nat) (hx : a.eval x = .slice (some ⟨g, 0, none⟩) 1 1)
    (hcell : w.cell? ⟨g, 0, none⟩ = some (.slice Ay ys.length cy)) (hcy : ys.length ≤ cy) (hy : IntsAt w Ay ys) (hyz : 0 < ys.length → ∀ g off s, Ay = some ⟨g, off, s⟩ → ¬ zs g ∧ v.ownBlock ≠ some g) (hl : ls.length ≤ 1048576) (hB : lo ≤ w.heap.size)
    (h : ∀ A' c' w', GrAt lo zs w' (.slice A' (ls.length + 1) c') (ls ++ [ys]) → w.grownBy w' v.ownBlock → ((Value.slice A' (ls.length + 1) c').ownBlock = v.ownBlock ∨ (Value.slice A' (ls.length + 1) c').ownBlock = some w.heap.size) → K (a.put o.dst (.slice A' (ls.length + 1) c')) w') :
    if Region.wanted o (yielded ops a.tmps) = true then Oper.wp Try.prog o a w K Q else E := by
  have hw : Region.wanted o (yielded ops a.tmps) = true := by simp [Region.wanted, hgd]
  rw [if_pos hw]
  exact wp_append_gr s x hop lo zs v ls ys Ay cy hs hown hz g hx hcell hcy hy hyz hl hB h
end
section
open Go.RowKit

/-- Each list that holds anything lies in a block of the call's own. -/
def RowF (lo : Nat) (w : World) (v : Value) (ls : List (List Int)) : Prop :=
  ∀ A n c, v = .slice A n c → ∀ j, j < ls.length → 0 < (ls.getD j []).length → ∃ g Aj cj, A = some ⟨g, 0, none⟩ ∧ w.cell? ⟨g, j, none⟩ = some (.slice Aj (ls.getD j []).length cj) ∧ Fresh lo w (.slice Aj (ls.getD j []).length cj) (ls.getD j [])
theorem RowF.nil (lo : Nat) (w : World) (v : Value) : RowF lo w v [] := fun A n c e j hj => by simp at hj
theorem own_some {A : Option Addr} {n c b : Nat} (h : (Value.slice A n c).ownBlock = some b) : ∃ off s, A = some ⟨b, off, s⟩ := by
  cases A with
  | none => cases h
  | some a =>
    obtain ⟨b', off, s⟩ := a
    injection h with h
    exact ⟨off, s, by rw [show b' = b from h]⟩
theorem RowF.kept {lo lo' : Nat} {zs : Nat → Prop} {w w' : World} {v : Value} {ls : List (List Int)} {row : Option Nat} (h : RowF lo w v ls) (hG : GrAt lo' zs w v ls) (hg : w.grownBy w' row) (hr : ∀ g, row = some g → zs g) : RowF lo w' v ls := by
  intro A n c e j hj hl
  obtain ⟨g, Aj, cj, e1, e2, hF⟩ := h A n c e j hj hl
  subst e e1
  have ho := hG.own g rfl
  obtain ⟨g', Aj', cj', k1, -, k3, -, -, k6⟩ := hG.at_ hj
  injection k1 with k1
  injection k1 with k1
  subst k1
  rw [e2] at k3
  injection k3 with k3
  injection k3 with k3
  subst k3
  refine ⟨g, Aj, cj, rfl, (World.cell?_of_block (a := ⟨g, j, none⟩) (hg.block g ho.2.1 (fun e => ho.2.2 (hr g e.symm)))).trans e2, hF.row hg (fun b hb e => ?_)⟩
  obtain ⟨off, s, e3⟩ := own_some hb
  exact k6 hl b off s e3 (hr b e)
theorem RowF.below {lo lo' : Nat} {zs : Nat → Prop} {w w' : World} {v : Value} {ls : List (List Int)} (h : RowF lo w v ls) (hG : GrAt lo' zs w v ls) (hb : Below w.heap.size w w') : RowF lo w' v ls := h.kept hG (gB hb none) (fun g e => by cases e)
theorem RowF.less {lo lo' : Nat} {w : World} {v : Value} {ls : List (List Int)} (h : RowF lo w v ls) (hl : lo' ≤ lo) : RowF lo' w v ls := fun A n c e j hj h0 => by
  obtain ⟨g, Aj, cj, e1, e2, hF⟩ := h A n c e j hj h0
  exact ⟨g, Aj, cj, e1, e2, hF.mono hl⟩
theorem RowF.one {lo g : Nat} {w : World} {A : Option Addr} {c n m : Nat} {x : List Int} (hc : w.cell? ⟨g, 0, none⟩ = some (.slice A x.length c)) (hx : Fresh lo w (.slice A x.length c) x) : RowF lo w (.slice (some ⟨g, 0, none⟩) n m) [x] := by
  intro A' n' c' e j hj hl
  obtain rfl : j = 0 := by simpa using hj
  injection e with e1
  exact ⟨g, A, c, e1.symm, hc, hx⟩
theorem RowF.at_ {lo g : Nat} {w : World} {A Aj : Option Addr} {n c cj j : Nat} {ls : List (List Int)} (h : RowF lo w (.slice A n c) ls) (hA : A = some ⟨g, 0, none⟩) (hc : w.cell? ⟨g, j, none⟩ = some (.slice Aj (ls.getD j []).length cj)) (hj : j < ls.length) (h0 : 0 < (ls.getD j []).length) : Fresh lo w (.slice Aj (ls.getD j []).length cj) (ls.getD j []) := by
  obtain ⟨g1, A1, c1, q1, q2, q3⟩ := h A n c rfl j hj h0
  subst hA
  injection q1 with q1
  injection q1 with q1
  subst q1
  rw [q2] at hc
  injection hc with hc
  injection hc with e1 e2 e3
  subst e1 e3
  exact q3
/-- One list more. -/
theorem append_grf {w : World} {ops : Array Oper} {rest : List Oper} {o : Oper} {a : Act} {Q : Exit → Act → World → Prop} (hgd : o.guard = none) (s x : Operand)
    (hop : o.op = Op.call { callee := Callee.builtin Builtin.append, args := #[s, x], argTypes := #[27, 27] })
    (lo : Nat) (zs : Nat → Prop) (v : Value) (ls : List (List Int)) (ys : List Int) (Ay : Option Addr) (cy : Nat) (hs : a.eval s = v) (hown : GrAt lo zs w v ls) (hrow : RowF lo w v ls) (hz : ∀ b, zs b → b < w.heap.size) (g : Nat) (hx : a.eval x = .slice (some ⟨g, 0, none⟩) 1 1)
    (hcell : w.cell? ⟨g, 0, none⟩ = some (.slice Ay ys.length cy)) (hcy : ys.length ≤ cy) (hy : IntsAt w Ay ys) (hyz : 0 < ys.length → ∀ g off s, Ay = some ⟨g, off, s⟩ → ¬ zs g ∧ v.ownBlock ≠ some g) (hyf : 0 < ys.length → Fresh lo w (.slice Ay ys.length cy) ys) (hl : ls.length ≤ 1048576) (hB : lo ≤ w.heap.size)
    (h : ∀ A' c' w', GrAt lo zs w' (.slice A' (ls.length + 1) c') (ls ++ [ys]) → RowF lo w' (.slice A' (ls.length + 1) c') (ls ++ [ys]) → w.grownBy w' v.ownBlock → ((Value.slice A' (ls.length + 1) c').ownBlock = v.ownBlock ∨ (Value.slice A' (ls.length + 1) c').ownBlock = some w.heap.size) → wpList Try.prog ops Q rest (a.put o.dst (.slice A' (ls.length + 1) c')) w') : wpList Try.prog ops Q (o :: rest) a w := by
  obtain ⟨i0, hi, hz0, hz1, hz2⟩ := info_parts listInfo
  have hG := hown
  have ho := hown.own
  obtain ⟨cs, h1, h2, h3⟩ := hown
  have hcl : cs.length = ls.length := by simpa using h1.1
  refine wpList_append_own_at _ hgd s x 27 hop lo 31 i0 (.slice none 0 0) 1 24 Try.underlying27 hi hz0 hz1 hz2 rfl (by decide) v ls.length cs hs h1 ⟨g, 0, none⟩ 1 1 [.slice Ay ys.length cy] hx rfl
    (by intro j u2 hj; match j, hj with
        | 0, hj => simp at hj; subst hj; simpa [Addr.add] using hcell)
    (by intro u2 hu2; simp at hu2; subst hu2; rfl) (by unfold maxLen; omega) (by omega) hB ?_
  intro v' w' hown' hgrow _ hat
  obtain ⟨A', c', hv'⟩ : ∃ A' c', v' = .slice A' (ls.length + 1) c' := by
    rcases hown'.2 with ⟨e, h⟩ | ⟨g, cap, cur, rfl, _⟩
    · omega
    · exact ⟨_, _, rfl⟩
  subst hv'
  have hnew : ∀ g2, g2 < w.heap.size → v.ownBlock ≠ some g2 → (Value.slice A' (ls.length + 1) c').ownBlock ≠ some g2 := fun g2 hg2 hne e => by
    rcases hat with e2 | e2
    · exact hne (e2 ▸ e)
    · rw [e2] at e
      injection e with e
      omega
  have hcells : ∀ j, j < ls.length + 1 → ∃ g', A' = some ⟨g', 0, none⟩ ∧ w'.cell? ⟨g', j, none⟩ = (cs ++ [.slice Ay ys.length cy])[j]? := fun j hj => by
    rcases hown'.2 with ⟨e, h⟩ | ⟨g', cap, cur, e, _, _, _, _⟩
    · omega
    · injection e with e1 e2 e3
      subst e1 e3
      exact ⟨g', rfl, World.ownsRow.cellAt hown' j (by simpa using hj)⟩
  refine h A' c' w' ⟨cs ++ [.slice Ay ys.length cy], by simpa using hown', fun b hb e => ?_, fun j hj => ?_⟩ (fun A2 n2 c2 e j hj h0 => ?_) hgrow hat
  · rcases hat with e2 | e2
    · exact h2 b (e2 ▸ hb) e
    · rw [e2] at hb
      injection hb with hb
      have := hz b e
      omega
  · rw [List.length_append, List.length_singleton] at hj
    by_cases e : j = ls.length
    · subst e
      refine ⟨Ay, cy, ?_, ?_, ?_, ?_⟩
      · rw [List.getElem?_append_right (by omega), hcl, Nat.sub_self, getDlastI]
        rfl
      · rw [getDlastI]; exact hcy
      · rw [getDlastI]; exact hy.kept hgrow (fun hl2 g2 off s2 e2 => (hyz hl2 g2 off s2 e2).2)
      · rw [getDlastI]
        exact fun hl2 g2 off s2 e2 => ⟨(hyz hl2 g2 off s2 e2).1, hnew g2 (hy.first hl2 e2) (hyz hl2 g2 off s2 e2).2⟩
    · obtain ⟨Aj, cj, g1, g2, g3, g4⟩ := h3 j (by omega)
      refine ⟨Aj, cj, ?_, ?_, ?_, ?_⟩
      · rw [List.getElem?_append_left (by omega), getDsnocI _ _ _ (by omega)]
        exact g1
      · rw [getDsnocI _ _ _ (by omega)]; exact g2
      · rw [getDsnocI _ _ _ (by omega)]; exact g3.kept hgrow (fun hl2 g5 off s2 e2 => (g4 hl2 g5 off s2 e2).2)
      · rw [getDsnocI _ _ _ (by omega)]
        exact fun hl2 g5 off s2 e2 => ⟨(g4 hl2 g5 off s2 e2).1, hnew g5 (g3.first hl2 e2) (g4 hl2 g5 off s2 e2).2⟩
  · rw [List.length_append, List.length_singleton] at hj
    injection e with e1
    subst e1
    obtain ⟨g', eg, hc'⟩ := hcells j hj
    by_cases e : j = ls.length
    · subst e
      rw [getDlastI] at h0 ⊢
      refine ⟨g', Ay, cy, eg, ?_, (hyf h0).row hgrow (fun b hb e => ?_)⟩
      · rw [hc', List.getElem?_append_right (by omega), hcl, Nat.sub_self]; rfl
      · obtain ⟨off, s2, e3⟩ := own_some hb
        exact (hyz h0 b off s2 e3).2 e
    · rw [getDsnocI _ _ _ (by omega)] at h0 ⊢
      obtain ⟨Aj, cj, g1, g2, g3, g4⟩ := h3 j (by omega)
      obtain ⟨A0, c0, hA, -⟩ := hG.shape
      subst hA
      obtain ⟨g0, Aj0, cj0, k1, k2, k3⟩ := hrow A0 ls.length c0 rfl j (by omega) h0
      subst k1
      have hcc : w.cell? ⟨g0, j, none⟩ = cs[j]? := World.ownsRow.cellAt h1 j (show j < ls.length * 1 by omega)
      rw [k2, g1] at hcc
      injection hcc with hcc
      injection hcc with q1 q2 q3
      subst q1 q3
      refine ⟨g', Aj0, cj0, eg, ?_, k3.row hgrow (fun b hb e => ?_)⟩
      · rw [hc', List.getElem?_append_left (by omega)]; exact g1
      · obtain ⟨off, s2, e3⟩ := own_some hb
        exact (g4 h0 b off s2 e3).2 e
end
end Go.Proofs.Ytfhdnanbhigpmaa
