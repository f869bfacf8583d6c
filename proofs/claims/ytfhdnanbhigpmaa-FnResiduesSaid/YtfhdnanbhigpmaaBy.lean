/- Bytes in memory: a slice of bytes of the call's own; appends of one or two bytes; the string of such a slice. No conditions. -/
import Derived.Test.YtfhdnanbhigpmaaMark
import Derived.Test.YtfhdnanbhigpmaaDice
import Derived.Laws.BytesArg
import Derived.Deep.RegionHeld3
import Derived.Deep.AppendLies
import Derived.Deep.DrawnRows
namespace Go.Proofs.Ytfhdnanbhigpmaa
open Go.RowKit

/-- v is a slice of bytes of the call's own (blocks from B on) that holds xs. -/
def BFresh (B : Nat) (w : World) (v : Value) (xs : List Int) : Prop := w.ownsRow B 5 1 v xs.length (xs.map (Value.int .u8))
theorem byteInfo : (Try.prog.info? 5).map (fun i => (i.zero, i.size, i.bytes)) = some (some (.int .u8 0), 1, 1) := by kernel_rfl
theorem BFresh.block {B : Nat} {w : World} {v : Value} {xs : List Int} (h : BFresh B w v xs) : ∀ k, v.ownBlock = some k → B ≤ k := fun k hk => (World.ownsRow.lt h k hk).1
theorem BFresh.nil (B : Nat) (w : World) : BFresh B w (.slice none 0 0) [] := World.ownsRow_nil _ _ _ _
theorem BFresh.empty {B : Nat} {w : World} (hB : B ≤ w.heap.size) : BFresh B (w.alloc (.cells #[] 5)) (.slice (some ⟨w.heap.size, 0, none⟩) 0 0) [] :=
  World.ownsRow_made w #[] 0 hB (by unfold maxLen; omega) (by simp)
theorem BFresh.below {B : Nat} {w w' : World} {v : Value} {xs : List Int} (h : BFresh B w v xs) (hb : Below w.heap.size w w') : BFresh B w' v xs := by
  refine ⟨h.1, ?_⟩
  rcases h.2 with hn | ⟨g, cap, cur, rfl, hbg, hgg, rest⟩
  · exact .inl hn
  · exact .inr ⟨g, cap, cur, rfl, hbg, by rw [hb.block g (Array.getElem?_eq_some_iff.1 hgg).1]; exact hgg, rest⟩
theorem BFresh.ad {B : Nat} {w : World} {v : Value} {xs : List Int} (h : BFresh B w v xs) (o : Obj) : BFresh B (w.alloc o).drew v xs := World.ownsRow.alloc h o
theorem BFresh.al {B : Nat} {w : World} {v : Value} {xs : List Int} (h : BFresh B w v xs) (o : Obj) : BFresh B (w.alloc o) v xs := World.ownsRow.alloc h o
theorem BFresh.drewN {B : Nat} {w : World} {v : Value} {xs : List Int} (h : BFresh B w v xs) (n : Nat) : BFresh B (w.drewN n) v xs := h
theorem BFresh.ints {B : Nat} {w : World} {v : Value} {xs : List Int} (h : BFresh B w v xs) :
    ∃ A c, v = .slice A xs.length c ∧ (∀ k, k < xs.length → ∃ g, A = some ⟨g, 0, none⟩ ∧ B ≤ g ∧ g < w.heap.size ∧ w.cell? ⟨g, k, none⟩ = some (.int .u8 (xs.getD k 0))) ∧ (A = none → xs = []) := by
  rcases h.2 with ⟨rfl, hn⟩ | ⟨g, cap, cur, rfl, hb, hg, hnc, hcm, hcs, htake⟩
  · refine ⟨none, 0, by rw [hn], fun k hk => by omega, fun _ => List.eq_nil_of_length_eq_zero hn⟩
  · have hlt : g < w.heap.size := (Array.getElem?_eq_some_iff.1 hg).1
    refine ⟨_, cap, rfl, fun k hk => ⟨g, rfl, hb, hlt, ?_⟩, fun h => by cases h⟩
    have := World.ownsRow.cellAt h k (by simpa using hk)
    rw [this]
    simp [List.getD_eq_getElem?_getD, List.getElem?_eq_getElem hk]
/-- string(b) of a slice of the call's own. -/
theorem BFresh.str {B : Nat} {w : World} {v : Value} {xs : List Int} (h : BFresh B w v xs) :
    (convert 22 9 v).run Try.prog w = .ok (.string (strOfNums xs)) w := by
  obtain ⟨A, c, rfl, hc, hn⟩ := h.ints
  cases A with
  | none =>
    rw [hn rfl, run_convert_bytes_nil w _ _ Try.underlying22 Try.underlying5 _ _ _ Try.underlying9]
    rfl
  | some ad =>
    by_cases hx : xs = []
    · subst hx
      obtain ⟨b, off, sp⟩ := ad
      rw [run_convert_bytes_string w _ _ _ _ _ _ Try.underlying22 Try.underlying5 Try.underlying9]
      have hl := run_loadCells_list (P := Try.prog) w ⟨b, off, sp⟩ [] (fun j v hj => by simp at hj)
      have := run_bytesToString (P := Try.prog) w ⟨b, off, sp⟩ 0 c [] (by simpa using hl)
      have e0 : strOfNums [] = ByteArray.empty := rfl
      rw [e0]
      simpa using this
    · have hpos : 0 < xs.length := List.length_pos_iff.2 hx
      obtain ⟨g, e, _, _, _⟩ := hc 0 hpos
      obtain rfl : ad = ⟨g, 0, none⟩ := Option.some.inj e
      refine run_convert_bytes_arg (P := Try.prog) w 22 5 Try.underlying22 Try.underlying5 g 0 xs.length c xs rfl (fun i hi => ?_) 9 Try.underlying9
      obtain ⟨g', e, _, _, h2⟩ := hc i hi
      have e2 : g = g' := by have := Option.some.inj e; simpa using this
      subst e2
      rw [Nat.zero_add]
      exact h2

theorem wp_append_by {w : World} {o : Oper} {a : Act} {K : Act → World → Prop} {Q : Exit → Act → World → Prop} (s x : Operand)
    (hop : o.op = Op.call { callee := Callee.builtin Builtin.append, args := #[s, x], argTypes := #[22, 22] })
    (B : Nat) (v : Value) (xs ys : List Int) (m : Nat) (hm : ys.length = m) (hs : a.eval s = v) (hown : BFresh B w v xs) (g : Nat) (hx : a.eval x = .slice (some ⟨g, 0, none⟩) m m)
    (hcell : ∀ j, j < m → w.cell? ⟨g, j, none⟩ = some (.int .u8 (ys.getD j 0))) (hl : xs.length ≤ 4194304) (hl2 : m ≤ 4194304) (hB : B ≤ w.heap.size)
    (h : ∀ v' w', BFresh B w' v' (xs ++ ys) → w.grownBy w' v.ownBlock → Below B w w' → K (a.put o.dst v') w') : o.wp Try.prog a w K Q := by
  obtain ⟨i0, hi, hz0, hz1, hz2⟩ := info_parts byteInfo
  subst hm
  refine wp_append_own _ s x 22 hop B 5 i0 (.int .u8 0) 1 1 Try.underlying22 hi hz0 hz1 hz2 rfl (by decide) v xs.length (xs.map (Value.int .u8)) hs hown ⟨g, 0, none⟩ ys.length ys.length (ys.map (Value.int .u8)) hx (by simp) ?_ ?_ ?_ ?_ hB ?_
  · intro j u hj
    have hjl : j < ys.length := by simpa using (List.getElem?_eq_some_iff.1 hj).1
    rw [Addr.add_lit, Nat.zero_add, hcell j hjl]
    rw [List.getElem?_map, List.getElem?_eq_getElem hjl] at hj
    rw [getD_at _ _ hjl]
    exact hj
  · intro u hu; simp at hu; obtain ⟨n, _, rfl⟩ := hu; rfl
  · unfold maxLen; omega
  · omega
  · intro v' w' hown' hgrow _
    refine h v' w' ?_ hgrow ((Below.refl _ _).grown hgrow hB hown.block)
    simpa [BFresh] using hown'
theorem step_append_by {w : World} {ops : Array Oper} {o : Oper} {a : Act} {K : Act → World → Prop} {Q : Exit → Act → World → Prop} {E : Prop} (hgd : o.guard = none) (s x : Operand)
    (hop : o.op = Op.call { callee := Callee.builtin Builtin.append, args := #[s, x], argTypes := #[22, 22] })
    (B : Nat) (v : Value) (xs ys : List Int) (m : Nat) (hm : ys.length = m) (hs : a.eval s = v) (hown : BFresh B w v xs) (g : Nat) (hx : a.eval x = .slice (some ⟨g, 0, none⟩) m m)
    (hcell : ∀ j, j < m → w.cell? ⟨g, j, none⟩ = some (.int .u8 (ys.getD j 0))) (hl : xs.length ≤ 4194304) (hl2 : m ≤ 4194304) (hB : B ≤ w.heap.size)
    (h : ∀ v' w', BFresh B w' v' (xs ++ ys) → w.grownBy w' v.ownBlock → Below B w w' → K (a.put o.dst v') w') :
    if Region.wanted o (yielded ops a.tmps) = true then Oper.wp Try.prog o a w K Q else E := by
  have hw : Region.wanted o (yielded ops a.tmps) = true := by simp [Region.wanted, hgd]
  rw [if_pos hw]
  exact wp_append_by s x hop B v xs ys m hm hs hown g hx hcell hl hl2 hB h
theorem cells_two {w : World} {g : Nat} {y z : Int} (h1 : w.cell? ⟨g, 0, none⟩ = some (.int .u8 y)) (h2 : w.cell? ⟨g, 1, none⟩ = some (.int .u8 z)) :
    ∀ j, j < 2 → w.cell? ⟨g, j, none⟩ = some (.int .u8 ([y, z].getD j 0)) := fun j hj => by
  match j, hj with
  | 0, _ => exact h1
  | 1, _ => exact h2
theorem cells_one {w : World} {g : Nat} {y : Int} (h1 : w.cell? ⟨g, 0, none⟩ = some (.int .u8 y)) :
    ∀ j, j < 1 → w.cell? ⟨g, j, none⟩ = some (.int .u8 ([y].getD j 0)) := fun j hj => by
  match j, hj with
  | 0, _ => exact h1
theorem append_by {w : World} {ops : Array Oper} {rest : List Oper} {o : Oper} {a : Act} {Q : Exit → Act → World → Prop} (hgd : o.guard = none) (s x : Operand)
    (hop : o.op = Op.call { callee := Callee.builtin Builtin.append, args := #[s, x], argTypes := #[22, 22] })
    (B : Nat) (v : Value) (xs ys : List Int) (m : Nat) (hm : ys.length = m) (hs : a.eval s = v) (hown : BFresh B w v xs) (g : Nat) (hx : a.eval x = .slice (some ⟨g, 0, none⟩) m m)
    (hcell : ∀ j, j < m → w.cell? ⟨g, j, none⟩ = some (.int .u8 (ys.getD j 0))) (hl : xs.length ≤ 4194304) (hl2 : m ≤ 4194304) (hB : B ≤ w.heap.size)
    (h : ∀ v' w', BFresh B w' v' (xs ++ ys) → w.grownBy w' v.ownBlock → Below B w w' → wpList Try.prog ops Q rest (a.put o.dst v') w') : wpList Try.prog ops Q (o :: rest) a w := by
  refine wpList_plain hgd fun K hK => ?_
  exact wp_append_by s x hop B v xs ys m hm hs hown g hx hcell hl hl2 hB fun v' w' h1 h2 h3 => hK _ _ (h v' w' h1 h2 h3)
theorem append_by1 {w : World} {ops : Array Oper} {rest : List Oper} {o : Oper} {a : Act} {Q : Exit → Act → World → Prop} (hgd : o.guard = none) (s x : Operand)
    (hop : o.op = Op.call { callee := Callee.builtin Builtin.append, args := #[s, x], argTypes := #[22, 22] })
    (B : Nat) (v : Value) (xs : List Int) (y : Int) (hs : a.eval s = v) (hown : BFresh B w v xs) (g : Nat) (hx : a.eval x = .slice (some ⟨g, 0, none⟩) 1 1)
    (hcell : w.cell? ⟨g, 0, none⟩ = some (.int .u8 y)) (hl : xs.length ≤ 4194304) (hB : B ≤ w.heap.size)
    (h : ∀ v' w', BFresh B w' v' (xs ++ [y]) → w.grownBy w' v.ownBlock → Below B w w' → wpList Try.prog ops Q rest (a.put o.dst v') w') : wpList Try.prog ops Q (o :: rest) a w :=
  append_by hgd s x hop B v xs [y] 1 rfl hs hown g hx (fun j hj => by obtain rfl : j = 0 := (by omega); exact hcell) hl (by omega) hB h
theorem append_by2 {w : World} {ops : Array Oper} {rest : List Oper} {o : Oper} {a : Act} {Q : Exit → Act → World → Prop} (hgd : o.guard = none) (s x : Operand)
    (hop : o.op = Op.call { callee := Callee.builtin Builtin.append, args := #[s, x], argTypes := #[22, 22] })
    (B : Nat) (v : Value) (xs : List Int) (y z : Int) (hs : a.eval s = v) (hown : BFresh B w v xs) (g : Nat) (hx : a.eval x = .slice (some ⟨g, 0, none⟩) 2 2)
    (hcell : w.cell? ⟨g, 0, none⟩ = some (.int .u8 y)) (hcell2 : w.cell? ⟨g, 1, none⟩ = some (.int .u8 z)) (hl : xs.length ≤ 4194304) (hB : B ≤ w.heap.size)
    (h : ∀ v' w', BFresh B w' v' (xs ++ [y, z]) → w.grownBy w' v.ownBlock → Below B w w' → wpList Try.prog ops Q rest (a.put o.dst v') w') : wpList Try.prog ops Q (o :: rest) a w :=
  append_by hgd s x hop B v xs [y, z] 2 rfl hs hown g hx (fun j hj => by
    match j, hj with
    | 0, _ => exact hcell
    | 1, _ => exact hcell2) hl (by omega) hB h
end Go.Proofs.Ytfhdnanbhigpmaa
