/- Slices of lists of the call's own whose rows may lie anywhere but in some blocks; grown by append. No conditions. The letters of a puzzle and their moves, a list picked by another: impl. Conditions: as each contract says. The memory of a search over patterns. No conditions. -/
import Derived.Test.YtfhdnanbhigpmaaSn
import Derived.Test.YtfhdnanbhigpmaaBf
import Derived.Test.YtfhdnanbhigpmaaCo
import Derived.Test.YtfhdnanbhigpmaaApp
namespace Go.Proofs.Ytfhdnanbhigpmaa
section
open Go.RowKit

/-- The header lies in a block of the call's own; no row lies there or in a block of zs. -/
def GrAt (lo : Nat) (zs : Nat → Prop) (w : World) (v : Value) (ls : List (List Int)) : Prop :=
  ∃ cs : List Value, w.ownsRow lo 31 1 v ls.length cs ∧ (∀ b, v.ownBlock = some b → ¬ zs b) ∧
    ∀ j, j < ls.length → ∃ Aj cj, cs[j]? = some (.slice Aj (ls.getD j []).length cj) ∧ (ls.getD j []).length ≤ cj ∧ IntsAt w Aj (ls.getD j []) ∧ (0 < (ls.getD j []).length → ∀ g off s, Aj = some ⟨g, off, s⟩ → ¬ zs g ∧ v.ownBlock ≠ some g)
theorem IntsAt.first {w : World} {A : Option Addr} {xs : List Int} (h : IntsAt w A xs) (hl : 0 < xs.length) {g off : Nat} {s : Option Nat} (e : A = some ⟨g, off, s⟩) : g < w.heap.size := by
  obtain ⟨b, off2, e2, hb, -⟩ := h 0 hl
  rw [e] at e2
  injection e2 with e2
  injection e2 with e1
  omega
theorem IntsAt.kept {w w' : World} {A : Option Addr} {xs : List Int} {row : Option Nat} (h : IntsAt w A xs) (hg : w.grownBy w' row) (hr : 0 < xs.length → ∀ g off s, A = some ⟨g, off, s⟩ → row ≠ some g) : IntsAt w' A xs := by
  intro k hk
  obtain ⟨b, off, e, hb, hc⟩ := h k hk
  exact ⟨b, off, e, Nat.lt_of_lt_of_le hb hg.size, (World.cell?_of_block (a := ⟨b, off + k, none⟩) (hg.block b hb (fun e2 => hr (by omega) b off none e e2.symm))).trans hc⟩
theorem GrAt.nil (lo : Nat) (zs : Nat → Prop) (w : World) : GrAt lo zs w (.slice none 0 0) [] :=
  ⟨[], World.ownsRow_nil _ _ _ _, (fun b hb => by cases hb), (fun j hj => by simp at hj)⟩
theorem GrAt.own {lo : Nat} {zs : Nat → Prop} {w : World} {v : Value} {ls : List (List Int)} (h : GrAt lo zs w v ls) : ∀ b, v.ownBlock = some b → lo ≤ b ∧ b < w.heap.size ∧ ¬ zs b := by
  obtain ⟨cs, h1, h2, -⟩ := h
  exact fun b hb => ⟨(World.ownsRow.lt h1 b hb).1, (World.ownsRow.lt h1 b hb).2, h2 b hb⟩
theorem GrAt.kept {lo : Nat} {zs : Nat → Prop} {w w' : World} {v : Value} {ls : List (List Int)} {row : Option Nat} (h : GrAt lo zs w v ls) (hg : w.grownBy w' row) (hr : ∀ g, row = some g → zs g) : GrAt lo zs w' v ls := by
  obtain ⟨cs, h1, h2, h3⟩ := h
  refine ⟨cs, World.ownsRow.kept h1 hg ?_, h2, fun j hj => ?_⟩
  · cases hv : v.ownBlock with
    | none => exact .inl rfl
    | some b => exact .inr fun e => h2 b hv (hr b e.symm)
  · obtain ⟨Aj, cj, g1, g2, g3, g4⟩ := h3 j hj
    exact ⟨Aj, cj, g1, g2, g3.kept hg (fun hl g off s e e2 => (g4 hl g off s e).1 (hr g e2)), g4⟩
theorem GrAt.below {lo : Nat} {zs : Nat → Prop} {w w' : World} {v : Value} {ls : List (List Int)} (h : GrAt lo zs w v ls) (hb : Below w.heap.size w w') : GrAt lo zs w' v ls := h.kept (gB hb none) (fun g e => by cases e)
theorem GrAt.other {lo : Nat} {zs zs' : Nat → Prop} {w : World} {v : Value} {ls : List (List Int)} (h : GrAt lo zs w v ls) (hz : ∀ b, zs' b → zs b ∨ w.heap.size ≤ b) : GrAt lo zs' w v ls := by
  have ho := h.own
  obtain ⟨cs, h1, h2, h3⟩ := h
  refine ⟨cs, h1, fun b hb e => ?_, fun j hj => ?_⟩
  · have := ho b hb
    rcases hz b e with e2 | e2
    · exact h2 b hb e2
    · omega
  · obtain ⟨Aj, cj, g1, g2, g3, g4⟩ := h3 j hj
    refine ⟨Aj, cj, g1, g2, g3, fun hl g off s e => ⟨fun e2 => ?_, (g4 hl g off s e).2⟩⟩
    rcases hz g e2 with e3 | e3
    · exact (g4 hl g off s e).1 e3
    · have := g3.first hl e
      omega
theorem GrAt.shape {lo : Nat} {zs : Nat → Prop} {w : World} {v : Value} {ls : List (List Int)} (h : GrAt lo zs w v ls) : ∃ A c, v = .slice A ls.length c ∧ ls.length ≤ c ∧ (A = none ∨ ∃ g, A = some ⟨g, 0, none⟩) := by
  obtain ⟨cs, h1, -⟩ := h
  rcases h1.2 with ⟨rfl, h⟩ | ⟨g, cap, cur, rfl, _, _, h3, _⟩
  · exact ⟨none, 0, by rw [h], by omega, .inl rfl⟩
  · exact ⟨_, cap, rfl, h3, .inr ⟨g, rfl⟩⟩
/-- A row read. -/
theorem GrAt.at_ {lo : Nat} {zs : Nat → Prop} {w : World} {A : Option Addr} {n c : Nat} {ls : List (List Int)} (h : GrAt lo zs w (.slice A n c) ls) {j : Nat} (hj : j < ls.length) :
    ∃ g Aj cj, A = some ⟨g, 0, none⟩ ∧ g < w.heap.size ∧ w.cell? ⟨g, j, none⟩ = some (.slice Aj (ls.getD j []).length cj) ∧ (ls.getD j []).length ≤ cj ∧ IntsAt w Aj (ls.getD j []) ∧ (0 < (ls.getD j []).length → ∀ g2 off s, Aj = some ⟨g2, off, s⟩ → ¬ zs g2) := by
  have ho := h.own
  obtain ⟨cs, h1, h2, h3⟩ := h
  obtain ⟨Aj, cj, g1, g2, g3, g4⟩ := h3 j hj
  rcases h1.2 with ⟨e, h⟩ | ⟨g, cap, cur, e, _, _, _, _⟩
  · omega
  · injection e with e1 e2 e3
    subst e1 e2 e3
    refine ⟨g, Aj, cj, rfl, (ho g rfl).2.1, ?_, g2, g3, fun hl g2 off s e => (g4 hl g2 off s e).1⟩
    rw [World.ownsRow.cellAt h1 j (show j < ls.length * 1 by omega)]
    exact g1
theorem GrAt.lat {lo : Nat} {zs : Nat → Prop} {w : World} {A : Option Addr} {n c : Nat} {ls : List (List Int)} (h : GrAt lo zs w (.slice A n c) ls) : LAt w A ls := fun i hi => by
  obtain ⟨g, Aj, cj, e, h1, h2, h3, h4, -⟩ := h.at_ hi
  exact ⟨g, 0, Aj, cj, e, h1, h3, by rw [Nat.zero_add]; exact h2, h4⟩
/-- One list more. -/
theorem append_gr {w : World} {ops : Array Oper} {rest : List Oper} {o : Oper} {a : Act} {Q : Exit → Act → World → Prop} (hgd : o.guard = none) (s x : Operand)
    (hop : o.op = Op.call { callee := Callee.builtin Builtin.append, args := #[s, x], argTypes := #[27, 27] })
    (lo : Nat) (zs : Nat → Prop) (v : Value) (ls : List (List Int)) (ys : List Int) (Ay : Option Addr) (cy : Nat) (hs : a.eval s = v) (hown : GrAt lo zs w v ls) (hz : ∀ b, zs b → b < w.heap.size) (g : Nat) (hx : a.eval x = .slice (some ⟨g, 0, none⟩) 1 1)
    (hcell : w.cell? ⟨g, 0, none⟩ = some (.slice Ay ys.length cy)) (hcy : ys.length ≤ cy) (hy : IntsAt w Ay ys) (hyz : 0 < ys.length → ∀ g off s, Ay = some ⟨g, off, s⟩ → ¬ zs g ∧ v.ownBlock ≠ some g) (hl : ls.length ≤ 1048576) (hB : lo ≤ w.heap.size)
    (h : ∀ A' c' w', GrAt lo zs w' (.slice A' (ls.length + 1) c') (ls ++ [ys]) → w.grownBy w' v.ownBlock → ((Value.slice A' (ls.length + 1) c').ownBlock = v.ownBlock ∨ (Value.slice A' (ls.length + 1) c').ownBlock = some w.heap.size) → wpList Try.prog ops Q rest (a.put o.dst (.slice A' (ls.length + 1) c')) w') : wpList Try.prog ops Q (o :: rest) a w := by
  obtain ⟨i0, hi, hz0, hz1, hz2⟩ := info_parts listInfo
  have ho := hown.own
  obtain ⟨cs, h1, h2, h3⟩ := hown
  have hcl : cs.length = ls.length := by simpa using h1.1
  refine wpList_append_own_at _ hgd s x 27 hop lo 31 i0 (.slice none 0 0) 1 24 Try.underlying27 hi hz0 hz1 hz2 rfl (by decide) v ls.length cs hs h1 ⟨g, 0, none⟩ 1 1 [.slice Ay ys.length cy] hx rfl
    (by intro j u2 hj; match j, hj with
        | 0, hj => simp at hj; subst hj; simpa [Addr.add] using hcell)
    (by intro u2 hu2; simp at hu2; subst hu2; rfl) (by unfold maxLen; omega) (by omega) hB ?_
  intro v' w' hown' hgrow _ hat
  obtain ⟨A', c', hv'⟩ : ∃ A' c', v' = .slice A' (ls.length + 1) c' := by
    rcases hown'.2 with ⟨e, h⟩ | ⟨g, cap, cur, rfl, _⟩
    · omega
    · exact ⟨_, _, rfl⟩
  subst hv'
  refine h A' c' w' ⟨cs ++ [.slice Ay ys.length cy], by simpa using hown', fun b hb e => ?_, fun j hj => ?_⟩ hgrow hat
  · rcases hat with e2 | e2
    · exact h2 b (e2 ▸ hb) e
    · rw [e2] at hb
      injection hb with hb
      have := hz b e
      omega
  · have hnew : ∀ g2, g2 < w.heap.size → v.ownBlock ≠ some g2 → (Value.slice A' (ls.length + 1) c').ownBlock ≠ some g2 := fun g2 hg2 hne e => by
      rcases hat with e2 | e2
      · exact hne (e2 ▸ e)
      · rw [e2] at e
        injection e with e
        omega
    rw [List.length_append, List.length_singleton] at hj
    by_cases e : j = ls.length
    · subst e
      refine ⟨Ay, cy, ?_, ?_, ?_, ?_⟩
      · rw [List.getElem?_append_right (by omega), hcl, Nat.sub_self, getDlastI]
        rfl
      · rw [getDlastI]; exact hcy
      · rw [getDlastI]; exact hy.kept hgrow (fun hl2 g2 off s2 e2 => (hyz hl2 g2 off s2 e2).2)
      · rw [getDlastI]
        exact fun hl2 g2 off s2 e2 => ⟨(hyz hl2 g2 off s2 e2).1, hnew g2 (hy.first hl2 e2) (hyz hl2 g2 off s2 e2).2⟩
    · obtain ⟨Aj, cj, g1, g2, g3, g4⟩ := h3 j (by omega)
      refine ⟨Aj, cj, ?_, ?_, ?_, ?_⟩
      · rw [List.getElem?_append_left (by omega), getDsnocI _ _ _ (by omega)]
        exact g1
      · rw [getDsnocI _ _ _ (by omega)]; exact g2
      · rw [getDsnocI _ _ _ (by omega)]; exact g3.kept hgrow (fun hl2 g5 off s2 e2 => (g4 hl2 g5 off s2 e2).2)
      · rw [getDsnocI _ _ _ (by omega)]
        exact fun hl2 g5 off s2 e2 => ⟨(g4 hl2 g5 off s2 e2).1, hnew g5 (g3.first hl2 e2) (g4 hl2 g5 off s2 e2).2⟩
end
section
open Go.RowKit Grp

set_option maxHeartbeats 1000000 in
theorem implPicked (A A' : Option Addr) (c c' n L : Nat) (mv pat : List Int) (w : World) (hm : IntsAt w A mv) (hp : IntsAt w A' pat) (hmo : PtsOk n n mv) (hpo : PtsOk n L pat) (hL : L ≤ 1048576) :
    Calls Try.prog 88 #[.slice A n c, .slice A' L c'] w fun e w' => ∃ v, e = .returned v ∧ Fresh w.heap.size w' v (pickI mv pat) ∧ Below w.heap.size w w' := by
  obtain ⟨i0, hi, hz0, hz1, hz2⟩ := info_parts intInfo
  have HMO := Lib.hid hmo
  have HPO := Lib.hid hpo
  clear hmo hpo
  go_enter Try.func88, Try.ntmps88
  go_wp2_with (first | (at_make; refine wpList_make_full _ rfl _ _ 31 rfl w.heap.size 2 i0 (.int .i64 0) 1 Try.underlying31 hi hz0 hz1 _ _ _ _ L rfl rfl rfl rfl ?_ ?_ ?_ ?_))
  · rw [hz2]; omega
  · unfold maxLen; omega
  · simp
  intro w1 hown hgrow
  rw [made_ints] at hown
  have hB0 : Below w.heap.size w w1 := (Below.refl _ _).grown hgrow (Nat.le_refl _) (by simp)
  have hF0 : Filled w.heap.size w1 w.heap.size L (List.replicate L 0) := ⟨by simp, hown⟩
  clear hgrow hown
  go_wp2_with fail
  go_loopw [13] (fun i wr => ∃ (k : Nat) (ys : List Int), k ≤ L ∧ i = .int .i64 k ∧ Filled w.heap.size wr w.heap.size L ys ∧ Hid (∀ j, j < k → ys.getD j 0 = mv.getD (pat.getD j 0).toNat 0) ∧ Below w.heap.size w wr) (fun i _ => L - (intOf i).toNat)
  case atStart => exact ⟨0, _, Nat.zero_le _, rfl, hF0, fun j hj => by omega, hB0⟩
  case round =>
    obtain ⟨k, ys, hk, rfl, hF, HY, hB⟩ := hrel
    clear hF0 hB0
    by_cases hlt : k < L
    · have hx := HPO.out.2 k hlt
      obtain ⟨b, off, rfl, hb, hc⟩ := (hp.below hB) k (by rw [HPO.out.1]; exact hlt)
      obtain ⟨x, hxx⟩ : ∃ x : Nat, pat.getD k 0 = (x : Int) := ⟨(pat.getD k 0).toNat, by omega⟩
      rw [hxx] at hc hx
      obtain ⟨b', off', rfl, hb', hc'⟩ := (hm.below hB) x (by rw [HMO.out.1]; omega)
      obtain ⟨y, hyy⟩ : ∃ y : Int, mv.getD x 0 = y := ⟨_, rfl⟩
      rw [hyy] at hc'
      have hcell := hF.cell hlt
      have hfr := hF.2.frozenAt k
      have hF2 := hF.store k y
      have HF := Lib.hid hF2
      have HYN : Hid (∀ j, j < k + 1 → (ys.set k y).getD j 0 = mv.getD (pat.getD j 0).toNat 0) := by
        intro j hj
        rw [set_getD _ _ _ _ (by rw [hF.1]; exact hlt)]
        by_cases e : j = k
        · subst e; rw [if_pos rfl, hxx, ← hyy]; rfl
        · rw [if_neg e]; exact HY.out j (by omega)
      have p0 : (0 : Int) ≤ (k : Int) := by omega
      have p1 : (k : Int) < (L : Int) := by omega
      have p2 : (0 : Int) ≤ (x : Int) := by omega
      have p3 : (x : Int) < (n : Int) := by omega
      clear hxx hyy hF hF2 hx
      go_wp2_with fail
      go_roundw
      case rel => exact ⟨k + 1, _, by omega, by go_num, HF.out, HYN, hB.setCell (by simp) _⟩
      case measure => simp [intOf]; omega
    · obtain rfl : k = L := by omega
      have hlp := HPO.out.1
      have he : ys = pickI mv pat := List.ext_getElem (by unfold pickI; rw [hF.1, List.length_map, hlp]) fun i h1 h2 => by
        have e1 := HY.out i (by rw [hF.1] at h1; exact h1)
        rw [← pickI_at (by rw [hlp]; rw [hF.1] at h1; exact h1), getD_at _ _ h1, getD_at _ _ h2] at e1
        exact e1
      have HFR : Hid (Fresh w.heap.size wr (.slice (some ⟨w.heap.size, 0, none⟩) k k) (pickI mv pat)) := by
        unfold Hid Fresh
        rw [show (pickI mv pat).length = k from by unfold pickI; rw [List.length_map, hlp], ← he]
        exact hF.2
      clear he hF hlp
      go_wp2_with fail
      go_ret
      exact ⟨_, rfl, HFR.out, hB⟩
/-! Letters. -/
def letsOf : Nat → List Int
  | 0 => []
  | k + 1 => letsOf k ++ [((k + 1 : Nat) : Int), -((k + 1 : Nat) : Int)]
theorem letsOf_len (n : Nat) : (letsOf n).length = 2 * n := by
  induction n with
  | zero => rfl
  | succ n ih => simp only [letsOf, List.length_append, ih, List.length_cons, List.length_nil]; omega
theorem letsOf_even (n : Nat) : ∀ i, i < n → (letsOf n).getD (2 * i) 0 = ((i + 1 : Nat) : Int) := by
  induction n with
  | zero => intro i hi; omega
  | succ n ih =>
    intro i hi
    have hl := letsOf_len n
    unfold letsOf
    rw [List.getD_eq_getElem?_getD]
    by_cases e : i < n
    · rw [List.getElem?_append_left (by omega), ← List.getD_eq_getElem?_getD]; exact ih i e
    · obtain rfl : i = n := by omega
      rw [List.getElem?_append_right (by omega), show 2 * i - (letsOf i).length = 0 from by omega]; rfl
theorem letsOf_odd (n : Nat) : ∀ i, i < n → (letsOf n).getD (2 * i + 1) 0 = -((i + 1 : Nat) : Int) := by
  induction n with
  | zero => intro i hi; omega
  | succ n ih =>
    intro i hi
    have hl := letsOf_len n
    unfold letsOf
    rw [List.getD_eq_getElem?_getD]
    by_cases e : i < n
    · rw [List.getElem?_append_left (by omega), ← List.getD_eq_getElem?_getD]; exact ih i e
    · obtain rfl : i = n := by omega
      rw [List.getElem?_append_right (by omega), show 2 * i + 1 - (letsOf i).length = 1 from by omega]; rfl
/-- Two numbers more. -/
theorem append_two {w : World} {ops : Array Oper} {rest : List Oper} {o : Oper} {a : Act} {Q : Exit → Act → World → Prop} (hgd : o.guard = none) (s x : Operand)
    (hop : o.op = Op.call { callee := Callee.builtin Builtin.append, args := #[s, x], argTypes := #[31, 31] })
    (lo : Nat) (v : Value) (xs : List Int) (y z : Int) (hs : a.eval s = v) (hown : Fresh lo w v xs) (g : Nat) (hx : a.eval x = .slice (some ⟨g, 0, none⟩) 2 2)
    (hc0 : w.cell? ⟨g, 0, none⟩ = some (.int .i64 y)) (hc1 : w.cell? ⟨g, 1, none⟩ = some (.int .i64 z)) (hl : xs.length ≤ 1048576) (hB : lo ≤ w.heap.size)
    (h : ∀ v' w', Fresh lo w' v' (xs ++ [y, z]) → w.grownBy w' v.ownBlock → Below lo w w' → wpList Try.prog ops Q rest (a.put o.dst v') w') : wpList Try.prog ops Q (o :: rest) a w := by
  obtain ⟨i0, hi, hz0, hz1, hz2⟩ := info_parts intInfo
  refine wpList_append_own_at _ hgd s x 31 hop lo 2 i0 (.int .i64 0) 1 8 Try.underlying31 hi hz0 hz1 hz2 rfl (by decide) v xs.length (xs.map (Value.int .i64)) hs hown ⟨g, 0, none⟩ 2 2 [.int .i64 y, .int .i64 z] hx rfl
    (by intro j u2 hj; match j, hj with
        | 0, hj => simp at hj; subst hj; simpa [Addr.add] using hc0
        | 1, hj => simp at hj; subst hj; simpa [Addr.add] using hc1)
    (by intro u2 hu2; simp at hu2; rcases hu2 with rfl | rfl <;> rfl) (by unfold maxLen; omega) (by omega) hB ?_
  intro v' w' hown' hgrow _ _
  refine h v' w' ?_ hgrow ((Below.refl _ _).grown hgrow hB fun b hb => (World.ownsRow.lt hown b hb).1)
  unfold Fresh
  rw [List.map_append, List.length_append]
  exact hown'
set_option maxHeartbeats 1000000 in
theorem implLetters (n : Nat) (w : World) (hn : n ≤ 100000) :
    Calls Try.prog 87 #[.int .i64 n] w fun e w' => ∃ v, e = .returned v ∧ Fresh w.heap.size w' v (letsOf n) ∧ Below w.heap.size w w' := by
  have hE : Fresh w.heap.size w (.slice none 0 0) [] := World.ownsRow_nil _ _ _ _
  go_enter Try.func87, Try.ntmps87
  go_wp2_with fail
  go_loopw [3, 6] (fun v i wr => ∃ k : Nat, k ≤ n ∧ i = .int .i64 k ∧ Fresh w.heap.size wr v (letsOf k) ∧ Below w.heap.size w wr) (fun _ i _ => n - (intOf i).toNat)
  case atStart => exact ⟨0, Nat.zero_le _, rfl, hE, Below.refl _ _⟩
  case round =>
    obtain ⟨k, hk, rfl, hF, hB⟩ := hrel
    clear hE
    by_cases hlt : k < n
    · have p1 : (k : Int) < (n : Int) := by omega
      have hw1 : IntKind.i64.wrap ((k : Int) + 1) = ((k + 1 : Nat) : Int) := (IntWalk.i64_in _ (by omega)).trans (by omega)
      have hw2 : IntKind.i64.wrap (-((k + 1 : Nat) : Int)) = -((k + 1 : Nat) : Int) := IntWalk.i64_in _ (by omega)
      obtain ⟨xs, hxs⟩ : ∃ xs, letsOf k = xs := ⟨_, rfl⟩
      have hll := letsOf_len k
      rw [hxs] at hF hll
      have hl2 : xs.length ≤ 1048576 := by omega
      have hBz := hB.size
      have HX := Lib.hid hxs
      clear hxs hll
      go_wp2_with (first | (at_builtin; refine append_two rfl (.tmp 9) (.tmp 15) rfl w.heap.size _ xs ((k + 1 : Nat) : Int) (-((k + 1 : Nat) : Int)) rfl (hF.below (by repeat (first | exact Below.refl _ _ | assumption | refine Below.setCell ?_ (by first | omega | (simp <;> omega)) _ | refine Below.alloc ?_ (by first | omega | (simp <;> omega)) _ | refine Below.drew ?_))) wr.heap.size rfl (by simp) (by simp) hl2 (by simp; omega) ?_; intro v3 w3 hF3 hg3 hb3))
      have hB3 : Below w.heap.size w w3 := hB.trans (((Below.refl _ _).alloc hBz _).trans hb3)
      go_roundw
      case rel => exact ⟨k + 1, by omega, by go_num, by unfold letsOf; rw [HX.out]; exact hF3, hB3⟩
      case measure => simp [intOf]; omega
    · obtain rfl : k = n := by omega
      go_wp2_with fail
      go_ret
      exact ⟨_, rfl, hF, hB⟩
/-- The move of a letter: a row of the puzzle's, or one of the call's own. -/
def MovePost (w0 : World) (ys : List Int) (w : World) (e : Ending) (w' : World) : Prop :=
  ∃ Ay cy, e = .returned (.slice Ay ys.length cy) ∧ ys.length ≤ cy ∧ IntsAt w' Ay ys ∧ (0 < ys.length → ∀ g off s, Ay = some ⟨g, off, s⟩ → g < w0.heap.size ∨ w.heap.size ≤ g) ∧ Below w.heap.size w w'
set_option maxHeartbeats 1000000 in
theorem implLetterOf1 (A : Option Addr) (c : Nat) (ms : List (List Int)) (i : Nat) (w0 w : World) (hx : LAt w0 A ms) (hb0 : Below w0.heap.size w0 w) (hi : i < ms.length) (hl : ms.length ≤ 100000) :
    Calls Try.prog 89 #[.slice A ms.length c, .int .i64 ((i + 1 : Nat) : Int)] w (MovePost w0 (ms.getD i []) w) := by
  obtain ⟨b, off, Ai, ci, rfl, h1, h2, h3, h4⟩ := hx i hi
  have h3' := (hb0.cell (p := ⟨b, off + i, none⟩) h1).trans h3
  have p0 : (0 : Int) < ((i + 1 : Nat) : Int) := by omega
  have hw1 : IntKind.i64.wrap (((i + 1 : Nat) : Int) - 1) = (i : Int) := (IntWalk.i64_in _ (by omega)).trans (by omega)
  have p1 : (0 : Int) ≤ (i : Int) := by omega
  have p2 : (i : Int) < (ms.length : Int) := by omega
  have H4 := Lib.hid h4
  have HB := Lib.hid hb0
  obtain ⟨ys, hys⟩ : ∃ ys, ms.getD i [] = ys := ⟨_, rfl⟩
  rw [hys] at h2 h3 h3' H4 ⊢
  clear h4 hb0 hx hys h3
  go_enter Try.func89, Try.ntmps89
  go_wp2_with fail
  go_ret
  exact ⟨Ai, ci, rfl, h2, H4.out.below HB.out, fun hl g off s e => .inl (H4.out.first hl e), Below.refl _ _⟩
set_option maxHeartbeats 1000000 in
theorem implLetterOf2 (A : Option Addr) (c n : Nat) (ms : List (List Int)) (i : Nat) (w0 w : World) (hx : LAt w0 A ms) (hb0 : Below w0.heap.size w0 w) (hi : i < ms.length) (hl : ms.length ≤ 100000) (hm : MvsOk n ms) (hn : n ≤ 1048576) :
    Calls Try.prog 89 #[.slice A ms.length c, .int .i64 (-((i + 1 : Nat) : Int))] w (MovePost w0 (invI (ms.getD i [])) w) := by
  obtain ⟨b, off, Ai, ci, rfl, h1, h2, h3, h4⟩ := hx i hi
  obtain ⟨p, hp, hpe⟩ := hm i hi
  have h3' := (hb0.cell (p := ⟨b, off + i, none⟩) h1).trans h3
  have p0 : ¬ (0 : Int) < -((i + 1 : Nat) : Int) := by omega
  have hw0 : IntKind.i64.wrap (- -((i + 1 : Nat) : Int)) = ((i + 1 : Nat) : Int) := (IntWalk.i64_in _ (by omega)).trans (by omega)
  have hw1 : IntKind.i64.wrap (((i + 1 : Nat) : Int) - 1) = (i : Int) := (IntWalk.i64_in _ (by omega)).trans (by omega)
  have p1 : (0 : Int) ≤ (i : Int) := by omega
  have p2 : (i : Int) < (ms.length : Int) := by omega
  rw [hpe, natI_len, hp.len] at h3'
  rw [hpe] at h4 ⊢
  have e2 : invI (natI p) = natI (inv p) := by unfold invI; rw [natOf_natI]
  rw [e2]
  have H4 := Lib.hid (h4.below hb0)
  have HP := Lib.hid hp
  have HB := Lib.hid hb0
  clear h4 hb0 hx h3 hp hpe hm e2 h2
  go_enter Try.func89, Try.ntmps89
  go_wp2_with fail
  refine (implInverse Ai ci n p _ H4.out HP.out hn).mono ?_
  rintro e w2 ⟨v2, rfl, hF2, hb2⟩
  obtain ⟨A2, c2, hc2, rfl, -⟩ := hF2.capped
  have HF2 := Lib.hid hF2
  clear hF2
  go_wp2_with fail
  go_ret
  exact ⟨A2, c2, rfl, hc2, HF2.out.intsAt, fun hl g off s e => .inr (World.ownsRow.lt HF2.out g (by rw [e]; rfl)).1, hb2⟩
end
section
open Go.RowKit

def ZsOf (Z : Nat → Prop) (bm : Nat) (u v : Value) (b : Nat) : Prop := Z b ∨ b = bm ∨ u.ownBlock = some b ∨ v.ownBlock = some b
theorem Fresh.neMap {lo bm : Nat} {w : World} {v : Value} {xs : List Int} (h : Fresh lo w v xs) (hm : ∃ es c, w.heap[bm]? = some (.map es c)) : v.ownBlock ≠ some bm := by
  obtain ⟨es, c, hm⟩ := hm
  rcases h.2 with ⟨rfl, _⟩ | ⟨g, cap, cur, rfl, _, hg2, _⟩
  · exact fun e => by cases e
  · intro e
    simp only [Value.ownBlock, Option.some.injEq] at e
    rw [e, hm] at hg2
    cases hg2
theorem Fresh.row {lo : Nat} {w w' : World} {v : Value} {xs : List Int} {row : Option Nat} (h : Fresh lo w v xs) (hg : w.grownBy w' row) (hr : ∀ b, v.ownBlock = some b → row ≠ some b) : Fresh lo w' v xs := by
  refine World.ownsRow.kept h hg ?_
  cases hv : v.ownBlock with
  | none => exact .inl rfl
  | some b => exact .inr fun e => hr b hv e.symm
/-- The lists vl, the depths vd, the moves vm, the map bm of the keys seen: each in blocks of its own. -/
structure StAt (Z : Nat → Prop) (lo bm : Nat) (w : World) (vl vd vm : Value) (mvs ls : List (List Int)) (ds : List Int) (n : Nat) (K : List ByteArray) : Prop where
  lists : GrAt lo (ZsOf Z bm vd vm) w vl ls
  deps : Fresh lo w vd ds
  moves : GrAt lo (ZsOf Z bm vl vd) w vm mvs
  seen : SeenAt w bm n K
  zlt : ∀ b, Z b → b < w.heap.size
  zdep : ∀ b, vd.ownBlock = some b → ¬ Z b
  zmap : ¬ Z bm
section
variable {Z : Nat → Prop} {lo bm n : Nat} {w w' : World} {vl vd vm : Value} {mvs ls : List (List Int)} {ds : List Int} {K : List ByteArray}
theorem StAt.below (h : StAt Z lo bm w vl vd vm mvs ls ds n K) (hb : Below w.heap.size w w') : StAt Z lo bm w' vl vd vm mvs ls ds n K :=
  ⟨h.lists.below hb, h.deps.row (gB hb none) (fun b _ e => by cases e), h.moves.below hb, h.seen.below hb, fun b hz => Nat.lt_of_lt_of_le (h.zlt b hz) hb.size, h.zdep, h.zmap⟩
theorem StAt.see (h : StAt Z lo bm w vl vd vm mvs ls ds n K) {n' : Nat} {K' : List ByteArray} (hS : SeenAt w' bm n' K') (hg : w.grownBy w' (some bm)) : StAt Z lo bm w' vl vd vm mvs ls ds n' K' :=
  ⟨h.lists.kept hg (fun g e => by injection e with e; exact .inr (.inl e.symm)), h.deps.row hg (fun b hb e => h.deps.neMap h.seen.map (hb.trans e.symm)), h.moves.kept hg (fun g e => by injection e with e; exact .inr (.inl e.symm)), hS, fun b hz => Nat.lt_of_lt_of_le (h.zlt b hz) hg.size, h.zdep, h.zmap⟩
theorem GrAt.step {zs zs' : Nat → Prop} {v : Value} {row : Option Nat} (h : GrAt lo zs w v ls) (hg : w.grownBy w' row) (hr : ∀ g, row = some g → zs g) (hz : ∀ b, zs' b → zs b ∨ w.heap.size ≤ b) : GrAt lo zs' w' v ls := by
  have h1 := (h.other (zs' := fun b => zs b ∨ w.heap.size ≤ b) (fun b hb => hb)).kept hg (fun g e => .inl (hr g e))
  obtain ⟨cs, g1, g2, g3⟩ := h1
  refine ⟨cs, g1, fun b hb e => g2 b hb (hz b e), fun j hj => ?_⟩
  obtain ⟨Aj, cj, k1, k2, k3, k4⟩ := g3 j hj
  exact ⟨Aj, cj, k1, k2, k3, fun hl g off s e => ⟨fun e2 => (k4 hl g off s e).1 (hz g e2), (k4 hl g off s e).2⟩⟩
theorem StAt.list (h : StAt Z lo bm w vl vd vm mvs ls ds n K) {vl' : Value} {ls' : List (List Int)} (hL : GrAt lo (ZsOf Z bm vd vm) w' vl' ls') (hg : w.grownBy w' vl.ownBlock) (hat : vl'.ownBlock = vl.ownBlock ∨ vl'.ownBlock = some w.heap.size) : StAt Z lo bm w' vl' vd vm mvs ls' ds n K := by
  have h1 := h.lists.own
  refine ⟨hL, h.deps.row hg (fun b hb e => (h1 b e).2.2 (.inr (.inr (.inl hb)))), h.moves.step hg (fun g e => .inr (.inr (.inl e))) ?_, h.seen.kept hg (fun e => (h1 bm e.symm).2.2 (.inr (.inl rfl))), fun b hz => Nat.lt_of_lt_of_le (h.zlt b hz) hg.size, h.zdep, h.zmap⟩
  intro b hb
  rcases hb with hb | hb | hb | hb
  · exact .inl (.inl hb)
  · exact .inl (.inr (.inl hb))
  · rcases hat with e | e
    · exact .inl (.inr (.inr (.inl (e ▸ hb))))
    · rw [e] at hb; injection hb with hb; exact .inr (by omega)
  · exact .inl (.inr (.inr (.inr hb)))
theorem StAt.dep (h : StAt Z lo bm w vl vd vm mvs ls ds n K) {vd' : Value} {ds' : List Int} (hD : Fresh lo w' vd' ds') (hg : w.grownBy w' vd.ownBlock) (hat : vd'.ownBlock = vd.ownBlock ∨ vd'.ownBlock = some w.heap.size) : StAt Z lo bm w' vl vd' vm mvs ls ds' n K := by
  refine ⟨h.lists.step hg (fun g e => .inr (.inr (.inl e))) ?_, hD, h.moves.step hg (fun g e => .inr (.inr (.inr e))) ?_, h.seen.kept hg (fun e => h.deps.neMap h.seen.map e.symm), fun b hz => Nat.lt_of_lt_of_le (h.zlt b hz) hg.size, fun b hb hz => ?_, h.zmap⟩
  · intro b hb
    rcases hb with hb | hb | hb | hb
    · exact .inl (.inl hb)
    · exact .inl (.inr (.inl hb))
    · rcases hat with e | e
      · exact .inl (.inr (.inr (.inl (e ▸ hb))))
      · rw [e] at hb; injection hb with hb; exact .inr (by omega)
    · exact .inl (.inr (.inr (.inr hb)))
  · intro b hb
    rcases hb with hb | hb | hb | hb
    · exact .inl (.inl hb)
    · exact .inl (.inr (.inl hb))
    · exact .inl (.inr (.inr (.inl hb)))
    · rcases hat with e | e
      · exact .inl (.inr (.inr (.inr (e ▸ hb))))
      · rw [e] at hb; injection hb with hb; exact .inr (by omega)
  · rcases hat with e | e
    · exact h.zdep b (e ▸ hb) hz
    · rw [e] at hb; injection hb with hb
      have := h.zlt b hz
      omega
theorem StAt.move (h : StAt Z lo bm w vl vd vm mvs ls ds n K) {vm' : Value} {mvs' : List (List Int)} (hM : GrAt lo (ZsOf Z bm vl vd) w' vm' mvs') (hg : w.grownBy w' vm.ownBlock) (hat : vm'.ownBlock = vm.ownBlock ∨ vm'.ownBlock = some w.heap.size) : StAt Z lo bm w' vl vd vm' mvs' ls ds n K := by
  have h1 := h.moves.own
  refine ⟨h.lists.step hg (fun g e => .inr (.inr (.inr e))) ?_, h.deps.row hg (fun b hb e => (h1 b e).2.2 (.inr (.inr (.inr hb)))), hM, h.seen.kept hg (fun e => (h1 bm e.symm).2.2 (.inr (.inl rfl))), fun b hz => Nat.lt_of_lt_of_le (h.zlt b hz) hg.size, h.zdep, h.zmap⟩
  intro b hb
  rcases hb with hb | hb | hb | hb
  · exact .inl (.inl hb)
  · exact .inl (.inr (.inl hb))
  · exact .inl (.inr (.inr (.inl hb)))
  · rcases hat with e | e
    · exact .inl (.inr (.inr (.inr (e ▸ hb))))
    · rw [e] at hb; injection hb with hb; exact .inr (by omega)
/-- A cell of Z's blocks is written. -/
theorem StAt.cell (h : StAt Z lo bm w vl vd vm mvs ls ds n K) {g : Nat} (hz : Z g) (hg : w.grownBy w' (some g)) : StAt Z lo bm w' vl vd vm mvs ls ds n K :=
  ⟨h.lists.kept hg (fun g2 e => by injection e with e; exact .inl (e ▸ hz)), h.deps.row hg (fun b hb e => by injection e with e; exact h.zdep b hb (e ▸ hz)), h.moves.kept hg (fun g2 e => by injection e with e; exact .inl (e ▸ hz)), h.seen.kept hg (fun e => by injection e with e; exact h.zmap (e ▸ hz)), fun b hz => Nat.lt_of_lt_of_le (h.zlt b hz) hg.size, h.zdep, h.zmap⟩
/-- A new list's block is none of theirs. -/
theorem StAt.apart (h : StAt Z lo bm w vl vd vm mvs ls ds n K) {g : Nat} (hg : w.heap.size ≤ g) : ¬ ZsOf Z bm vd vm g ∧ vl.ownBlock ≠ some g := by
  refine ⟨fun hz => ?_, fun e => ?_⟩
  · rcases hz with e | e | e | e
    · have := h.zlt g e; omega
    · have := h.seen.lt; omega
    · have := (World.ownsRow.lt h.deps g e).2; omega
    · have := (h.moves.own g e).2.1; omega
  · have := (h.lists.own g e).2.1; omega
theorem StAt.bound (h : StAt Z lo bm w vl vd vm mvs ls ds n K) : ∀ b, ZsOf Z bm vd vm b → b < w.heap.size := fun b hz => by
  rcases hz with e | e | e | e
  · exact h.zlt b e
  · have := h.seen.lt; omega
  · exact (World.ownsRow.lt h.deps b e).2
  · exact (h.moves.own b e).2.1
end
theorem append_at {w : World} {ops : Array Oper} {rest : List Oper} {o : Oper} {a : Act} {Q : Exit → Act → World → Prop} (hgd : o.guard = none) (s x : Operand)
    (hop : o.op = Op.call { callee := Callee.builtin Builtin.append, args := #[s, x], argTypes := #[31, 31] })
    (B : Nat) (v : Value) (xs : List Int) (n : Int) (hs : a.eval s = v) (hown : Fresh B w v xs) (g : Nat) (hx : a.eval x = .slice (some ⟨g, 0, none⟩) 1 1)
    (hcell : w.cell? ⟨g, 0, none⟩ = some (.int .i64 n)) (hl : xs.length ≤ 1048576) (hB : B ≤ w.heap.size)
    (h : ∀ A' c' w', Fresh B w' (.slice A' (xs.length + 1) c') (xs ++ [n]) → w.grownBy w' v.ownBlock → ((Value.slice A' (xs.length + 1) c').ownBlock = v.ownBlock ∨ (Value.slice A' (xs.length + 1) c').ownBlock = some w.heap.size) → wpList Try.prog ops Q rest (a.put o.dst (.slice A' (xs.length + 1) c')) w') : wpList Try.prog ops Q (o :: rest) a w := by
  obtain ⟨i0, hi, hz0, hz1, hz2⟩ := info_parts intInfo
  refine wpList_append_own_at _ hgd s x 31 hop B 2 i0 (.int .i64 0) 1 8 Try.underlying31 hi hz0 hz1 hz2 rfl (by decide) v xs.length (xs.map (Value.int .i64)) hs hown ⟨g, 0, none⟩ 1 1 [.int .i64 n] hx rfl ?_ ?_ ?_ ?_ hB ?_
  · intro j u hj
    match j, hj with
    | 0, hj => simp at hj; subst hj; simpa [Addr.add] using hcell
  · intro u hu; simp at hu; subst hu; rfl
  · unfold maxLen; omega
  · omega
  · intro v' w' hown' hgrow _ hat
    have hF : Fresh B w' v' (xs ++ [n]) := by simpa [Fresh] using hown'
    obtain ⟨A', c', -, hv', -⟩ := hF.capped
    rw [List.length_append, List.length_singleton] at hv'
    subst hv'
    exact h A' c' w' hF hgrow hat
/-- The keys of the lists. -/
def KeysOf (K : List ByteArray) (ls : List (List Int)) : Prop := ∀ t, t ∈ K ↔ ∃ x, x ∈ ls ∧ strOfNums x = t
theorem KeysOf.more {K : List ByteArray} {ls : List (List Int)} (h : KeysOf K ls) (x : List Int) : KeysOf (strOfNums x :: K) (ls ++ [x]) := fun t => by
  rw [List.mem_cons, h t]
  constructor
  · rintro (rfl | ⟨y, h1, h2⟩)
    · exact ⟨x, by simp, rfl⟩
    · exact ⟨y, by simp [h1], h2⟩
  · rintro ⟨y, h1, h2⟩
    rw [List.mem_append, List.mem_singleton] at h1
    rcases h1 with h1 | rfl
    · exact .inr ⟨y, h1, h2⟩
    · exact .inl h2.symm
def Byt (x : List Int) : Prop := ∀ k, k < x.length → 0 ≤ x.getD k 0 ∧ x.getD k 0 ≤ 255
theorem strOf_inj {x y : List Int} (hx : Byt x) (hy : Byt y) (h : strOfNums x = strOfNums y) : x = y := by
  have e : (x.map fun n => UInt8.ofNat n.toNat) = y.map fun n => UInt8.ofNat n.toNat := by rw [← strOfNums_data, ← strOfNums_data, h]
  have hl : x.length = y.length := by simpa using congrArg List.length e
  refine List.ext_getElem hl fun i h1 h2 => ?_
  have e1 := congrArg (fun l => l[i]?) e
  simp only [List.getElem?_map, List.getElem?_eq_getElem h1, List.getElem?_eq_getElem h2, Option.map_some, Option.some.injEq] at e1
  have a1 := hx i h1
  have a2 := hy i h2
  rw [getD_at _ _ h1] at a1
  rw [getD_at _ _ h2] at a2
  have e2 := congrArg UInt8.toNat e1
  simp only [UInt8.toNat_ofNat'] at e2
  omega
theorem PtsOk.byt {n L : Nat} {x : List Int} (h : PtsOk n L x) (hn : n ≤ 256) : Byt x := fun k hk => by
  have := h.2 k (by rw [← h.1]; exact hk)
  omega
theorem KeysOf.has {K : List ByteArray} {n L : Nat} {s : Bs} (h : KeysOf K s.ls) (hs : BsOk n L s) (hn : n ≤ 256) {x : List Int} (hx : PtsOk n L x) : hasK K (strOfNums x) = inL s.ls x := by
  rw [Bool.eq_iff_iff, hasK_iff, inL_iff, h]
  constructor
  · rintro ⟨y, h1, h2⟩
    obtain ⟨i, h3, rfl⟩ := List.mem_iff_getElem.1 h1
    have := hs.rows i h3
    rw [List.getD_eq_getElem?_getD, List.getElem?_eq_getElem h3] at this
    rw [← strOf_inj (PtsOk.byt this hn) (hx.byt hn) h2]
    exact h1
  · exact fun h1 => ⟨x, h1, rfl⟩
end
end Go.Proofs.Ytfhdnanbhigpmaa
