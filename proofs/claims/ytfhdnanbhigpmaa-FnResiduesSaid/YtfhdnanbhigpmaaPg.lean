/- Lists of lists of the call's own that grow by append. Conditions: as each contract says. -/
import Derived.Test.YtfhdnanbhigpmaaMt
import Derived.Maps.AppendAt
import Derived.Deep.AppendLies
import Derived.Deep.RegionLaw
namespace Go.Proofs.Ytfhdnanbhigpmaa
open Go.RowKit

theorem getDsnocI (l : List (List Int)) (p : List Int) (j : Nat) (hj : j < l.length) : (l ++ [p]).getD j [] = l.getD j [] := by rw [List.getD_eq_getElem?_getD, List.getD_eq_getElem?_getD, List.getElem?_append_left hj]
theorem getDlastI (l : List (List Int)) (p : List Int) : (l ++ [p]).getD l.length [] = p := by rw [List.getD_eq_getElem?_getD, List.getElem?_append_right (Nat.le_refl _), Nat.sub_self]; rfl
/-- A growing slice v of lists ls: list j lies in blocks from B j on and below B (j + 1); block z is none of theirs. -/
def PgAt (lo : Nat) (z : Option Nat) (w : World) (v : Value) (ls : List (List Int)) (B : Nat → Nat) : Prop :=
  (∃ cs : List Value, w.ownsRow lo 31 1 v ls.length cs ∧ ∀ j, j < ls.length → ∃ u, cs[j]? = some u ∧ Fresh (B j) w u (ls.getD j []) ∧ ∀ b, u.ownBlock = some b → b < B (j + 1) ∧ v.ownBlock ≠ some b ∧ z ≠ some b) ∧
  (∀ j, j < ls.length → B j ≤ B (j + 1)) ∧ B ls.length ≤ w.heap.size ∧ lo ≤ B 0 ∧ ∀ b, v.ownBlock = some b → z ≠ some b
theorem PgAt.nil (lo : Nat) (z : Option Nat) (w : World) (h : lo ≤ w.heap.size) : PgAt lo z w (.slice none 0 0) [] (fun _ => lo) :=
  ⟨⟨[], World.ownsRow_nil _ _ _ _, fun j hj => by simp at hj⟩, fun j hj => by simp at hj, h, Nat.le_refl _, fun b hb => by cases hb⟩
theorem PgAt.lowj {lo : Nat} {z : Option Nat} {w : World} {v : Value} {ls : List (List Int)} {B : Nat → Nat} (h : PgAt lo z w v ls B) : ∀ j, j ≤ ls.length → lo ≤ B j := by
  intro j
  induction j with
  | zero => intro _; exact h.2.2.2.1
  | succ j ih => intro hj; exact Nat.le_trans (ih (by omega)) (h.2.1 j (by omega))
theorem PgAt.block {lo : Nat} {z : Option Nat} {w : World} {v : Value} {ls : List (List Int)} {B : Nat → Nat} (h : PgAt lo z w v ls B) : ∀ b, v.ownBlock = some b → lo ≤ b ∧ b < w.heap.size := by
  intro b hb
  obtain ⟨⟨cs, h1, _⟩, -⟩ := h
  exact World.ownsRow.lt h1 b hb
theorem PgAt.grown {lo : Nat} {z : Option Nat} {w w' : World} {v : Value} {ls : List (List Int)} {B : Nat → Nat} {row : Option Nat} (h : PgAt lo z w v ls B) (hg : w.grownBy w' row) (hr : ∀ g, row = some g → g < lo ∨ z = some g) : PgAt lo z w' v ls B := by
  have hlow := h.lowj
  have hblk := fun b (hb : v.ownBlock = some b) => (h.block b hb).1
  obtain ⟨⟨cs, h1, h2⟩, h3, h4, h5, h6⟩ := h
  refine ⟨⟨cs, World.ownsRow.kept h1 hg ?_, fun j hj => ?_⟩, h3, Nat.le_trans h4 hg.size, h5, h6⟩
  · cases hv : v.ownBlock with
    | none => exact .inl rfl
    | some b =>
      refine .inr fun e => ?_
      have h1 := hblk b hv
      rcases hr b e.symm with h2 | h2
      · omega
      · exact h6 b hv h2
  · obtain ⟨u, e, hu, hs⟩ := h2 j hj
    refine ⟨u, e, World.ownsRow.kept hu hg ?_, hs⟩
    cases hv : u.ownBlock with
    | none => exact .inl rfl
    | some b =>
      refine .inr fun e => ?_
      have h1 := (World.ownsRow.lt hu b hv).1
      have h3 := hlow j (by omega)
      rcases hr b e.symm with h2 | h2
      · omega
      · exact (hs b hv).2.2 h2
theorem PgAt.below {lo : Nat} {z : Option Nat} {w w' : World} {v : Value} {ls : List (List Int)} {B : Nat → Nat} (h : PgAt lo z w v ls B) (hb : Below w.heap.size w w') : PgAt lo z w' v ls B :=
  h.grown (gB hb none) (fun g e => by cases e)
theorem PgAt.set {lo : Nat} {z : Option Nat} {w : World} {v : Value} {ls : List (List Int)} {B : Nat → Nat} (h : PgAt lo z w v ls B) {a : Addr} (ha : a.block < lo) (x : Value) : PgAt lo z (w.setCell a x) v ls B :=
  h.grown (row := some a.block) ⟨rfl, rfl, rfl, by simp, fun k _ hne => heap_setCell_other _ _ k _ (fun e => hne (by rw [e]))⟩ (fun g e => by injection e with e; omega)
/-- Another block is left out: a newer one. -/
theorem PgAt.other {lo : Nat} {z z' : Option Nat} {w : World} {v : Value} {ls : List (List Int)} {B : Nat → Nat} (h : PgAt lo z w v ls B) (hz : z' = z ∨ ∀ b, z' = some b → w.heap.size ≤ b) : PgAt lo z' w v ls B := by
  have hblk := h.block
  obtain ⟨⟨cs, h1, h2⟩, h3, h4, h5, h6⟩ := h
  refine ⟨⟨cs, h1, fun j hj => ?_⟩, h3, h4, h5, fun b hb e => ?_⟩
  · obtain ⟨u, e, hu, hs⟩ := h2 j hj
    refine ⟨u, e, hu, fun b hb => ⟨(hs b hb).1, (hs b hb).2.1, fun e2 => ?_⟩⟩
    rcases hz with hz | hz
    · exact (hs b hb).2.2 (hz ▸ e2)
    · have := hz b e2
      have := (World.ownsRow.lt hu b hb).2
      omega
  · rcases hz with hz | hz
    · exact h6 b hb (hz ▸ e)
    · have := hz b e
      have := (hblk b hb).2
      omega
theorem PgAt.shape {lo : Nat} {z : Option Nat} {w : World} {v : Value} {ls : List (List Int)} {B : Nat → Nat} (h : PgAt lo z w v ls B) : ∃ A c, v = .slice A ls.length c ∧ ls.length ≤ c ∧ (A = none ∨ ∃ g, A = some ⟨g, 0, none⟩) := by
  obtain ⟨⟨cs, h1, _⟩, -⟩ := h
  rcases h1.2 with ⟨rfl, hn2⟩ | ⟨g, cap, cur, rfl, hbg, hg, hcap, _⟩
  · exact ⟨none, 0, by rw [hn2], by rw [hn2]; exact Nat.le_refl _, .inl rfl⟩
  · exact ⟨some ⟨g, 0, none⟩, cap, rfl, hcap, .inr ⟨g, rfl⟩⟩
theorem PgAt.al {lo : Nat} {z : Option Nat} {w : World} {v : Value} {ls : List (List Int)} {B : Nat → Nat} (h : PgAt lo z w v ls B) (o : Obj) : PgAt lo z (w.alloc o) v ls B := h.below ((Below.refl _ _).alloc (Nat.le_refl _) _)
theorem PgAt.dr {lo : Nat} {z : Option Nat} {w : World} {v : Value} {ls : List (List Int)} {B : Nat → Nat} (h : PgAt lo z w v ls B) : PgAt lo z w.drew v ls B := h.below ((Below.refl _ _).drew)
theorem PgAt.drN {lo : Nat} {z : Option Nat} {w : World} {v : Value} {ls : List (List Int)} {B : Nat → Nat} (h : PgAt lo z w v ls B) (n : Nat) : PgAt lo z (w.drewN n) v ls B := h.below (belowDrewN (Below.refl _ _) n)
/-- At the end: lists of the call's own. -/
theorem PgAt.fls {lo M : Nat} {z : Option Nat} {w : World} {v : Value} {ls : List (List Int)} {B : Nat → Nat} (h : PgAt lo z w v ls B) (hM : B ls.length ≤ M) : FLs lo M w v ls := by
  obtain ⟨A, c, rfl, _, hA⟩ := h.shape
  have hblk := h.block
  obtain ⟨⟨cs, h1, h2⟩, h3, -, h5, -⟩ := h
  have hcl : cs.length = ls.length := by simpa using h1.1
  refine ⟨A, c, fun i => cs.getD i .nilIface, B, rfl, ⟨fun i hi => ?_, fun i hi => ?_, fun i hi b hb => ?_, h3⟩, h5, hM, fun g off s e => ?_⟩
  · rcases hA with rfl | ⟨g, rfl⟩
    · rcases h1.2 with ⟨_, hn2⟩ | ⟨g, cap, cur, e, _⟩
      · omega
      · cases e
    · refine ⟨g, rfl, (hblk g rfl).2, ?_, fun j hj => ?_⟩
      · rw [World.ownsRow.cellAt h1 i (by omega), List.getElem?_eq_getElem (by omega), List.getD_eq_getElem?_getD, List.getElem?_eq_getElem (by omega)]; rfl
      · obtain ⟨u, e, hu, hs⟩ := h2 j hj
        rw [List.getD_eq_getElem?_getD, e]
        intro e2
        exact (hs g e2).2.1 rfl
  · obtain ⟨u, e, hu, hs⟩ := h2 i hi
    rw [List.getD_eq_getElem?_getD, e]
    exact hu
  · obtain ⟨u, e, hu, hs⟩ := h2 i hi
    rw [List.getD_eq_getElem?_getD, e] at hb
    exact (hs b hb).1
  · rcases hA with rfl | ⟨g', rfl⟩
    · cases e
    · injection e with e
      injection e with e
      subst e
      exact (hblk g' rfl).1
theorem Fresh.alc {B : Nat} {w : World} {v : Value} {xs : List Int} (h : Fresh B w v xs) (o : Obj) : Fresh B (w.alloc o) v xs := World.ownsRow.alloc h o
def moreB (B : Nat → Nat) (n b0 b1 : Nat) (j : Nat) : Nat := if j < n then B j else if j = n then b0 else b1
theorem moreB_lt {B : Nat → Nat} {n b0 b1 j : Nat} (h : j < n) : moreB B n b0 b1 j = B j := if_pos h
theorem moreB_at {B : Nat → Nat} {n b0 b1 : Nat} : moreB B n b0 b1 n = b0 := by rw [moreB, if_neg (by omega), if_pos rfl]
theorem moreB_end {B : Nat → Nat} {n b0 b1 : Nat} : moreB B n b0 b1 (n + 1) = b1 := by rw [moreB, if_neg (by omega), if_neg (by omega)]
theorem wp_append_pg {w : World} {o : Oper} {a : Act} {K : Act → World → Prop} {Q : Exit → Act → World → Prop} (s x : Operand)
    (hop : o.op = Op.call { callee := Callee.builtin Builtin.append, args := #[s, x], argTypes := #[27, 27] })
    (lo : Nat) (z : Option Nat) (B : Nat → Nat) (v : Value) (ls : List (List Int)) (ys : List Int) (u : Value) (hs : a.eval s = v) (hown : PgAt lo z w v ls B) (g : Nat) (hx : a.eval x = .slice (some ⟨g, 0, none⟩) 1 1)
    (hcell : w.cell? ⟨g, 0, none⟩ = some u) (b0 b1 : Nat) (hu : Fresh b0 w u ys) (hb0 : B ls.length ≤ b0) (hb01 : b0 ≤ b1) (hb1 : b1 ≤ w.heap.size) (hub : ∀ b, u.ownBlock = some b → b < b1) (hvb : ∀ b, v.ownBlock = some b → b < b0) (hzb : ∀ b, z = some b → b < b0) (hl : ls.length ≤ 1048576)
    (h : ∀ v' w' B', PgAt lo z w' v' (ls ++ [ys]) B' → w.grownBy w' v.ownBlock → Below lo w w' → K (a.put o.dst v') w') : o.wp Try.prog a w K Q := by
  obtain ⟨i0, hi, hz0, hz1, hz2⟩ := info_parts listInfo
  have hblk := fun b (hb : v.ownBlock = some b) => hown.block b hb
  have hlow := hown.lowj
  have hB : lo ≤ w.heap.size := Nat.le_trans (hlow ls.length (Nat.le_refl _)) hown.2.2.1
  obtain ⟨⟨cs, h1, h2⟩, h3, h4, h5, h6z⟩ := hown
  obtain ⟨v', w', hr, hown', hgrow, -, hat⟩ := run_append_own_at (P := Try.prog) w lo 27 o.type 31 i0 (.slice none 0 0) 1 24 Try.underlying27 hi hz0 hz1 hz2 rfl (by decide) v ls.length cs h1 ⟨g, 0, none⟩ 1 1 [u] rfl
    (by intro j u2 hj; match j, hj with
        | 0, hj => simp at hj; subst hj; simpa [Addr.add] using hcell)
    (by intro u2 hu2; simp at hu2; subst hu2; obtain ⟨A, c, _, hv, _⟩ := hu.capped; rw [hv]; rfl) (by unfold maxLen; omega) (by omega) hB
  have hcl : cs.length = ls.length := by simpa using h1.1
  have hlen : (ls ++ [ys]).length = ls.length + 1 := by simp
  have hkept : ∀ (z : Value) (c0 : Nat) (zs : List Int), Fresh c0 w z zs → (∀ b, z.ownBlock = some b → v.ownBlock ≠ some b) → Fresh c0 w' z zs := fun z c0 zs hz hne => by
    refine World.ownsRow.kept hz hgrow ?_
    cases hv : z.ownBlock with
    | none => exact .inl rfl
    | some b => exact .inr (fun e => hne b hv e.symm)
  have hnew : ∀ b, v'.ownBlock = some b → v.ownBlock = some b ∨ b = w.heap.size := fun b hb => by
    rcases hat with e | e
    · exact .inl (e ▸ hb)
    · rw [e] at hb; injection hb with hb; exact .inr hb.symm
  have hune : ∀ b, u.ownBlock = some b → v.ownBlock ≠ some b := fun b hb e => by
    have := hvb b e
    have := (World.ownsRow.lt hu b hb).1
    omega
  have hF : PgAt lo z w' v' (ls ++ [ys]) (moreB B ls.length b0 b1) := by
    refine ⟨⟨cs ++ [u], by simpa using hown', fun j hj => ?_⟩, fun j hj => ?_, ?_, ?_, fun b hb e => ?_⟩
    · rw [hlen] at hj
      by_cases e : j = ls.length
      · subst e
        refine ⟨u, ?_, ?_, fun b hb => ⟨?_, fun hv => ?_, fun hv => ?_⟩⟩
        · rw [List.getElem?_append_right (by omega), hcl, Nat.sub_self]
          rfl
        · rw [getDlastI, moreB_at]
          exact hkept u b0 ys hu hune
        · rw [moreB_end]
          exact hub b hb
        · rcases hnew b hv with e | e
          · exact hune b hb e
          · have := (World.ownsRow.lt hu b hb).2
            omega
        · have := hzb b hv
          have := (World.ownsRow.lt hu b hb).1
          omega
      · obtain ⟨u2, e2, hu2, hs2⟩ := h2 j (by omega)
        refine ⟨u2, ?_, ?_, fun b hb => ⟨?_, fun hv => ?_, (hs2 b hb).2.2⟩⟩
        · rw [List.getElem?_append_left (by omega)]
          exact e2
        · rw [getDsnocI _ _ _ (by omega), moreB_lt (by omega)]
          exact hkept u2 (B j) _ hu2 (fun b hb => (hs2 b hb).2.1)
        · have h6 := (hs2 b hb).1
          by_cases e3 : j + 1 < ls.length
          · rw [moreB_lt e3]; exact h6
          · have e4 : j + 1 = ls.length := by omega
            rw [e4] at h6 ⊢
            rw [moreB_at]
            omega
        · rcases hnew b hv with e | e
          · exact (hs2 b hb).2.1 e
          · have := (World.ownsRow.lt hu2 b hb).2
            omega
    · rw [hlen] at hj
      by_cases e : j < ls.length
      · have h6 := h3 j e
        rw [moreB_lt e]
        by_cases e3 : j + 1 < ls.length
        · rw [moreB_lt e3]; exact h6
        · have e4 : j + 1 = ls.length := by omega
          rw [e4] at h6 ⊢
          rw [moreB_at]
          omega
      · obtain rfl : j = ls.length := by omega
        rw [moreB_at, moreB_end]
        exact hb01
    · rw [hlen, moreB_end]
      exact Nat.le_trans hb1 hgrow.size
    · have h6 := hlow ls.length (Nat.le_refl _)
      by_cases e : 0 < ls.length
      · rw [moreB_lt e]; exact h5
      · have e4 : ls.length = 0 := by omega
        rw [← e4, moreB_at]
        omega
    · rcases hnew b hb with e2 | e2
      · exact h6z b e2 e
      · have := hzb b e
        omega
  have hbel : Below lo w w' := (Below.refl _ _).grown hgrow hB fun b hb => (hblk b hb).1
  unfold Oper.wp execOp
  simp only [hop, resolve, invoke, builtin, Sem.run_bind, Sem.run_pure, Result.andThen_ok, List.map_toArray, List.map_cons, List.map_nil, hs, hx, hr]
  exact h v' w' _ hF hgrow hbel
theorem step_append_pg {w : World} {ops : Array Oper} {o : Oper} {a : Act} {K : Act → World → Prop} {Q : Exit → Act → World → Prop} {E : Prop} (hgd : o.guard = none) (s x : Operand)
    (hop : o.op = Op.call { callee := Callee.builtin Builtin.append, args := #[s, x], argTypes := #[27, 27] })
    (lo : Nat) (z : Option Nat) (B : Nat → Nat) (v : Value) (ls : List (List Int)) (ys : List Int) (u : Value) (hs : a.eval s = v) (hown : PgAt lo z w v ls B) (g : Nat) (hx : a.eval x = .slice (some ⟨g, 0, none⟩) 1 1)
    (hcell : w.cell? ⟨g, 0, none⟩ = some u) (b0 b1 : Nat) (hu : Fresh b0 w u ys) (hb0 : B ls.length ≤ b0) (hb01 : b0 ≤ b1) (hb1 : b1 ≤ w.heap.size) (hub : ∀ b, u.ownBlock = some b → b < b1) (hvb : ∀ b, v.ownBlock = some b → b < b0) (hzb : ∀ b, z = some b → b < b0) (hl : ls.length ≤ 1048576)
    (h : ∀ v' w' B', PgAt lo z w' v' (ls ++ [ys]) B' → w.grownBy w' v.ownBlock → Below lo w w' → K (a.put o.dst v') w') :
    if Region.wanted o (yielded ops a.tmps) = true then Oper.wp Try.prog o a w K Q else E := by
  have hw : Region.wanted o (yielded ops a.tmps) = true := by simp [Region.wanted, hgd]
  rw [if_pos hw]
  exact wp_append_pg s x hop lo z B v ls ys u hs hown g hx hcell b0 b1 hu hb0 hb01 hb1 hub hvb hzb hl h
end Go.Proofs.Ytfhdnanbhigpmaa
