/- The memory of a search over patterns. No conditions. -/
import Derived.Test.YtfhdnanbhigpmaaLt
import Derived.Test.YtfhdnanbhigpmaaApp
namespace Go.Proofs.Ytfhdnanbhigpmaa
open Go.RowKit

def ZsOf (Z : Nat → Prop) (bm : Nat) (u v : Value) (b : Nat) : Prop := Z b ∨ b = bm ∨ u.ownBlock = some b ∨ v.ownBlock = some b
theorem Fresh.neMap {lo bm : Nat} {w : World} {v : Value} {xs : List Int} (h : Fresh lo w v xs) (hm : ∃ es c, w.heap[bm]? = some (.map es c)) : v.ownBlock ≠ some bm := by
  obtain ⟨es, c, hm⟩ := hm
  rcases h.2 with ⟨rfl, _⟩ | ⟨g, cap, cur, rfl, _, hg2, _⟩
  · exact fun e => by cases e
  · intro e
    simp only [Value.ownBlock, Option.some.injEq] at e
    rw [e, hm] at hg2
    cases hg2
theorem Fresh.row {lo : Nat} {w w' : World} {v : Value} {xs : List Int} {row : Option Nat} (h : Fresh lo w v xs) (hg : w.grownBy w' row) (hr : ∀ b, v.ownBlock = some b → row ≠ some b) : Fresh lo w' v xs := by
  refine World.ownsRow.kept h hg ?_
  cases hv : v.ownBlock with
  | none => exact .inl rfl
  | some b => exact .inr fun e => hr b hv e.symm
/-- The lists vl, the depths vd, the moves vm, the map bm of the keys seen: each in blocks of its own. -/
structure StAt (Z : Nat → Prop) (lo bm : Nat) (w : World) (vl vd vm : Value) (mvs ls : List (List Int)) (ds : List Int) (n : Nat) (K : List ByteArray) : Prop where
  lists : GrAt lo (ZsOf Z bm vd vm) w vl ls
  deps : Fresh lo w vd ds
  moves : GrAt lo (ZsOf Z bm vl vd) w vm mvs
  seen : SeenAt w bm n K
  zlt : ∀ b, Z b → b < w.heap.size
  zdep : ∀ b, vd.ownBlock = some b → ¬ Z b
  zmap : ¬ Z bm
section
variable {Z : Nat → Prop} {lo bm n : Nat} {w w' : World} {vl vd vm : Value} {mvs ls : List (List Int)} {ds : List Int} {K : List ByteArray}
theorem StAt.below (h : StAt Z lo bm w vl vd vm mvs ls ds n K) (hb : Below w.heap.size w w') : StAt Z lo bm w' vl vd vm mvs ls ds n K :=
  ⟨h.lists.below hb, h.deps.row (gB hb none) (fun b _ e => by cases e), h.moves.below hb, h.seen.below hb, fun b hz => Nat.lt_of_lt_of_le (h.zlt b hz) hb.size, h.zdep, h.zmap⟩
theorem StAt.see (h : StAt Z lo bm w vl vd vm mvs ls ds n K) {n' : Nat} {K' : List ByteArray} (hS : SeenAt w' bm n' K') (hg : w.grownBy w' (some bm)) : StAt Z lo bm w' vl vd vm mvs ls ds n' K' :=
  ⟨h.lists.kept hg (fun g e => by injection e with e; exact .inr (.inl e.symm)), h.deps.row hg (fun b hb e => h.deps.neMap h.seen.map (hb.trans e.symm)), h.moves.kept hg (fun g e => by injection e with e; exact .inr (.inl e.symm)), hS, fun b hz => Nat.lt_of_lt_of_le (h.zlt b hz) hg.size, h.zdep, h.zmap⟩
theorem GrAt.step {zs zs' : Nat → Prop} {v : Value} {row : Option Nat} (h : GrAt lo zs w v ls) (hg : w.grownBy w' row) (hr : ∀ g, row = some g → zs g) (hz : ∀ b, zs' b → zs b ∨ w.heap.size ≤ b) : GrAt lo zs' w' v ls := by
  have h1 := (h.other (zs' := fun b => zs b ∨ w.heap.size ≤ b) (fun b hb => hb)).kept hg (fun g e => .inl (hr g e))
  obtain ⟨cs, g1, g2, g3⟩ := h1
  refine ⟨cs, g1, fun b hb e => g2 b hb (hz b e), fun j hj => ?_⟩
  obtain ⟨Aj, cj, k1, k2, k3, k4⟩ := g3 j hj
  exact ⟨Aj, cj, k1, k2, k3, fun hl g off s e => ⟨fun e2 => (k4 hl g off s e).1 (hz g e2), (k4 hl g off s e).2⟩⟩
theorem StAt.list (h : StAt Z lo bm w vl vd vm mvs ls ds n K) {vl' : Value} {ls' : List (List Int)} (hL : GrAt lo (ZsOf Z bm vd vm) w' vl' ls') (hg : w.grownBy w' vl.ownBlock) (hat : vl'.ownBlock = vl.ownBlock ∨ vl'.ownBlock = some w.heap.size) : StAt Z lo bm w' vl' vd vm mvs ls' ds n K := by
  have h1 := h.lists.own
  refine ⟨hL, h.deps.row hg (fun b hb e => (h1 b e).2.2 (.inr (.inr (.inl hb)))), h.moves.step hg (fun g e => .inr (.inr (.inl e))) ?_, h.seen.kept hg (fun e => (h1 bm e.symm).2.2 (.inr (.inl rfl))), fun b hz => Nat.lt_of_lt_of_le (h.zlt b hz) hg.size, h.zdep, h.zmap⟩
  intro b hb
  rcases hb with hb | hb | hb | hb
  · exact .inl (.inl hb)
  · exact .inl (.inr (.inl hb))
  · rcases hat with e | e
    · exact .inl (.inr (.inr (.inl (e ▸ hb))))
    · rw [e] at hb; injection hb with hb; exact .inr (by omega)
  · exact .inl (.inr (.inr (.inr hb)))
theorem StAt.dep (h : StAt Z lo bm w vl vd vm mvs ls ds n K) {vd' : Value} {ds' : List Int} (hD : Fresh lo w' vd' ds') (hg : w.grownBy w' vd.ownBlock) (hat : vd'.ownBlock = vd.ownBlock ∨ vd'.ownBlock = some w.heap.size) : StAt Z lo bm w' vl vd' vm mvs ls ds' n K := by
  refine ⟨h.lists.step hg (fun g e => .inr (.inr (.inl e))) ?_, hD, h.moves.step hg (fun g e => .inr (.inr (.inr e))) ?_, h.seen.kept hg (fun e => h.deps.neMap h.seen.map e.symm), fun b hz => Nat.lt_of_lt_of_le (h.zlt b hz) hg.size, fun b hb hz => ?_, h.zmap⟩
  · intro b hb
    rcases hb with hb | hb | hb | hb
    · exact .inl (.inl hb)
    · exact .inl (.inr (.inl hb))
    · rcases hat with e | e
      · exact .inl (.inr (.inr (.inl (e ▸ hb))))
      · rw [e] at hb; injection hb with hb; exact .inr (by omega)
    · exact .inl (.inr (.inr (.inr hb)))
  · intro b hb
    rcases hb with hb | hb | hb | hb
    · exact .inl (.inl hb)
    · exact .inl (.inr (.inl hb))
    · exact .inl (.inr (.inr (.inl hb)))
    · rcases hat with e | e
      · exact .inl (.inr (.inr (.inr (e ▸ hb))))
      · rw [e] at hb; injection hb with hb; exact .inr (by omega)
  · rcases hat with e | e
    · exact h.zdep b (e ▸ hb) hz
    · rw [e] at hb; injection hb with hb
      have := h.zlt b hz
      omega
theorem StAt.move (h : StAt Z lo bm w vl vd vm mvs ls ds n K) {vm' : Value} {mvs' : List (List Int)} (hM : GrAt lo (ZsOf Z bm vl vd) w' vm' mvs') (hg : w.grownBy w' vm.ownBlock) (hat : vm'.ownBlock = vm.ownBlock ∨ vm'.ownBlock = some w.heap.size) : StAt Z lo bm w' vl vd vm' mvs' ls ds n K := by
  have h1 := h.moves.own
  refine ⟨h.lists.step hg (fun g e => .inr (.inr (.inr e))) ?_, h.deps.row hg (fun b hb e => (h1 b e).2.2 (.inr (.inr (.inr hb)))), hM, h.seen.kept hg (fun e => (h1 bm e.symm).2.2 (.inr (.inl rfl))), fun b hz => Nat.lt_of_lt_of_le (h.zlt b hz) hg.size, h.zdep, h.zmap⟩
  intro b hb
  rcases hb with hb | hb | hb | hb
  · exact .inl (.inl hb)
  · exact .inl (.inr (.inl hb))
  · exact .inl (.inr (.inr (.inl hb)))
  · rcases hat with e | e
    · exact .inl (.inr (.inr (.inr (e ▸ hb))))
    · rw [e] at hb; injection hb with hb; exact .inr (by omega)
/-- A cell of Z's blocks is written. -/
theorem StAt.cell (h : StAt Z lo bm w vl vd vm mvs ls ds n K) {g : Nat} (hz : Z g) (hg : w.grownBy w' (some g)) : StAt Z lo bm w' vl vd vm mvs ls ds n K :=
  ⟨h.lists.kept hg (fun g2 e => by injection e with e; exact .inl (e ▸ hz)), h.deps.row hg (fun b hb e => by injection e with e; exact h.zdep b hb (e ▸ hz)), h.moves.kept hg (fun g2 e => by injection e with e; exact .inl (e ▸ hz)), h.seen.kept hg (fun e => by injection e with e; exact h.zmap (e ▸ hz)), fun b hz => Nat.lt_of_lt_of_le (h.zlt b hz) hg.size, h.zdep, h.zmap⟩
/-- A new list's block is none of theirs. -/
theorem StAt.apart (h : StAt Z lo bm w vl vd vm mvs ls ds n K) {g : Nat} (hg : w.heap.size ≤ g) : ¬ ZsOf Z bm vd vm g ∧ vl.ownBlock ≠ some g := by
  refine ⟨fun hz => ?_, fun e => ?_⟩
  · rcases hz with e | e | e | e
    · have := h.zlt g e; omega
    · have := h.seen.lt; omega
    · have := (World.ownsRow.lt h.deps g e).2; omega
    · have := (h.moves.own g e).2.1; omega
  · have := (h.lists.own g e).2.1; omega
theorem StAt.bound (h : StAt Z lo bm w vl vd vm mvs ls ds n K) : ∀ b, ZsOf Z bm vd vm b → b < w.heap.size := fun b hz => by
  rcases hz with e | e | e | e
  · exact h.zlt b e
  · have := h.seen.lt; omega
  · exact (World.ownsRow.lt h.deps b e).2
  · exact (h.moves.own b e).2.1
end
theorem append_at {w : World} {ops : Array Oper} {rest : List Oper} {o : Oper} {a : Act} {Q : Exit → Act → World → Prop} (hgd : o.guard = none) (s x : Operand)
    (hop : o.op = Op.call { callee := Callee.builtin Builtin.append, args := #[s, x], argTypes := #[31, 31] })
    (B : Nat) (v : Value) (xs : List Int) (n : Int) (hs : a.eval s = v) (hown : Fresh B w v xs) (g : Nat) (hx : a.eval x = .slice (some ⟨g, 0, none⟩) 1 1)
    (hcell : w.cell? ⟨g, 0, none⟩ = some (.int .i64 n)) (hl : xs.length ≤ 1048576) (hB : B ≤ w.heap.size)
    (h : ∀ A' c' w', Fresh B w' (.slice A' (xs.length + 1) c') (xs ++ [n]) → w.grownBy w' v.ownBlock → ((Value.slice A' (xs.length + 1) c').ownBlock = v.ownBlock ∨ (Value.slice A' (xs.length + 1) c').ownBlock = some w.heap.size) → wpList Try.prog ops Q rest (a.put o.dst (.slice A' (xs.length + 1) c')) w') : wpList Try.prog ops Q (o :: rest) a w := by
  obtain ⟨i0, hi, hz0, hz1, hz2⟩ := info_parts intInfo
  refine wpList_append_own_at _ hgd s x 31 hop B 2 i0 (.int .i64 0) 1 8 Try.underlying31 hi hz0 hz1 hz2 rfl (by decide) v xs.length (xs.map (Value.int .i64)) hs hown ⟨g, 0, none⟩ 1 1 [.int .i64 n] hx rfl ?_ ?_ ?_ ?_ hB ?_
  · intro j u hj
    match j, hj with
    | 0, hj => simp at hj; subst hj; simpa [Addr.add] using hcell
  · intro u hu; simp at hu; subst hu; rfl
  · unfold maxLen; omega
  · omega
  · intro v' w' hown' hgrow _ hat
    have hF : Fresh B w' v' (xs ++ [n]) := by simpa [Fresh] using hown'
    obtain ⟨A', c', -, hv', -⟩ := hF.capped
    rw [List.length_append, List.length_singleton] at hv'
    subst hv'
    exact h A' c' w' hF hgrow hat
/-- The keys of the lists. -/
def KeysOf (K : List ByteArray) (ls : List (List Int)) : Prop := ∀ t, t ∈ K ↔ ∃ x, x ∈ ls ∧ strOfNums x = t
theorem KeysOf.more {K : List ByteArray} {ls : List (List Int)} (h : KeysOf K ls) (x : List Int) : KeysOf (strOfNums x :: K) (ls ++ [x]) := fun t => by
  rw [List.mem_cons, h t]
  constructor
  · rintro (rfl | ⟨y, h1, h2⟩)
    · exact ⟨x, by simp, rfl⟩
    · exact ⟨y, by simp [h1], h2⟩
  · rintro ⟨y, h1, h2⟩
    rw [List.mem_append, List.mem_singleton] at h1
    rcases h1 with h1 | rfl
    · exact .inr ⟨y, h1, h2⟩
    · exact .inl h2.symm
def Byt (x : List Int) : Prop := ∀ k, k < x.length → 0 ≤ x.getD k 0 ∧ x.getD k 0 ≤ 255
theorem strOf_inj {x y : List Int} (hx : Byt x) (hy : Byt y) (h : strOfNums x = strOfNums y) : x = y := by
  have e : (x.map fun n => UInt8.ofNat n.toNat) = y.map fun n => UInt8.ofNat n.toNat := by rw [← strOfNums_data, ← strOfNums_data, h]
  have hl : x.length = y.length := by simpa using congrArg List.length e
  refine List.ext_getElem hl fun i h1 h2 => ?_
  have e1 := congrArg (fun l => l[i]?) e
  simp only [List.getElem?_map, List.getElem?_eq_getElem h1, List.getElem?_eq_getElem h2, Option.map_some, Option.some.injEq] at e1
  have a1 := hx i h1
  have a2 := hy i h2
  rw [getD_at _ _ h1] at a1
  rw [getD_at _ _ h2] at a2
  have e2 := congrArg UInt8.toNat e1
  simp only [UInt8.toNat_ofNat'] at e2
  omega
theorem PtsOk.byt {n L : Nat} {x : List Int} (h : PtsOk n L x) (hn : n ≤ 256) : Byt x := fun k hk => by
  have := h.2 k (by rw [← h.1]; exact hk)
  omega
theorem KeysOf.has {K : List ByteArray} {n L : Nat} {s : Bs} (h : KeysOf K s.ls) (hs : BsOk n L s) (hn : n ≤ 256) {x : List Int} (hx : PtsOk n L x) : hasK K (strOfNums x) = inL s.ls x := by
  rw [Bool.eq_iff_iff, hasK_iff, inL_iff, h]
  constructor
  · rintro ⟨y, h1, h2⟩
    obtain ⟨i, h3, rfl⟩ := List.mem_iff_getElem.1 h1
    have := hs.rows i h3
    rw [List.getD_eq_getElem?_getD, List.getElem?_eq_getElem h3] at this
    rw [← strOf_inj (PtsOk.byt this hn) (hx.byt hn) h2]
    exact h1
  · exact fun h1 => ⟨x, h1, rfl⟩
end Go.Proofs.Ytfhdnanbhigpmaa
