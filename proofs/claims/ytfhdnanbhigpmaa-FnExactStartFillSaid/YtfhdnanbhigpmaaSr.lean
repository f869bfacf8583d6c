/- The memory of a search, spec: lists, depths, sorted places. No conditions. -/
import Derived.Test.YtfhdnanbhigpmaaSl
import Derived.Test.YtfhdnanbhigpmaaPt
namespace Go.Proofs.Ytfhdnanbhigpmaa
open Go.RowKit Grp

def srtC (srt : List Nat) : List Value := srt.map fun i : Nat => Value.int .i64 (i : Int)
theorem srtC_len (srt : List Nat) : (srtC srt).length = srt.length := by unfold srtC; rw [List.length_map]
theorem srtC_get (srt : List Nat) {i : Nat} (hi : i < srt.length) : (srtC srt)[i]? = some (.int .i64 ((srt.getD i 0 : Nat) : Int)) := by
  unfold srtC
  rw [List.getElem?_map, List.getD_eq_getElem?_getD, List.getElem?_eq_getElem hi]; rfl
/-- Places of the call's own. -/
def SFr (lo : Nat) (w : World) (v : Value) (srt : List Nat) : Prop := w.ownsRow lo 3 1 v srt.length (srtC srt)
theorem wordInfo : (Try.prog.info? 3).map (fun i => (i.zero, i.size, i.bytes)) = some (some (.int .i64 0), 1, 8) := by kernel_rfl
theorem SFr.nil (lo : Nat) (w : World) : SFr lo w (.slice none 0 0) [] := World.ownsRow_nil _ _ _ _
theorem SFr.row {lo : Nat} {w w' : World} {v : Value} {srt : List Nat} {row : Option Nat} (h : SFr lo w v srt) (hg : w.grownBy w' row) (hr : ∀ b, v.ownBlock = some b → row ≠ some b) : SFr lo w' v srt := by
  refine World.ownsRow.kept h hg ?_
  cases hv : v.ownBlock with
  | none => exact .inl rfl
  | some b => exact .inr fun e => hr b hv e.symm
theorem SFr.shape {lo : Nat} {w : World} {v : Value} {srt : List Nat} (h : SFr lo w v srt) : ∃ A c, v = .slice A srt.length c ∧ srt.length ≤ c := by
  rcases h.2 with ⟨rfl, h0⟩ | ⟨g, cap, cur, rfl, _, _, h3, _⟩
  · exact ⟨none, 0, by rw [h0], by omega⟩
  · exact ⟨_, cap, rfl, h3⟩
theorem SFr.ints {lo : Nat} {w : World} {A : Option Addr} {n c : Nat} {srt : List Nat} (h : SFr lo w (.slice A n c) srt) : IntsAt w A (natI srt) := by
  intro k hk
  rw [natI_len] at hk
  rcases h.2 with ⟨e, h2⟩ | ⟨g, cap, cur, e, _, hg, _⟩
  · omega
  · injection e with e1 e2 e3
    subst e1 e2 e3
    refine ⟨g, 0, rfl, (Array.getElem?_eq_some_iff.1 hg).1, ?_⟩
    rw [World.ownsRow.cellAt h (0 + k) (by omega), Nat.zero_add, srtC_get srt hk, srt_get]
/-- The header of a row of places and that of a list of numbers lie apart. -/
theorem SFr.neInts {lo lo' : Nat} {w : World} {v v' : Value} {srt : List Nat} {xs : List Int} (h : SFr lo w v srt) (h' : Fresh lo' w v' xs) : ∀ b, v'.ownBlock = some b → v.ownBlock ≠ some b := by
  intro b hb e
  rcases h.2 with ⟨rfl, _⟩ | ⟨g, cap, cur, rfl, _, hg, _⟩
  · cases e
  · rcases h'.2 with ⟨rfl, _⟩ | ⟨g', cap', cur', rfl, _, hg', _⟩
    · cases hb
    · injection e with e; injection hb with hb
      simp only at e hb
      subst e
      rw [hb, hg] at hg'
      injection hg' with hg'
      injection hg' with _ hg' _
      exact absurd hg' (by decide)
structure SrAt (Z : Nat → Prop) (lo : Nat) (w : World) (vl vd vs : Value) (ls : List (List Int)) (ds : List Int) (srt : List Nat) : Prop where
  lists : GrAt lo (fun b => Z b ∨ vd.ownBlock = some b ∨ vs.ownBlock = some b) w vl ls
  deps : Fresh lo w vd ds
  srt : SFr lo w vs srt
  zlt : ∀ b, Z b → b < w.heap.size
  zdep : ∀ b, vd.ownBlock = some b → ¬ Z b
  zsrt : ∀ b, vs.ownBlock = some b → ¬ Z b
section
variable {Z : Nat → Prop} {lo : Nat} {w w' : World} {vl vd vs : Value} {ls : List (List Int)} {ds : List Int} {srt : List Nat}
theorem SrAt.below (h : SrAt Z lo w vl vd vs ls ds srt) (hb : Below w.heap.size w w') : SrAt Z lo w' vl vd vs ls ds srt :=
  ⟨h.lists.below hb, h.deps.row (gB hb none) (fun b _ e => by cases e), h.srt.row (gB hb none) (fun b _ e => by cases e), fun b hz => Nat.lt_of_lt_of_le (h.zlt b hz) hb.size, h.zdep, h.zsrt⟩
theorem SrAt.kept (h : SrAt Z lo w vl vd vs ls ds srt) {g : Nat} (hg : w.grownBy w' (some g)) (hz : Z g) : SrAt Z lo w' vl vd vs ls ds srt :=
  ⟨h.lists.kept hg (fun g' e => by injection e with e; exact .inl (e ▸ hz)), h.deps.row hg (fun b hb e => by injection e with e; exact h.zdep b hb (e ▸ hz)), h.srt.row hg (fun b hb e => by injection e with e; exact h.zsrt b hb (e ▸ hz)), fun b hz => Nat.lt_of_lt_of_le (h.zlt b hz) hg.size, h.zdep, h.zsrt⟩
theorem SrAt.zmore (h : SrAt Z lo w vl vd vs ls ds srt) (hb : Below w.heap.size w w') {Z' : Nat → Prop} (hz : ∀ b, Z' b → Z b ∨ w.heap.size ≤ b) (hlt : ∀ b, Z' b → b < w'.heap.size) : SrAt Z' lo w' vl vd vs ls ds srt := by
  have hd := h.deps.under
  have hs : ∀ b, vs.ownBlock = some b → b < w.heap.size := fun b hb => (World.ownsRow.lt h.srt b hb).2
  refine ⟨(h.lists.other (fun b hb => ?_)).below hb, h.deps.row (gB hb none) (fun b _ e => by cases e), h.srt.row (gB hb none) (fun b _ e => by cases e), hlt, fun b hb e => ?_, fun b hb e => ?_⟩
  · rcases hb with e | e | e
    · rcases hz b e with e2 | e2
      · exact .inl (.inl e2)
      · exact .inr e2
    · exact .inl (.inr (.inl e))
    · exact .inl (.inr (.inr e))
  · rcases hz b e with e2 | e2
    · exact h.zdep b hb e2
    · have := hd b hb; omega
  · rcases hz b e with e2 | e2
    · exact h.zsrt b hb e2
    · have := hs b hb; omega
/-- The sorted places turned. -/
theorem SrAt.sort (h : SrAt Z lo w vl vd vs ls ds srt) {vs' : Value} {srt' : List Nat} (hS : SFr lo w' vs' srt') (hg : w.grownBy w' vs.ownBlock) (hat : vs'.ownBlock = vs.ownBlock ∨ vs'.ownBlock = some w.heap.size) : SrAt Z lo w' vl vd vs' ls ds srt' := by
  refine ⟨h.lists.step hg (fun g e => .inr (.inr e)) ?_, h.deps.row hg (fun b hb e => SFr.neInts h.srt h.deps b hb e), hS, fun b hz => Nat.lt_of_lt_of_le (h.zlt b hz) hg.size, h.zdep, fun b hb hz => ?_⟩
  · intro b hb
    rcases hb with e | e | e
    · exact .inl (.inl e)
    · exact .inl (.inr (.inl e))
    · rcases hat with e2 | e2
      · exact .inl (.inr (.inr (e2 ▸ e)))
      · rw [e2] at e; injection e with e; exact .inr (by omega)
  · rcases hat with e2 | e2
    · exact h.zsrt b (e2 ▸ hb) hz
    · rw [e2] at hb; injection hb with hb
      have := h.zlt b hz; omega
/-- A list more. -/
theorem SrAt.list (h : SrAt Z lo w vl vd vs ls ds srt) {vl' : Value} {ls' : List (List Int)} (hL : GrAt lo (fun b => Z b ∨ vd.ownBlock = some b ∨ vs.ownBlock = some b) w' vl' ls') (hg : w.grownBy w' vl.ownBlock) : SrAt Z lo w' vl' vd vs ls' ds srt := by
  have ho := h.lists.own
  exact ⟨hL, h.deps.row hg (fun b hb e => (ho b e).2.2 (.inr (.inl hb))), h.srt.row hg (fun b hb e => (ho b e).2.2 (.inr (.inr hb))), fun b hz => Nat.lt_of_lt_of_le (h.zlt b hz) hg.size, h.zdep, h.zsrt⟩
/-- A depth more. -/
theorem SrAt.dep (h : SrAt Z lo w vl vd vs ls ds srt) {vd' : Value} {ds' : List Int} (hD : Fresh lo w' vd' ds') (hg : w.grownBy w' vd.ownBlock) (hat : vd'.ownBlock = vd.ownBlock ∨ vd'.ownBlock = some w.heap.size) : SrAt Z lo w' vl vd' vs ls ds' srt := by
  refine ⟨h.lists.step hg (fun g e => .inr (.inl e)) ?_, hD, h.srt.row hg (fun b hb e => SFr.neInts h.srt h.deps b e hb), fun b hz => Nat.lt_of_lt_of_le (h.zlt b hz) hg.size, fun b hb hz => ?_, h.zsrt⟩
  · intro b hb
    rcases hb with e | e | e
    · exact .inl (.inl e)
    · rcases hat with e2 | e2
      · exact .inl (.inr (.inl (e2 ▸ e)))
      · rw [e2] at e; injection e with e; exact .inr (by omega)
    · exact .inl (.inr (.inr e))
  · rcases hat with e2 | e2
    · exact h.zdep b (e2 ▸ hb) hz
    · rw [e2] at hb; injection hb with hb
      have := h.zlt b hz; omega
end
theorem SFr.mk {lo g cap n : Nat} {w : World} {cur : List Value} {srt : List Nat} (hn : srt.length = n) (hlo : lo ≤ g) (hg : w.heap[g]? = some (.cells cur.toArray 3 (0, 0))) (h1 : n ≤ cap) (h2 : cap ≤ maxLen) (h3 : cur.length = cap) (h4 : cur.take n = srtC srt) : SFr lo w (.slice (some ⟨g, 0, none⟩) n cap) srt := by
  subst hn
  exact ⟨by rw [srtC_len, Nat.mul_one], .inr ⟨g, cap, cur.toArray, rfl, hlo, hg, h1, h2, by simpa using h3, by simpa using h4⟩⟩
/-- A place more, 0 for now. -/
theorem append_srt {w : World} {ops : Array Oper} {rest : List Oper} {o : Oper} {a : Act} {Q : Exit → Act → World → Prop} (hgd : o.guard = none) (s x : Operand)
    (hop : o.op = Op.call { callee := Callee.builtin Builtin.append, args := #[s, x], argTypes := #[75, 75] })
    (B : Nat) (v : Value) (srt : List Nat) (n : Nat) (hs : a.eval s = v) (hown : SFr B w v srt) (g : Nat) (hx : a.eval x = .slice (some ⟨g, 0, none⟩) 1 1)
    (hcell : w.cell? ⟨g, 0, none⟩ = some (.int .i64 0)) (hsl : srt.length = n) (hl : n ≤ 1048576) (hB : B ≤ w.heap.size)
    (h : ∀ g' cap cur w', B ≤ g' → w'.heap[g']? = some (.cells (List.toArray cur) 3 (0, 0)) → n + 1 ≤ cap → cap ≤ maxLen → cur.length = cap → cur.take (n + 1) = srtC (srt ++ [0]) → w.grownBy w' v.ownBlock → (v.ownBlock = some g' ∨ w.heap.size = g') → wpList Try.prog ops Q rest (a.put o.dst (.slice (some ⟨g', 0, none⟩) (n + 1) cap)) w') : wpList Try.prog ops Q (o :: rest) a w := by
  obtain ⟨i0, hi, hz0, hz1, hz2⟩ := info_parts wordInfo
  subst hsl
  refine wpList_append_own_at _ hgd s x 75 hop B 3 i0 (.int .i64 0) 1 8 Try.underlying75 hi hz0 hz1 hz2 rfl (by decide) v srt.length (srtC srt) hs hown ⟨g, 0, none⟩ 1 1 [.int .i64 0] hx rfl ?_ ?_ ?_ ?_ hB ?_
  · intro j u hj
    match j, hj with
    | 0, hj => simp at hj; subst hj; simpa [Addr.add] using hcell
  · intro u hu; simp at hu; subst hu; rfl
  · unfold maxLen; omega
  · omega
  · intro v' w' hown' hgrow _ hat
    rcases hown'.2 with ⟨e, h2⟩ | ⟨g', cap, cur, rfl, h1, h2, h3, h4, h5, h6⟩
    · omega
    · refine h g' cap cur.toList w' h1 h2 h3 h4 (by simpa using h5) ?_ hgrow ?_
      · rw [Nat.mul_one] at h6
        rw [h6]
        unfold srtC
        rw [List.map_append]; rfl
      · rcases hat with e | e
        · exact .inl e.symm
        · injection e with e; exact .inr e.symm
/-- The row behind the copy and the store. -/
theorem splice_srt {srt : List Nat} {cur : List Value} {a n cap : Nat} (ha : a ≤ srt.length) (hn : srt.length = n) (hc : n + 1 ≤ cap) (hl : cur.length = cap) (h : cur.take (n + 1) = srtC (srt ++ [0])) :
    ((splice cur (a + 1) ((srtC srt).drop a)).set a (.int .i64 (n : Int))).take (n + 1) = srtC (insN srt a n) := by
  have hcl := srtC_len srt
  have hcur : ∀ i, i < n → cur[i]? = (srtC srt)[i]? := fun i hi => by
    have e1 : (cur.take (n + 1))[i]? = cur[i]? := List.getElem?_take_of_lt (by omega)
    rw [← e1, h]
    unfold srtC
    rw [List.map_append, List.getElem?_append_left (by rw [List.length_map]; omega)]
  refine List.ext_getElem? fun i => ?_
  have hsl : (splice cur (a + 1) ((srtC srt).drop a)).length = cap := by rw [length_splice _ _ _ (by rw [List.length_drop, hcl]; omega), hl]
  by_cases hi : i < n + 1
  · rw [List.getElem?_take_of_lt hi, List.getElem?_set]
    have hR : (srtC (insN srt a n))[i]? = some (.int .i64 (((insN srt a n).getD i 0 : Nat) : Int)) := srtC_get _ (by rw [insN_len]; omega)
    rw [hR, insN_get srt a n ha]
    by_cases e : a = i
    · subst e
      rw [if_pos rfl, if_pos (by rw [hsl]; omega), if_neg (by omega), if_pos rfl]
    · rw [if_neg e]
      unfold splice
      have htl : (cur.take (a + 1)).length = a + 1 := by rw [List.length_take]; omega
      by_cases e1 : i < a
      · rw [if_pos e1, List.getElem?_append_left (by omega), List.getElem?_take_of_lt (by omega), hcur i (by omega)]
        exact srtC_get srt (by omega)
      · rw [if_neg e1, if_neg (fun e2 => e e2.symm), List.getElem?_append_right (by omega), htl, List.getElem?_append_left (by rw [List.length_drop, hcl]; omega), List.getElem?_drop, show a + (i - (a + 1)) = i - 1 from by omega]
        exact srtC_get srt (by omega)
  · rw [List.getElem?_eq_none (by rw [List.length_take]; omega), List.getElem?_eq_none (by rw [srtC_len, insN_len]; omega)]
end Go.Proofs.Ytfhdnanbhigpmaa
