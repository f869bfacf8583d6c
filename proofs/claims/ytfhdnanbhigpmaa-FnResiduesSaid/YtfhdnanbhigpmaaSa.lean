/- The memory of a search, spec: lists, depths, sorted places. No conditions. A list more in a search, spec. Conditions: as each contract says. -/
import Derived.Test.YtfhdnanbhigpmaaSl
import Derived.Test.YtfhdnanbhigpmaaRp
import Derived.Laws.CopyOwn
import Derived.Deep.RegionHeld3
namespace Go.Proofs.Ytfhdnanbhigpmaa
section
open Go.RowKit Grp

def srtC (srt : List Nat) : List Value := srt.map fun i : Nat => Value.int .i64 (i : Int)
theorem srtC_len (srt : List Nat) : (srtC srt).length = srt.length := by unfold srtC; rw [List.length_map]
theorem srtC_get (srt : List Nat) {i : Nat} (hi : i < srt.length) : (srtC srt)[i]? = some (.int .i64 ((srt.getD i 0 : Nat) : Int)) := by
  unfold srtC
  rw [List.getElem?_map, List.getD_eq_getElem?_getD, List.getElem?_eq_getElem hi]; rfl
/-- Places of the call's own. -/
def SFr (lo : Nat) (w : World) (v : Value) (srt : List Nat) : Prop := w.ownsRow lo 3 1 v srt.length (srtC srt)
theorem wordInfo : (Try.prog.info? 3).map (fun i => (i.zero, i.size, i.bytes)) = some (some (.int .i64 0), 1, 8) := by kernel_rfl
theorem SFr.nil (lo : Nat) (w : World) : SFr lo w (.slice none 0 0) [] := World.ownsRow_nil _ _ _ _
theorem SFr.row {lo : Nat} {w w' : World} {v : Value} {srt : List Nat} {row : Option Nat} (h : SFr lo w v srt) (hg : w.grownBy w' row) (hr : ∀ b, v.ownBlock = some b → row ≠ some b) : SFr lo w' v srt := by
  refine World.ownsRow.kept h hg ?_
  cases hv : v.ownBlock with
  | none => exact .inl rfl
  | some b => exact .inr fun e => hr b hv e.symm
theorem SFr.shape {lo : Nat} {w : World} {v : Value} {srt : List Nat} (h : SFr lo w v srt) : ∃ A c, v = .slice A srt.length c ∧ srt.length ≤ c := by
  rcases h.2 with ⟨rfl, h0⟩ | ⟨g, cap, cur, rfl, _, _, h3, _⟩
  · exact ⟨none, 0, by rw [h0], by omega⟩
  · exact ⟨_, cap, rfl, h3⟩
theorem SFr.ints {lo : Nat} {w : World} {A : Option Addr} {n c : Nat} {srt : List Nat} (h : SFr lo w (.slice A n c) srt) : IntsAt w A (natI srt) := by
  intro k hk
  rw [natI_len] at hk
  rcases h.2 with ⟨e, h2⟩ | ⟨g, cap, cur, e, _, hg, _⟩
  · omega
  · injection e with e1 e2 e3
    subst e1 e2 e3
    refine ⟨g, 0, rfl, (Array.getElem?_eq_some_iff.1 hg).1, ?_⟩
    rw [World.ownsRow.cellAt h (0 + k) (by omega), Nat.zero_add, srtC_get srt hk, srt_get]
/-- The header of a row of places and that of a list of numbers lie apart. -/
theorem SFr.neInts {lo lo' : Nat} {w : World} {v v' : Value} {srt : List Nat} {xs : List Int} (h : SFr lo w v srt) (h' : Fresh lo' w v' xs) : ∀ b, v'.ownBlock = some b → v.ownBlock ≠ some b := by
  intro b hb e
  rcases h.2 with ⟨rfl, _⟩ | ⟨g, cap, cur, rfl, _, hg, _⟩
  · cases e
  · rcases h'.2 with ⟨rfl, _⟩ | ⟨g', cap', cur', rfl, _, hg', _⟩
    · cases hb
    · injection e with e; injection hb with hb
      simp only at e hb
      subst e
      rw [hb, hg] at hg'
      injection hg' with hg'
      injection hg' with _ hg' _
      exact absurd hg' (by decide)
structure SrAt (Z : Nat → Prop) (lo : Nat) (w : World) (vl vd vs : Value) (ls : List (List Int)) (ds : List Int) (srt : List Nat) : Prop where
  lists : GrAt lo (fun b => Z b ∨ vd.ownBlock = some b ∨ vs.ownBlock = some b) w vl ls
  deps : Fresh lo w vd ds
  srt : SFr lo w vs srt
  zlt : ∀ b, Z b → b < w.heap.size
  zdep : ∀ b, vd.ownBlock = some b → ¬ Z b
  zsrt : ∀ b, vs.ownBlock = some b → ¬ Z b
section
variable {Z : Nat → Prop} {lo : Nat} {w w' : World} {vl vd vs : Value} {ls : List (List Int)} {ds : List Int} {srt : List Nat}
theorem SrAt.below (h : SrAt Z lo w vl vd vs ls ds srt) (hb : Below w.heap.size w w') : SrAt Z lo w' vl vd vs ls ds srt :=
  ⟨h.lists.below hb, h.deps.row (gB hb none) (fun b _ e => by cases e), h.srt.row (gB hb none) (fun b _ e => by cases e), fun b hz => Nat.lt_of_lt_of_le (h.zlt b hz) hb.size, h.zdep, h.zsrt⟩
theorem SrAt.kept (h : SrAt Z lo w vl vd vs ls ds srt) {g : Nat} (hg : w.grownBy w' (some g)) (hz : Z g) : SrAt Z lo w' vl vd vs ls ds srt :=
  ⟨h.lists.kept hg (fun g' e => by injection e with e; exact .inl (e ▸ hz)), h.deps.row hg (fun b hb e => by injection e with e; exact h.zdep b hb (e ▸ hz)), h.srt.row hg (fun b hb e => by injection e with e; exact h.zsrt b hb (e ▸ hz)), fun b hz => Nat.lt_of_lt_of_le (h.zlt b hz) hg.size, h.zdep, h.zsrt⟩
theorem SrAt.zmore (h : SrAt Z lo w vl vd vs ls ds srt) (hb : Below w.heap.size w w') {Z' : Nat → Prop} (hz : ∀ b, Z' b → Z b ∨ w.heap.size ≤ b) (hlt : ∀ b, Z' b → b < w'.heap.size) : SrAt Z' lo w' vl vd vs ls ds srt := by
  have hd := h.deps.under
  have hs : ∀ b, vs.ownBlock = some b → b < w.heap.size := fun b hb => (World.ownsRow.lt h.srt b hb).2
  refine ⟨(h.lists.other (fun b hb => ?_)).below hb, h.deps.row (gB hb none) (fun b _ e => by cases e), h.srt.row (gB hb none) (fun b _ e => by cases e), hlt, fun b hb e => ?_, fun b hb e => ?_⟩
  · rcases hb with e | e | e
    · rcases hz b e with e2 | e2
      · exact .inl (.inl e2)
      · exact .inr e2
    · exact .inl (.inr (.inl e))
    · exact .inl (.inr (.inr e))
  · rcases hz b e with e2 | e2
    · exact h.zdep b hb e2
    · have := hd b hb; omega
  · rcases hz b e with e2 | e2
    · exact h.zsrt b hb e2
    · have := hs b hb; omega
/-- The sorted places turned. -/
theorem SrAt.sort (h : SrAt Z lo w vl vd vs ls ds srt) {vs' : Value} {srt' : List Nat} (hS : SFr lo w' vs' srt') (hg : w.grownBy w' vs.ownBlock) (hat : vs'.ownBlock = vs.ownBlock ∨ vs'.ownBlock = some w.heap.size) : SrAt Z lo w' vl vd vs' ls ds srt' := by
  refine ⟨h.lists.step hg (fun g e => .inr (.inr e)) ?_, h.deps.row hg (fun b hb e => SFr.neInts h.srt h.deps b hb e), hS, fun b hz => Nat.lt_of_lt_of_le (h.zlt b hz) hg.size, h.zdep, fun b hb hz => ?_⟩
  · intro b hb
    rcases hb with e | e | e
    · exact .inl (.inl e)
    · exact .inl (.inr (.inl e))
    · rcases hat with e2 | e2
      · exact .inl (.inr (.inr (e2 ▸ e)))
      · rw [e2] at e; injection e with e; exact .inr (by omega)
  · rcases hat with e2 | e2
    · exact h.zsrt b (e2 ▸ hb) hz
    · rw [e2] at hb; injection hb with hb
      have := h.zlt b hz; omega
/-- A list more. -/
theorem SrAt.list (h : SrAt Z lo w vl vd vs ls ds srt) {vl' : Value} {ls' : List (List Int)} (hL : GrAt lo (fun b => Z b ∨ vd.ownBlock = some b ∨ vs.ownBlock = some b) w' vl' ls') (hg : w.grownBy w' vl.ownBlock) : SrAt Z lo w' vl' vd vs ls' ds srt := by
  have ho := h.lists.own
  exact ⟨hL, h.deps.row hg (fun b hb e => (ho b e).2.2 (.inr (.inl hb))), h.srt.row hg (fun b hb e => (ho b e).2.2 (.inr (.inr hb))), fun b hz => Nat.lt_of_lt_of_le (h.zlt b hz) hg.size, h.zdep, h.zsrt⟩
/-- A depth more. -/
theorem SrAt.dep (h : SrAt Z lo w vl vd vs ls ds srt) {vd' : Value} {ds' : List Int} (hD : Fresh lo w' vd' ds') (hg : w.grownBy w' vd.ownBlock) (hat : vd'.ownBlock = vd.ownBlock ∨ vd'.ownBlock = some w.heap.size) : SrAt Z lo w' vl vd' vs ls ds' srt := by
  refine ⟨h.lists.step hg (fun g e => .inr (.inl e)) ?_, hD, h.srt.row hg (fun b hb e => SFr.neInts h.srt h.deps b e hb), fun b hz => Nat.lt_of_lt_of_le (h.zlt b hz) hg.size, fun b hb hz => ?_, h.zsrt⟩
  · intro b hb
    rcases hb with e | e | e
    · exact .inl (.inl e)
    · rcases hat with e2 | e2
      · exact .inl (.inr (.inl (e2 ▸ e)))
      · rw [e2] at e; injection e with e; exact .inr (by omega)
    · exact .inl (.inr (.inr e))
  · rcases hat with e2 | e2
    · exact h.zdep b (e2 ▸ hb) hz
    · rw [e2] at hb; injection hb with hb
      have := h.zlt b hz; omega
end
theorem SFr.mk {lo g cap n : Nat} {w : World} {cur : List Value} {srt : List Nat} (hn : srt.length = n) (hlo : lo ≤ g) (hg : w.heap[g]? = some (.cells cur.toArray 3 (0, 0))) (h1 : n ≤ cap) (h2 : cap ≤ maxLen) (h3 : cur.length = cap) (h4 : cur.take n = srtC srt) : SFr lo w (.slice (some ⟨g, 0, none⟩) n cap) srt := by
  subst hn
  exact ⟨by rw [srtC_len, Nat.mul_one], .inr ⟨g, cap, cur.toArray, rfl, hlo, hg, h1, h2, by simpa using h3, by simpa using h4⟩⟩
/-- A place more, 0 for now. -/
theorem append_srt {w : World} {ops : Array Oper} {rest : List Oper} {o : Oper} {a : Act} {Q : Exit → Act → World → Prop} (hgd : o.guard = none) (s x : Operand)
    (hop : o.op = Op.call { callee := Callee.builtin Builtin.append, args := #[s, x], argTypes := #[75, 75] })
    (B : Nat) (v : Value) (srt : List Nat) (n : Nat) (hs : a.eval s = v) (hown : SFr B w v srt) (g : Nat) (hx : a.eval x = .slice (some ⟨g, 0, none⟩) 1 1)
    (hcell : w.cell? ⟨g, 0, none⟩ = some (.int .i64 0)) (hsl : srt.length = n) (hl : n ≤ 1048576) (hB : B ≤ w.heap.size)
    (h : ∀ g' cap cur w', B ≤ g' → w'.heap[g']? = some (.cells (List.toArray cur) 3 (0, 0)) → n + 1 ≤ cap → cap ≤ maxLen → cur.length = cap → cur.take (n + 1) = srtC (srt ++ [0]) → w.grownBy w' v.ownBlock → (v.ownBlock = some g' ∨ w.heap.size = g') → wpList Try.prog ops Q rest (a.put o.dst (.slice (some ⟨g', 0, none⟩) (n + 1) cap)) w') : wpList Try.prog ops Q (o :: rest) a w := by
  obtain ⟨i0, hi, hz0, hz1, hz2⟩ := info_parts wordInfo
  subst hsl
  refine wpList_append_own_at _ hgd s x 75 hop B 3 i0 (.int .i64 0) 1 8 Try.underlying75 hi hz0 hz1 hz2 rfl (by decide) v srt.length (srtC srt) hs hown ⟨g, 0, none⟩ 1 1 [.int .i64 0] hx rfl ?_ ?_ ?_ ?_ hB ?_
  · intro j u hj
    match j, hj with
    | 0, hj => simp at hj; subst hj; simpa [Addr.add] using hcell
  · intro u hu; simp at hu; subst hu; rfl
  · unfold maxLen; omega
  · omega
  · intro v' w' hown' hgrow _ hat
    rcases hown'.2 with ⟨e, h2⟩ | ⟨g', cap, cur, rfl, h1, h2, h3, h4, h5, h6⟩
    · omega
    · refine h g' cap cur.toList w' h1 h2 h3 h4 (by simpa using h5) ?_ hgrow ?_
      · rw [Nat.mul_one] at h6
        rw [h6]
        unfold srtC
        rw [List.map_append]; rfl
      · rcases hat with e | e
        · exact .inl e.symm
        · injection e with e; exact .inr e.symm
/-- The row behind the copy and the store. -/
theorem splice_srt {srt : List Nat} {cur : List Value} {a n cap : Nat} (ha : a ≤ srt.length) (hn : srt.length = n) (hc : n + 1 ≤ cap) (hl : cur.length = cap) (h : cur.take (n + 1) = srtC (srt ++ [0])) :
    ((splice cur (a + 1) ((srtC srt).drop a)).set a (.int .i64 (n : Int))).take (n + 1) = srtC (insN srt a n) := by
  have hcl := srtC_len srt
  have hcur : ∀ i, i < n → cur[i]? = (srtC srt)[i]? := fun i hi => by
    have e1 : (cur.take (n + 1))[i]? = cur[i]? := List.getElem?_take_of_lt (by omega)
    rw [← e1, h]
    unfold srtC
    rw [List.map_append, List.getElem?_append_left (by rw [List.length_map]; omega)]
  refine List.ext_getElem? fun i => ?_
  have hsl : (splice cur (a + 1) ((srtC srt).drop a)).length = cap := by rw [length_splice _ _ _ (by rw [List.length_drop, hcl]; omega), hl]
  by_cases hi : i < n + 1
  · rw [List.getElem?_take_of_lt hi, List.getElem?_set]
    have hR : (srtC (insN srt a n))[i]? = some (.int .i64 (((insN srt a n).getD i 0 : Nat) : Int)) := srtC_get _ (by rw [insN_len]; omega)
    rw [hR, insN_get srt a n ha]
    by_cases e : a = i
    · subst e
      rw [if_pos rfl, if_pos (by rw [hsl]; omega), if_neg (by omega), if_pos rfl]
    · rw [if_neg e]
      unfold splice
      have htl : (cur.take (a + 1)).length = a + 1 := by rw [List.length_take]; omega
      by_cases e1 : i < a
      · rw [if_pos e1, List.getElem?_append_left (by omega), List.getElem?_take_of_lt (by omega), hcur i (by omega)]
        exact srtC_get srt (by omega)
      · rw [if_neg e1, if_neg (fun e2 => e e2.symm), List.getElem?_append_right (by omega), htl, List.getElem?_append_left (by rw [List.length_drop, hcl]; omega), List.getElem?_drop, show a + (i - (a + 1)) = i - 1 from by omega]
        exact srtC_get srt (by omega)
  · rw [List.getElem?_eq_none (by rw [List.length_take]; omega), List.getElem?_eq_none (by rw [srtC_len, insN_len]; omega)]
end
section
open Go.RowKit Grp

/-- copy as one step of a region that draws: nothing turns but the row. -/
theorem step_copy_row {P : Program} {ops : Array Oper} {o : Oper} {a : Act} {w : World} {K : Act → World → Prop} {Q : Exit → Act → World → Prop} {E : Prop} (hgd : o.guard = none) (d s : Operand) (dT sT : TypeId)
    (ho : o.op = .call { callee := .builtin .copy, args := #[d, s], argTypes := #[dT, sT] }) (elem : TypeId) (hu : P.underlying dT = some (.slice elem)) (hsz : (P.info? elem).map (·.size) = some 1)
    (dp sp : Option Addr) (dLen dCap sLen sCap : Nat) (hd : a.eval d = .slice dp dLen dCap) (hs : a.eval s = .slice sp sLen sCap)
    (g off : Nat) (cur : List Value) (t : TypeId) (hg : w.heap[g]? = some (.cells cur.toArray t (0, 0))) (cs : List Value) (hn : cs.length = Nat.min sLen dLen)
    (hpos : 0 < cs.length → dp = some ⟨g, off, none⟩ ∧ ∃ ad, sp = some ad ∧ ∀ j v, cs[j]? = some v → w.cell? (ad.add j) = some v)
    (hfit : off + cs.length ≤ cur.length) (h1 : ∀ v ∈ cs, v.oneCell' = true)
    (h : ∀ w', Hid (w'.heap[g]? = some (.cells (splice cur off cs).toArray t (0, 0))) → w.grownBy w' (some g) → K (a.put o.dst (goInt cs.length)) w') :
    if Region.wanted o (yielded ops a.tmps) = true then Oper.wp P o a w K Q else E := by
  have hw : Region.wanted o (yielded ops a.tmps) = true := by simp [Region.wanted, hgd]
  rw [if_pos hw]
  by_cases h0 : cs.length = 0
  · obtain rfl : cs = [] := List.eq_nil_of_length_eq_zero h0
    have hrun := run_copy_none (P := P) w dT sT o.type elem dp sp dLen dCap sLen sCap hu hsz (by simpa using hn.symm)
    unfold Oper.wp
    simp [execOp, ho, resolve, invoke, builtin, hd, hs, hrun, Result.andThen]
    exact h w (show _ = _ by simpa [splice] using hg) ⟨rfl, rfl, rfl, Nat.le_refl _, fun _ _ _ => rfl⟩
  · obtain ⟨rfl, ad, rfl, hsrc⟩ := hpos (by omega)
    have hrun := run_copy_row (P := P) w dT sT o.type elem g off dLen dCap ad sLen sCap cur.toArray t cs hu hsz hg hn hsrc (by simpa using hfit) h1
    unfold Oper.wp
    simp [execOp, ho, resolve, invoke, builtin, hd, hs, hrun, Result.andThen]
    exact h _ (show _ = _ by simpa [splice] using setRow_heap w g _ _ t _ hg) ⟨rfl, rfl, rfl, by simp [World.setRow], fun k _ hne => setRow_other w g k _ (fun e => hne (by rw [e]))⟩
theorem row4 {w : World} {g : Nat} {a b c d : Value} {T : TypeId} (h : w.heap[g]? = some (.cells #[a, b, c, d] T (0, 0))) : w.cell? ⟨g, 0, none⟩ = some a ∧ w.cell? ⟨g, 1, none⟩ = some b ∧ w.cell? ⟨g, 2, none⟩ = some c ∧ w.cell? ⟨g, 3, none⟩ = some d ∧ (∀ p, w.frozen? ⟨g, p, none⟩ = false) ∧ g < w.heap.size :=
  ⟨cell_of_row w g 0 _ _ (0, 0) h, cell_of_row w g 1 _ _ (0, 0) h, cell_of_row w g 2 _ _ (0, 0) h, cell_of_row w g 3 _ _ (0, 0) h, fun _ => row_free h, row_lt h⟩
theorem row4S {w : World} {g : Nat} {a b c d : Value} {T : TypeId} (h : w.heap[g]? = some (.cells #[a, b, c, d] T (0, 0))) (x y z u : Value) : ((((w.setCell ⟨g, 0, none⟩ x).setCell ⟨g, 1, none⟩ y).setCell ⟨g, 2, none⟩ z).setCell ⟨g, 3, none⟩ u).heap[g]? = some (.cells #[x, y, z, u] T (0, 0)) := rowSet u (rowSet z (rowSet y (rowSet x h)))
theorem wordSize : (Try.prog.info? 3).map (·.size) = some 1 := by kernel_rfl
theorem srtC_one (srt : List Nat) : ∀ v ∈ srtC srt, v.oneCell' = true := by
  intro v hv
  unfold srtC at hv
  obtain ⟨i, -, rfl⟩ := List.mem_map.1 hv
  rfl
theorem SrAt.own {Z : Nat → Prop} {lo : Nat} {w : World} {vl vd vs : Value} {ls : List (List Int)} {ds : List Int} {srt : List Nat} (h : SrAt Z lo w vl vd vs ls ds srt) : (∀ b, vl.ownBlock = some b → lo ≤ b ∧ b < w.heap.size) ∧ (∀ b, vd.ownBlock = some b → lo ≤ b ∧ b < w.heap.size) ∧ (∀ b, vs.ownBlock = some b → lo ≤ b ∧ b < w.heap.size) :=
  ⟨fun b hb => ⟨(h.lists.own b hb).1, (h.lists.own b hb).2.1⟩, fun b hb => ⟨h.deps.block b hb, h.deps.under b hb⟩, fun b hb => World.ownsRow.lt h.srt b hb⟩
def AddPost (Z : Nat → Prop) (lo L : Nat) (wh : Bool) (ls : List (List Int)) (ds : List Int) (x : List Int) (d : Int) (w : World) (e : Ending) (w' : World) : Prop :=
  ∃ vl' vd' vs' srt', e = .returned (.agg #[vl', vd', vs', .bool wh]) ∧ SrAt Z lo w' vl' vd' vs' (ls ++ [x]) (ds ++ [d]) srt' ∧ SortOk L (ls ++ [x]) srt' ∧ (∀ b, Z b → w'.heap[b]? = w.heap[b]?) ∧ Below lo w w'
set_option maxRecDepth 100000 in
set_option maxHeartbeats 4000000 in
theorem specAdd (Z : Nat → Prop) (lo cx L : Nat) (vl vd vs : Value) (ls : List (List Int)) (ds : List Int) (srt : List Nat) (x : List Int) (Ax : Option Addr) (d : Int) (wh : Bool) (w : World) (h : SrAt Z lo w vl vd vs ls ds srt) (hlo : lo ≤ w.heap.size) (hx : IntsAt w Ax x) (hcx : L ≤ cx)
    (hxz : 0 < x.length → ∀ g off s, Ax = some ⟨g, off, s⟩ → ¬ Z g ∧ vl.ownBlock ≠ some g ∧ vd.ownBlock ≠ some g ∧ vs.ownBlock ≠ some g) (hso : SortOk L ls srt) (hdl : ds.length = ls.length) (hxl : x.length = L) (hL : L ≤ 1048576) (hni : inL ls x = false) (hn3 : ls.length ≤ 3000) :
    Calls Try.prog 111 #[.agg #[vl, vd, vs, .bool wh], .slice Ax L cx, .int .i64 d] w (AddPost Z lo L wh ls ds x d w) := by
  obtain ⟨Al, cl, rfl, hcl, -⟩ := h.lists.shape
  obtain ⟨Ad, cd, hcd, rfl, -⟩ := h.deps.capped
  obtain ⟨As, cs, rfl, hcs⟩ := h.srt.shape
  have hsl : srt.length = ls.length := hso.len
  obtain ⟨n, hn⟩ : ∃ n, ls.length = n := ⟨_, rfl⟩
  rw [hn] at hn3 hcl
  rw [hsl, hn] at hcs
  rw [hdl, hn] at hcd
  rw [hdl, hsl, hn]
  rw [hdl, hsl, hn] at h hxz
  have hx2 : SortOk L ls srt := hso
  have HSO := Lib.hid hso
  have HXL := Lib.hid hxl
  have HNN := Lib.hid hn
  have HNI := Lib.hid hni
  have HXZ := Lib.hid hxz
  have HDL := Lib.hid (hdl.trans hn)
  have HSL := Lib.hid (hsl.trans hn)
  obtain ⟨w0, hw0⟩ : ∃ w0, (w.alloc (.cells #[.slice Al n cl, .slice Ad n cd, .slice As n cs, .bool wh] 77)).alloc (.cells #[.slice none 0 0, .slice none 0 0, .slice none 0 0, .bool false] 77) = w0 := ⟨_, rfl⟩
  have hb0 : Below w.heap.size w w0 := by rw [← hw0]; exact (by repeat (first | exact Below.refl _ _ | assumption | refine Below.setCell ?_ (by first | omega | (simp <;> omega)) _ | refine Below.alloc ?_ (by first | omega | (simp <;> omega)) _ | refine Below.drew ?_))
  have r0 : w0.heap[w.heap.size]? = some (.cells #[.slice Al n cl, .slice Ad n cd, .slice As n cs, .bool wh] 77 (0, 0)) := by rw [← hw0]; exact alloc2_0 _ _ _
  have r1 : w0.heap[w.heap.size + 1]? = some (.cells #[.slice none 0 0, .slice none 0 0, .slice none 0 0, .bool false] 77 (0, 0)) := by rw [← hw0]; exact alloc2_1 _ _ _
  have hz0 : w0.heap.size = w.heap.size + 2 := by rw [← hw0]; simp
  obtain ⟨c0, c1, c2, c3, -, -⟩ := row4 r0
  have R0 := Lib.hid r0
  have R1 := Lib.hid r1
  have HS0 : Hid (SrAt (fun b => Z b ∨ b = w.heap.size ∨ b = w.heap.size + 1) lo w0 (.slice Al n cl) (.slice Ad n cd) (.slice As n cs) ls ds srt) := h.zmore hb0 (fun b hb => by rcases hb with e | e | e; exact .inl e; exact .inr (by omega); exact .inr (by omega)) (fun b hb => by rcases hb with e | e | e; have := h.zlt b e; omega; omega; omega)
  have HX0 := Lib.hid (hx.below hb0)
  have HZL := Lib.hid h.zlt
  have HOWN := Lib.hid h.own
  have HS3Z : Hid (∀ b, Z b → (Value.slice As n cs).ownBlock ≠ some b) := fun b hb e => h.zsrt b e hb
  have HB00 := Lib.hid hb0
  have HX := Lib.hid hx
  clear h r0 r1 hx hx2 hso hxl hn hni hxz hdl hsl hb0
  go_enter Try.func111, Try.ntmps111
  go_wp2_with fail
  clear hw0 c0 c1 c2 c3
  refine (specSlot Al Ax As Ad cl cx cs n cd n L wh ls srt x w0 HS0.out.lists.lat HS0.out.srt.ints HX0.out HSO.out HXL.out hL HNN.out hn3).mono ?_
  rintro e w1 ⟨a, rfl, hSA, hb1⟩
  have HSA := Lib.hid hSA
  have ha : a ≤ n := by have := hSA.1; rwa [HSL.out] at this
  have HB1 := Lib.hid hb1
  have hz1 := hb1.size
  have HS1 := Lib.hid (HS0.out.below hb1)
  obtain ⟨c0, c1, c2, c3, cf, cl0⟩ := row4 (rowB hb1 R0.out)
  have HOWN1 := Lib.hid (HS1.out.own)
  clear hSA hb1
  have hnn : n ≤ 1048576 := by omega
  go_wp2_with (first | (at_builtin; refine append_srt rfl (.tmp 12) (.tmp 13) rfl lo (.slice As n cs) srt n rfl (HS1.out.below (by exact (by repeat (first | exact Below.refl _ _ | assumption | refine Below.setCell ?_ (by first | omega | (simp <;> omega)) _ | refine Below.alloc ?_ (by first | omega | (simp <;> omega)) _ | refine Below.drew ?_)))).srt w1.heap.size rfl (by simp) HSL.out hnn (by simp; omega) ?_; intro gs cap cur w2 hgs hg2 hcap hcap2 hcur hct hgr2 hat2; have HS2 : Hid (SrAt (fun b => Z b ∨ b = w.heap.size ∨ b = w.heap.size + 1) lo w2 (.slice Al n cl) (.slice Ad n cd) (.slice (some ⟨gs, 0, none⟩) (n + 1) cap) ls ds (srt ++ [0])) := (HS1.out.below (by exact (by repeat (first | exact Below.refl _ _ | assumption | refine Below.setCell ?_ (by first | omega | (simp <;> omega)) _ | refine Below.alloc ?_ (by first | omega | (simp <;> omega)) _ | refine Below.drew ?_)))).sort (SFr.mk (by rw [List.length_append, HSL.out]; rfl) hgs hg2 hcap hcap2 hcur hct) hgr2 (by rcases hat2 with e | e; exact .inl e.symm; exact .inr (congrArg some e.symm)); have R2 := Lib.hid (rowR hgr2 (rowB (by exact (by repeat (first | exact Below.refl _ _ | assumption | refine Below.setCell ?_ (by first | omega | (simp <;> omega)) _ | refine Below.alloc ?_ (by first | omega | (simp <;> omega)) _ | refine Below.drew ?_))) (rowB HB1.out R0.out)) (fun e => by have := HOWN.out.2.2 _ e; omega)); have RR2 := Lib.hid (rowR hgr2 (rowB (by exact (by repeat (first | exact Below.refl _ _ | assumption | refine Below.setCell ?_ (by first | omega | (simp <;> omega)) _ | refine Below.alloc ?_ (by first | omega | (simp <;> omega)) _ | refine Below.drew ?_))) (rowB HB1.out R1.out)) (fun e => by have := HOWN.out.2.2 _ e; omega)); have HGR2 := Lib.hid hgr2; have HG2 := Lib.hid hg2; have HCT := Lib.hid hct; have HAT2 := Lib.hid hat2; clear c0 c1 c2 c3 cf cl0 hgr2 hg2 hct hat2; obtain ⟨c0, c1, c2, c3, cf, cl0⟩ := row4 R2.out))
  obtain ⟨w3, hw3⟩ : ∃ w3, w2.setCell ⟨w.heap.size, 2, none⟩ (.slice (some ⟨gs, 0, none⟩) (n + 1) cap) = w3 := ⟨_, rfl⟩
  rw [hw3]
  have hgH : gs ≠ w.heap.size ∧ gs ≠ w.heap.size + 1 := by
    rcases HAT2.out with e | e
    · have := HOWN.out.2.2 _ e; omega
    · simp at e; omega
  obtain ⟨hgH, hgH1⟩ := hgH
  have HS3 : Hid (SrAt (fun b => Z b ∨ b = w.heap.size ∨ b = w.heap.size + 1) lo w3 (.slice Al n cl) (.slice Ad n cd) (.slice (some ⟨gs, 0, none⟩) (n + 1) cap) ls ds (srt ++ [0])) := by rw [← hw3]; exact HS2.out.kept (setGrown _ _ _ _) (.inr (.inl rfl))
  have R3 : Hid (w3.heap[w.heap.size]? = some (.cells #[.slice Al n cl, .slice Ad n cd, .slice (some ⟨gs, 0, none⟩) (n + 1) cap, .bool wh] 77 (0, 0))) := by rw [← hw3]; exact rowSet _ R2.out
  have RR3 : Hid (w3.heap[w.heap.size + 1]? = some (.cells #[.slice none 0 0, .slice none 0 0, .slice none 0 0, .bool false] 77 (0, 0))) := by rw [← hw3]; exact rowS RR2.out (by simp)
  have HG3 : Hid (w3.heap[gs]? = some (.cells cur.toArray 3 (0, 0))) := by rw [← hw3]; exact rowS HG2.out hgH
  have hsz3 : w3.heap.size = w2.heap.size := by rw [← hw3]; simp
  have HGR3 : Hid (w2.grownBy w3 (some w.heap.size)) := by rw [← hw3]; exact setGrown _ _ _ _
  clear hw3 c0 c1 c2 c3 cf cl0 R2 RR2
  obtain ⟨c0, c1, c2, c3, cf, cl0⟩ := row4 R3.out
  have hGd : w3.drew.heap[gs]? = some (.cells cur.toArray 3 (0, 0)) := HG3.out
  have q0 : (0 : Int) ≤ (a : Int) := by omega
  have q1 : (a : Int) ≤ (n : Int) := by omega
  have q2 : (a : Int) < (n : Int) + 1 := by omega
  have q3 : (a : Int) ≤ (n : Int) + 1 := by omega
  have q4 : a ≤ cap := by omega
  have q8 : (0 : Int) ≤ (a : Int) + 1 := by omega
  have q10 : (n : Int) + 1 ≤ (cap : Int) := by omega
  have q11 : (a : Int) ≤ (cap : Int) := by omega
  have q12 : (a : Int) < (cap : Int) := by omega
  have q13 : (a : Int) + 1 ≤ (cap : Int) := by omega
  have q14 : n + 1 ≤ cap := hcap
  have q5 : ¬ cap = a := by omega
  have q6 : a + 1 ≤ cap := by omega
  have q7 : a ≤ n + 1 := by omega
  have hwa : IntKind.i64.wrap ((a : Int) + 1) = (a : Int) + 1 := IntWalk.i64_in _ (by omega)
  have HCL := Lib.hid (srtC_len srt)
  have hn4 : ((srtC srt).drop a).length = Nat.min (n + 1 - a) (n - a) := by
    rw [List.length_drop, HCL.out, HSL.out]
    exact (Nat.min_eq_right (by omega)).symm
  have hcu : ∀ i, i < n → cur[i]? = (srtC srt)[i]? := fun i hi => by
    have e1 : (cur.take (n + 1))[i]? = cur[i]? := List.getElem?_take_of_lt (by omega)
    rw [← e1, HCT.out]
    unfold srtC
    rw [List.map_append, List.getElem?_append_left (by rw [List.length_map, HSL.out]; omega)]
  have hsrc : ∀ j v, ((srtC srt).drop a)[j]? = some v → w3.drew.cell? ((⟨gs, a, none⟩ : Addr).add j) = some v := fun j v hv => by
    rw [List.getElem?_drop] at hv
    have hj : a + j < n := by
      have := (List.getElem?_eq_some_iff.1 hv).1
      rw [HCL.out, HSL.out] at this; exact this
    rw [← hcu (a + j) hj] at hv
    rw [show ((⟨gs, a, none⟩ : Addr).add j) = ⟨gs, a + j, none⟩ from by simp [Addr.add]]
    exact list_cell hGd hv
  have hfit : a + 1 + ((srtC srt).drop a).length ≤ cur.length := by rw [List.length_drop, HCL.out, HSL.out]; omega
  have HNE : Hid (0 < ((srtC srt).drop a).length → ¬ cap = a + 1) := fun h => by rw [List.length_drop, HCL.out, HSL.out] at h; omega
  obtain ⟨cz, hcz⟩ : ∃ cz, (srtC srt).drop a = cz := ⟨_, rfl⟩
  have hone : ∀ v ∈ cz, v.oneCell' = true := fun v hv => srtC_one srt v (List.mem_of_mem_drop (hcz ▸ hv))
  rw [hcz] at hn4 hsrc hfit HNE
  have HCZ := Lib.hid hcz
  have HSRC := Lib.hid hsrc
  have HONE := Lib.hid hone
  have HN4 := Lib.hid hn4
  have HFIT := Lib.hid hfit
  clear hcz hsrc hcu hone hn4 hfit
  go_region_held3 (fun w' => w'.cell? ⟨w.heap.size, 2, none⟩ = some (.slice (some ⟨gs, 0, none⟩) (n + 1) cap)) (go_keep) ((refine step_copy_row (by rfl) (.tmp 20) (.tmp 24) _ _ (by rfl) 3 Try.underlying75 wordSize (if cap = a + 1 then some ⟨gs, 0, none⟩ else some ⟨gs, a + 1, none⟩) (some ⟨gs, a, none⟩) (n - a) (cap - (a + 1)) (n + 1 - a) (cap - a) (by rfl) (by rfl) gs (a + 1) cur 3 hGd cz HN4.out (fun hp => ⟨if_neg (HNE.out hp), _, rfl, HSRC.out⟩) HFIT.out HONE.out ?_; intro w4 HH4 hg4; have ck4 := (row4 (rowR hg4 R3.out (fun e => hgH (by injection e)))).2.2.1))
  generalize (if cap = a + 1 then (some ⟨gs, 0, none⟩ : Option Addr) else some ⟨gs, a + 1, none⟩) = dp
  have hgrow4 : w3.grownBy w4 (some gs) := ⟨hg4.os, hg4.tape, hg4.output, hg4.size, hg4.block⟩
  have HG4 := HH4.out
  rw [← HCZ.out] at HG4
  have hsz4 := hgrow4.size
  have R4 := Lib.hid (rowR hgrow4 R3.out (fun e => hgH (by injection e)))
  have RR4 := Lib.hid (rowR hgrow4 RR3.out (fun e => hgH1 (by injection e)))
  obtain ⟨cur4, hcur4⟩ : ∃ cur4, splice cur (a + 1) ((srtC srt).drop a) = cur4 := ⟨_, rfl⟩
  have hl4 : cur4.length = cap := by rw [← hcur4, length_splice _ _ _ (by have := HFIT.out; rw [← HCZ.out] at this; exact this), hcur]
  have HTK : Hid ((cur4.set a (.int .i64 (n : Int))).take (n + 1) = srtC (insN srt a n)) := by unfold Hid; rw [← hcur4]; exact splice_srt (by rw [HSL.out]; exact ha) HSL.out hcap hcur HCT.out
  rw [hcur4] at HG4
  have cg4 : w4.cell? ⟨gs, a, none⟩ = some (cur4[a]'(by omega)) := by
    exact list_cell HG4 (List.getElem?_eq_getElem (by omega))
  obtain ⟨z4, hz4⟩ : ∃ z4, cur4[a]'(by omega) = z4 := ⟨_, rfl⟩
  rw [hz4] at cg4
  have fg4 : ∀ p, w4.frozen? ⟨gs, p, none⟩ = false := fun p => row_free HG4
  have HGG4 := Lib.hid HG4
  have HGR4 := Lib.hid hgrow4
  clear ck4 hgrow4 hg4 HH4 hcur4 HG4 hz4 hGd c0 c1 c2 c3 cf cl0 HS0 HS1 HS2 HG2 HG3 HCT HCZ HSRC HONE HN4 HFIT HNE HCL
  obtain ⟨c0, c1, c2, c3, cf, cl0⟩ := row4 R4.out
  obtain ⟨w5, hw5⟩ : ∃ w5, w4.setCell ⟨gs, a, none⟩ (.int .i64 (n : Int)) = w5 := ⟨_, rfl⟩
  have HGR5 : Hid (w4.grownBy w5 (some gs)) := by rw [← hw5]; exact setGrown _ _ _ _
  have HGG5 : Hid (w5.heap[gs]? = some (.cells (cur4.set a (.int .i64 (n : Int))).toArray 3 (0, 0))) := by rw [← hw5]; exact list_store _ HGG4.out
  have HS5 : Hid (SrAt (fun b => Z b ∨ b = w.heap.size ∨ b = w.heap.size + 1) lo w5 (.slice Al n cl) (.slice Ad n cd) (.slice (some ⟨gs, 0, none⟩) (n + 1) cap) ls ds (insN srt a n)) :=
    HS3.out.sort (SFr.mk (by rw [insN_len, HSL.out]) hgs HGG5.out hcap hcap2 (by rw [List.length_set]; exact hl4) HTK.out) (HGR4.out.trans HGR5.out) (.inl rfl)
  have hsz2 : w1.heap.size ≤ w2.heap.size := by have := HGR2.out.size; simp at this; omega
  have HZ2 : Hid (∀ b, Z b → w2.heap[b]? = w.heap[b]?) := fun b hb => by
    have hbl := HZL.out b hb
    rw [HGR2.out.block b (by simp; omega) (fun e => (HS3Z.out b hb) e.symm), (show Below w1.heap.size w1 (w1.alloc (.cells #[.int .i64 0] 3)) from by exact (by repeat (first | exact Below.refl _ _ | assumption | refine Below.setCell ?_ (by first | omega | (simp <;> omega)) _ | refine Below.alloc ?_ (by first | omega | (simp <;> omega)) _ | refine Below.drew ?_))).block b (by omega), HB1.out.block b (by omega), HB00.out.block b hbl]
  have HZ5 : Hid (∀ b, Z b → w5.heap[b]? = w.heap[b]?) := fun b hb => by
    have hbl := HZL.out b hb
    have hne : b ≠ gs := fun e => HS3.out.zsrt gs rfl (.inl (e ▸ hb))
    rw [HGR5.out.block b (by omega) (fun e => hne (by injection e)), HGR4.out.block b (by omega) (fun e => hne (by injection e)), HGR3.out.block b (by omega) (fun e => by injection e with e; omega), HZ2.out b hb]
  have HL2 : Hid (Below lo w w2) := ((((HB00.out.mono hlo).trans (HB1.out.mono (by omega))).alloc (by omega) _).grown HGR2.out (by simp; omega) (fun b hb => (HOWN.out.2.2 b hb).1))
  have HL5 : Hid (Below lo w w5) := ((HL2.out.grown HGR3.out (by omega) (fun b hb => by injection hb with hb; omega)).grown HGR4.out (by omega) (fun b hb => by injection hb with hb; omega)).grown HGR5.out (by omega) (fun b hb => by injection hb with hb; omega)
  have HOWN5 := Lib.hid HS5.out.own
  have R5 : Hid (w5.heap[w.heap.size]? = _) := rowR HGR5.out R4.out (fun e => hgH (by injection e))
  have RR5 : Hid (w5.heap[w.heap.size + 1]? = _) := rowR HGR5.out RR4.out (fun e => hgH1 (by injection e))
  have hsz5 : w5.heap.size = w4.heap.size := by rw [← hw5]; simp
  have HX5 : Hid (IntsAt w5 Ax x) := by
    have hne : 0 < x.length → ∀ g off s, Ax = some ⟨g, off, s⟩ → g ≠ gs := fun h0 g off s e e2 => by
      subst e2
      rcases HAT2.out with e3 | e3
      · exact (HXZ.out h0 g off s e).2.2.2 e3
      · have := HX.out.first h0 e; simp at e3; omega
    have h1 := (HX0.out.below HB1.out).below (show Below w1.heap.size w1 (w1.alloc (.cells #[.int .i64 0] 3)) from by exact (by repeat (first | exact Below.refl _ _ | assumption | refine Below.setCell ?_ (by first | omega | (simp <;> omega)) _ | refine Below.alloc ?_ (by first | omega | (simp <;> omega)) _ | refine Below.drew ?_)))
    have h2 := h1.kept HGR2.out (fun h0 g off s e e2 => (HXZ.out h0 g off s e).2.2.2 e2)
    have h3 := h2.kept HGR3.out (fun h0 g off s e e2 => by have := HX.out.first h0 e; injection e2 with e2; omega)
    have h4 := h3.kept HGR4.out (fun h0 g off s e e2 => by injection e2 with e2; exact hne h0 g off s e e2.symm)
    exact h4.kept HGR5.out (fun h0 g off s e e2 => by injection e2 with e2; exact hne h0 g off s e e2.symm)
  have HYZ : Hid (0 < x.length → ∀ g off s, Ax = some ⟨g, off, s⟩ → ¬ ((Z g ∨ g = w.heap.size ∨ g = w.heap.size + 1) ∨ (Value.slice Ad n cd).ownBlock = some g ∨ (Value.slice (some ⟨gs, 0, none⟩) (n + 1) cap).ownBlock = some g) ∧ (Value.slice Al n cl).ownBlock ≠ some g) := fun h0 g off s e => by
    have h1 := HX.out.first h0 e
    obtain ⟨k1, k2, k3, k4⟩ := HXZ.out h0 g off s e
    refine ⟨fun h2 => ?_, k2⟩
    rcases h2 with (h2 | h2 | h2) | h2 | h2
    · exact k1 h2
    · omega
    · omega
    · exact k3 h2
    · simp only [Value.ownBlock, Option.some.injEq] at h2
      subst h2
      rcases HAT2.out with e3 | e3
      · exact k4 e3
      · simp at e3; omega
  have hll : ls.length ≤ 1048576 := by rw [HNN.out]; omega
  have hdl2 : ds.length ≤ 1048576 := by rw [HDL.out]; omega
  have c50 := (row4 R5.out).1
  have c51 := (row4 R5.out).2.1
  have c52 := (row4 R5.out).2.2.1
  have c53 := (row4 R5.out).2.2.2.1
  have f5 := (row4 R5.out).2.2.2.2.1
  go_wp2_with (first
    | (at_builtin; refine append_gr rfl (.tmp 34) (.tmp 36) rfl lo (fun b => (Z b ∨ b = w.heap.size ∨ b = w.heap.size + 1) ∨ (Value.slice Ad n cd).ownBlock = some b ∨ (Value.slice (some ⟨gs, 0, none⟩) (n + 1) cap).ownBlock = some b) (.slice Al n cl) ls x Ax cx rfl (HS5.out.below (by exact (by repeat (first | exact Below.refl _ _ | assumption | refine Below.setCell ?_ (by first | omega | (simp <;> omega)) _ | refine Below.alloc ?_ (by first | omega | (simp <;> omega)) _ | refine Below.drew ?_)))).lists (fun b hb => by simp; rcases hb with h1 | h1 | h1; have := HS5.out.zlt b h1; omega; have := (HOWN5.out.2.1 b h1).2; omega; have := (HOWN5.out.2.2 b h1).2; omega) w4.heap.size rfl (by rw [← hsz5, HXL.out]; simp) (by rw [HXL.out]; exact hcx) (HX5.out.below (by exact (by repeat (first | exact Below.refl _ _ | assumption | refine Below.setCell ?_ (by first | omega | (simp <;> omega)) _ | refine Below.alloc ?_ (by first | omega | (simp <;> omega)) _ | refine Below.drew ?_)))) HYZ.out hll (by simp; omega) ?_; intro A6 c6 w6 hG6 hg6 hat6; have HS6 := Lib.hid ((HS5.out.below (by exact (by repeat (first | exact Below.refl _ _ | assumption | refine Below.setCell ?_ (by first | omega | (simp <;> omega)) _ | refine Below.alloc ?_ (by first | omega | (simp <;> omega)) _ | refine Below.drew ?_)))).list hG6 hg6); have HGR6 := Lib.hid hg6; have R6 := Lib.hid (rowR hg6 (rowB (by exact (by repeat (first | exact Below.refl _ _ | assumption | refine Below.setCell ?_ (by first | omega | (simp <;> omega)) _ | refine Below.alloc ?_ (by first | omega | (simp <;> omega)) _ | refine Below.drew ?_))) R5.out) (fun e => by have := HOWN.out.1 _ e; omega)); have RR6 := Lib.hid (rowR hg6 (rowB (by exact (by repeat (first | exact Below.refl _ _ | assumption | refine Below.setCell ?_ (by first | omega | (simp <;> omega)) _ | refine Below.alloc ?_ (by first | omega | (simp <;> omega)) _ | refine Below.drew ?_))) RR5.out) (fun e => by have := HOWN.out.1 _ e; omega)); clear hG6 hat6 c50 c51 c52 c53 f5; have hsz6 : w4.heap.size ≤ w6.heap.size := (by have := hg6.size; simp at this; omega); clear hg6; obtain ⟨w7, hw7⟩ : ∃ w7, w6.setCell ⟨w.heap.size, 0, none⟩ (.slice A6 (ls.length + 1) c6) = w7 := ⟨_, rfl⟩; have HGR7 : Hid (w6.grownBy w7 (some w.heap.size)) := (by rw [← hw7]; exact setGrown _ _ _ _); have HS7 := Lib.hid (HS6.out.kept HGR7.out (.inr (.inl rfl))); have R7 : Hid (w7.heap[w.heap.size]? = some (.cells #[.slice A6 (ls.length + 1) c6, .slice Ad n cd, .slice (some ⟨gs, 0, none⟩) (n + 1) cap, .bool wh] 77 (0, 0))) := (by rw [← hw7]; exact rowSet _ R6.out); have RR7 := Lib.hid (rowR HGR7.out RR6.out (fun e => by injection e with e; omega)); have hsz7 : w7.heap.size = w6.heap.size := (by rw [← hw7]; simp); have f6 := (row4 R6.out).2.2.2.2.1; have c60 := (row4 R6.out).1; have c70 := (row4 R7.out).1; have c71 := (row4 R7.out).2.1; have c72 := (row4 R7.out).2.2.1; have c73 := (row4 R7.out).2.2.2.1)
    | (at_builtin; refine append_at rfl (.tmp 40) (.tmp 42) rfl lo (.slice Ad n cd) ds d rfl (HS7.out.below (by exact (by repeat (first | exact Below.refl _ _ | assumption | refine Below.setCell ?_ (by first | omega | (simp <;> omega)) _ | refine Below.alloc ?_ (by first | omega | (simp <;> omega)) _ | refine Below.drew ?_)))).deps w6.heap.size rfl (by rw [← hsz7]; simp) hdl2 (by simp; omega) ?_; intro A8 c8 w8 hF8 hg8 hat8; have HS8 := Lib.hid ((HS7.out.below (by exact (by repeat (first | exact Below.refl _ _ | assumption | refine Below.setCell ?_ (by first | omega | (simp <;> omega)) _ | refine Below.alloc ?_ (by first | omega | (simp <;> omega)) _ | refine Below.drew ?_)))).dep hF8 hg8 hat8); have HGR8 := Lib.hid hg8; have R8 := Lib.hid (rowR hg8 (rowB (by exact (by repeat (first | exact Below.refl _ _ | assumption | refine Below.setCell ?_ (by first | omega | (simp <;> omega)) _ | refine Below.alloc ?_ (by first | omega | (simp <;> omega)) _ | refine Below.drew ?_))) R7.out) (fun e => by have := HOWN.out.2.1 _ e; omega)); have RR8 := Lib.hid (rowR hg8 (rowB (by exact (by repeat (first | exact Below.refl _ _ | assumption | refine Below.setCell ?_ (by first | omega | (simp <;> omega)) _ | refine Below.alloc ?_ (by first | omega | (simp <;> omega)) _ | refine Below.drew ?_))) RR7.out) (fun e => by have := HOWN.out.2.1 _ e; omega)); clear hF8 hat8 c70 c71 c72 c73 f6 c60; have hsz8 : w6.heap.size ≤ w8.heap.size := (by have := hg8.size; simp at this; omega); clear hg8; obtain ⟨w9, hw9⟩ : ∃ w9, w8.setCell ⟨w.heap.size, 1, none⟩ (.slice A8 (ds.length + 1) c8) = w9 := ⟨_, rfl⟩; have HGR9 : Hid (w8.grownBy w9 (some w.heap.size)) := (by rw [← hw9]; exact setGrown _ _ _ _); have HS9 := Lib.hid (HS8.out.kept HGR9.out (.inr (.inl rfl))); have R9 : Hid (w9.heap[w.heap.size]? = some (.cells #[.slice A6 (ls.length + 1) c6, .slice A8 (ds.length + 1) c8, .slice (some ⟨gs, 0, none⟩) (n + 1) cap, .bool wh] 77 (0, 0))) := (by rw [← hw9]; exact rowSet _ R8.out); have RR9 := Lib.hid (rowR HGR9.out RR8.out (fun e => by injection e with e; omega)); have hsz9 : w9.heap.size = w8.heap.size := (by rw [← hw9]; simp); have f8 := (row4 R8.out).2.2.2.2.1; have c81 := (row4 R8.out).2.1; have c90 := (row4 R9.out).1; have c91 := (row4 R9.out).2.1; have c92 := (row4 R9.out).2.2.1; have c93 := (row4 R9.out).2.2.2.1; have e90 := (row4 RR9.out).1; have e91 := (row4 RR9.out).2.1; have e92 := (row4 RR9.out).2.2.1; have e93 := (row4 RR9.out).2.2.2.1; have f9 := (row4 RR9.out).2.2.2.2.1))
  all_goals
    obtain ⟨y0, y1, y2, y3, -, -⟩ := row4 (row4S RR9.out (.slice A6 (ls.length + 1) c6) (.slice A8 (ds.length + 1) c8) (.slice (some ⟨gs, 0, none⟩) (n + 1) cap) (.bool wh))
    refine bodyPost_ret (v := .agg #[.slice A6 (ls.length + 1) c6, .slice A8 (ds.length + 1) c8, .slice (some ⟨gs, 0, none⟩) (n + 1) cap, .bool wh]) (by simp [results, Try.results111, go_sem, y0, y1, y2, y3]) rfl ?_
    have hGS : ∀ b, Z b → b ≠ w.heap.size + 1 := fun b hb e => by have := HZL.out b hb; omega
    have HZ9 : ∀ b, Z b → w9.heap[b]? = w.heap[b]? := fun b hb => by
      have hbl := HZL.out b hb
      rw [HGR9.out.block b (by omega) (fun e => by injection e with e; omega), HGR8.out.block b (by simp; omega) (fun e => HS7.out.zdep b e.symm (.inl hb)), (show Below w7.heap.size w7 (w7.alloc (.cells #[.int .i64 d] 2)) from by exact (by repeat (first | exact Below.refl _ _ | assumption | refine Below.setCell ?_ (by first | omega | (simp <;> omega)) _ | refine Below.alloc ?_ (by first | omega | (simp <;> omega)) _ | refine Below.drew ?_))).block b (by omega), HGR7.out.block b (by omega) (fun e => by injection e with e; omega), HGR6.out.block b (by simp; omega) (fun e => (HS5.out.lists.own b e.symm).2.2 (.inl (.inl hb))), (show Below w5.heap.size w5 (w5.alloc (.cells #[.slice Ax L cx] 31)) from by exact (by repeat (first | exact Below.refl _ _ | assumption | refine Below.setCell ?_ (by first | omega | (simp <;> omega)) _ | refine Below.alloc ?_ (by first | omega | (simp <;> omega)) _ | refine Below.drew ?_))).block b (by omega), HZ5.out b hb]
    have HL9 : Below lo w w9 := ((((((HL5.out.alloc (by omega) _).grown HGR6.out (by simp; omega) (fun b hb => (HOWN.out.1 b hb).1)).grown HGR7.out (by omega) (fun b hb => by injection hb with hb; omega)).alloc (by omega) _).grown HGR8.out (by simp; omega) (fun b hb => (HOWN.out.2.1 b hb).1)).grown HGR9.out (by omega) (fun b hb => by injection hb with hb; omega))
    have HSF := (((HS9.out.kept (setGrown w9 (w.heap.size + 1) 0 (.slice A6 (ls.length + 1) c6)) (.inr (.inr rfl))).kept (setGrown _ (w.heap.size + 1) 1 (.slice A8 (ds.length + 1) c8)) (.inr (.inr rfl))).kept (setGrown _ (w.heap.size + 1) 2 (.slice (some ⟨gs, 0, none⟩) (n + 1) cap)) (.inr (.inr rfl))).kept (setGrown _ (w.heap.size + 1) 3 (.bool wh)) (.inr (.inr rfl))
    refine ⟨_, _, _, insN srt a n, rfl, HSF.zmore (Below.refl _ _) (fun b hb => .inl (.inl hb)) (fun b hb => ?_), ?_, fun b hb => ?_, ?_⟩
    · have := HZL.out b hb; simp; omega
    · have := HSO.out.add HSA.out HXL.out HNI.out
      rwa [HNN.out] at this
    · have hne := hGS b hb
      rw [heap_setCell_other _ _ b _ (by simpa using hne), heap_setCell_other _ _ b _ (by simpa using hne), heap_setCell_other _ _ b _ (by simpa using hne), heap_setCell_other _ _ b _ (by simpa using hne), HZ9 b hb]
    · exact (((HL9.setCell (p := ⟨w.heap.size + 1, 0, none⟩) (by simp; omega) _).setCell (p := ⟨w.heap.size + 1, 1, none⟩) (by simp; omega) _).setCell (p := ⟨w.heap.size + 1, 2, none⟩) (by simp; omega) _).setCell (p := ⟨w.heap.size + 1, 3, none⟩) (by simp; omega) _
end
end Go.Proofs.Ytfhdnanbhigpmaa
