/- Entries in a list of the call's own whose results lie above a bound; what is drawn from a source into them. Conditions: as each contract says. -/
import Derived.Test.YtejacbgogcjbnaaDr
import Derived.Test.YtejacbgogcjbnaaPl
import Derived.Deep.CutRange
namespace Go.Proofs.Ytejacbgogcjbnaa
open Go.RowKit

theorem gRefl (w : World) (row : Option Nat) : w.grownBy w row := ⟨rfl, rfl, rfl, Nat.le_refl _, fun _ _ _ => rfl⟩
theorem rowG {w w' : World} {g H : Nat} {o : Obj} (hg : w.grownBy w' (some g)) (h : w.heap[H]? = some o) (hne : H ≠ g) : w'.heap[H]? = some o :=
  (hg.block H (Array.getElem?_eq_some_iff.1 h).1 (fun e => hne (by injection e))).trans h
theorem rowB {w w' : World} {H : Nat} {o : Obj} (hb : Below w.heap.size w w') (h : w.heap[H]? = some o) : w'.heap[H]? = some o := (hb.block H (Array.getElem?_eq_some_iff.1 h).1).trans h
theorem grownB {w w1 w2 : World} {row : Option Nat} (h : w.grownBy w1 row) (hb : Below w1.heap.size w1 w2) : w.grownBy w2 row := grownThen h (hb.mono h.size)
theorem grownSet (w : World) (a : Addr) (u : Value) : w.grownBy (w.setCell a u) (some a.block) := ⟨rfl, rfl, rfl, by simp, fun k _ hne => heap_setCell_other w a k u (fun e => hne (by rw [e]))⟩
/-- A list of numbers does not lie in a block of another type. -/
theorem Fresh.notRow {B : Nat} {w : World} {v : Value} {xs : List Int} (h : Fresh B w v xs) {T : Nat} {cs : Array Value} {t : TypeId} {z : Nat × Nat} (hr : w.heap[T]? = some (.cells cs t z)) (ht : t ≠ 2) : ∀ q, v.ownBlock = some q → q ≠ T := by
  intro q hq e
  subst e
  rcases h.2 with ⟨rfl, _⟩ | ⟨g, cap, cur, rfl, hbg, hgg, _⟩
  · simp [Value.ownBlock] at hq
  · simp [Value.ownBlock] at hq
    subst hq
    rw [hgg] at hr
    simp at hr
    exact ht hr.2.1.symm
theorem Fresh.keep1 {B : Nat} {w w' : World} {v : Value} {xs : List Int} {row : Option Nat} (h : Fresh B w v xs) (hg : w.grownBy w' row) (hne : ∀ q, v.ownBlock = some q → row ≠ some q) : Fresh B w' v xs := by
  refine World.ownsRow.kept h hg ?_
  cases hv : v.ownBlock with
  | none => exact .inl rfl
  | some k => exact .inr fun e => hne k hv e.symm
/-- Entries of the call's own, all in blocks from B on. -/
def EntsB (B : Nat) (w : World) (v : Value) (es : List Ent) : Prop :=
  ∃ cs : List Value, w.ownsRow B 32 2 v es.length cs ∧ ∀ i, i < es.length → ∃ Ai ci, (es.getD i (0, [])).2.length ≤ ci ∧ cs[i * 2]? = some (.int .i64 (es.getD i (0, [])).1) ∧ cs[i * 2 + 1]? = some (.slice Ai (es.getD i (0, [])).2.length ci) ∧ IntsAt w Ai (es.getD i (0, [])).2 ∧ (0 < (es.getD i (0, [])).2.length → Sep v Ai ∧ ∀ b off, Ai = some ⟨b, off, none⟩ → B ≤ b)
theorem EntsB.nil (B : Nat) (w : World) : EntsB B w (.slice none 0 0) [] := ⟨[], ⟨rfl, .inl ⟨rfl, rfl⟩⟩, fun i hi => by simp at hi⟩
theorem EntsB.empty {B : Nat} {w : World} (hB : B ≤ w.heap.size) : EntsB B (w.alloc (.cells #[] 32)) (.slice (some ⟨w.heap.size, 0, none⟩) 0 0) [] :=
  ⟨[], World.ownsRow_made w #[] 0 hB (by unfold maxLen; omega) (by simp), fun i hi => by simp at hi⟩
theorem EntsB.entsW {B : Nat} {w : World} {v : Value} {es : List Ent} (h : EntsB B w v es) : EntsW B w v es := by
  obtain ⟨cs, h1, h2⟩ := h
  refine ⟨cs, h1, fun i hi => ?_⟩
  obtain ⟨Ai, ci, a, b, c, d, e⟩ := h2 i hi
  exact ⟨Ai, ci, a, b, c, d, fun hp => (e hp).1⟩
theorem EntsB.below {B : Nat} {w w' : World} {v : Value} {es : List Ent} (h : EntsB B w v es) (hb : Below w.heap.size w w') : EntsB B w' v es := by
  obtain ⟨cs, h1, h2⟩ := h
  refine ⟨cs, ownsRow_below h1 hb, fun i hi => ?_⟩
  obtain ⟨Ai, ci, a, b, c, d, e⟩ := h2 i hi
  exact ⟨Ai, ci, a, b, c, d.below hb, e⟩
theorem EntsB.grown {B g : Nat} {w w' : World} {v : Value} {es : List Ent} (h : EntsB B w v es) (hg : w.grownBy w' (some g)) (hgB : g < B) : EntsB B w' v es := by
  obtain ⟨cs, h1, h2⟩ := h
  refine ⟨cs, World.ownsRow.kept h1 hg ?_, fun i hi => ?_⟩
  · cases hv : v.ownBlock with
    | none => exact .inl rfl
    | some k => exact .inr fun e => by have := (World.ownsRow.lt h1 k hv).1; injection e with e; omega
  · obtain ⟨Ai, ci, a, b, c, d, e⟩ := h2 i hi
    refine ⟨Ai, ci, a, b, c, ?_, e⟩
    rcases Nat.eq_zero_or_pos (es.getD i (0, [])).2.length with h0 | h0
    · intro j hj; omega
    · intro j hj
      obtain ⟨b', off, e1, hb, hc⟩ := d j hj
      have h3 := (e h0).2 b' off e1
      exact ⟨b', off, e1, Nat.lt_of_lt_of_le hb hg.size, (World.cell?_of_block (a := ⟨b', off + j, none⟩) (hg.block b' hb (fun e2 => by injection e2 with e2; omega))).trans hc⟩
theorem append_entB {w : World} {ops : Array Oper} {rest : List Oper} {o : Oper} {a : Act} {Q : Exit → Act → World → Prop} (hgd : o.guard = none) (s x : Operand)
    (hop : o.op = Op.call { callee := Callee.builtin Builtin.append, args := #[s, x], argTypes := #[26, 26] })
    (B : Nat) (v : Value) (es : List Ent) (k : Int) (A1 : Option Addr) (c1 : Nat) (xs1 : List Int) (n1 : Nat) (hn1 : xs1.length = n1) (hs : a.eval s = v) (hown : EntsB B w v es) (g : Nat) (hx : a.eval x = .slice (some ⟨g, 0, none⟩) 1 1)
    (hc0 : w.cell? ⟨g, 0, none⟩ = some (.int .i64 k)) (hc1 : w.cell? ⟨g, 1, none⟩ = some (.slice A1 n1 c1)) (hF : Fresh B w (.slice A1 n1 c1) xs1) (hl : es.length ≤ 1048576) (hB : B ≤ w.heap.size)
    (h : ∀ v' w', EntsB B w' v' (es ++ [(k, xs1)]) → w.grownBy w' v.ownBlock → Below B w w' → wpList Try.prog ops Q rest (a.put o.dst v') w') : wpList Try.prog ops Q (o :: rest) a w := by
  obtain ⟨i0, hi, hz0, hz1, hz2⟩ := info_parts entInfo
  obtain ⟨cs, ho, hE⟩ := hown
  subst hn1
  have hI := hF.intsAt
  have hlc : xs1.length ≤ c1 := by
    obtain ⟨A2, c2, h1, h2, h3⟩ := hF.capped
    simp only [Value.slice.injEq] at h2
    omega
  have hcl : cs.length = es.length * 2 := ho.1
  have hsep : 0 < xs1.length → Sep v A1 ∧ ∀ b off, A1 = some ⟨b, off, none⟩ → B ≤ b := by
    intro hp
    rcases hF.2 with ⟨e, hn⟩ | ⟨g1, cap, cur, e, hbg, hgg, _⟩
    · omega
    · simp only [Value.slice.injEq] at e
      obtain ⟨rfl, -, -⟩ := e
      constructor
      · intro q b off f1 f2 f3
        have f4 : g1 = b := by have := Option.some.inj f2; simpa using congrArg Addr.block this
        rcases ho.2 with ⟨rfl, _⟩ | ⟨g2, cap2, cur2, rfl, _, hg2, _⟩
        · simp [Value.ownBlock] at f1
        · have f5 : g2 = q := by simpa [Value.ownBlock] using f1
          have f6 : g2 = g1 := by omega
          rw [f6, hgg] at hg2
          simp at hg2
      · intro b off f2
        have f4 : g1 = b := by have := Option.some.inj f2; simpa using congrArg Addr.block this
        omega
  refine wpList_append_own_at _ hgd s x 26 hop B 32 i0 _ 2 32 Try.underlying26 hi hz0 hz1 hz2 rfl (by decide) v es.length cs hs ho ⟨g, 0, none⟩ 1 1 [.int .i64 k, .slice A1 xs1.length c1] hx rfl ?_ ?_ ?_ ?_ hB ?_
  · intro j u hj
    match j, hj with
    | 0, hj => simp at hj; subst hj; simpa [Addr.add] using hc0
    | 1, hj => simp at hj; subst hj; simpa [Addr.add] using hc1
  · intro u hu
    simp at hu
    rcases hu with rfl | rfl <;> rfl
  · unfold maxLen; omega
  · omega
  · intro v' w' hown' hgrow _ hat
    refine h v' w' ⟨cs ++ [.int .i64 k, .slice A1 xs1.length c1], by simpa using hown', fun i hi => ?_⟩ hgrow ((Below.refl _ _).grown hgrow hB (fun k hk => (World.ownsRow.lt ho k hk).1))
    have keep : ∀ (Ai : Option Addr) (ys : List Int), IntsAt w Ai ys → (0 < ys.length → Sep v Ai) → IntsAt w' Ai ys := by
      intro Ai ys hY hS
      rcases Nat.eq_zero_or_pos ys.length with h0 | h0
      · intro j hj; omega
      · exact hY.sep hgrow (hS h0)
    have sepn : ∀ (Ai : Option Addr) (ys : List Int), IntsAt w Ai ys → 0 < ys.length → Sep v Ai → Sep v' Ai := by
      intro Ai ys hY hp hS h b off f1 e2 e3
      rcases hat with h4 | h4
      · exact hS h b off (h4 ▸ f1) e2 e3
      · obtain ⟨b', off', e', hb', _⟩ := hY 0 hp
        rw [e2] at e'
        have e5 : b = b' := by have := Option.some.inj e'; simpa using congrArg Addr.block this
        rw [h4] at f1
        have e6 : w.heap.size = h := by simpa using f1
        omega
    rcases Nat.lt_or_ge i es.length with h1 | h1
    · rw [egetD_snoc _ _ _ h1]
      obtain ⟨Ai, ci, e1, e2, e3, e4, e5⟩ := hE i h1
      exact ⟨Ai, ci, e1, by rw [List.getElem?_append_left (by omega)]; exact e2, by rw [List.getElem?_append_left (by omega)]; exact e3, keep Ai _ e4 (fun hp => (e5 hp).1), fun hp => ⟨sepn Ai _ e4 hp (e5 hp).1, (e5 hp).2⟩⟩
    · have hie : i = es.length := by simp at hi; omega
      subst hie
      rw [egetD_last]
      refine ⟨A1, c1, hlc, ?_, ?_, keep A1 _ hI (fun hp => (hsep hp).1), fun hp => ⟨sepn A1 _ hI hp (hsep hp).1, (hsep hp).2⟩⟩
      · rw [List.getElem?_append_right (by omega), hcl, Nat.sub_self]; rfl
      · rw [List.getElem?_append_right (by omega), hcl, show es.length * 2 + 1 - es.length * 2 = 1 from by omega]; rfl
/-- All lists are short. -/
def Tiny (es : List Ent) : Prop := ∀ e ∈ es, e.2.length ≤ 200
theorem Tiny.nil : Tiny [] := fun e he => by simp at he
theorem Tiny.more {es : List Ent} {k : Int} {xs : List Int} (h : Tiny es) (hx : xs.length ≤ 200) : Tiny (es ++ [(k, xs)]) := by
  intro e he
  rcases List.mem_append.1 he with h1 | h1
  · exact h e h1
  · rw [List.mem_singleton.1 h1]; exact hx
theorem Tiny.short {es : List Ent} (h : Tiny es) : Short es := by
  intro i hi
  have := h _ (by rw [egetD_at _ _ hi]; exact List.getElem_mem hi : es.getD i (0, []) ∈ es)
  omega
/-- One entry drawn. -/
def DrawnEnt (n : Nat) (g : Nat) (A : Option Addr) (c : Nat) (xs : List Int) (w : World) (e : Ending) (w' : World) : Prop :=
  ∃ k v ys, e = .returned (.agg #[.int .i64 k, v]) ∧ Fresh w.heap.size w' v ys ∧ ys.length ≤ n + 1 ∧ SrcAt w' g A c xs ∧ w.grownBy w' (some g)
set_option maxRecDepth 3000 in
set_option maxHeartbeats 4000000 in
theorem srcEntry (g : Nat) (A : Option Addr) (c : Nat) (xs : List Int) (k : Int) (n : Nat) (w : World) (hd : SrcAt w g A c xs) (hl : xs.length ≤ 4096) (hn : n ≤ 100) :
    Calls Try.prog 32 #[.pointer (some ⟨g, 0, none⟩), .int .i64 k, .int .i64 (n : Int)] w (DrawnEnt n g A c xs w) := by
  have hlow := Lib.hid hd.low
  have hgw := hd.lt
  obtain ⟨w0, hw0⟩ : ∃ w0, w.alloc (.cells #[.int .i64 0, .slice none 0 0] 32) = w0 := ⟨_, rfl⟩
  have hH0 : w0.heap[w.heap.size]? = some (.cells #[.int .i64 0, .slice none 0 0] 32 (0, 0)) := by rw [← hw0]; exact heap_alloc_new w _
  have hd0 : SrcAt w0 g A c xs := by rw [← hw0]; exact hd.below (by repeat (first | exact Below.refl _ _ | assumption | refine Below.setCell ?_ (by first | omega | (simp <;> omega)) _ | refine Below.alloc ?_ (by first | omega | (simp <;> omega)) _ | refine Below.drew ?_))
  have hG0 : w.grownBy w0 (some g) := by rw [← hw0]; exact World.grownBy_alloc _ _ _
  have hz0 : w.heap.size < w0.heap.size := (Array.getElem?_eq_some_iff.1 hH0).1
  have hgne : w.heap.size ≠ g := by omega
  clear hd
  go_enter Try.func32, Try.ntmps32
  go_wp2_with fail
  refine (srcTimes g A c xs n _ hd0 hl hn).mono ?_
  rintro e w1 ⟨v1, ys, rfl, hF1, hy1, hd1, hg1⟩
  have hH1 := rowG hg1 hH0 hgne
  have hG1 := grownTrans hG0 hg1
  have hz1 := hg1.size
  obtain ⟨A1, c1, rfl, -, -⟩ := hF1.ints
  obtain ⟨n1, hn1⟩ : ∃ n1, ys.length = n1 := ⟨_, rfl⟩
  rw [hn1] at hF1 ⊢
  have HN1 := Lib.hid hn1
  clear hH0 hd0 hG0 hg1 hn1 hw0
  obtain ⟨w2, hw2⟩ : ∃ w2, w1.alloc (.cells #[.int .i64 k, .slice A1 n1 c1] 32) = w2 := ⟨_, rfl⟩
  have hT2 : w2.heap[w1.heap.size]? = some (.cells #[.int .i64 k, .slice A1 n1 c1] 32 (0, 0)) := by rw [← hw2]; exact heap_alloc_new w1 _
  have hb2 : Below w1.heap.size w1 w2 := by rw [← hw2]; exact (by repeat (first | exact Below.refl _ _ | assumption | refine Below.setCell ?_ (by first | omega | (simp <;> omega)) _ | refine Below.alloc ?_ (by first | omega | (simp <;> omega)) _ | refine Below.drew ?_))
  have hH2 := rowB hb2 hH1
  have hd2 := hd1.below hb2
  have hG2 := grownB hG1 hb2
  have hF2 := hF1.below hb2
  have hz2 : w1.heap.size < w2.heap.size := (Array.getElem?_eq_some_iff.1 hT2).1
  have hTne : w1.heap.size ≠ g := by omega
  clear hH1 hd1 hG1 hF1 hb2
  go_wp2_with fail
  refine (srcOneIn g A c xs 25 _ hd2 hl (by omega) (by omega)).mono ?_
  rintro e w3 ⟨b3, rfl, hd3, hg3⟩
  have hH3 := rowG hg3 hH2 hgne
  have hT3 := rowG hg3 hT2 hTne
  have hG3 := grownTrans hG2 hg3
  have hF3 := hF2.grownNew hg3 (fun q hq => by injection hq with hq; omega)
  have hz3 := hg3.size
  have hTH : w.heap.size < w1.heap.size := by omega
  clear hH2 hT2 hG2 hF2 hd2 hg3 hw2
  cases b3
  · have t0 : w3.cell? ⟨w1.heap.size, 0, none⟩ = some (.int .i64 k) := cell_of_row w3 _ 0 _ _ (0, 0) hT3
    have t1 : w3.cell? ⟨w1.heap.size, 1, none⟩ = some (.slice A1 n1 c1) := cell_of_row w3 _ 1 _ _ (0, 0) hT3
    have h0 : w3.cell? ⟨w.heap.size, 0, none⟩ = some (.int .i64 0) := cell_of_row w3 _ 0 _ _ (0, 0) hH3
    have h1 : w3.cell? ⟨w.heap.size, 1, none⟩ = some (.slice none 0 0) := cell_of_row w3 _ 1 _ _ (0, 0) hH3
    have f0 : w3.frozen? ⟨w.heap.size, 0, none⟩ = false := row_free hH3
    have f1 : w3.frozen? ⟨w.heap.size, 1, none⟩ = false := row_free hH3
    have HH3 := Lib.hid hH3
    clear hH3 hT3
    go_wp2_with fail
    have hb4 : Below w.heap.size w3 ((w3.setCell ⟨w.heap.size, 0, none⟩ (.int .i64 k)).setCell ⟨w.heap.size, 1, none⟩ (.slice A1 n1 c1)) := ((Below.refl _ _).setCell (p := ⟨w.heap.size, 0, none⟩) (Nat.le_refl _) _).setCell (p := ⟨w.heap.size, 1, none⟩) (Nat.le_refl _) _
    exact bodyPost_ret (v := .agg #[.int .i64 k, .slice A1 n1 c1]) (by simp [results, Try.results32, go_sem, h0, h1]) rfl ⟨_, _, ys, rfl, ((hF3.setCell (a := ⟨w.heap.size, 0, none⟩) hz0 _).setCell (a := ⟨w.heap.size, 1, none⟩) hz0 _).mono (Nat.le_of_lt hz0), hy1, hd3.keep hb4 hgw hlow.out, grownThen hG3 hb4⟩
  · have ht0 : w3.cell? ⟨w1.heap.size, 0, none⟩ = some (.int .i64 k) := cell_of_row w3 _ 0 _ _ (0, 0) hT3
    have HT3 := Lib.hid hT3
    have HH3 := Lib.hid hH3
    obtain ⟨w4, hw4⟩ : ∃ w4, w3.alloc (.cells #[.int .i64 (-1), .int .i64 0, .int .i64 999, .int .i64 1000] 2) = w4 := ⟨_, rfl⟩
    have hr4 : w4.heap[w3.heap.size]? = some (.cells (([-1, 0, 999, 1000] : List Int).map (Value.int .i64)).toArray 2 (0, 0)) := by rw [← hw4, heap_alloc_new]; rfl
    have hb4 : Below w3.heap.size w3 w4 := by rw [← hw4]; exact (by repeat (first | exact Below.refl _ _ | assumption | refine Below.setCell ?_ (by first | omega | (simp <;> omega)) _ | refine Below.alloc ?_ (by first | omega | (simp <;> omega)) _ | refine Below.drew ?_))
    have hd4 := hd3.below hb4
    have hG4 := grownB hG3 hb4
    have hF4 := hF3.below hb4
    have HT4 := Lib.hid (rowB hb4 hT3)
    have HH4 := Lib.hid (rowB hb4 hH3)
    have hz4 := hb4.size
    clear hH3 hT3 hb4 hd3 hG3 hF3 ht0 HT3 HH3
    go_wp2_with fail
    refine (srcBelow g A c xs 4 _ hd4 hl (by omega) (by omega)).mono ?_
    rintro e w5 ⟨y, rfl, y0, y1, hd5, hg5⟩
    obtain ⟨m, rfl⟩ := Int.eq_ofNat_of_zero_le y0
    have hr5 := rowG hg5 hr4 (by omega)
    have hcc := pick_at (m := m) [-1, 0, 999, 1000] hr5 rfl (by simp; omega)
    obtain ⟨z, hz⟩ : ∃ z, ([-1, 0, 999, 1000] : List Int).getD m 0 = z := ⟨_, rfl⟩
    rw [hz] at hcc
    have hT5 := rowG hg5 HT4.out hTne
    have hH5 := rowG hg5 HH4.out hgne
    have hG5 := grownTrans hG4 hg5
    have hF5 := hF4.grownNew hg5 (fun q hq => by injection hq with hq; omega)
    have t0 : w5.cell? ⟨w1.heap.size, 0, none⟩ = some (.int .i64 k) := cell_of_row w5 _ 0 _ _ (0, 0) hT5
    have t1 : w5.cell? ⟨w1.heap.size, 1, none⟩ = some (.slice A1 n1 c1) := cell_of_row w5 _ 1 _ _ (0, 0) hT5
    have h0 : w5.cell? ⟨w.heap.size, 0, none⟩ = some (.int .i64 0) := cell_of_row w5 _ 0 _ _ (0, 0) hH5
    have h1 : w5.cell? ⟨w.heap.size, 1, none⟩ = some (.slice none 0 0) := cell_of_row w5 _ 1 _ _ (0, 0) hH5
    have f0 : w5.frozen? ⟨w.heap.size, 0, none⟩ = false := row_free hH5
    have f1 : w5.frozen? ⟨w.heap.size, 1, none⟩ = false := row_free hH5
    have ft0 : w5.frozen? ⟨w1.heap.size, 0, none⟩ = false := row_free hT5
    have HT5 := Lib.hid hT5
    clear hz hr4 hr5 hT5 hH5 HT4 HH4 hd4 hG4 hF4 hg5 hw4
    go_wp2_with fail
    have hb6 : Below w.heap.size w5 (((w5.setCell ⟨w1.heap.size, 0, none⟩ (.int .i64 z)).setCell ⟨w.heap.size, 0, none⟩ (.int .i64 z)).setCell ⟨w.heap.size, 1, none⟩ (.slice A1 n1 c1)) := (((Below.refl _ _).setCell (p := ⟨w1.heap.size, 0, none⟩) (Nat.le_of_lt hTH) _).setCell (p := ⟨w.heap.size, 0, none⟩) (Nat.le_refl _) _).setCell (p := ⟨w.heap.size, 1, none⟩) (Nat.le_refl _) _
    have hF6 : Fresh w.heap.size (((w5.setCell ⟨w1.heap.size, 0, none⟩ (.int .i64 z)).setCell ⟨w.heap.size, 0, none⟩ (.int .i64 z)).setCell ⟨w.heap.size, 1, none⟩ (.slice A1 n1 c1)) (.slice A1 n1 c1) ys := by
      have hne := hF5.notRow (T := w1.heap.size) (t := 32) HT5.out (by decide)
      exact (((hF5.keep1 (grownSet w5 ⟨w1.heap.size, 0, none⟩ (.int .i64 z)) (fun q hq e => hne q hq (by injection e with e; exact e.symm))).setCell (a := ⟨w.heap.size, 0, none⟩) hz0 _).setCell (a := ⟨w.heap.size, 1, none⟩) hz0 _).mono (Nat.le_of_lt hz0)
    exact bodyPost_ret (v := .agg #[.int .i64 z, .slice A1 n1 c1]) (by simp [results, Try.results32, go_sem, h0, h1]) rfl ⟨_, _, ys, rfl, hF6, hy1, hd5.keep hb6 hgw hlow.out, grownThen hG5 hb6⟩
end Go.Proofs.Ytejacbgogcjbnaa
