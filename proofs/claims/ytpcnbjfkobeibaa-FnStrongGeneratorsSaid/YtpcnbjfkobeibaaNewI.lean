/- The rows of a new chain in memory. Conditions: as each lemma says. The chain of generators, at the program. Conditions: as the contract says. -/
import Derived.Test.YtpcnbjfkobeibaaSt
import Derived.Test.YtpcnbjfkobeibaaAdd
namespace Go.Proofs.Ytpcnbjfkobeibaa
section
open Go.RowKit Grp

def idT (n : Nat) : Tab := fun i y => if y = i then some (idp n) else none
theorem genNil {n : Nat} {p : List Nat} : GenL n [] p ↔ p = idp n := by
  constructor
  · intro h
    refine h (fun q => q = idp n) ⟨fun q e => by rw [e]; exact IsP.idp, rfl, fun p q h1 h2 => by rw [h1, h2, idp_comp IsP.idp], fun q e => ?_⟩ (fun s hs => by cases hs)
    rw [e]
    have := comp_inv (p := idp n) IsP.idp
    rwa [idp_comp IsP.idp.inv] at this
  · rintro rfl
    exact fun H hH _ => hH.2.1
theorem fullStart (n : Nat) : Full n (idT n) (fun _ => []) 0 := by
  refine ⟨fun j _ hj => ⟨GenL.sub (fun s hs => by cases hs), fun g hg => ?_, fun i _ hin => ⟨fun y t e => ?_, fun g hg _ => ?_⟩⟩, fun j _ _ s hs => (by cases hs), fun j _ _ => by simp [idT], fun j _ _ g hg => hg⟩
  · rw [genNil.1 hg]; exact Fix.idp hj
  · unfold idT at e
    split at e
    · rename_i h
      injection e with e
      subst e h
      exact ⟨genNil.2 rfl, Fix.idp (by omega), app_idp hin⟩
    · cases e
  · rw [genNil.1 hg, app_idp hin]; simp [idT]
theorem genSnoc {n : Nat} {l1 l2 : List (List Nat)} {p : List Nat} (h2 : ∀ s, s ∈ l2 → IsP n s) (hp : IsP n p) (h : ∀ x, GenL n l1 x → GenL n l2 x) (x : List Nat) (hx : GenL n (l1 ++ [p]) x) : GenL n (l2 ++ [p]) x := by
  refine hx _ (GenL.sub fun s hs => ?_) fun s hs => ?_
  · rcases List.mem_append.1 hs with h3 | h3
    · exact h2 s h3
    · rw [List.mem_singleton.1 h3]; exact hp
  · rcases List.mem_append.1 hs with h3 | h3
    · exact GenL.mono (fun s hs => List.mem_append.2 (.inl hs)) (h s (GenL.of h3))
    · rw [List.mem_singleton.1 h3]; exact GenL.of (by simp)
theorem take_snoc (l : List (List Nat)) (i : Nat) (hi : i < l.length) : l.take (i + 1) = l.take i ++ [l.getD i []] := by
  rw [List.take_succ_eq_append_getElem hi, List.getD_eq_getElem?_getD, List.getElem?_eq_getElem hi]; rfl
theorem rowsInfo : (Try.prog.info? 22).map (fun i => (i.zero, i.size, i.bytes)) = some (some (.slice none 0 0), 1, 24) := by kernel_rfl
/-- The rows of the points below a are there; v lists them. -/
structure Rws (B n a : Nat) (w : World) (v : Value) (R : Nat → Nat) : Prop where
  own : ∃ rs : List Value, w.ownsRow B 22 1 v a rs ∧ ∀ i, i < a → rs[i]? = some (.slice (some ⟨R i, 0, none⟩) n n)
  row : ∀ i, i < a → ∃ cs : List Value, w.heap[R i]? = some (.cells cs.toArray 23 (0, 0)) ∧ ∀ y, y < n → ∃ u, cs[y]? = some u ∧ RepV (fun _ => True) w u n (idT n i y)
  inj : ∀ i j, i < a → j < a → R i = R j → i = j
  B3 : ∀ i, i < a → B ≤ R i
variable {B n a : Nat} {w w2 : World} {v : Value} {R : Nat → Nat}
theorem Rws.nil (B n : Nat) (w : World) (R : Nat → Nat) : Rws B n 0 w (.slice none 0 0) R :=
  ⟨⟨[], ⟨rfl, .inl ⟨rfl, rfl⟩⟩, fun i hi => by omega⟩, fun i hi => by omega, fun i j hi => by omega, fun i hi => by omega⟩
theorem Rws.block (h : Rws B n a w v R) {b : Nat} (hb : v.ownBlock = some b) : B ≤ b ∧ ∃ cs, w.heap[b]? = some (.cells cs 22 (0, 0)) := by
  obtain ⟨rs, h1, _⟩ := h.own
  rcases h1.2 with ⟨rfl, hn⟩ | ⟨g, cap, cur, rfl, hbg, hg, _⟩
  · simp [Value.ownBlock] at hb
  · simp [Value.ownBlock] at hb
    subst hb
    exact ⟨hbg, _, hg⟩
/-- A change of one block, or none, that is no row's, no list's and no block of numbers. -/
theorem Rws.kept {row : Option Nat} (h : Rws B n a w v R) (hg : w.grownBy w2 row) (hk : KeepI (fun _ => True) w w2) (h1 : ∀ b, row = some b → (∀ i, i < a → b ≠ R i) ∧ v.ownBlock ≠ some b) : Rws B n a w2 v R := by
  obtain ⟨⟨rs, o1, o2⟩, row', inj, B3⟩ := h
  refine ⟨⟨rs, o1.kept hg ?_, o2⟩, fun i hi => ?_, inj, B3⟩
  · cases hv : v.ownBlock with
    | none => exact .inl rfl
    | some b => exact .inr fun e => (h1 b e.symm).2 hv
  · obtain ⟨cs, c1, c2⟩ := row' i hi
    refine ⟨cs, (hg.block _ (row_lt c1) fun e => (h1 _ e.symm).1 i hi rfl).trans c1, fun y hy => ?_⟩
    obtain ⟨u, x1, x2⟩ := c2 y hy
    exact ⟨u, x1, x2.keep hk⟩
theorem Rws.below (h : Rws B n a w v R) (hb : Below w.heap.size w w2) : Rws B n a w2 v R := h.kept (gB hb none) (KeepI.below hb) (by simp)
/-- A store into a block of another type. -/
theorem Rws.set {C p : Nat} {tc : Array Value} {tt : TypeId} (h : Rws B n a w v R) (u : Value) (hC : w.heap[C]? = some (.cells tc tt (0, 0))) (h1 : tt ≠ 2) (h2 : tt ≠ 23) (h3 : tt ≠ 22) : Rws B n a (w.setCell ⟨C, p, none⟩ u) v R := by
  refine h.kept (row := some C) ⟨rfl, rfl, rfl, by simp, fun k _ hne => heap_setCell_other w ⟨C, p, none⟩ k u (fun e => hne (by rw [e]))⟩ (KeepI.set u hC h1) fun b e => ?_
  injection e with e
  subst e
  refine ⟨fun i hi e => ?_, fun e => ?_⟩
  · obtain ⟨cs, c1, _⟩ := h.row i hi
    rw [← e, hC] at c1
    simp at c1
    exact h2 c1.2
  · obtain ⟨_, cs, c1⟩ := h.block e
    rw [hC] at c1
    simp at c1
    exact h3 c1.2
/-- One more row. -/
theorem run_append_row {ty : TypeId} {r : Nat} {cs : List Value} (h : Rws B n a w v R) (hr : w.heap[r]? = some (.cells cs.toArray 23 (0, 0))) (hc : ∀ y, y < n → ∃ u, cs[y]? = some u ∧ RepV (fun _ => True) w u n (idT n a y)) (hrB : B ≤ r) (hne : ∀ i, i < a → r ≠ R i)
    (g : Nat) (hcell : w.cell? ⟨g, 0, none⟩ = some (.slice (some ⟨r, 0, none⟩) n n)) (ha : a ≤ 1048576) (hB : B ≤ w.heap.size) :
    ∃ A' c' w', (Builtin.append_ #[79, 79] ty #[v, .slice (some ⟨g, 0, none⟩) 1 1]).run Try.prog w = .ok (.slice A' (a + 1) c') w' ∧ Rws B n (a + 1) w' (.slice A' (a + 1) c') (fun i => if i = a then r else R i) ∧ w.grownBy w' v.ownBlock ∧
      ((Value.slice A' (a + 1) c').ownBlock = v.ownBlock ∨ (Value.slice A' (a + 1) c').ownBlock = some w.heap.size) ∧ KeepI (fun _ => True) w w' := by
  obtain ⟨i0, hi, hz0, hz1, hz2⟩ := info_parts rowsInfo
  obtain ⟨rs, o1, o2⟩ := h.own
  obtain ⟨v', w', hr', hown', hgrow, _, hat⟩ := run_append_own_at (P := Try.prog) w B 79 ty 22 i0 (.slice none 0 0) 1 24 Try.underlying79 hi hz0 hz1 hz2 rfl (by decide) v a rs o1 ⟨g, 0, none⟩ 1 1 [.slice (some ⟨r, 0, none⟩) n n] rfl
    (by intro j u hj; match j, hj with
        | 0, hj => simp at hj; subst hj; simpa [Addr.add] using hcell)
    (by intro u hu; simp at hu; subst hu; rfl) (by unfold maxLen; omega) (by omega) hB
  have hk : KeepI (fun _ => True) w w' := by
    cases hv : v.ownBlock with
    | none => rw [hv] at hgrow; exact KeepI.grown0 hgrow
    | some q =>
      obtain ⟨_, ds, hq⟩ := h.block hv
      rw [hv] at hgrow
      exact KeepI.grown hgrow hq (by decide)
  have hkeep : ∀ {H : Nat} {ds : Array Value}, w.heap[H]? = some (.cells ds 23 (0, 0)) → w'.heap[H]? = some (.cells ds 23 (0, 0)) := by
    intro H ds hH
    refine (hgrow.block H (row_lt hH) fun e => ?_).trans hH
    obtain ⟨_, es, he⟩ := h.block e.symm
    rw [hH] at he
    simp at he
  have hsh : ∃ A' c', v' = .slice A' (a + 1) c' := by
    rcases hown'.2 with ⟨rfl, hn⟩ | ⟨g', cap, cur, rfl, _⟩
    · omega
    · exact ⟨_, _, rfl⟩
  obtain ⟨A', c', rfl⟩ := hsh
  have hrl : rs.length = a := by simpa using o1.1
  refine ⟨A', c', w', hr', ⟨⟨rs ++ [.slice (some ⟨r, 0, none⟩) n n], hown', fun i hi => ?_⟩, fun i hi => ?_, fun i j hi hj e => ?_, fun i hi => ?_⟩, hgrow, hat, hk⟩
  · by_cases e : i = a
    · subst e
      rw [List.getElem?_append_right (by omega), hrl, Nat.sub_self]
      simp
    · rw [List.getElem?_append_left (by omega), o2 i (by omega)]
      simp [e]
  · by_cases e : i = a
    · subst e
      simp only [if_true]
      refine ⟨cs, hkeep hr, fun y hy => ?_⟩
      obtain ⟨u, x1, x2⟩ := hc y hy
      exact ⟨u, x1, x2.keep hk⟩
    · simp only [e, if_false]
      obtain ⟨ds, c1, c2⟩ := h.row i (by omega)
      refine ⟨ds, hkeep c1, fun y hy => ?_⟩
      obtain ⟨u, x1, x2⟩ := c2 y hy
      exact ⟨u, x1, x2.keep hk⟩
  · by_cases e1 : i = a
    · by_cases e2 : j = a
      · omega
      · simp only [e1, e2, if_true, if_false] at e
        exact absurd e (hne j (by omega))
    · by_cases e2 : j = a
      · simp only [e1, e2, if_true, if_false] at e
        exact absurd e.symm (hne i (by omega))
      · simp only [e1, e2, if_false] at e
        exact h.inj i j (by omega) (by omega) e
  · by_cases e : i = a
    · simp only [e, if_true]; exact hrB
    · simp only [e, if_false]; exact h.B3 i (by omega)
theorem append_row {ops : Array Oper} {rest : List Oper} {o : Oper} {ac : Act} {Q : Exit → Act → World → Prop} (hgd : o.guard = none) (s x : Operand)
    (hop : o.op = Op.call { callee := Callee.builtin Builtin.append, args := #[s, x], argTypes := #[79, 79] }) {r : Nat} {cs : List Value} (hs : ac.eval s = v) (h : Rws B n a w v R) (hr : w.heap[r]? = some (.cells cs.toArray 23 (0, 0))) (hc : ∀ y, y < n → ∃ u, cs[y]? = some u ∧ RepV (fun _ => True) w u n (idT n a y)) (hrB : B ≤ r) (hne : ∀ i, i < a → r ≠ R i)
    (g : Nat) (hx : ac.eval x = .slice (some ⟨g, 0, none⟩) 1 1) (hcell : w.cell? ⟨g, 0, none⟩ = some (.slice (some ⟨r, 0, none⟩) n n)) (ha : a ≤ 1048576) (hB : B ≤ w.heap.size)
    (hk : ∀ A' c' w', Rws B n (a + 1) w' (.slice A' (a + 1) c') (fun i => if i = a then r else R i) → w.grownBy w' v.ownBlock → ((Value.slice A' (a + 1) c').ownBlock = v.ownBlock ∨ (Value.slice A' (a + 1) c').ownBlock = some w.heap.size) → wpList Try.prog ops Q rest (ac.put o.dst (.slice A' (a + 1) c')) w') : wpList Try.prog ops Q (o :: rest) ac w := by
  refine wpList_plain hgd fun K hK => ?_
  obtain ⟨A', c', w', hr', h1, h2, h3, _⟩ := run_append_row (ty := o.type) h hr hc hrB hne g hcell ha hB
  unfold Oper.wp execOp
  simp only [hop, resolve, invoke, builtin, Sem.run_bind, Sem.run_pure, Result.andThen_ok, List.map_toArray, List.map_cons, List.map_nil, hs, hx, hr']
  exact hK _ _ (hk A' c' w' h1 h2 h3)
/-- Blocks of other types behind an append to the rows' list. -/
theorem Rws.keep (_h : Rws B n a w v R) (hg : w.grownBy w2 v.ownBlock) {H : Nat} {cs : Array Value} {t : TypeId} (hH : w.heap[H]? = some (.cells cs t (0, 0))) (hne : v.ownBlock ≠ some H) : w2.heap[H]? = some (.cells cs t (0, 0)) :=
  (hg.block H (row_lt hH) (fun e => hne e.symm)).trans hH
theorem Rws.neType (h : Rws B n a w v R) {H : Nat} {cs : Array Value} {t : TypeId} (hH : w.heap[H]? = some (.cells cs t (0, 0))) (ht : t ≠ 22) : v.ownBlock ≠ some H := by
  intro e
  obtain ⟨_, ds, hd⟩ := h.block e
  rw [hH] at hd
  simp at hd
  exact ht hd.2
end
section
open Go.RowKit Grp

theorem Rws.body {B n : Nat} {w : World} {vt : Value} {R : Nat → Nat} {Gb : Nat} (h : Rws B n n w vt R) (hn : 0 < n) (hG : w.heap[Gb]? = some (.cells (List.replicate n (Value.slice none 0 0)).toArray 22 (0, 0))) (hGB : B ≤ Gb) (hne : vt.ownBlock ≠ some Gb) :
    ∃ Rb cr, vt = .slice (some ⟨Rb, 0, none⟩) n cr ∧ Body (fun _ => True) B n w ⟨Rb, Gb, cr, n, R⟩ (idT n) (fun _ => []) := by
  obtain ⟨rs, o1, o2⟩ := h.own
  rcases o1.2 with ⟨rfl, h0⟩ | ⟨g, cap, cur, rfl, hbg, hg, hnc, hcm, hcs, htake⟩
  · omega
  · refine ⟨g, cap, rfl, ⟨⟨cur.toList, by simpa using hg, fun i hi => ?_⟩, fun i hi => h.row i hi, ⟨_, hG, fun i hi => ⟨.slice none 0 0, by simp [hi], ⟨[], ⟨rfl, .inl ⟨rfl, rfl⟩⟩, fun j hj => by simp at hj⟩, fun b hb => by simp [Value.ownBlock] at hb⟩⟩, fun i j hi hj e => h.inj i j hi hj e, fun e => hne (by simp [Value.ownBlock]; exact e), hbg, hGB, fun i hi => h.B3 i hi⟩⟩
    have h1 := o2 i hi
    rw [← htake, List.getElem?_take] at h1
    split at h1
    · exact h1
    · cases h1
def RowTo (n a : Nat) (cs : List Value) (w : World) (b : Bool) : Prop := ∀ y, y < n → ∃ u, cs[y]? = some u ∧ RepV (fun _ => True) w u n (if b && decide (y = a) then some (idp n) else none)
/-- Permutations that came in. -/
def PermsAt (w : World) (A : Option Addr) (n : Nat) (l : List (List Nat)) : Prop := ∀ i, i < l.length → ∃ b off u, A = some ⟨b, off, none⟩ ∧ b < w.heap.size ∧ w.cell? ⟨b, off + i, none⟩ = some u ∧ PermV (fun _ => True) w u n (l.getD i [])
theorem PermsAt.below {w w' : World} {A : Option Addr} {n : Nat} {l : List (List Nat)} (h : PermsAt w A n l) (hb : Below w.heap.size w w') : PermsAt w' A n l := fun i hi => by
  obtain ⟨b, off, u, e, h1, h2, h3⟩ := h i hi
  exact ⟨b, off, u, e, Nat.lt_of_lt_of_le h1 hb.size, (hb.cell (p := ⟨b, off + i, none⟩) h1).trans h2, h3.below hb⟩
def BuildI (n : Nat) (l : List (List Nat)) (w : World) (e : Ending) (w' : World) : Prop :=
  ∃ (C : Nat) (s : Sh) (T : Tab) (Gs : Nat → List (List Nat)), e = .returned (.pointer (some ⟨C, 0, none⟩)) ∧ TopI w' C n s ∧ Body (fun _ => True) w.heap.size n w' s T Gs ∧ Full n T Gs 0 ∧ (∀ x, GenL n (Gs 0) x ↔ GenL n l x) ∧ Below w.heap.size w w'
theorem made_nil (n : Nat) : (madeCells #[Value.slice none 0 0] n).toList = List.replicate n (Value.slice none 0 0) := by rw [toList_madeCells_one]
theorem made_whole {w : World} {B g n : Nat} {t : TypeId} {xs : List Value} (h : w.ownsRow B t 1 (.slice (some ⟨g, 0, none⟩) n n) n xs) : w.heap[g]? = some (.cells xs.toArray t (0, 0)) := by
  rcases h.2 with ⟨he, _⟩ | ⟨g', cap, cur, he, _, hg, _, _, hcs, htake⟩
  · simp at he
  · simp only [Value.slice.injEq, Option.some.injEq, Addr.mk.injEq] at he
    obtain ⟨⟨rfl, _⟩, _, rfl⟩ := he
    have e : cur.toList = xs := by
      rw [← htake, List.take_of_length_le]
      simp [hcs]
    rw [hg, ← e]
set_option maxRecDepth 100000 in
set_option maxHeartbeats 8000000 in
theorem implNew (n : Nat) (A : Option Addr) (c : Nat) (l : List (List Nat)) (w : World) (hl : PermsAt w A n l) (hP : ∀ p, p ∈ l → IsP n p) (hn : 0 < n) (hnl : n ≤ 20) (hll : l.length ≤ 1000) :
    Calls Try.prog 76 #[.int .i64 (n : Int), .slice A l.length c] w (BuildI n l w) := by
  obtain ⟨i0, hi, hz0, hz1, hz2⟩ := info_parts rowsInfo
  obtain ⟨i1, hi1, hy0, hy1, hy2⟩ := info_parts listInfo
  have HL := Lib.hid hl
  have HP := Lib.hid hP
  clear hl hP
  go_enter Try.func76, Try.ntmps76
  go_wp2_with (first | (at_make; refine wpList_make_full _ rfl _ _ 79 rfl w.heap.size 22 i0 (.slice none 0 0) 1 Try.underlying79 hi hz0 hz1 _ _ _ _ n rfl rfl rfl rfl ?_ ?_ ?_ ?_))
  · rw [hz2]; omega
  · unfold maxLen; omega
  · simp
  intro w1 hown hgrow
  rw [made_nil] at hown
  have hB1 : Below w.heap.size w w1 := (Below.refl _ _).grown hgrow (Nat.le_refl _) (by simp)
  have hG1 := made_whole hown
  have hz1w : w.heap.size < w1.heap.size := row_lt hG1
  clear hown hgrow
  obtain ⟨w2, hw2⟩ : ∃ w2, w1.alloc (.cells #[.int .i64 (n : Int), .slice (some ⟨w.heap.size, 0, none⟩) n n, .slice none 0 0] 81) = w2 := ⟨_, rfl⟩
  have hb2 : Below w1.heap.size w1 w2 := by rw [← hw2]; exact (by repeat (first | exact Below.refl _ _ | assumption | refine Below.setCell ?_ (by first | omega | (simp <;> omega)) _ | refine Below.alloc ?_ (by first | omega | (simp <;> omega)) _ | refine Below.drew ?_))
  have hC2 : w2.heap[w1.heap.size]? = some (.cells #[.int .i64 (n : Int), .slice (some ⟨w.heap.size, 0, none⟩) n n, .slice none 0 0] 81 (0, 0)) := by rw [← hw2]; exact heap_alloc_new w1 _
  have hG2 := rowB hb2 hG1
  have hB2 := belowStep hb2 hB1
  obtain ⟨C, hCC⟩ : ∃ C, w1.heap.size = C := ⟨_, rfl⟩
  have hR2 := Rws.nil w.heap.size n w2 (fun _ => 0)
  clear hb2 hG1 hB1
  go_wp2_with fail
  rw [hCC] at hC2 hz1w
  clear hw2 hCC
  go_loopw [16] (fun j wr => ∃ (a : Nat) (R : Nat → Nat) (vt : Value), j = .int .i64 a ∧ a ≤ n ∧ wr.heap[C]? = some (.cells #[.int .i64 (n : Int), .slice (some ⟨w.heap.size, 0, none⟩) n n, vt] 81 (0, 0)) ∧ wr.heap[w.heap.size]? = some (.cells (List.replicate n (Value.slice none 0 0)).toArray 22 (0, 0)) ∧ Rws w.heap.size n a wr vt R ∧ vt.ownBlock ≠ some w.heap.size ∧ Below w.heap.size w wr) (fun j _ => n - (intOf j).toNat)
  case atStart => exact ⟨0, _, _, rfl, Nat.zero_le _, hC2, hG2, hR2, by simp [Value.ownBlock], hB2⟩
  case round =>
    obtain ⟨a, R, vt, rfl, ha, hC, hG, hR, hne, hB⟩ := hrel
    clear hC2 hG2 hR2 hB2
    obtain ⟨wo, rfl⟩ : ∃ wo : World, wo = wr := ⟨_, rfl⟩
    by_cases hlt : a < n
    · have HC := Lib.hid hC
      have HG := Lib.hid hG
      have HR := Lib.hid hR
      have p0 : (0 : Int) ≤ (a : Int) := by omega
      have p1 : (a : Int) < (n : Int) := by omega
      have p2 : (a : Int) < 20 := by omega
      have hwz := hB.size
      clear hC hG hR
      go_wp2_with (first | (at_make; refine wpList_make_full _ rfl _ _ 22 rfl w.heap.size 23 i1 (.slice none 0 0) 1 Try.underlying22 hi1 hy0 hy1 _ _ _ _ n rfl rfl rfl rfl ?_ ?_ ?_ ?_))
      · rw [hy2]; omega
      · unfold maxLen; omega
      · omega
      intro w3 hown hgrow
      rw [made_nil] at hown
      have hb3 : Below wo.heap.size wo w3 := ⟨hgrow.os, hgrow.tape, hgrow.output, hgrow.size, fun k hk => hgrow.block k hk (by simp)⟩
      have hr3 := made_whole hown
      have hB3 := belowStep hb3 hB
      have HC3 := Lib.hid (rowB hb3 HC.out)
      have HG3 := Lib.hid (rowB hb3 HG.out)
      have HR3 := Lib.hid (HR.out.below hb3)
      have hCo := row_lt HC.out
      have hGo := row_lt HG.out
      have hRo : ∀ i, i < a → R i < wo.heap.size := fun i hi => by obtain ⟨cs, c1, _⟩ := HR.out.row i hi; exact row_lt c1
      clear hown hgrow
      go_wp2_with fail
      refine (implIdentity n _ (by omega)).mono ?_
      rintro e w4 ⟨v4, rfl, hF4, hb4⟩
      have hPV4 := hF4.perm (ok := fun _ => True) (n := n) idp_len hn (fun _ _ _ => trivial)
      obtain ⟨g4, c4, rfl, -, -⟩ := hPV4.ints
      have hr4 := rowB hb4 hr3
      have hcell4 : w4.cell? ⟨wo.heap.size, a, none⟩ = some (.slice none 0 0) := list_cell hr4 (by simp [hlt])
      have hfr4 : w4.frozen? ⟨wo.heap.size, a, none⟩ = false := row_free hr4
      obtain ⟨w5, hw5⟩ : ∃ w5, w4.setCell ⟨wo.heap.size, a, none⟩ (.slice (some ⟨g4, 0, none⟩) n c4) = w5 := ⟨_, rfl⟩
      have hk5 : KeepI (fun _ => True) w4 w5 := by rw [← hw5]; exact KeepI.set _ hr4 (by decide)
      have hg5 : w4.grownBy w5 (some wo.heap.size) := by rw [← hw5]; exact ⟨rfl, rfl, rfl, by simp, fun k _ hne => heap_setCell_other w4 ⟨wo.heap.size, a, none⟩ k _ (fun e => hne (by rw [e]))⟩
      have hr5 : w5.heap[wo.heap.size]? = some (.cells ((List.replicate n (Value.slice none 0 0)).set a (.slice (some ⟨g4, 0, none⟩) n c4)).toArray 23 (0, 0)) := by rw [← hw5]; exact list_store _ hr4
      have hC5 : w5.heap[C]? = some (.cells #[.int .i64 (n : Int), .slice (some ⟨w.heap.size, 0, none⟩) n n, vt] 81 (0, 0)) := by rw [← hw5]; exact rowS (rowB hb4 HC3.out) (by dsimp only; omega)
      have hG5 : w5.heap[w.heap.size]? = some (.cells (List.replicate n (Value.slice none 0 0)).toArray 22 (0, 0)) := by rw [← hw5]; exact rowS (rowB hb4 HG3.out) (by dsimp only; omega)
      have hR5 : Rws w.heap.size n a w5 vt R := (HR3.out.below hb4).kept hg5 hk5 fun b e => by
        injection e with e
        subst e
        exact ⟨fun i hi e => by have := hRo i hi; omega, (HR3.out.below hb4).neType hr4 (by decide)⟩
      have hP5 : PermV (fun _ => True) w5 (.slice (some ⟨g4, 0, none⟩) n c4) n (idp n) := hPV4.keep hk5
      have hcs : ∀ w', Below w5.heap.size w5 w' → ∀ y, y < n → ∃ u, ((List.replicate n (Value.slice none 0 0)).set a (.slice (some ⟨g4, 0, none⟩) n c4))[y]? = some u ∧ RepV (fun _ => True) w' u n (idT n a y) := by
        intro w' hb y hy
        by_cases e : y = a
        · subst e
          refine ⟨_, by rw [List.getElem?_set, if_pos rfl, if_pos (by simpa using hy)], ?_⟩
          simp only [idT, if_true]
          exact hP5.below hb
        · refine ⟨.slice none 0 0, by rw [List.getElem?_set, if_neg (fun e2 => e e2.symm)]; simp [hy], ?_⟩
          simp only [idT, e, if_false]
          rfl
      have hB5 : Below w.heap.size w w5 := by rw [← hw5]; exact (belowStep hb4 hB3).setCell (p := ⟨wo.heap.size, a, none⟩) hwz _
      have c2 : w5.cell? ⟨C, 2, none⟩ = some vt := cell_of_row w5 C 2 _ _ (0, 0) hC5
      have HC5 := Lib.hid hC5
      have HG5 := Lib.hid hG5
      have HR5 := Lib.hid hR5
      have HCS := Lib.hid hcs
      have Hr5 := Lib.hid hr5
      have hB5z := hB5.size
      clear hF4 hb4 hPV4 hr4 hk5 hg5 hr5 hC5 hG5 hR5 hP5 hcs HC3 HG3 HR3 hr3
      go_wp2_with (first
        | (at_builtin; refine append_row (v := vt) rfl (.tmp 30) (.tmp 32) rfl rfl (HR5.out.below (by exact (by repeat (first | exact Below.refl _ _ | assumption | refine Below.setCell ?_ (by first | omega | (simp <;> omega)) _ | refine Below.alloc ?_ (by first | omega | (simp <;> omega)) _ | refine Below.drew ?_)))) (rowB (by exact (by repeat (first | exact Below.refl _ _ | assumption | refine Below.setCell ?_ (by first | omega | (simp <;> omega)) _ | refine Below.alloc ?_ (by first | omega | (simp <;> omega)) _ | refine Below.drew ?_))) Hr5.out) (HCS.out _ (by exact (by repeat (first | exact Below.refl _ _ | assumption | refine Below.setCell ?_ (by first | omega | (simp <;> omega)) _ | refine Below.alloc ?_ (by first | omega | (simp <;> omega)) _ | refine Below.drew ?_)))) hwz (fun i hi e => by have := hRo i hi; omega) w5.heap.size rfl (by simp) (by omega) (by simp; omega) ?_; intro A6 c6 w6 hR6 hg6 hat6
            ; have HCA := Lib.hid ((HR5.out.below (by exact (by repeat (first | exact Below.refl _ _ | assumption | refine Below.setCell ?_ (by first | omega | (simp <;> omega)) _ | refine Below.alloc ?_ (by first | omega | (simp <;> omega)) _ | refine Below.drew ?_)))).keep hg6 (rowB (by exact (by repeat (first | exact Below.refl _ _ | assumption | refine Below.setCell ?_ (by first | omega | (simp <;> omega)) _ | refine Below.alloc ?_ (by first | omega | (simp <;> omega)) _ | refine Below.drew ?_))) HC5.out) ((HR5.out.below (by exact (by repeat (first | exact Below.refl _ _ | assumption | refine Below.setCell ?_ (by first | omega | (simp <;> omega)) _ | refine Below.alloc ?_ (by first | omega | (simp <;> omega)) _ | refine Below.drew ?_)))).neType (rowB (by exact (by repeat (first | exact Below.refl _ _ | assumption | refine Below.setCell ?_ (by first | omega | (simp <;> omega)) _ | refine Below.alloc ?_ (by first | omega | (simp <;> omega)) _ | refine Below.drew ?_))) HC5.out) (by decide)))
            ; have HGA := Lib.hid ((HR5.out.below (by exact (by repeat (first | exact Below.refl _ _ | assumption | refine Below.setCell ?_ (by first | omega | (simp <;> omega)) _ | refine Below.alloc ?_ (by first | omega | (simp <;> omega)) _ | refine Below.drew ?_)))).keep hg6 (rowB (by exact (by repeat (first | exact Below.refl _ _ | assumption | refine Below.setCell ?_ (by first | omega | (simp <;> omega)) _ | refine Below.alloc ?_ (by first | omega | (simp <;> omega)) _ | refine Below.drew ?_))) HG5.out) hne)
            ; have hB6 : Below w.heap.size w w6 := hB5.trans (Below.trans (Below.mono (by exact (by repeat (first | exact Below.refl _ _ | assumption | refine Below.setCell ?_ (by first | omega | (simp <;> omega)) _ | refine Below.alloc ?_ (by first | omega | (simp <;> omega)) _ | refine Below.drew ?_))) hB5z) ((Below.refl _ _).grown hg6 (by simp; omega) (fun q hq => (HR5.out.block hq).1)))
            ; have c26 : w6.cell? ⟨C, 2, none⟩ = some vt := cell_of_row w6 C 2 _ _ (0, 0) HCA.out
            ; have f26 : w6.frozen? ⟨C, 2, none⟩ = false := row_free HCA.out))
      have hCs := heap_setCell_same w6 C 2 _ _ (.slice A6 (a + 1) c6) HCA.out
      have hne6 : (Value.slice A6 (a + 1) c6).ownBlock ≠ some w.heap.size := by
        rcases hat6 with h1 | h1
        · rw [h1]; exact hne
        · rw [h1]
          intro e
          injection e with e
          simp at e
          omega
      exact ⟨⟨a + 1, _, .slice A6 (a + 1) c6, by go_num, by omega, hCs, rowS HGA.out (by dsimp only; omega), Rws.set hR6 _ HCA.out (by decide) (by decide) (by decide), hne6, hB6.setCell (p := ⟨C, 2, none⟩) (Nat.le_of_lt hz1w) _⟩, by simp [intOf]; omega⟩
    · obtain rfl : a = n := by omega
      obtain ⟨Rb, cr, rfl, hbody⟩ := hR.body hn hG (Nat.le_refl _) hne
      have HT0 : Hid (TopI wo C a ⟨Rb, w.heap.size, cr, a, R⟩) := hC
      obtain ⟨s, hs⟩ : ∃ s : Sh, s = ⟨Rb, w.heap.size, cr, a, R⟩ := ⟨_, rfl⟩
      rw [← hs] at HT0 hbody
      have HB0 := Lib.hid hbody
      have HF0 := Lib.hid (fullStart a)
      have HC0 : Hid (∀ j, 0 ≤ j → j ≤ a → ([] : List (List Nat)).length ≤ orbSum a (idT a) j (a - j)) := fun j _ _ => Nat.zero_le _
      have HG0 : Hid (∀ x, GenL a ([] : List (List Nat)) x ↔ GenL a (l.take 0) x) := fun x => by rw [List.take_zero]
      clear hC hG hR hne hbody hs
      go_wp2_with fail
      go_loopw [39] (fun j wr => ∃ (i : Nat) (T : Tab) (Gs : Nat → List (List Nat)), j = .int .i64 i ∧ i ≤ l.length ∧ Hid (TopI wr C a s) ∧ Hid (Body (fun _ => True) w.heap.size a wr s T Gs) ∧ Hid (Full a T Gs 0) ∧ Hid (∀ j, 0 ≤ j → j ≤ a → (Gs j).length ≤ orbSum a T j (a - j)) ∧ Hid (∀ x, GenL a (Gs 0) x ↔ GenL a (l.take i) x) ∧ Below w.heap.size w wr) (fun j _ => l.length - (intOf j).toNat)
      case atStart => exact ⟨0, _, _, rfl, Nat.zero_le _, HT0, HB0, HF0, HC0, HG0, hB⟩
      case round =>
        obtain ⟨i, T, Gs, rfl, hi', HT, HBD, HF, HCN, HGN, hBr⟩ := hrel
        clear HT0 HB0 HF0 HC0 HG0
        by_cases hli : i < l.length
        · obtain ⟨b, off, u, rfl, hbl, hcu, hpu⟩ := (HL.out.below hBr) i hli
          have hpm := getD_mem hli
          have hpP := HP.out _ hpm
          obtain ⟨p, hpp⟩ : ∃ p, l.getD i [] = p := ⟨_, rfl⟩
          rw [hpp] at hpu hpP
          have hcall := implAdd w.heap.size a C s hn hnl a 0 (by omega) T Gs u p wr HT.out HBD.out hpu hpP (fun i hi => by omega) HF.out HCN.out
          rw [show ((0 : Nat) : Int) = 0 from rfl] at hcall
          have HCALL := Lib.hid hcall
          have HPP := Lib.hid hpp
          have HPI := Lib.hid hpP
          obtain ⟨gu, cu, rfl, -, -⟩ := hpu.ints
          have q0 : (0 : Int) ≤ (i : Int) := by omega
          have q1 : (i : Int) < (l.length : Int) := by omega
          clear hpu hpm hpP hpp hcall
          go_wp2_with fail
          refine HCALL.out.mono ?_
          rintro e w8 ⟨rfl, T', Gs', x1, x2, x3, x4, x5, x6⟩
          have HT8 : Hid (TopI w8 C a s) := x1
          have HB8 := Lib.hid x2
          have HF8 := Lib.hid x3.full
          have HC8 := Lib.hid x3.cnt
          have HG8 : Hid (∀ x, GenL a (Gs' 0) x ↔ GenL a (l.take (i + 1)) x) := fun x => by
            rw [x3.grp x, take_snoc l i hli, HPP.out]
            exact ⟨genSnoc (fun s hs => HP.out s (List.mem_of_mem_take hs)) HPI.out (fun y => (HGN.out y).1) x, genSnoc (fun s hs => (HF.out.gens 0 (Nat.le_refl _) (by omega) s hs).1) HPI.out (fun y => (HGN.out y).2) x⟩
          have hB8 := hBr.trans x5
          clear x1 x2 x3 x4 x5 x6 HCALL hcu
          go_wp2_with fail
          go_roundw
          case rel => exact ⟨i + 1, T', Gs', by go_num, by omega, HT8, HB8, HF8, HC8, HG8, hB8⟩
          case measure => simp [intOf]; omega
        · obtain rfl : i = l.length := by omega
          have hgn := HGN.out
          rw [List.take_of_length_le (Nat.le_refl _)] at hgn
          have HGE := Lib.hid hgn
          clear hgn
          go_wp2_with fail
          go_ret
          exact ⟨C, s, T, Gs, rfl, HT.out, HBD.out, HF.out, HGE.out, hBr⟩
end
end Go.Proofs.Ytpcnbjfkobeibaa
