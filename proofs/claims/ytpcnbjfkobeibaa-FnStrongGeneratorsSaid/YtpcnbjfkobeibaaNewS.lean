/- The lists of generators of a new chain in memory, at the reference. Conditions: as each lemma says. An empty chain, at the reference. Conditions: as the contract says. -/
import Derived.Test.YtpcnbjfkobeibaaNewI
import Derived.Test.YtpcnbjfkobeibaaSp
import Derived.Test.YtpcnbjfkobeibaaGen
namespace Go.Proofs.Ytpcnbjfkobeibaa
section
open Go.RowKit Grp

theorem al2 (w : World) (a b : Obj) : ((w.alloc a).alloc b).heap[w.heap.size + 1]? = some b := by
  have := heap_alloc_new (w.alloc a) b
  rwa [show (w.alloc a).heap.size = w.heap.size + 1 from by simp] at this
/-- Empty lists for the levels below a are there; v lists them. -/
structure Gls (B a : Nat) (w : World) (v : Value) (G : Nat → Nat) : Prop where
  own : ∃ gs : List Value, w.ownsRow B 22 1 v a gs ∧ ∀ i, i < a → gs[i]? = some (.slice (some ⟨G i, 0, none⟩) 0 0)
  blk : ∀ i, i < a → w.heap[G i]? = some (.cells #[] 23 (0, 0))
  inj : ∀ i j, i < a → j < a → G i = G j → i = j
  B3 : ∀ i, i < a → B ≤ G i
variable {B n a : Nat} {w w2 : World} {v : Value} {G : Nat → Nat}
theorem Gls.nil (B : Nat) (w : World) (G : Nat → Nat) : Gls B 0 w (.slice none 0 0) G :=
  ⟨⟨[], ⟨rfl, .inl ⟨rfl, rfl⟩⟩, fun i hi => by omega⟩, fun i hi => by omega, fun i j hi => by omega, fun i hi => by omega⟩
theorem Gls.block (h : Gls B a w v G) {b : Nat} (hb : v.ownBlock = some b) : B ≤ b ∧ ∃ cs, w.heap[b]? = some (.cells cs 22 (0, 0)) := by
  obtain ⟨gs, h1, _⟩ := h.own
  rcases h1.2 with ⟨rfl, hn⟩ | ⟨g, cap, cur, rfl, hbg, hg, _⟩
  · simp [Value.ownBlock] at hb
  · simp [Value.ownBlock] at hb
    subst hb
    exact ⟨hbg, _, hg⟩
theorem Gls.kept {row : Option Nat} (h : Gls B a w v G) (hg : w.grownBy w2 row) (h1 : ∀ b, row = some b → (∀ i, i < a → b ≠ G i) ∧ v.ownBlock ≠ some b) : Gls B a w2 v G := by
  obtain ⟨⟨gs, o1, o2⟩, blk, inj, B3⟩ := h
  refine ⟨⟨gs, o1.kept hg ?_, o2⟩, fun i hi => (hg.block _ (row_lt (blk i hi)) fun e => (h1 _ e.symm).1 i hi rfl).trans (blk i hi), inj, B3⟩
  cases hv : v.ownBlock with
  | none => exact .inl rfl
  | some b => exact .inr fun e => (h1 b e.symm).2 hv
theorem Gls.below (h : Gls B a w v G) (hb : Below w.heap.size w w2) : Gls B a w2 v G := h.kept (gB hb none) (by simp)
theorem Gls.neType (h : Gls B a w v G) {H : Nat} {cs : Array Value} {t : TypeId} (hH : w.heap[H]? = some (.cells cs t (0, 0))) (ht : t ≠ 22) : v.ownBlock ≠ some H := by
  intro e
  obtain ⟨_, ds, hd⟩ := h.block e
  rw [hH] at hd
  simp at hd
  exact ht hd.2
/-- A change of a block of another type. -/
theorem Gls.other {C : Nat} {tc : Array Value} {tt : TypeId} (h : Gls B a w v G) (hg : w.grownBy w2 (some C)) (hC : w.heap[C]? = some (.cells tc tt (0, 0))) (h2 : tt ≠ 23) (h3 : tt ≠ 22) : Gls B a w2 v G := by
  refine h.kept hg fun b e => ?_
  injection e with e
  subst e
  refine ⟨fun i hi e => ?_, h.neType hC h3⟩
  have := h.blk i hi
  rw [← e, hC] at this
  simp at this
  exact h2 this.2
/-- One more empty list. -/
theorem append_none {ops : Array Oper} {rest : List Oper} {o : Oper} {ac : Act} {Q : Exit → Act → World → Prop} (hgd : o.guard = none) (s x : Operand)
    (hop : o.op = Op.call { callee := Callee.builtin Builtin.append, args := #[s, x], argTypes := #[79, 79] }) {r : Nat} (hs : ac.eval s = v) (h : Gls B a w v G) (hr : w.heap[r]? = some (.cells #[] 23 (0, 0))) (hrB : B ≤ r) (hne : ∀ i, i < a → r ≠ G i)
    (g : Nat) (hx : ac.eval x = .slice (some ⟨g, 0, none⟩) 1 1) (hcell : w.cell? ⟨g, 0, none⟩ = some (.slice (some ⟨r, 0, none⟩) 0 0)) (ha : a ≤ 1048576) (hB : B ≤ w.heap.size)
    (hk : ∀ A' c' w', Gls B (a + 1) w' (.slice A' (a + 1) c') (fun i => if i = a then r else G i) → w.grownBy w' v.ownBlock → ((Value.slice A' (a + 1) c').ownBlock = v.ownBlock ∨ (Value.slice A' (a + 1) c').ownBlock = some w.heap.size) → wpList Try.prog ops Q rest (ac.put o.dst (.slice A' (a + 1) c')) w') : wpList Try.prog ops Q (o :: rest) ac w := by
  refine wpList_plain hgd fun K hK => ?_
  obtain ⟨i0, hi, hz0, hz1, hz2⟩ := info_parts rowsInfo
  obtain ⟨gs, o1, o2⟩ := h.own
  obtain ⟨v', w', hr', hown', hgrow, _, hat⟩ := run_append_own_at (P := Try.prog) w B 79 o.type 22 i0 (.slice none 0 0) 1 24 Try.underlying79 hi hz0 hz1 hz2 rfl (by decide) v a gs o1 ⟨g, 0, none⟩ 1 1 [.slice (some ⟨r, 0, none⟩) 0 0] rfl
    (by intro j u hj; match j, hj with
        | 0, hj => simp at hj; subst hj; simpa [Addr.add] using hcell)
    (by intro u hu; simp at hu; subst hu; rfl) (by unfold maxLen; omega) (by omega) hB
  have hkeep : ∀ {H : Nat} {ds : Array Value}, w.heap[H]? = some (.cells ds 23 (0, 0)) → w'.heap[H]? = some (.cells ds 23 (0, 0)) := by
    intro H ds hH
    refine (hgrow.block H (row_lt hH) fun e => ?_).trans hH
    obtain ⟨_, es, he⟩ := h.block e.symm
    rw [hH] at he
    simp at he
  have hsh : ∃ A' c', v' = .slice A' (a + 1) c' := by
    rcases hown'.2 with ⟨rfl, hn⟩ | ⟨g', cap, cur, rfl, _⟩
    · omega
    · exact ⟨_, _, rfl⟩
  obtain ⟨A', c', rfl⟩ := hsh
  have hrl : gs.length = a := by simpa using o1.1
  unfold Oper.wp execOp
  simp only [hop, resolve, invoke, builtin, Sem.run_bind, Sem.run_pure, Result.andThen_ok, List.map_toArray, List.map_cons, List.map_nil, hs, hx, hr']
  refine hK _ _ (hk A' c' w' ⟨⟨gs ++ [.slice (some ⟨r, 0, none⟩) 0 0], hown', fun i hi => ?_⟩, fun i hi => ?_, fun i j hi hj e => ?_, fun i hi => ?_⟩ hgrow hat)
  · by_cases e : i = a
    · subst e
      rw [List.getElem?_append_right (by omega), hrl, Nat.sub_self]
      simp
    · rw [List.getElem?_append_left (by omega), o2 i (by omega)]
      simp [e]
  · by_cases e : i = a
    · simp only [e, if_true]; exact hkeep hr
    · simp only [e, if_false]; exact hkeep (h.blk i (by omega))
  · by_cases e1 : i = a
    · by_cases e2 : j = a
      · omega
      · simp only [e1, e2, if_true, if_false] at e
        exact absurd e (hne j (by omega))
    · by_cases e2 : j = a
      · simp only [e1, e2, if_true, if_false] at e
        exact absurd e.symm (hne i (by omega))
      · simp only [e1, e2, if_false] at e
        exact h.inj i j (by omega) (by omega) e
  · by_cases e : i = a
    · simp only [e, if_true]; exact hrB
    · simp only [e, if_false]; exact h.B3 i (by omega)
theorem Gls.grownRows {a' : Nat} {vt : Value} {R : Nat → Nat} (h : Gls B a w v G) (hR : Rws B n a' w vt R) (hg : w.grownBy w2 vt.ownBlock) (hne : ∀ b, vt.ownBlock = some b → v.ownBlock ≠ some b) : Gls B a w2 v G := by
  refine h.kept hg fun b hb => ⟨fun i hi e => ?_, hne b hb⟩
  obtain ⟨_, ds, hd⟩ := hR.block hb
  have := h.blk i hi
  rw [← e, hd] at this
  simp at this
theorem Rws.grownLists {a' : Nat} {vt : Value} {R : Nat → Nat} (h : Rws B n a' w vt R) (hG : Gls B a w v G) (hg : w.grownBy w2 v.ownBlock) (hne : ∀ b, vt.ownBlock = some b → v.ownBlock ≠ some b) : Rws B n a' w2 vt R := by
  refine h.kept hg ?_ fun b hb => ⟨fun i hi e => ?_, fun e => hne b e hb⟩
  · cases hv : v.ownBlock with
    | none => rw [hv] at hg; exact KeepI.grown0 hg
    | some q =>
      obtain ⟨_, ds, hq⟩ := hG.block hv
      rw [hv] at hg
      exact KeepI.grown hg hq (by decide)
  · obtain ⟨_, ds, hd⟩ := hG.block hb
    obtain ⟨cs, c1, _⟩ := h.row i hi
    rw [← e, hd] at c1
    simp at c1
theorem Gls.keep (_h : Gls B a w v G) (hg : w.grownBy w2 v.ownBlock) {H : Nat} {cs : Array Value} {t : TypeId} (hH : w.heap[H]? = some (.cells cs t (0, 0))) (hne : v.ownBlock ≠ some H) : w2.heap[H]? = some (.cells cs t (0, 0)) :=
  (hg.block H (row_lt hH) (fun e => hne e.symm)).trans hH
/-- The new chain's parts, read as a chain. -/
theorem Rws.body2 {vt vg : Value} {R : Nat → Nat} (h : Rws B n n w vt R) (hG : Gls B n w vg G) (hn : 0 < n) (hne : ∀ b, vt.ownBlock = some b → vg.ownBlock ≠ some b) (hRG : ∀ i j, i < n → j < n → G i ≠ R j) :
    ∃ Rb cr Gb cg, vt = .slice (some ⟨Rb, 0, none⟩) n cr ∧ vg = .slice (some ⟨Gb, 0, none⟩) n cg ∧ Body (fun _ => True) B n w ⟨Rb, Gb, cr, cg, R⟩ (idT n) (fun _ => []) := by
  obtain ⟨rs, o1, o2⟩ := h.own
  obtain ⟨gs, q1, q2⟩ := hG.own
  rcases o1.2 with ⟨rfl, h0⟩ | ⟨g, cap, cur, rfl, hbg, hg, hnc, hcm, hcs, htake⟩
  · omega
  rcases q1.2 with ⟨rfl, h0⟩ | ⟨g2, cap2, cur2, rfl, hbg2, hg2, hnc2, hcm2, hcs2, htake2⟩
  · omega
  have hget : ∀ {cu : Array Value} {l : List Value} {i : Nat} {x : Value}, cu.toList.take (n * 1) = l → l[i]? = some x → cu.toList[i]? = some x := by
    intro cu l i x e hx
    rw [← e, List.getElem?_take] at hx
    split at hx
    · exact hx
    · cases hx
  refine ⟨g, cap, g2, cap2, rfl, rfl, ⟨⟨cur.toList, by simpa using hg, fun i hi => hget htake (o2 i hi)⟩, fun i hi => h.row i hi, ⟨cur2.toList, by simpa using hg2, fun i hi => ⟨.slice (some ⟨G i, 0, none⟩) 0 0, hget htake2 (q2 i hi), ⟨[], ⟨rfl, .inr ⟨G i, 0, #[], rfl, hG.B3 i hi, hG.blk i hi, Nat.le_refl _, by unfold maxLen; omega, by simp, by simp⟩⟩, fun j hj => by simp at hj⟩, fun b hb => ?_⟩⟩, fun i j hi hj e => h.inj i j hi hj e, fun e => hne g (by simp [Value.ownBlock]) (by simp [Value.ownBlock]; exact e.symm), hbg, hbg2, fun i hi => h.B3 i hi⟩⟩
  have hbG : G i = b := by simpa [Value.ownBlock] using hb
  subst hbG
  refine ⟨fun j hj => hRG i j hi hj, fun j u hj hu hub => ?_⟩
  have hju := hget htake2 (q2 j hj)
  rw [hu] at hju
  obtain rfl : u = .slice (some ⟨G j, 0, none⟩) 0 0 := Option.some.inj hju
  have : G j = G i := by simpa [Value.ownBlock] using hub
  exact hG.inj i j hi hj this.symm
end
section
open Go.RowKit Grp

def EmptyS (n : Nat) (w : World) (e : Ending) (w' : World) : Prop :=
  ∃ (C : Nat) (s : Sh), e = .returned (.pointer (some ⟨C, 0, none⟩)) ∧ w'.heap[C]? = some (.cells (tcS n s) 106 (0, 0)) ∧ Body (fun _ => True) w.heap.size n w' s (idT n) (fun _ => []) ∧ Below w.heap.size w w'
/-- The invariant of the rows' and lists' loop. -/
structure Emp (B n a C : Nat) (w wr : World) (R G : Nat → Nat) (vt vg : Value) : Prop where
  top : wr.heap[C]? = some (.cells #[.int .i64 (n : Int), vt, vg] 106 (0, 0))
  rows : Rws B n a wr vt R
  lists : Gls B a wr vg G
  ne : ∀ b, vt.ownBlock = some b → vg.ownBlock ≠ some b
  apart : ∀ i j, i < a → j < a → G i ≠ R j
  below : Below B w wr
theorem gSet (w : World) (g p : Nat) (u : Value) : w.grownBy (w.setCell ⟨g, p, none⟩ u) (some g) := ⟨rfl, rfl, rfl, by simp, fun k _ hne => heap_setCell_other w ⟨g, p, none⟩ k u (fun e => hne (by rw [e]))⟩
set_option maxRecDepth 100000 in
set_option maxHeartbeats 8000000 in
theorem specEmpty (n : Nat) (w : World) (hn : 0 < n) (hnl : n ≤ 20) : Calls Try.prog 127 #[.int .i64 (n : Int)] w (EmptyS n w) := by
  obtain ⟨i1, hi1, hy0, hy1, hy2⟩ := info_parts listInfo
  obtain ⟨w2, hw2⟩ : ∃ w2, w.alloc (.cells #[.int .i64 (n : Int), .slice none 0 0, .slice none 0 0] 106) = w2 := ⟨_, rfl⟩
  have hB2 : Below w.heap.size w w2 := by rw [← hw2]; exact (by repeat (first | exact Below.refl _ _ | assumption | refine Below.setCell ?_ (by first | omega | (simp <;> omega)) _ | refine Below.alloc ?_ (by first | omega | (simp <;> omega)) _ | refine Below.drew ?_))
  have hC2 : w2.heap[w.heap.size]? = some (.cells #[.int .i64 (n : Int), .slice none 0 0, .slice none 0 0] 106 (0, 0)) := by rw [← hw2]; exact heap_alloc_new w _
  have hE2 : Emp w.heap.size n 0 w.heap.size w w2 (fun _ => 0) (fun _ => 0) (.slice none 0 0) (.slice none 0 0) := ⟨hC2, Rws.nil _ _ _ _, Gls.nil _ _ _, fun b hb => by simp [Value.ownBlock] at hb, fun i j hi => by omega, hB2⟩
  clear hB2 hC2
  go_enter Try.func127, Try.ntmps127
  go_wp2_with fail
  clear hw2
  go_loopw [4] (fun j wr => ∃ (a : Nat) (R G : Nat → Nat) (vt vg : Value), j = .int .i64 a ∧ a ≤ n ∧ Emp w.heap.size n a w.heap.size w wr R G vt vg) (fun j _ => n - (intOf j).toNat)
  case atStart => exact ⟨0, _, _, _, _, rfl, Nat.zero_le _, hE2⟩
  case round =>
    obtain ⟨a, R, G, vt, vg, rfl, ha, hE⟩ := hrel
    clear hE2
    obtain ⟨wo, rfl⟩ : ∃ wo : World, wo = wr := ⟨_, rfl⟩
    by_cases hlt : a < n
    · have HE := Lib.hid hE
      have p0 : (0 : Int) ≤ (a : Int) := by omega
      have p1 : (a : Int) < (n : Int) := by omega
      have p2 : (a : Int) < 20 := by omega
      have hwz := hE.below.size
      have hCo := row_lt hE.top
      have hRo : ∀ i, i < a → R i < wo.heap.size := fun i hi => by obtain ⟨cs, c1, _⟩ := hE.rows.row i hi; exact row_lt c1
      have hGo : ∀ i, i < a → G i < wo.heap.size := fun i hi => row_lt (hE.lists.blk i hi)
      clear hE
      go_wp2_with (first | (at_make; refine wpList_make_full _ rfl _ _ 22 rfl w.heap.size 23 i1 (.slice none 0 0) 1 Try.underlying22 hi1 hy0 hy1 _ _ _ _ n rfl rfl rfl rfl ?_ ?_ ?_ ?_))
      · rw [hy2]; omega
      · unfold maxLen; omega
      · omega
      intro w3 hown hgrow
      rw [made_nil] at hown
      have hb3 : Below wo.heap.size wo w3 := ⟨hgrow.os, hgrow.tape, hgrow.output, hgrow.size, fun k hk => hgrow.block k hk (by simp)⟩
      have hr3 := made_whole hown
      clear hown hgrow
      go_wp2_with fail
      refine (specIdentity n _ (by omega)).mono ?_
      rintro e w4 ⟨v4, rfl, hF4, hb4⟩
      have hPV4 := hF4.perm (ok := fun _ => True) (n := n) idp_len hn (fun _ _ _ => trivial)
      obtain ⟨g4, c4, rfl, -, -⟩ := hPV4.ints
      have hb04 : Below wo.heap.size wo w4 := belowStep hb4 hb3
      have hr4 := rowB hb4 hr3
      have hcell4 : w4.cell? ⟨wo.heap.size, a, none⟩ = some (.slice none 0 0) := list_cell hr4 (by simp [hlt])
      have hfr4 : w4.frozen? ⟨wo.heap.size, a, none⟩ = false := row_free hr4
      obtain ⟨w5, hw5⟩ : ∃ w5, w4.setCell ⟨wo.heap.size, a, none⟩ (.slice (some ⟨g4, 0, none⟩) n c4) = w5 := ⟨_, rfl⟩
      have hk5 : KeepI (fun _ => True) w4 w5 := by rw [← hw5]; exact KeepI.set _ hr4 (by decide)
      have hg5 : w4.grownBy w5 (some wo.heap.size) := by rw [← hw5]; exact gSet _ _ _ _
      have hb05 : Below wo.heap.size wo w5 := by rw [← hw5]; exact hb04.setCell (p := ⟨wo.heap.size, a, none⟩) (Nat.le_refl _) _
      have hr5 : w5.heap[wo.heap.size]? = some (.cells ((List.replicate n (Value.slice none 0 0)).set a (.slice (some ⟨g4, 0, none⟩) n c4)).toArray 23 (0, 0)) := by rw [← hw5]; exact list_store _ hr4
      have hC5 := rowB hb05 HE.out.top
      have hR5 := HE.out.rows.below hb05
      have hG5 := HE.out.lists.below hb05
      have hP5 : PermV (fun _ => True) w5 (.slice (some ⟨g4, 0, none⟩) n c4) n (idp n) := hPV4.keep hk5
      have hcs : ∀ w', Below w5.heap.size w5 w' → ∀ y, y < n → ∃ u, ((List.replicate n (Value.slice none 0 0)).set a (.slice (some ⟨g4, 0, none⟩) n c4))[y]? = some u ∧ RepV (fun _ => True) w' u n (idT n a y) := by
        intro w' hb y hy
        by_cases e : y = a
        · subst e
          refine ⟨_, by rw [List.getElem?_set, if_pos rfl, if_pos (by simpa using hy)], ?_⟩
          simp only [idT, if_true]
          exact hP5.below hb
        · refine ⟨.slice none 0 0, by rw [List.getElem?_set, if_neg (fun e2 => e e2.symm)]; simp [hy], ?_⟩
          simp only [idT, e, if_false]
          rfl
      have c1 : w5.cell? ⟨w.heap.size, 1, none⟩ = some vt := cell_of_row w5 _ 1 _ _ (0, 0) hC5
      have hB5 : Below w.heap.size w w5 := HE.out.below.trans (hb05.mono hwz)
      have hB5z := hB5.size
      have hz5 : wo.heap.size < w5.heap.size := row_lt hr5
      have HC5 := Lib.hid hC5
      have HR5 := Lib.hid hR5
      have HG5 := Lib.hid hG5
      have HCS := Lib.hid hcs
      have Hr5 := Lib.hid hr5
      clear hF4 hb4 hPV4 hr4 hk5 hg5 hr5 hC5 hR5 hG5 hP5 hcs hr3 hb3 hb04
      go_wp2_with (first
        | (at_builtin; refine append_row (v := vt) rfl (.tmp 25) (.tmp 27) rfl rfl (HR5.out.below (by exact (by repeat (first | exact Below.refl _ _ | assumption | refine Below.setCell ?_ (by first | omega | (simp <;> omega)) _ | refine Below.alloc ?_ (by first | omega | (simp <;> omega)) _ | refine Below.drew ?_)))) (rowB (by exact (by repeat (first | exact Below.refl _ _ | assumption | refine Below.setCell ?_ (by first | omega | (simp <;> omega)) _ | refine Below.alloc ?_ (by first | omega | (simp <;> omega)) _ | refine Below.drew ?_))) Hr5.out) (HCS.out _ (by exact (by repeat (first | exact Below.refl _ _ | assumption | refine Below.setCell ?_ (by first | omega | (simp <;> omega)) _ | refine Below.alloc ?_ (by first | omega | (simp <;> omega)) _ | refine Below.drew ?_)))) hwz (fun i hi e => by have := hRo i hi; omega) w5.heap.size rfl (by simp) (by omega) (by simp; omega) ?_; intro A6 c6 w6 hR6 hg6 hat6
            ; have HCA := Lib.hid ((HR5.out.below (by exact (by repeat (first | exact Below.refl _ _ | assumption | refine Below.setCell ?_ (by first | omega | (simp <;> omega)) _ | refine Below.alloc ?_ (by first | omega | (simp <;> omega)) _ | refine Below.drew ?_)))).keep hg6 (rowB (by exact (by repeat (first | exact Below.refl _ _ | assumption | refine Below.setCell ?_ (by first | omega | (simp <;> omega)) _ | refine Below.alloc ?_ (by first | omega | (simp <;> omega)) _ | refine Below.drew ?_))) HC5.out) ((HR5.out.below (by exact (by repeat (first | exact Below.refl _ _ | assumption | refine Below.setCell ?_ (by first | omega | (simp <;> omega)) _ | refine Below.alloc ?_ (by first | omega | (simp <;> omega)) _ | refine Below.drew ?_)))).neType (rowB (by exact (by repeat (first | exact Below.refl _ _ | assumption | refine Below.setCell ?_ (by first | omega | (simp <;> omega)) _ | refine Below.alloc ?_ (by first | omega | (simp <;> omega)) _ | refine Below.drew ?_))) HC5.out) (by decide)))
            ; have hB6 : Below w.heap.size w w6 := hB5.trans (Below.trans (Below.mono (by exact (by repeat (first | exact Below.refl _ _ | assumption | refine Below.setCell ?_ (by first | omega | (simp <;> omega)) _ | refine Below.alloc ?_ (by first | omega | (simp <;> omega)) _ | refine Below.drew ?_))) hB5z) ((Below.refl _ _).grown hg6 (by simp; omega) (fun q hq => (HR5.out.block hq).1)))
            ; have hz6 : w5.heap.size < w6.heap.size := (by have := hg6.size; simp at this; omega)
            ; have c26 : w6.cell? ⟨w.heap.size, 1, none⟩ = some vt := cell_of_row w6 _ 1 _ _ (0, 0) HCA.out
            ; have f26 : w6.frozen? ⟨w.heap.size, 1, none⟩ = false := row_free HCA.out
            ; have c27 : w6.cell? ⟨w.heap.size, 2, none⟩ = some vg := cell_of_row w6 _ 2 _ _ (0, 0) HCA.out
            ; have HG6 := Lib.hid (Gls.grownRows (HG5.out.below (by exact (by repeat (first | exact Below.refl _ _ | assumption | refine Below.setCell ?_ (by first | omega | (simp <;> omega)) _ | refine Below.alloc ?_ (by first | omega | (simp <;> omega)) _ | refine Below.drew ?_)))) (HR5.out.below (by exact (by repeat (first | exact Below.refl _ _ | assumption | refine Below.setCell ?_ (by first | omega | (simp <;> omega)) _ | refine Below.alloc ?_ (by first | omega | (simp <;> omega)) _ | refine Below.drew ?_)))) hg6 HE.out.ne)
            ; obtain ⟨w7, hw7⟩ : ∃ w7, w6.setCell ⟨w.heap.size, 1, none⟩ (.slice A6 (a + 1) c6) = w7 := ⟨_, rfl⟩
            ; have hC7 : w7.heap[w.heap.size]? = some (.cells #[.int .i64 (n : Int), .slice A6 (a + 1) c6, vg] 106 (0, 0)) := (by rw [← hw7]; exact heap_setCell_same w6 _ 1 _ _ _ HCA.out)
            ; have HR7 : Hid (Rws w.heap.size n (a + 1) w7 (.slice A6 (a + 1) c6) (fun i => if i = a then wo.heap.size else R i)) := (by unfold Hid; rw [← hw7]; exact Rws.set hR6 _ HCA.out (by decide) (by decide) (by decide))
            ; have HG7 : Hid (Gls w.heap.size a w7 vg G) := (by unfold Hid; rw [← hw7]; exact HG6.out.other (gSet _ _ _ _) HCA.out (by decide) (by decide))
            ; have hne7 : ∀ b, (Value.slice A6 (a + 1) c6).ownBlock = some b → vg.ownBlock ≠ some b := (by
                intro b hb e
                rcases hat6 with h1 | h1
                · exact HE.out.ne b (h1 ▸ hb) e
                · rw [h1] at hb
                  obtain ⟨_, ds, hd⟩ := HG5.out.block e
                  have := row_lt hd
                  injection hb with hb
                  simp at hb
                  omega)
            ; have HNE7 := Lib.hid hne7
            ; have hB7 : Below w.heap.size w w7 := (by rw [← hw7]; exact hB6.setCell (p := ⟨w.heap.size, 1, none⟩) (Nat.le_refl _) _)
            ; have hz7 : w5.heap.size < w7.heap.size := (by rw [← hw7]; simpa using hz6)
            ; have hB7z := hB7.size
            ; have c37 : w7.cell? ⟨w.heap.size, 2, none⟩ = some vg := cell_of_row w7 _ 2 _ _ (0, 0) hC7
            ; have HC7 := Lib.hid hC7
            ; clear hC7 hne7 hat6 hg6 hR6)
        | (at_builtin; refine append_none (v := vg) rfl (.tmp 35) (.tmp 37) rfl rfl (HG7.out.below (by exact (by repeat (first | exact Below.refl _ _ | assumption | refine Below.setCell ?_ (by first | omega | (simp <;> omega)) _ | refine Below.alloc ?_ (by first | omega | (simp <;> omega)) _ | refine Below.drew ?_)))) (r := w7.heap.size) (by exact rowB (by exact (Below.refl _ _).alloc (Nat.le_refl _) _) (heap_alloc_new w7 _)) hB7z (fun i hi e => by have := hGo i hi; omega) (w7.heap.size + 1) (by first | rfl | simp) (by exact cell_of_row _ _ 0 _ _ (0, 0) (al2 w7 _ _)) (by omega) (by simp; omega) ?_; intro A8 c8 w8 hG8 hg8 hat8
            ; have hC8 := (HG7.out.below (by exact (by repeat (first | exact Below.refl _ _ | assumption | refine Below.setCell ?_ (by first | omega | (simp <;> omega)) _ | refine Below.alloc ?_ (by first | omega | (simp <;> omega)) _ | refine Below.drew ?_)))).keep hg8 (rowB (by exact (by repeat (first | exact Below.refl _ _ | assumption | refine Below.setCell ?_ (by first | omega | (simp <;> omega)) _ | refine Below.alloc ?_ (by first | omega | (simp <;> omega)) _ | refine Below.drew ?_))) HC7.out) ((HG7.out.below (by exact (by repeat (first | exact Below.refl _ _ | assumption | refine Below.setCell ?_ (by first | omega | (simp <;> omega)) _ | refine Below.alloc ?_ (by first | omega | (simp <;> omega)) _ | refine Below.drew ?_)))).neType (rowB (by exact (by repeat (first | exact Below.refl _ _ | assumption | refine Below.setCell ?_ (by first | omega | (simp <;> omega)) _ | refine Below.alloc ?_ (by first | omega | (simp <;> omega)) _ | refine Below.drew ?_))) HC7.out) (by decide))
            ; have c28 : w8.cell? ⟨w.heap.size, 2, none⟩ = some vg := cell_of_row w8 _ 2 _ _ (0, 0) hC8
            ; have f28 : w8.frozen? ⟨w.heap.size, 2, none⟩ = false := row_free hC8
            ; have HC8 := Lib.hid hC8
            ; have HR8 := Lib.hid (Rws.grownLists (HR7.out.below (by exact (by repeat (first | exact Below.refl _ _ | assumption | refine Below.setCell ?_ (by first | omega | (simp <;> omega)) _ | refine Below.alloc ?_ (by first | omega | (simp <;> omega)) _ | refine Below.drew ?_)))) (HG7.out.below (by exact (by repeat (first | exact Below.refl _ _ | assumption | refine Below.setCell ?_ (by first | omega | (simp <;> omega)) _ | refine Below.alloc ?_ (by first | omega | (simp <;> omega)) _ | refine Below.drew ?_)))) hg8 HNE7.out)
            ; have hB8 : Below w.heap.size w w8 := hB7.trans (Below.trans (Below.mono (by exact (by repeat (first | exact Below.refl _ _ | assumption | refine Below.setCell ?_ (by first | omega | (simp <;> omega)) _ | refine Below.alloc ?_ (by first | omega | (simp <;> omega)) _ | refine Below.drew ?_))) hB7z) ((Below.refl _ _).grown hg8 (by simp; omega) (fun q hq => (HG7.out.block hq).1)))
            ; clear hC8))
      obtain ⟨w9, hw9⟩ : ∃ w9, w8.setCell ⟨w.heap.size, 2, none⟩ (.slice A8 (a + 1) c8) = w9 := ⟨_, rfl⟩
      have hE9 : Emp w.heap.size n (a + 1) w.heap.size w w9 (fun i => if i = a then wo.heap.size else R i) (fun i => if i = a then w7.heap.size else G i) (.slice A6 (a + 1) c6) (.slice A8 (a + 1) c8) := by
        refine ⟨by rw [← hw9]; exact heap_setCell_same w8 _ 2 _ _ _ HC8.out, by rw [← hw9]; exact Rws.set HR8.out _ HC8.out (by decide) (by decide) (by decide), by rw [← hw9]; exact hG8.other (gSet _ _ _ _) HC8.out (by decide) (by decide), fun b hb e => ?_, fun i j hi hj e => ?_, by rw [← hw9]; exact hB8.setCell (p := ⟨w.heap.size, 2, none⟩) (Nat.le_refl _) _⟩
        · rcases hat8 with h1 | h1
          · exact HNE7.out b hb (h1 ▸ e)
          · rw [h1] at e
            obtain ⟨_, ds, hd⟩ := HR7.out.block hb
            have := row_lt hd
            injection e with e
            simp at e
            omega
        · by_cases e1 : i = a
          · by_cases e2 : j = a
            · simp only [e1, e2, if_true] at e; omega
            · simp only [e1, e2, if_true, if_false] at e
              have := hRo j (by omega)
              omega
          · by_cases e2 : j = a
            · simp only [e1, e2, if_true, if_false] at e
              have := hGo i (by omega)
              omega
            · simp only [e1, e2, if_false] at e
              exact HE.out.apart i j (by omega) (by omega) e
      rw [hw9]
      exact ⟨⟨a + 1, _, _, _, _, by go_num, by omega, hE9⟩, by simp [intOf]; omega⟩
    · obtain rfl : a = n := by omega
      obtain ⟨Rb, cr, Gb, cg, rfl, rfl, hbody⟩ := hE.rows.body2 hE.lists hn hE.ne hE.apart
      have HT := Lib.hid hE.top
      have HBY := Lib.hid hbody
      have hBE := hE.below
      clear hE hbody
      go_wp2_with fail
      go_ret
      exact ⟨w.heap.size, ⟨Rb, Gb, cr, cg, R⟩, rfl, HT.out, HBY.out, hBE⟩
end
end Go.Proofs.Ytpcnbjfkobeibaa
