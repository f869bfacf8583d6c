/- Events drawn from a source; what the law draws from a code. Conditions: as each contract says. -/
import Derived.Test.YtmfmkalgalmbcaaTd
namespace Go.Proofs.Ytmfmkalgalmbcaa
open Go.RowKit

def evCells (es : List Ev) : List Value := es.flatMap fun e => [.int .i64 e.1, .int .i64 e.2]
theorem evCells_len (es : List Ev) : (evCells es).length = es.length * 2 := by
  induction es with
  | nil => rfl
  | cons e es ih => simp [evCells] at ih ⊢; omega
theorem evCells_get : ∀ (es : List Ev) (i : Nat), i < es.length → (evCells es)[i * 2]? = some (.int .i64 (es.getD i (0, 0)).1) ∧ (evCells es)[i * 2 + 1]? = some (.int .i64 (es.getD i (0, 0)).2) := by
  intro es
  induction es with
  | nil => intro i hi; simp at hi
  | cons e es ih =>
    intro i hi
    have ec : evCells (e :: es) = .int .i64 e.1 :: .int .i64 e.2 :: evCells es := rfl
    rw [ec]
    match i, hi with
    | 0, _ => exact ⟨rfl, rfl⟩
    | i + 1, hi =>
      obtain ⟨h1, h2⟩ := ih i (by simpa using hi)
      rw [show (i + 1) * 2 + 1 = (i * 2 + 1) + 1 + 1 from by omega, show (i + 1) * 2 = i * 2 + 1 + 1 from by omega]
      exact ⟨h1, h2⟩
/-- Events of the call's own, in a block from B on. -/
def FEvs (B : Nat) (w : World) (v : Value) (es : List Ev) : Prop := w.ownsRow B 47 2 v es.length (evCells es) ∧ v ≠ .slice none 0 0
theorem FEvs.empty {B : Nat} {w : World} (hB : B ≤ w.heap.size) : FEvs B (w.alloc (.cells #[] 47)) (.slice (some ⟨w.heap.size, 0, none⟩) 0 0) [] := ⟨World.ownsRow_made w #[] 0 hB (by unfold maxLen; omega) (by simp), by simp⟩
theorem FEvs.below {B : Nat} {w w' : World} {v : Value} {es : List Ev} (h : FEvs B w v es) (hb : Below w.heap.size w w') : FEvs B w' v es := by
  refine ⟨⟨h.1.1, ?_⟩, h.2⟩
  rcases h.1.2 with hn | ⟨g, cap, cur, rfl, hbg, hgg, rest⟩
  · exact .inl hn
  · exact .inr ⟨g, cap, cur, rfl, hbg, rowB hb hgg, rest⟩
theorem FEvs.mono {B B' : Nat} {w : World} {v : Value} {es : List Ev} (h : FEvs B w v es) (hB : B' ≤ B) : FEvs B' w v es := by
  refine ⟨⟨h.1.1, ?_⟩, h.2⟩
  rcases h.1.2 with hn | ⟨g, cap, cur, rfl, hbg, rest⟩
  · exact .inl hn
  · exact .inr ⟨g, cap, cur, rfl, Nat.le_trans hB hbg, rest⟩
theorem FEvs.grown {B g : Nat} {w w' : World} {v : Value} {es : List Ev} (h : FEvs B w v es) (hg : w.grownBy w' (some g)) (hgB : g < B) : FEvs B w' v es := by
  refine ⟨World.ownsRow.kept h.1 hg ?_, h.2⟩
  cases hv : v.ownBlock with
  | none => exact .inl rfl
  | some k => exact .inr fun e => by have := (World.ownsRow.lt h.1 k hv).1; injection e with e; omega
theorem FEvs.evs {B : Nat} {w : World} {v : Value} {es : List Ev} (h : FEvs B w v es) : ∃ g cap, v = .slice (some ⟨g, 0, none⟩) es.length cap ∧ es.length ≤ cap ∧ cap ≤ maxLen ∧ EvsAt w (some ⟨g, 0, none⟩) es := by
  rcases h.1.2 with ⟨e, hn⟩ | ⟨g, cap, cur, rfl, hb, hg, hnc, hcm, hcs, htake⟩
  · exact absurd e h.2
  · have hlt : g < w.heap.size := (Array.getElem?_eq_some_iff.1 hg).1
    refine ⟨g, cap, rfl, hnc, hcm, fun k hk => ⟨g, 0, rfl, hlt, ?_, ?_⟩⟩
    · rw [Nat.zero_add, World.ownsRow.cellAt h.1 (k * 2) (by omega)]; exact (evCells_get es k hk).1
    · rw [Nat.zero_add, World.ownsRow.cellAt h.1 (k * 2 + 1) (by omega)]; exact (evCells_get es k hk).2
theorem append_ev {w : World} {ops : Array Oper} {rest : List Oper} {o : Oper} {a : Act} {Q : Exit → Act → World → Prop} (hgd : o.guard = none) (s x : Operand)
    (hop : o.op = Op.call { callee := Callee.builtin Builtin.append, args := #[s, x], argTypes := #[30, 30] })
    (B : Nat) (v : Value) (es : List Ev) (k t : Int) (hs : a.eval s = v) (hown : FEvs B w v es) (g : Nat) (hx : a.eval x = .slice (some ⟨g, 0, none⟩) 1 1)
    (hc0 : w.cell? ⟨g, 0, none⟩ = some (.int .i64 k)) (hc1 : w.cell? ⟨g, 1, none⟩ = some (.int .i64 t)) (hl : es.length ≤ 1048576) (hB : B ≤ w.heap.size)
    (h : ∀ v' w', FEvs B w' v' (es ++ [(k, t)]) → w.grownBy w' v.ownBlock → Below B w w' → wpList Try.prog ops Q rest (a.put o.dst v') w') : wpList Try.prog ops Q (o :: rest) a w := by
  obtain ⟨i0, hi, hz0, hz1, hz2⟩ := info_parts evInfo
  refine wpList_append_own _ hgd s x 30 hop B 47 i0 _ 2 16 Try.underlying30 hi hz0 hz1 hz2 rfl (by decide) v es.length (evCells es) hs hown.1 ⟨g, 0, none⟩ 1 1 [.int .i64 k, .int .i64 t] hx rfl ?_ ?_ ?_ ?_ hB ?_
  · intro j u hj
    match j, hj with
    | 0, hj => simp at hj; subst hj; simpa [Addr.add] using hc0
    | 1, hj => simp at hj; subst hj; simpa [Addr.add] using hc1
  · intro u hu
    simp at hu
    rcases hu with rfl | rfl <;> rfl
  · unfold maxLen; omega
  · omega
  · intro v' w' hown' hgrow hnil
    refine h v' w' ⟨?_, fun e => by have := (hnil.1 e).2; omega⟩ hgrow ((Below.refl _ _).grown hgrow hB (fun k hk => (World.ownsRow.lt hown.1 k hk).1))
    have e1 : evCells (es ++ [(k, t)]) = evCells es ++ [.int .i64 k, .int .i64 t] := by simp [evCells]
    have e2 : (es ++ [(k, t)]).length = es.length + 1 := by simp
    rw [e1, e2]
    exact hown'
def lenV : Value → Nat
  | .slice _ n _ => n
  | _ => 0
def DrawnEvs (g : Nat) (A : Option Addr) (c : Nat) (xs : List Int) (w : World) (e : Ending) (w' : World) : Prop :=
  ∃ v es, e = .returned v ∧ FEvs w.heap.size w' v es ∧ es.length ≤ 62 ∧ SrcAt w' g A c xs ∧ w.grownBy w' (some g)
set_option maxRecDepth 100000 in
set_option maxHeartbeats 8000000 in
theorem srcEvents (g : Nat) (A : Option Addr) (c : Nat) (xs : List Int) (t : Tm) (w : World) (hd : SrcAt w g A c xs) (hl : xs.length ≤ 4096) :
    Calls Try.prog 24 #[.pointer (some ⟨g, 0, none⟩), .agg #[.int .i64 t.ph, .int .i64 t.la, .int .i64 t.ins, .int .i64 t.dn, .int .i64 t.st, .int .i64 t.sp, .int .i64 t.pe, .bool t.fl]] w (DrawnEvs g A c xs w) := by
  have hlow := Lib.hid hd.low
  have hgw := hd.lt
  obtain ⟨w0, hw0⟩ : ∃ w0, (w.alloc (.cells #[.int .i64 t.ph, .int .i64 t.la, .int .i64 t.ins, .int .i64 t.dn, .int .i64 t.st, .int .i64 t.sp, .int .i64 t.pe, .bool t.fl] 26)).alloc (.cells #[] 47) = w0 := ⟨_, rfl⟩
  have hT0 : w0.heap[w.heap.size]? = some (.cells #[.int .i64 t.ph, .int .i64 t.la, .int .i64 t.ins, .int .i64 t.dn, .int .i64 t.st, .int .i64 t.sp, .int .i64 t.pe, .bool t.fl] 26 (0, 0)) := by rw [← hw0]; exact alloc2_0 w _ _
  have hb0 : Below w.heap.size w w0 := by rw [← hw0]; exact (by repeat (first | exact Below.refl _ _ | assumption | refine Below.setCell ?_ (by first | omega | (simp <;> omega)) _ | refine Below.alloc ?_ (by first | omega | (simp <;> omega)) _ | refine Below.drew ?_))
  have hE0 : FEvs w.heap.size w0 (.slice (some ⟨w.heap.size + 1, 0, none⟩) 0 0) [] := by
    have := FEvs.empty (B := w.heap.size) (w := w.alloc (.cells #[.int .i64 t.ph, .int .i64 t.la, .int .i64 t.ins, .int .i64 t.dn, .int .i64 t.st, .int .i64 t.sp, .int .i64 t.pe, .bool t.fl] 26)) (by simp)
    rw [hw0, show (w.alloc (.cells #[.int .i64 t.ph, .int .i64 t.la, .int .i64 t.ins, .int .i64 t.dn, .int .i64 t.st, .int .i64 t.sp, .int .i64 t.pe, .bool t.fl] 26)).heap.size = w.heap.size + 1 from by simp] at this
    exact this
  have c1 : w0.cell? ⟨w.heap.size, 1, none⟩ = some (.int .i64 t.la) := cell_of_row _ _ 1 _ _ (0, 0) hT0
  have hd0 : SrcAt w0 g A c xs := hd.below hb0
  have hG0 : w.grownBy w0 (some g) := grownThen (gRefl _ _) hb0
  clear hd hb0 hT0
  go_enter Try.func24, Try.ntmps24
  go_wp2_with fail
  clear hw0 c1
  refine (srcBelow g A c xs 9 _ hd0 hl (by omega) (by omega)).mono ?_
  rintro e w1 ⟨y, rfl, y0, y1, hd1, hg1⟩
  obtain ⟨q0, rfl⟩ := Int.eq_ofNat_of_zero_le y0
  have hG1 := grownTrans hG0 hg1
  have hE1 := hE0.grown hg1 hgw
  have hq0 : 0 + 2 * q0 ≤ 16 := by omega
  clear hd0 hG0 hE0 hg1
  go_wp2_with fail
  go_loopw [5, 6, 7] (fun v p q wr => ∃ (es : List Ev) (k : Nat) (a : Int), q = .int .i64 k ∧ p = .int .i64 a ∧ es.length + 2 * k ≤ 16 ∧ FEvs w.heap.size wr v es ∧ SrcAt wr g A c xs ∧ w.grownBy wr (some g)) (fun _ _ q _ => (intOf q).toNat)
  case atStart => exact ⟨[], q0, _, rfl, rfl, hq0, hE1, hd1, hG1⟩
  case round =>
    obtain ⟨es, k, a, rfl, rfl, hk, hE, hD, hG⟩ := hrel
    obtain ⟨wo, rfl⟩ : ∃ wo : World, wo = wr := ⟨_, rfl⟩
    clear hE1 hd1 hG1
    by_cases hpos : 0 < k
    · have pk : (0 : Int) < (k : Int) := by omega
      have hyl : es.length ≤ 1048576 := by omega
      obtain ⟨w2, hw2⟩ : ∃ w2, wo.alloc (.cells #[.int .i64 0, .int .i64 30, .int .i64 60, .int .i64 900, .int .i64 1600, .int .i64 1800] 2) = w2 := ⟨_, rfl⟩
      have hb2 : Below wo.heap.size wo w2 := by rw [← hw2]; exact (by repeat (first | exact Below.refl _ _ | assumption | refine Below.setCell ?_ (by first | omega | (simp <;> omega)) _ | refine Below.alloc ?_ (by first | omega | (simp <;> omega)) _ | refine Below.drew ?_))
      have hr2 : w2.heap[wo.heap.size]? = some (.cells (([0, 30, 60, 900, 1600, 1800] : List Int).map (Value.int .i64)).toArray 2 (0, 0)) := by rw [← hw2]; exact heap_alloc_new wo _
      have hE2 := hE.below hb2
      have hD2 := hD.below hb2
      have hG2 := grownB hG hb2
      have hgne : wo.heap.size ≠ g := by have := hD.lt; omega
      clear hb2 hE hD hG
      go_wp2_with fail
      clear hw2
      refine (srcBelow g A c xs 6 _ hD2 hl (by omega) (by omega)).mono ?_
      rintro e w3 ⟨y, rfl, y0, y1, hd3, hg3⟩
      obtain ⟨m, rfl⟩ := Int.eq_ofNat_of_zero_le y0
      have hr3 := rowG hg3 hr2 hgne
      have hcc := pick_at (m := m) [0, 30, 60, 900, 1600, 1800] hr3 rfl (by simp; omega)
      obtain ⟨z, hz⟩ : ∃ z, ([0, 30, 60, 900, 1600, 1800] : List Int).getD m 0 = z := ⟨_, rfl⟩
      rw [hz] at hcc
      have hE3 := hE2.grown hg3 hgw
      have hG3 := grownTrans hG2 hg3
      clear hz hr2 hr3 hg3 hE2 hD2 hG2
      go_wp2_with fail
      clear hcc
      refine (srcBelow g A c xs 7 _ hd3 hl (by omega) (by omega)).mono ?_
      rintro e w4 ⟨y, rfl, y0, y1, hd4, hg4⟩
      have hE4 := hE3.grown hg4 hgw
      have hG4 := grownTrans hG3 hg4
      have hz4 := hG4.size
      clear hE3 hG3 hd3 hg4
      go_wp2_with (first | (at_builtin; refine append_ev rfl (.tmp 24) (.tmp 30) rfl w.heap.size _ es _ _ rfl (hE4.below (by repeat (first | exact Below.refl _ _ | assumption | refine Below.setCell ?_ (by first | omega | (simp <;> omega)) _ | refine Below.alloc ?_ (by first | omega | (simp <;> omega)) _ | refine Below.drew ?_))) w4.heap.size rfl (by exact cell_of_row _ _ 0 _ _ (0, 0) (heap_alloc_new _ _)) (by exact cell_of_row _ _ 1 _ _ (0, 0) (heap_alloc_new _ _)) hyl (by simp; omega) ?_; intro v5 w5 hE5 hg5 hb5))
      have hb5 : Below w.heap.size w4 w5 := ((Below.refl _ _).alloc hz4 _).trans hb5
      have hD5 := hd4.keep hb5 hgw hlow.out
      have hG5 := grownThen hG4 hb5
      refine (srcOneIn g A c xs 2 _ hD5 hl (by omega) (by omega)).mono ?_
      rintro e w6 ⟨b, rfl, hd6, hg6⟩
      have hE6 := hE5.grown hg6 hgw
      have hG6 := grownTrans hG5 hg6
      have hz6 := hG6.size
      clear hE4 hG4 hd4 hg5 hb5 hD5 hG5 hE5 hg6
      cases b
      · go_wp2_with fail
        go_roundw
        case rel => exact ⟨_, k - 1, _, by rw [show ((k - 1 : Nat) : Int) = (k : Int) - 1 from by omega], rfl, by simp; omega, hE6, hd6, hG6⟩
        case measure => simp [intOf]; omega
      · obtain ⟨es6, hE6, hl6⟩ : ∃ es6, FEvs w.heap.size w6 v5 es6 ∧ es6.length = es.length + 1 := ⟨_, hE6, by simp⟩
        obtain ⟨b6, c6, rfl, -, -, -⟩ := hE6.evs
        have hyl2 : es6.length ≤ 1048576 := by omega
        have HL6 := Lib.hid hl6
        clear hl6
        go_wp2_with (first | (at_builtin; refine append_ev rfl (.tmp 34) (.tmp 41) rfl w.heap.size _ _ _ _ rfl (hE6.below (by repeat (first | exact Below.refl _ _ | assumption | refine Below.setCell ?_ (by first | omega | (simp <;> omega)) _ | refine Below.alloc ?_ (by first | omega | (simp <;> omega)) _ | refine Below.drew ?_))) w6.heap.size rfl (by exact cell_of_row _ _ 0 _ _ (0, 0) (heap_alloc_new _ _)) (by exact cell_of_row _ _ 1 _ _ (0, 0) (heap_alloc_new _ _)) hyl2 (by simp; omega) ?_; intro v7 w7 hE7 hg7 hb7))
        have hb7 : Below w.heap.size w6 w7 := ((Below.refl _ _).alloc hz6 _).trans hb7
        have hD7 := hd6.keep hb7 hgw hlow.out
        have hG7 := grownThen hG6 hb7
        go_roundw
        case rel => exact ⟨_, k - 1, _, by rw [show ((k - 1 : Nat) : Int) = (k : Int) - 1 from by omega], rfl, by have := HL6.out; simp; omega, hE7, hD7, hG7⟩
        case measure => simp [intOf]; omega
    · obtain rfl : k = 0 := by omega
      go_wp2_with fail
      refine (srcOneIn g A c xs 20 _ hD hl (by omega) (by omega)).mono ?_
      rintro e w2 ⟨b, rfl, hd2, hg2⟩
      have hE2 := hE.grown hg2 hgw
      have hG2 := grownTrans hG hg2
      clear hE hD hG hg2
      cases b
      · go_wp2_with fail
        go_ret
        exact ⟨_, es, rfl, hE2, by omega, hd2, hG2⟩
      · have hes : es.length ≤ 62 := by omega
        go_wp2_with fail
        go_loopw [5] (fun v wr => ∃ es : List Ev, es.length ≤ 62 ∧ FEvs w.heap.size wr v es ∧ SrcAt wr g A c xs ∧ w.grownBy wr (some g)) (fun v _ => 62 - lenV v)
        case atStart => exact ⟨es, hes, hE2, hd2, hG2⟩
        case round =>
          obtain ⟨es, hes, hE, hD, hG⟩ := hrel
          obtain ⟨wo, rfl⟩ : ∃ wo : World, wo = wr := ⟨_, rfl⟩
          clear hE2 hd2 hG2
          obtain ⟨b6, c6, rfl, -, -, -⟩ := hE.evs
          go_wp2_with fail
          refine (srcBelow g A c xs 2 _ hD hl (by omega) (by omega)).mono ?_
          rintro e w3 ⟨y, rfl, y0, y1, hd3, hg3⟩
          have hE3 := hE.grown hg3 hgw
          have hG3 := grownTrans hG hg3
          have hz3 := hG3.size
          clear hE hD hG hg3
          by_cases hlt : (es.length : Int) < 60 + y
          · have hyl : es.length ≤ 1048576 := by omega
            go_wp2_with (first | (at_builtin; refine append_ev rfl (.tmp 51) (.tmp 54) rfl w.heap.size _ es _ _ rfl (hE3.below (by repeat (first | exact Below.refl _ _ | assumption | refine Below.setCell ?_ (by first | omega | (simp <;> omega)) _ | refine Below.alloc ?_ (by first | omega | (simp <;> omega)) _ | refine Below.drew ?_))) w3.heap.size rfl (by exact cell_of_row _ _ 0 _ _ (0, 0) (heap_alloc_new _ _)) (by exact cell_of_row _ _ 1 _ _ (0, 0) (heap_alloc_new _ _)) hyl (by simp; omega) ?_; intro v5 w5 hE5 hg5 hb5))
            have hb5 : Below w.heap.size w3 w5 := ((Below.refl _ _).alloc hz3 _).trans hb5
            have hD5 := hd3.keep hb5 hgw hlow.out
            have hG5 := grownThen hG3 hb5
            obtain ⟨b7, c7, rfl, -, -, -⟩ := hE5.evs
            go_roundw
            case rel => exact ⟨_, by simp; omega, hE5, hD5, hG5⟩
            case measure => simp [lenV]; omega
          · go_wp2_with fail
            go_ret
            exact ⟨_, es, rfl, hE3, hes, hd3, hG3⟩
end Go.Proofs.Ytmfmkalgalmbcaa
