/- Events in memory; what the law file's helpers do with them and with timers. Conditions: as each contract says. -/
import Derived.Test.YtmfmkalgalmbcaaTa
import Derived.Test.YtmfmkalgalmbcaaTp
import Derived.Maps.AppendAt
namespace Go.Proofs.Ytmfmkalgalmbcaa
open Go.RowKit

def EvsAt (w : World) (A : Option Addr) (es : List Ev) : Prop := ∀ i, i < es.length → ∃ b off, A = some ⟨b, off, none⟩ ∧ b < w.heap.size ∧ w.cell? ⟨b, off + i * 2, none⟩ = some (.int .i64 (es.getD i (0, 0)).1) ∧ w.cell? ⟨b, off + i * 2 + 1, none⟩ = some (.int .i64 (es.getD i (0, 0)).2)
theorem EvsAt.nil (w : World) (A : Option Addr) : EvsAt w A [] := fun i hi => by simp at hi
theorem EvsAt.below {w w' : World} {A : Option Addr} {es : List Ev} (h : EvsAt w A es) (hb : Below w.heap.size w w') : EvsAt w' A es := by
  intro i hi
  obtain ⟨b, off, e, hlt, h1, h2⟩ := h i hi
  exact ⟨b, off, e, Nat.lt_of_lt_of_le hlt hb.size, (hb.cell (p := ⟨b, off + i * 2, none⟩) hlt).trans h1, (hb.cell (p := ⟨b, off + i * 2 + 1, none⟩) hlt).trans h2⟩
theorem EvsAt.at_ {w : World} {A : Option Addr} {es : List Ev} (h : EvsAt w A es) {i : Nat} (hi : i < es.length) :
    ∃ b off k a, A = some ⟨b, off, none⟩ ∧ b < w.heap.size ∧ w.cell? ⟨b, off + i * 2, none⟩ = some (.int .i64 k) ∧ w.cell? ⟨b, off + i * 2 + 1, none⟩ = some (.int .i64 a) ∧ Hid (es.getD i (0, 0) = (k, a)) := by
  obtain ⟨b, off, e, hlt, h1, h2⟩ := h i hi
  exact ⟨b, off, _, _, e, hlt, h1, h2, rfl⟩
theorem EvsAt.take {w : World} {A : Option Addr} {es : List Ev} (h : EvsAt w A es) (m : Nat) : EvsAt w A (es.take m) := by
  intro k hk
  have hk2 : k < es.length := by rw [List.length_take] at hk; omega
  have hk3 : k < m := by rw [List.length_take] at hk; omega
  have e : (es.take m).getD k (0, 0) = es.getD k (0, 0) := by simp [List.getD_eq_getElem?_getD, hk3]
  rw [e]
  exact h k hk2
theorem EvsAt.drop {w : World} {b off : Nat} {es : List Ev} (h : EvsAt w (some ⟨b, off, none⟩) es) (m : Nat) : EvsAt w (some ⟨b, off + m * 2, none⟩) (es.drop m) := by
  intro k hk
  have hk2 : m + k < es.length := by rw [List.length_drop] at hk; omega
  have e : (es.drop m).getD k (0, 0) = es.getD (m + k) (0, 0) := by simp [List.getD_eq_getElem?_getD]
  obtain ⟨b', off', e1, hlt, h1, h2⟩ := h (m + k) hk2
  injection e1 with e1
  injection e1 with e2 e3
  subst e2 e3
  rw [e]
  refine ⟨b, off + m * 2, rfl, hlt, ?_, ?_⟩
  · rw [show off + m * 2 + k * 2 = off + (m + k) * 2 from by omega]; exact h1
  · rw [show off + m * 2 + k * 2 + 1 = off + (m + k) * 2 + 1 from by omega]; exact h2
def szLeft (left : Int) (n : Nat) : Int := if left < n then -1 else left - n
theorem szEvs (A : Option Addr) (n c : Nat) (w : World) (hn : n ≤ 9223372036854775807) : Calls Try.prog 5 #[.slice A n c, .int .i64 1048576] w fun e w' => e = .returned (.int .i64 (szLeft 1048576 n)) ∧ w = w' := by
  by_cases h : (1048576 : Int) < (n : Int)
  · go_enter Try.func5, Try.ntmps5
    go_wp2_with fail
    go_ret
    exact ⟨ret_int (by rw [szLeft, if_pos h]), rfl⟩
  · go_enter Try.func5, Try.ntmps5
    go_wp2_with fail
    go_ret
    exact ⟨ret_int (by rw [szLeft, if_neg (by omega)]), rfl⟩
def EvPost (k a : Int) (w : World) (e : Ending) (w' : World) : Prop := e = .returned (.agg #[.int .i64 k, .int .i64 a]) ∧ Below w.heap.size w w'
theorem toEv (k a : Int) (w : World) : Calls Try.prog 18 #[.agg #[.int .i64 k, .int .i64 a]] w (EvPost k a w) := by
  go_enter Try.func18, Try.ntmps18
  go_wp2_with fail
  exact bodyPost_ret (v := .agg #[.int .i64 k, .int .i64 a]) (by simp [results, Try.results18, go_sem]) rfl ⟨rfl, (by repeat (first | exact Below.refl _ _ | assumption | refine Below.setCell ?_ (by first | omega | (simp <;> omega)) _ | refine Below.alloc ?_ (by first | omega | (simp <;> omega)) _ | refine Below.drew ?_))⟩
theorem eqEv (k a : Int) (w : World) : Calls Try.prog 21 #[.agg #[.int .i64 k, .int .i64 a], .agg #[.int .i64 k, .int .i64 a]] w (ReadsBool true w) := by
  go_enter Try.func21, Try.ntmps21
  go_wp2_with fail
  go_ret
  exact ⟨rfl, (by repeat (first | exact Below.refl _ _ | assumption | refine Below.setCell ?_ (by first | omega | (simp <;> omega)) _ | refine Below.alloc ?_ (by first | omega | (simp <;> omega)) _ | refine Below.drew ?_))⟩
set_option maxHeartbeats 4000000 in
theorem toTm (t : Tm) (w : World) : Calls Try.prog 7 #[.agg #[.int .i64 t.ph, .int .i64 t.la, .int .i64 t.ins, .int .i64 t.dn, .int .i64 t.st, .int .i64 t.sp, .int .i64 t.pe, .bool t.fl]] w (TmPost t w) := by
  obtain ⟨ph, la, ins, dn, st, sp, pe, fl⟩ := t
  dsimp only
  go_enter Try.func7, Try.ntmps7
  go_wp2_with fail
  exact bodyPost_ret (v := .agg #[.int .i64 ph, .int .i64 la, .int .i64 ins, .int .i64 dn, .int .i64 st, .int .i64 sp, .int .i64 pe, .bool fl]) (by simp [results, Try.results7, go_sem]) rfl ⟨rfl, (by repeat (first | exact Below.refl _ _ | assumption | refine Below.setCell ?_ (by first | omega | (simp <;> omega)) _ | refine Below.alloc ?_ (by first | omega | (simp <;> omega)) _ | refine Below.drew ?_))⟩
set_option maxHeartbeats 4000000 in
theorem eqTimer_self (t : Tm) (w : World) : Calls Try.prog 10 #[.agg #[.int .i64 t.ph, .int .i64 t.la, .int .i64 t.ins, .int .i64 t.dn, .int .i64 t.st, .int .i64 t.sp, .int .i64 t.pe, .bool t.fl], .agg #[.int .i64 t.ph, .int .i64 t.la, .int .i64 t.ins, .int .i64 t.dn, .int .i64 t.st, .int .i64 t.sp, .int .i64 t.pe, .bool t.fl]] w (ReadsBool true w) := by
  obtain ⟨ph, la, ins, dn, st, sp, pe, fl⟩ := t
  dsimp only
  go_enter Try.func10, Try.ntmps10
  go_wp2_with fail
  go_ret
  exact ⟨rfl, (by repeat (first | exact Below.refl _ _ | assumption | refine Below.setCell ?_ (by first | omega | (simp <;> omega)) _ | refine Below.alloc ?_ (by first | omega | (simp <;> omega)) _ | refine Below.drew ?_))⟩
def rowOf (F : Nat → Value) (N : Nat) : List Value := (List.range N).map F
theorem rowOf_len (F : Nat → Value) (N : Nat) : (rowOf F N).length = N := by simp [rowOf]
theorem rowOf_get (F : Nat → Value) (N p : Nat) (h : p < N) : (rowOf F N)[p]? = some (F p) := by simp [rowOf, h]
def upd {α : Type} (F : Nat → α) (p : Nat) (v : α) : Nat → α := fun j => if j = p then v else F j
theorem upd_same {α : Type} (F : Nat → α) (p : Nat) (v : α) : upd F p v p = v := by simp [upd]
theorem upd_other {α : Type} (F : Nat → α) {p j : Nat} (v : α) (h : j ≠ p) : upd F p v j = F j := by simp [upd, h]
theorem rowOf_set (F : Nat → Value) (N p : Nat) (v : Value) : (rowOf F N).set p v = rowOf (upd F p v) N := by
  refine List.ext_getElem? fun i => ?_
  rw [List.getElem?_set, rowOf_len]
  by_cases h : p = i
  · subst h
    rw [if_pos rfl]
    by_cases hp : p < N
    · rw [if_pos hp, rowOf_get _ _ _ hp, upd_same]
    · rw [if_neg hp, List.getElem?_eq_none (by rw [rowOf_len]; omega)]
  · rw [if_neg h]
    by_cases hp : i < N
    · rw [rowOf_get _ _ _ hp, rowOf_get _ _ _ hp, upd_other _ _ (fun e => h e.symm)]
    · rw [List.getElem?_eq_none (by rw [rowOf_len]; omega), List.getElem?_eq_none (by rw [rowOf_len]; omega)]
theorem toArray_set (l : List Value) (j : Nat) (v : Value) : l.toArray.setIfInBounds j v = (l.set j v).toArray := by simp
theorem row_store {w : World} {g : Nat} {F : Nat → Value} {N p : Nat} {T : TypeId} (v : Value) (h : w.heap[g]? = some (.cells (rowOf F N).toArray T (0, 0))) : (w.setCell ⟨g, p, none⟩ v).heap[g]? = some (.cells (rowOf (upd F p v) N).toArray T (0, 0)) := by
  have := heap_setCell_same w g p _ _ v h
  rwa [toArray_set, rowOf_set] at this
theorem row_cell {w : World} {g : Nat} {F : Nat → Value} {N p : Nat} {T : TypeId} (h : w.heap[g]? = some (.cells (rowOf F N).toArray T (0, 0))) (hp : p < N) : w.cell? ⟨g, p, none⟩ = some (F p) := by
  rw [cell_of_row w g p _ _ (0, 0) h, List.getElem?_toArray, rowOf_get _ _ _ hp]
theorem evInfo : (Try.prog.info? 47).map (fun i => (i.zero, i.size, i.bytes)) = some (some (.agg #[.int .i64 0, .int .i64 0]), 2, 16) := by kernel_rfl
def zeroV : Nat → Value := fun _ => .int .i64 0
theorem made_row (n : Nat) : (madeCells #[Value.int .i64 0, Value.int .i64 0] (n * 2)).toList = rowOf zeroV (n * 2) := by
  refine List.ext_getElem? fun i => ?_
  by_cases h : i < n * 2
  · rw [rowOf_get _ _ _ h]
    simp only [madeCells, Array.getElem?_toList, Array.getElem?_map]
    rw [Array.getElem?_range, if_pos h]
    rcases Nat.mod_two_eq_zero_or_one i with e | e <;> simp [zeroV, e]
  · rw [List.getElem?_eq_none (by simp [madeCells]; omega), List.getElem?_eq_none (by rw [rowOf_len]; omega)]
theorem whole_of_made2 {w : World} {B g n : Nat} {xs : List Value} (h : w.ownsRow B 47 2 (.slice (some ⟨g, 0, none⟩) n n) n xs) : w.heap[g]? = some (.cells xs.toArray 47 (0, 0)) := by
  rcases h.2 with ⟨he, _⟩ | ⟨g', cap, cur, he, _, hg, _, _, hcs, htake⟩
  · simp at he
  · simp only [Value.slice.injEq, Option.some.injEq, Addr.mk.injEq] at he
    obtain ⟨⟨rfl, _⟩, _, rfl⟩ := he
    have e : cur.toList = xs := by
      rw [← htake, List.take_of_length_le]
      simp [hcs]
    rw [hg, ← e]
def ToEvs (es : List Ev) (w : World) (e : Ending) (w' : World) : Prop := ∃ g, e = .returned (.slice (some ⟨g, 0, none⟩) es.length es.length) ∧ EvsAt w' (some ⟨g, 0, none⟩) es ∧ Below w.heap.size w w'
set_option maxRecDepth 3000 in
set_option maxHeartbeats 2000000 in
theorem toEvs (A : Option Addr) (c : Nat) (es : List Ev) (w : World) (hx : EvsAt w A es) (hl : es.length ≤ 1048576) :
    Calls Try.prog 8 #[.slice A es.length c] w (ToEvs es w) := by
  obtain ⟨i0, hi, hz0, hz1, hz2⟩ := info_parts evInfo
  go_enter Try.func8, Try.ntmps8
  go_wp2_with (first | (at_make; refine wpList_make_full _ rfl _ _ 30 rfl w.heap.size 47 i0 _ 2 Try.underlying30 hi hz0 hz1 _ _ _ _ es.length rfl rfl rfl rfl ?_ ?_ ?_ ?_))
  · rw [hz2]; omega
  · unfold maxLen; omega
  · simp
  intro w1 hown hgrow
  rw [made_row] at hown
  have hB1 : Below w.heap.size w w1 := (Below.refl _ _).grown hgrow (Nat.le_refl _) (by simp)
  have hH1 := whole_of_made2 hown
  clear hown hgrow
  go_wp2_with fail
  go_loopw [4] (fun i wr => ∃ (k : Nat) (F : Nat → Value), k ≤ es.length ∧ i = .int .i64 k ∧ wr.heap[w.heap.size]? = some (.cells (rowOf F (es.length * 2)).toArray 47 (0, 0)) ∧ Hid (∀ i, i < k → F (i * 2) = .int .i64 (es.getD i (0, 0)).1 ∧ F (i * 2 + 1) = .int .i64 (es.getD i (0, 0)).2) ∧ Below w.heap.size w wr) (fun i _ => es.length - (intOf i).toNat)
  case atStart => exact ⟨0, _, Nat.zero_le _, rfl, hH1, fun i hi => by omega, hB1⟩
  case round =>
    obtain ⟨k, F, hk, rfl, hr, HF, hB⟩ := hrel
    clear hB1 hH1
    by_cases hlt : k < es.length
    · obtain ⟨b, off, e1, a1, rfl, hb, hc0, hc1, HX⟩ := (hx.below hB).at_ hlt
      have p0 : (0 : Int) ≤ (k : Int) := by omega
      have p1 : (k : Int) < (es.length : Int) := by omega
      have HR := Lib.hid hr
      clear hr
      go_wp2_with fail
      refine (toEv e1 a1 _).mono ?_
      rintro e w2 ⟨rfl, hb2⟩
      have hr2 := rowB hb2 HR.out
      have c1 : w2.cell? ⟨w.heap.size, k * 2, none⟩ = some (F (k * 2)) := row_cell hr2 (by omega)
      have c2 : w2.cell? ⟨w.heap.size, k * 2 + 1, none⟩ = some (F (k * 2 + 1)) := row_cell hr2 (by omega)
      have f1 : w2.frozen? ⟨w.heap.size, k * 2, none⟩ = false := row_free hr2
      have f2 : w2.frozen? ⟨w.heap.size, k * 2 + 1, none⟩ = false := row_free hr2
      have hB2 := belowStep hb2 hB
      have HR3 := Lib.hid (row_store (p := k * 2 + 1) (.int .i64 a1) (row_store (p := k * 2) (.int .i64 e1) hr2))
      have HFN : Hid (∀ i, i < k + 1 → upd (upd F (k * 2) (.int .i64 e1)) (k * 2 + 1) (.int .i64 a1) (i * 2) = .int .i64 (es.getD i (0, 0)).1 ∧ upd (upd F (k * 2) (.int .i64 e1)) (k * 2 + 1) (.int .i64 a1) (i * 2 + 1) = .int .i64 (es.getD i (0, 0)).2) := by
        intro i hi
        rcases Nat.lt_or_ge i k with h2 | h2
        · rw [upd_other _ _ (by omega), upd_other _ _ (by omega), upd_other _ _ (by omega), upd_other _ _ (by omega)]; exact HF.out i h2
        · obtain rfl : i = k := by omega
          rw [upd_other _ _ (by omega), upd_same, upd_same, HX.out]; exact ⟨rfl, rfl⟩
      clear hr2 hb2 HR
      go_wp2_with fail
      exact ⟨⟨k + 1, _, by omega, by go_num, HR3.out, HFN, (hB2.setCell (by simp) _).setCell (by simp) _⟩, by simp [intOf]; omega⟩
    · obtain rfl : k = es.length := by omega
      go_wp2_with fail
      go_ret
      refine ⟨_, rfl, fun i hi => ⟨w.heap.size, 0, rfl, (Array.getElem?_eq_some_iff.1 hr).1, ?_, ?_⟩, hB⟩
      · rw [Nat.zero_add, row_cell hr (by omega), (HF.out i hi).1]
      · rw [Nat.zero_add, row_cell hr (by omega), (HF.out i hi).2]
set_option maxRecDepth 3000 in
set_option maxHeartbeats 2000000 in
theorem eqEvs (A B : Option Addr) (c d : Nat) (es : List Ev) (w : World) (hx : EvsAt w A es) (hy : EvsAt w B es) (hl : es.length ≤ 1048576) :
    Calls Try.prog 11 #[.slice A es.length c, .slice B es.length d] w (ReadsBool true w) := by
  go_enter Try.func11, Try.ntmps11
  go_wp2_with fail
  go_loopw [5] (fun i wr => ∃ k : Nat, k ≤ es.length ∧ i = .int .i64 k ∧ Below w.heap.size w wr) (fun i _ => es.length - (intOf i).toNat)
  case atStart => exact ⟨0, Nat.zero_le _, rfl, Below.refl _ _⟩
  case round =>
    obtain ⟨k, hk, rfl, hB⟩ := hrel
    by_cases hlt : k < es.length
    · obtain ⟨b, off, e1, a1, rfl, hb, hc0, hc1, HX⟩ := (hx.below hB).at_ hlt
      obtain ⟨b', off', e1', a1', rfl, hb', hc0', hc1', HX'⟩ := (hy.below hB).at_ hlt
      have e2 := HX.out.symm.trans HX'.out
      simp only [Prod.mk.injEq] at e2
      obtain ⟨rfl, rfl⟩ := e2
      have p0 : (0 : Int) ≤ (k : Int) := by omega
      have p1 : (k : Int) < (es.length : Int) := by omega
      go_wp2_with fail
      go_region_held3 (fun w' => w'.cell? ⟨b, off + k * 2, none⟩ = some (.int .i64 e1) ∧ w'.cell? ⟨b, off + k * 2 + 1, none⟩ = some (.int .i64 a1) ∧ w'.cell? ⟨b', off' + k * 2, none⟩ = some (.int .i64 e1) ∧ w'.cell? ⟨b', off' + k * 2 + 1, none⟩ = some (.int .i64 a1))
        (first | go_keep | exact ⟨(hb1.cell (p := ⟨b, off + k * 2, none⟩) hb).trans hc0, (hb1.cell (p := ⟨b, off + k * 2 + 1, none⟩) hb).trans hc1, (hb1.cell (p := ⟨b', off' + k * 2, none⟩) hb').trans hc0', (hb1.cell (p := ⟨b', off' + k * 2 + 1, none⟩) hb').trans hc1'⟩)
        (first | (go_at_call 21; refine (eqEv _ _ _).mono ?_; rintro e w1 ⟨rfl, hb1⟩))
      have hB1 := belowStep hb1 hB.drew
      go_wp2_with fail
      go_roundw
      case rel => exact ⟨k + 1, by omega, by go_num, hB1⟩
      case measure => simp [intOf]; omega
    · go_wp2_with fail
      go_ret
      exact ⟨rfl, hB⟩
end Go.Proofs.Ytmfmkalgalmbcaa
