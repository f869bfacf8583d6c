/- Marks: a list of the call's own is written over with running numbers, and read again; append of one number to a list of the call's own. -/
import Derived.Test.YtfhdnanbhigpmaaM
namespace Go.Proofs.Ytfhdnanbhigpmaa
open Go.RowKit

def marks (k : Int) (n : Nat) : List Int := (List.range n).map fun (i : Nat) => k + (i : Int)
theorem marks_length (k : Int) (n : Nat) : (marks k n).length = n := by simp [marks]
theorem marks_getD (k : Int) (n i : Nat) (h : i < n) : (marks k n).getD i 0 = k + i := by simp [marks, List.getD_eq_getElem?_getD, h]
theorem marks_more (k : Int) (n : Nat) : marks k (n + 1) = marks k n ++ [k + n] := by simp [marks, List.range_succ]

theorem Fresh.block {B : Nat} {w : World} {v : Value} {xs : List Int} (h : Fresh B w v xs) : ∀ k, v.ownBlock = some k → B ≤ k := fun k hk => (World.ownsRow.lt h k hk).1
theorem Fresh.nil (B : Nat) (w : World) : Fresh B w (.slice none 0 0) [] := World.ownsRow_nil _ _ _ _
theorem Fresh.empty {B : Nat} {w : World} (hB : B ≤ w.heap.size) : Fresh B (w.alloc (.cells #[] 2)) (.slice (some ⟨w.heap.size, 0, none⟩) 0 0) [] :=
  World.ownsRow_made w #[] 0 hB (by unfold maxLen; omega) (by simp)

theorem append_one {w : World} {ops : Array Oper} {rest : List Oper} {o : Oper} {a : Act} {Q : Exit → Act → World → Prop} (hgd : o.guard = none) (s x : Operand)
    (hop : o.op = Op.call { callee := Callee.builtin Builtin.append, args := #[s, x], argTypes := #[31, 31] })
    (B : Nat) (v : Value) (xs : List Int) (n : Int) (hs : a.eval s = v) (hown : Fresh B w v xs) (g : Nat) (hx : a.eval x = .slice (some ⟨g, 0, none⟩) 1 1)
    (hcell : w.cell? ⟨g, 0, none⟩ = some (.int .i64 n)) (hl : xs.length ≤ 1048576) (hB : B ≤ w.heap.size)
    (h : ∀ v' w', Fresh B w' v' (xs ++ [n]) → w.grownBy w' v.ownBlock → Below B w w' → wpList Try.prog ops Q rest (a.put o.dst v') w') : wpList Try.prog ops Q (o :: rest) a w := by
  obtain ⟨i0, hi, hz0, hz1, hz2⟩ := info_parts intInfo
  refine wpList_append_own _ hgd s x 31 hop B 2 i0 (.int .i64 0) 1 8 Try.underlying31 hi hz0 hz1 hz2 rfl (by decide) v xs.length (xs.map (Value.int .i64)) hs hown ⟨g, 0, none⟩ 1 1 [.int .i64 n] hx rfl ?_ ?_ ?_ ?_ hB ?_
  · intro j u hj
    match j, hj with
    | 0, hj => simp at hj; subst hj; simpa [Addr.add] using hcell
  · intro u hu; simp at hu; subst hu; rfl
  · unfold maxLen; omega
  · omega
  · intro v' w' hown' hgrow _
    refine h v' w' ?_ hgrow ((Below.refl _ _).grown hgrow hB hown.block)
    simpa [Fresh] using hown'

set_option maxHeartbeats 1000000 in
theorem markInts (B : Nat) (v : Value) (xs : List Int) (k0 : Int) (w : World) (hown : Fresh B w v xs) (hl : xs.length ≤ 1048576) (h0 : 0 ≤ k0) (h1 : k0 ≤ 4611686018427387904) :
    Calls Try.prog 27 #[v, .int .i64 k0] w fun e w' => e = .returned (.int .i64 (k0 + xs.length)) ∧ Fresh B w' v (marks k0 xs.length) ∧ w.grownBy w' v.ownBlock := by
  rcases hown.2 with ⟨rfl, hn⟩ | ⟨g, cap, cur, rfl, hbg, hgg, hnc, hcm, hcs, htake⟩
  · have hx : xs = [] := List.eq_nil_of_length_eq_zero hn
    subst hx
    go_enter Try.func27, Try.ntmps27
    go_wp2_with fail
    refine wp_loop_rounds 1 ?_
    rw [rounds_succ]
    go_wp2
    go_ret
    exact ⟨ret_int (by simp), by simpa [marks] using hown, World.grownBy.refl _ _⟩
  · have hlt : g < w.heap.size := (Array.getElem?_eq_some_iff.1 hgg).1
    go_enter Try.func27, Try.ntmps27
    go_wp2_with fail
    go_loopw [1, 5] (fun q i wr => ∃ k : Nat, k ≤ xs.length ∧ i = .int .i64 k ∧ q = .int .i64 (k0 + k) ∧ wr.ownsRow B 2 1 (.slice (some ⟨g, 0, none⟩) xs.length cap) xs.length ((marks k0 k ++ xs.drop k).map (Value.int .i64)) ∧ w.grownBy wr (some g)) (fun _ i _ => xs.length - (intOf i).toNat)
    case atStart => exact ⟨0, Nat.zero_le _, rfl, by simp, by simpa [marks, Fresh] using hown, World.grownBy.refl _ _⟩
    case round =>
      obtain ⟨k, hk, rfl, rfl, ho, hg⟩ := hrel
      clear hown hgg hcs htake
      by_cases hlt2 : k < xs.length
      · have hcell : ∃ u, wr.cell? ⟨g, k, none⟩ = some u := by
          rw [ho.cellAt k (by omega)]
          have : k < ((marks k0 k ++ xs.drop k).map (Value.int .i64)).length := by simp [marks_length]; omega
          exact ⟨_, List.getElem?_eq_getElem this⟩
        obtain ⟨u, hcell⟩ := hcell
        have hfr := ho.frozenAt k
        have hst := Lib.hid (ho.stored k (.int .i64 (k0 + k)))
        go_wp2
        go_roundw
        case rel =>
          refine ⟨k + 1, by omega, by go_num, by go_num, ?_, ?_⟩
          · have h2 := hst.out.1
            rw [← List.map_set, List.set_append_right _ _ (by rw [marks_length]; exact Nat.le_refl _), marks_length, Nat.sub_self, List.drop_eq_getElem_cons hlt2, List.set_cons_zero] at h2
            rw [marks_more, List.append_assoc, List.singleton_append]
            exact h2
          · have h2 := hst.out.2
            exact ⟨h2.os.trans hg.os, h2.tape.trans hg.tape, h2.output.trans hg.output, Nat.le_trans hg.size h2.size, fun j hj hne => (h2.block j (Nat.lt_of_lt_of_le hj hg.size) hne).trans (hg.block j hj hne)⟩
        case measure => simp [intOf]; omega
      · have hke : k = xs.length := by omega
        have HK := Lib.hid hke
        clear hke
        go_wp2
        go_ret
        refine ⟨ret_int (by rw [HK.out]), ?_, by simpa [Value.ownBlock] using hg⟩
        have := HK.out
        subst this
        simpa [Fresh, marks_length] using ho

set_option maxHeartbeats 1000000 in
theorem heldInts (A : Option Addr) (c n : Nat) (k0 : Int) (w : World) (hx : IntsAt w A (marks k0 n)) (hl : n ≤ 1048576) (h0 : 0 ≤ k0) (h1 : k0 ≤ 4611686018427387904) :
    Calls Try.prog 39 #[.slice A n c, .int .i64 k0] w fun e w' => e = .returned (.int .i64 (k0 + n)) ∧ w = w' := by
  go_enter Try.func39, Try.ntmps39
  go_wp2_with fail
  go_loop [1, 5] (fun q i => ∃ k : Nat, k ≤ n ∧ i = .int .i64 k ∧ q = .int .i64 (k0 + k)) (fun _ i => n - (intOf i).toNat)
  case atStart => exact ⟨0, Nat.zero_le _, rfl, by simp⟩
  case round =>
    obtain ⟨k, hk, rfl, rfl⟩ := hrel
    by_cases hlt : k < n
    · obtain ⟨b, off, e, hb, hc⟩ := hx k (by rw [marks_length]; exact hlt)
      subst e
      rw [marks_getD _ _ _ hlt] at hc
      go_wp2
      go_round
      case rel => exact ⟨k + 1, by omega, by go_num, by go_num⟩
      case measure => simp [intOf]; omega
    · have hke : k = n := by omega
      subst hke
      go_wp2
      go_ret
      exact ⟨rfl, rfl⟩

theorem IntsAt.grownOld {w0 w w' : World} {A : Option Addr} {xs : List Int} {row : Option Nat} (h : IntsAt w A xs) (h0 : IntsAt w0 A xs) (hg : w.grownBy w' row) (hrow : ∀ g, row = some g → w0.heap.size ≤ g) : IntsAt w' A xs := by
  intro k hk
  obtain ⟨b, off, e, hb, hc⟩ := h k hk
  obtain ⟨b', off', e', hb', _⟩ := h0 k hk
  rw [e] at e'
  injection e' with e'
  injection e' with e1 e2
  subst e1
  have hne : some b ≠ row := fun h => by have := hrow b h.symm; omega
  exact ⟨b, off, e, Nat.lt_of_lt_of_le hb hg.size, (World.cell?_of_block (a := ⟨b, off + k, none⟩) (hg.block b hb hne)).trans hc⟩
theorem Fresh.grownNew {B : Nat} {w w' : World} {v : Value} {xs : List Int} {row : Option Nat} (h : Fresh B w v xs) (hg : w.grownBy w' row) (hrow : ∀ g, row = some g → g < B) : Fresh B w' v xs := by
  refine World.ownsRow.kept h hg ?_
  cases hv : v.ownBlock with
  | none => exact .inl rfl
  | some k =>
    refine .inr fun e => ?_
    have h1 := h.block k hv
    have h2 := hrow k e.symm
    omega
theorem Fresh.intsAt {B : Nat} {w : World} {A : Option Addr} {n c : Nat} {xs : List Int} (h : Fresh B w (.slice A n c) xs) : IntsAt w A xs := by
  obtain ⟨A', c', e, hi, _⟩ := h.ints
  injection e with e1 e2 e3
  subst e1
  exact hi
theorem Fresh.len {B : Nat} {w : World} {A : Option Addr} {n c : Nat} {xs : List Int} (h : Fresh B w (.slice A n c) xs) : n = xs.length := by
  obtain ⟨A', c', e, hi, _⟩ := h.ints
  injection e
theorem Fresh.under {B : Nat} {w : World} {v : Value} {xs : List Int} (h : Fresh B w v xs) : ∀ g, v.ownBlock = some g → g < w.heap.size := fun g hg => (World.ownsRow.lt h g hg).2
theorem belowGrown {B : Nat} {a w w' : World} {row : Option Nat} (h : Below B a w) (hg : w.grownBy w' row) (hB : B ≤ w.heap.size) (hr : ∀ k, row = some k → B ≤ k) : Below B a w' := h.grown hg hB hr
end Go.Proofs.Ytfhdnanbhigpmaa
