/- The letters of a puzzle and their moves, a list picked by another: impl. Conditions: as each contract says. -/
import Derived.Test.YtfhdnanbhigpmaaGr
import Derived.Test.YtfhdnanbhigpmaaCo
namespace Go.Proofs.Ytfhdnanbhigpmaa
open Go.RowKit Grp

set_option maxHeartbeats 1000000 in
theorem implPicked (A A' : Option Addr) (c c' n L : Nat) (mv pat : List Int) (w : World) (hm : IntsAt w A mv) (hp : IntsAt w A' pat) (hmo : PtsOk n n mv) (hpo : PtsOk n L pat) (hL : L ≤ 1048576) :
    Calls Try.prog 88 #[.slice A n c, .slice A' L c'] w fun e w' => ∃ v, e = .returned v ∧ Fresh w.heap.size w' v (pickI mv pat) ∧ Below w.heap.size w w' := by
  obtain ⟨i0, hi, hz0, hz1, hz2⟩ := info_parts intInfo
  have HMO := Lib.hid hmo
  have HPO := Lib.hid hpo
  clear hmo hpo
  go_enter Try.func88, Try.ntmps88
  go_wp2_with (first | (at_make; refine wpList_make_full _ rfl _ _ 31 rfl w.heap.size 2 i0 (.int .i64 0) 1 Try.underlying31 hi hz0 hz1 _ _ _ _ L rfl rfl rfl rfl ?_ ?_ ?_ ?_))
  · rw [hz2]; omega
  · unfold maxLen; omega
  · simp
  intro w1 hown hgrow
  rw [made_ints] at hown
  have hB0 : Below w.heap.size w w1 := (Below.refl _ _).grown hgrow (Nat.le_refl _) (by simp)
  have hF0 : Filled w.heap.size w1 w.heap.size L (List.replicate L 0) := ⟨by simp, hown⟩
  clear hgrow hown
  go_wp2_with fail
  go_loopw [13] (fun i wr => ∃ (k : Nat) (ys : List Int), k ≤ L ∧ i = .int .i64 k ∧ Filled w.heap.size wr w.heap.size L ys ∧ Hid (∀ j, j < k → ys.getD j 0 = mv.getD (pat.getD j 0).toNat 0) ∧ Below w.heap.size w wr) (fun i _ => L - (intOf i).toNat)
  case atStart => exact ⟨0, _, Nat.zero_le _, rfl, hF0, fun j hj => by omega, hB0⟩
  case round =>
    obtain ⟨k, ys, hk, rfl, hF, HY, hB⟩ := hrel
    clear hF0 hB0
    by_cases hlt : k < L
    · have hx := HPO.out.2 k hlt
      obtain ⟨b, off, rfl, hb, hc⟩ := (hp.below hB) k (by rw [HPO.out.1]; exact hlt)
      obtain ⟨x, hxx⟩ : ∃ x : Nat, pat.getD k 0 = (x : Int) := ⟨(pat.getD k 0).toNat, by omega⟩
      rw [hxx] at hc hx
      obtain ⟨b', off', rfl, hb', hc'⟩ := (hm.below hB) x (by rw [HMO.out.1]; omega)
      obtain ⟨y, hyy⟩ : ∃ y : Int, mv.getD x 0 = y := ⟨_, rfl⟩
      rw [hyy] at hc'
      have hcell := hF.cell hlt
      have hfr := hF.2.frozenAt k
      have hF2 := hF.store k y
      have HF := Lib.hid hF2
      have HYN : Hid (∀ j, j < k + 1 → (ys.set k y).getD j 0 = mv.getD (pat.getD j 0).toNat 0) := by
        intro j hj
        rw [set_getD _ _ _ _ (by rw [hF.1]; exact hlt)]
        by_cases e : j = k
        · subst e; rw [if_pos rfl, hxx, ← hyy]; rfl
        · rw [if_neg e]; exact HY.out j (by omega)
      have p0 : (0 : Int) ≤ (k : Int) := by omega
      have p1 : (k : Int) < (L : Int) := by omega
      have p2 : (0 : Int) ≤ (x : Int) := by omega
      have p3 : (x : Int) < (n : Int) := by omega
      clear hxx hyy hF hF2 hx
      go_wp2_with fail
      go_roundw
      case rel => exact ⟨k + 1, _, by omega, by go_num, HF.out, HYN, hB.setCell (by simp) _⟩
      case measure => simp [intOf]; omega
    · obtain rfl : k = L := by omega
      have hlp := HPO.out.1
      have he : ys = pickI mv pat := List.ext_getElem (by unfold pickI; rw [hF.1, List.length_map, hlp]) fun i h1 h2 => by
        have e1 := HY.out i (by rw [hF.1] at h1; exact h1)
        rw [← pickI_at (by rw [hlp]; rw [hF.1] at h1; exact h1), getD_at _ _ h1, getD_at _ _ h2] at e1
        exact e1
      have HFR : Hid (Fresh w.heap.size wr (.slice (some ⟨w.heap.size, 0, none⟩) k k) (pickI mv pat)) := by
        unfold Hid Fresh
        rw [show (pickI mv pat).length = k from by unfold pickI; rw [List.length_map, hlp], ← he]
        exact hF.2
      clear he hF hlp
      go_wp2_with fail
      go_ret
      exact ⟨_, rfl, HFR.out, hB⟩
/-! Letters. -/
def letsOf : Nat → List Int
  | 0 => []
  | k + 1 => letsOf k ++ [((k + 1 : Nat) : Int), -((k + 1 : Nat) : Int)]
theorem letsOf_len (n : Nat) : (letsOf n).length = 2 * n := by
  induction n with
  | zero => rfl
  | succ n ih => simp only [letsOf, List.length_append, ih, List.length_cons, List.length_nil]; omega
theorem letsOf_even (n : Nat) : ∀ i, i < n → (letsOf n).getD (2 * i) 0 = ((i + 1 : Nat) : Int) := by
  induction n with
  | zero => intro i hi; omega
  | succ n ih =>
    intro i hi
    have hl := letsOf_len n
    unfold letsOf
    rw [List.getD_eq_getElem?_getD]
    by_cases e : i < n
    · rw [List.getElem?_append_left (by omega), ← List.getD_eq_getElem?_getD]; exact ih i e
    · obtain rfl : i = n := by omega
      rw [List.getElem?_append_right (by omega), show 2 * i - (letsOf i).length = 0 from by omega]; rfl
theorem letsOf_odd (n : Nat) : ∀ i, i < n → (letsOf n).getD (2 * i + 1) 0 = -((i + 1 : Nat) : Int) := by
  induction n with
  | zero => intro i hi; omega
  | succ n ih =>
    intro i hi
    have hl := letsOf_len n
    unfold letsOf
    rw [List.getD_eq_getElem?_getD]
    by_cases e : i < n
    · rw [List.getElem?_append_left (by omega), ← List.getD_eq_getElem?_getD]; exact ih i e
    · obtain rfl : i = n := by omega
      rw [List.getElem?_append_right (by omega), show 2 * i + 1 - (letsOf i).length = 1 from by omega]; rfl
/-- Two numbers more. -/
theorem append_two {w : World} {ops : Array Oper} {rest : List Oper} {o : Oper} {a : Act} {Q : Exit → Act → World → Prop} (hgd : o.guard = none) (s x : Operand)
    (hop : o.op = Op.call { callee := Callee.builtin Builtin.append, args := #[s, x], argTypes := #[31, 31] })
    (lo : Nat) (v : Value) (xs : List Int) (y z : Int) (hs : a.eval s = v) (hown : Fresh lo w v xs) (g : Nat) (hx : a.eval x = .slice (some ⟨g, 0, none⟩) 2 2)
    (hc0 : w.cell? ⟨g, 0, none⟩ = some (.int .i64 y)) (hc1 : w.cell? ⟨g, 1, none⟩ = some (.int .i64 z)) (hl : xs.length ≤ 1048576) (hB : lo ≤ w.heap.size)
    (h : ∀ v' w', Fresh lo w' v' (xs ++ [y, z]) → w.grownBy w' v.ownBlock → Below lo w w' → wpList Try.prog ops Q rest (a.put o.dst v') w') : wpList Try.prog ops Q (o :: rest) a w := by
  obtain ⟨i0, hi, hz0, hz1, hz2⟩ := info_parts intInfo
  refine wpList_append_own_at _ hgd s x 31 hop lo 2 i0 (.int .i64 0) 1 8 Try.underlying31 hi hz0 hz1 hz2 rfl (by decide) v xs.length (xs.map (Value.int .i64)) hs hown ⟨g, 0, none⟩ 2 2 [.int .i64 y, .int .i64 z] hx rfl
    (by intro j u2 hj; match j, hj with
        | 0, hj => simp at hj; subst hj; simpa [Addr.add] using hc0
        | 1, hj => simp at hj; subst hj; simpa [Addr.add] using hc1)
    (by intro u2 hu2; simp at hu2; rcases hu2 with rfl | rfl <;> rfl) (by unfold maxLen; omega) (by omega) hB ?_
  intro v' w' hown' hgrow _ _
  refine h v' w' ?_ hgrow ((Below.refl _ _).grown hgrow hB fun b hb => (World.ownsRow.lt hown b hb).1)
  unfold Fresh
  rw [List.map_append, List.length_append]
  exact hown'
set_option maxHeartbeats 1000000 in
theorem implLetters (n : Nat) (w : World) (hn : n ≤ 100000) :
    Calls Try.prog 87 #[.int .i64 n] w fun e w' => ∃ v, e = .returned v ∧ Fresh w.heap.size w' v (letsOf n) ∧ Below w.heap.size w w' := by
  have hE : Fresh w.heap.size w (.slice none 0 0) [] := World.ownsRow_nil _ _ _ _
  go_enter Try.func87, Try.ntmps87
  go_wp2_with fail
  go_loopw [3, 6] (fun v i wr => ∃ k : Nat, k ≤ n ∧ i = .int .i64 k ∧ Fresh w.heap.size wr v (letsOf k) ∧ Below w.heap.size w wr) (fun _ i _ => n - (intOf i).toNat)
  case atStart => exact ⟨0, Nat.zero_le _, rfl, hE, Below.refl _ _⟩
  case round =>
    obtain ⟨k, hk, rfl, hF, hB⟩ := hrel
    clear hE
    by_cases hlt : k < n
    · have p1 : (k : Int) < (n : Int) := by omega
      have hw1 : IntKind.i64.wrap ((k : Int) + 1) = ((k + 1 : Nat) : Int) := (IntWalk.i64_in _ (by omega)).trans (by omega)
      have hw2 : IntKind.i64.wrap (-((k + 1 : Nat) : Int)) = -((k + 1 : Nat) : Int) := IntWalk.i64_in _ (by omega)
      obtain ⟨xs, hxs⟩ : ∃ xs, letsOf k = xs := ⟨_, rfl⟩
      have hll := letsOf_len k
      rw [hxs] at hF hll
      have hl2 : xs.length ≤ 1048576 := by omega
      have hBz := hB.size
      have HX := Lib.hid hxs
      clear hxs hll
      go_wp2_with (first | (at_builtin; refine append_two rfl (.tmp 9) (.tmp 15) rfl w.heap.size _ xs ((k + 1 : Nat) : Int) (-((k + 1 : Nat) : Int)) rfl (hF.below (by repeat (first | exact Below.refl _ _ | assumption | refine Below.setCell ?_ (by first | omega | (simp <;> omega)) _ | refine Below.alloc ?_ (by first | omega | (simp <;> omega)) _ | refine Below.drew ?_))) wr.heap.size rfl (by simp) (by simp) hl2 (by simp; omega) ?_; intro v3 w3 hF3 hg3 hb3))
      have hB3 : Below w.heap.size w w3 := hB.trans (((Below.refl _ _).alloc hBz _).trans hb3)
      go_roundw
      case rel => exact ⟨k + 1, by omega, by go_num, by unfold letsOf; rw [HX.out]; exact hF3, hB3⟩
      case measure => simp [intOf]; omega
    · obtain rfl : k = n := by omega
      go_wp2_with fail
      go_ret
      exact ⟨_, rfl, hF, hB⟩
/-- The move of a letter: a row of the puzzle's, or one of the call's own. -/
def MovePost (w0 : World) (ys : List Int) (w : World) (e : Ending) (w' : World) : Prop :=
  ∃ Ay cy, e = .returned (.slice Ay ys.length cy) ∧ ys.length ≤ cy ∧ IntsAt w' Ay ys ∧ (0 < ys.length → ∀ g off s, Ay = some ⟨g, off, s⟩ → g < w0.heap.size ∨ w.heap.size ≤ g) ∧ Below w.heap.size w w'
set_option maxHeartbeats 1000000 in
theorem implLetterOf1 (A : Option Addr) (c : Nat) (ms : List (List Int)) (i : Nat) (w0 w : World) (hx : LAt w0 A ms) (hb0 : Below w0.heap.size w0 w) (hi : i < ms.length) (hl : ms.length ≤ 100000) :
    Calls Try.prog 89 #[.slice A ms.length c, .int .i64 ((i + 1 : Nat) : Int)] w (MovePost w0 (ms.getD i []) w) := by
  obtain ⟨b, off, Ai, ci, rfl, h1, h2, h3, h4⟩ := hx i hi
  have h3' := (hb0.cell (p := ⟨b, off + i, none⟩) h1).trans h3
  have p0 : (0 : Int) < ((i + 1 : Nat) : Int) := by omega
  have hw1 : IntKind.i64.wrap (((i + 1 : Nat) : Int) - 1) = (i : Int) := (IntWalk.i64_in _ (by omega)).trans (by omega)
  have p1 : (0 : Int) ≤ (i : Int) := by omega
  have p2 : (i : Int) < (ms.length : Int) := by omega
  have H4 := Lib.hid h4
  have HB := Lib.hid hb0
  obtain ⟨ys, hys⟩ : ∃ ys, ms.getD i [] = ys := ⟨_, rfl⟩
  rw [hys] at h2 h3 h3' H4 ⊢
  clear h4 hb0 hx hys h3
  go_enter Try.func89, Try.ntmps89
  go_wp2_with fail
  go_ret
  exact ⟨Ai, ci, rfl, h2, H4.out.below HB.out, fun hl g off s e => .inl (H4.out.first hl e), Below.refl _ _⟩
set_option maxHeartbeats 1000000 in
theorem implLetterOf2 (A : Option Addr) (c n : Nat) (ms : List (List Int)) (i : Nat) (w0 w : World) (hx : LAt w0 A ms) (hb0 : Below w0.heap.size w0 w) (hi : i < ms.length) (hl : ms.length ≤ 100000) (hm : MvsOk n ms) (hn : n ≤ 1048576) :
    Calls Try.prog 89 #[.slice A ms.length c, .int .i64 (-((i + 1 : Nat) : Int))] w (MovePost w0 (invI (ms.getD i [])) w) := by
  obtain ⟨b, off, Ai, ci, rfl, h1, h2, h3, h4⟩ := hx i hi
  obtain ⟨p, hp, hpe⟩ := hm i hi
  have h3' := (hb0.cell (p := ⟨b, off + i, none⟩) h1).trans h3
  have p0 : ¬ (0 : Int) < -((i + 1 : Nat) : Int) := by omega
  have hw0 : IntKind.i64.wrap (- -((i + 1 : Nat) : Int)) = ((i + 1 : Nat) : Int) := (IntWalk.i64_in _ (by omega)).trans (by omega)
  have hw1 : IntKind.i64.wrap (((i + 1 : Nat) : Int) - 1) = (i : Int) := (IntWalk.i64_in _ (by omega)).trans (by omega)
  have p1 : (0 : Int) ≤ (i : Int) := by omega
  have p2 : (i : Int) < (ms.length : Int) := by omega
  rw [hpe, natI_len, hp.len] at h3'
  rw [hpe] at h4 ⊢
  have e2 : invI (natI p) = natI (inv p) := by unfold invI; rw [natOf_natI]
  rw [e2]
  have H4 := Lib.hid (h4.below hb0)
  have HP := Lib.hid hp
  have HB := Lib.hid hb0
  clear h4 hb0 hx h3 hp hpe hm e2 h2
  go_enter Try.func89, Try.ntmps89
  go_wp2_with fail
  refine (implInverse Ai ci n p _ H4.out HP.out hn).mono ?_
  rintro e w2 ⟨v2, rfl, hF2, hb2⟩
  obtain ⟨A2, c2, hc2, rfl, -⟩ := hF2.capped
  have HF2 := Lib.hid hF2
  clear hF2
  go_wp2_with fail
  go_ret
  exact ⟨A2, c2, rfl, hc2, HF2.out.intsAt, fun hl g off s e => .inr (World.ownsRow.lt HF2.out g (by rw [e]; rfl)).1, hb2⟩
end Go.Proofs.Ytfhdnanbhigpmaa
