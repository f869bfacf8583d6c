/- The letters of a puzzle, spec; one list before another. Conditions: as each contract says. One list before another, spec. Conditions: the lists are of one length. A letter applied to a list, spec. Conditions: as each contract says. -/
import Derived.Test.YtfhdnanbhigpmaaSf
import Derived.Test.YtfhdnanbhigpmaaGi
import Derived.Test.YtfhdnanbhigpmaaSt
import Derived.Test.YtfhdnanbhigpmaaPz
namespace Go.Proofs.Ytfhdnanbhigpmaa
section
open Go.RowKit Grp

set_option maxRecDepth 100000 in
set_option maxHeartbeats 1000000 in
theorem specLetters (A : Option Addr) (c : Nat) (p : Pz) (w : World) (hm : p.moves.length ≤ 100000) :
    Calls Try.prog 112 #[.agg #[.int .i64 p.pts, .string p.names, .slice A p.moves.length c]] w fun e w' => ∃ v, e = .returned v ∧ Fresh w.heap.size w' v (letsOf p.moves.length) ∧ Below w.heap.size w w' := by
  obtain ⟨m, hmm⟩ : ∃ m, p.moves.length = m := ⟨_, rfl⟩
  rw [hmm] at hm ⊢
  clear hmm
  obtain ⟨w0, hw0⟩ : ∃ w0, (w.alloc (.cells #[.int .i64 p.pts, .string p.names, .slice A m c] 29)).alloc (.cells #[] 2) = w0 := ⟨_, rfl⟩
  have hb0 : Below w.heap.size w w0 := by rw [← hw0]; exact (by repeat (first | exact Below.refl _ _ | assumption | refine Below.setCell ?_ (by first | omega | (simp <;> omega)) _ | refine Below.alloc ?_ (by first | omega | (simp <;> omega)) _ | refine Below.drew ?_))
  have hz0 : w0.heap.size = w.heap.size + 2 := by rw [← hw0]; simp
  have r0 : w0.heap[w.heap.size]? = some (.cells #[.int .i64 p.pts, .string p.names, .slice A m c] 29 (0, 0)) := by rw [← hw0]; exact alloc2_0 _ _ _
  have hE : Fresh (w.heap.size + 1) w0 (.slice (some ⟨w.heap.size + 1, 0, none⟩) 0 0) [] := by
    have := Fresh.empty (B := w.heap.size + 1) (w := w.alloc (.cells #[.int .i64 p.pts, .string p.names, .slice A m c] 29)) (by simp)
    rw [← hw0]; simpa using this
  go_enter Try.func112, Try.ntmps112
  go_wp2_with fail
  clear hw0
  go_loopw [3, 4] (fun v i wr => ∃ j : Nat, 1 ≤ j ∧ j ≤ m + 1 ∧ i = .int .i64 j ∧ Fresh (w.heap.size + 1) wr v (letsOf (j - 1)) ∧ Below (w.heap.size + 1) w0 wr) (fun _ i _ => m + 1 - (intOf i).toNat)
  case atStart => exact ⟨1, Nat.le_refl _, by omega, rfl, hE, Below.refl _ _⟩
  case round =>
    obtain ⟨j, hj1, hj, rfl, hF, hB⟩ := hrel
    clear hE
    have c2 := cell_of_row wr w.heap.size 2 _ _ (0, 0) ((hB.block w.heap.size (by omega)).trans r0)
    by_cases hlt : j ≤ m
    · have p1 : (j : Int) ≤ (m : Int) := by omega
      have hw1 : IntKind.i64.wrap ((j : Int) + 1) = (j : Int) + 1 := IntWalk.i64_in _ (by omega)
      have hw2 : IntKind.i64.wrap (-(j : Int)) = -(j : Int) := IntWalk.i64_in _ (by omega)
      obtain ⟨xs, hxs⟩ : ∃ xs, letsOf (j - 1) = xs := ⟨_, rfl⟩
      have hll := letsOf_len (j - 1)
      rw [hxs] at hF hll
      have hl2 : xs.length ≤ 1048576 := by omega
      have hBz := hB.size
      have HX : Hid (letsOf (j + 1 - 1) = xs ++ [(j : Int), -(j : Int)]) := by
        unfold Hid
        obtain ⟨i, rfl⟩ : ∃ i, j = i + 1 := ⟨j - 1, by omega⟩
        rw [show i + 1 + 1 - 1 = i + 1 from by omega]
        unfold letsOf
        rw [← hxs]
        rfl
      clear hxs hll
      go_wp2_with (first | (at_builtin; refine append_two rfl (.tmp 13) (.tmp 17) rfl (w.heap.size + 1) _ xs (j : Int) (-(j : Int)) rfl (hF.below (by repeat (first | exact Below.refl _ _ | assumption | refine Below.setCell ?_ (by first | omega | (simp <;> omega)) _ | refine Below.alloc ?_ (by first | omega | (simp <;> omega)) _ | refine Below.drew ?_))) wr.heap.size rfl (by simp) (by simp) hl2 (by simp; omega) ?_; intro v3 w3 hF3 hg3 hb3))
      have hB3 : Below (w.heap.size + 1) w0 w3 := hB.trans (((Below.refl _ _).alloc (by omega) _).trans hb3)
      go_roundw
      case rel => exact ⟨j + 1, by omega, by omega, by go_num, by rw [HX.out]; exact hF3, hB3⟩
      case measure => simp [intOf]; omega
    · obtain rfl : j = m + 1 := by omega
      have p1 : ¬ ((m + 1 : Nat) : Int) ≤ (m : Int) := by omega
      have hw3 : Hid (letsOf (m + 1 - 1) = letsOf m) := rfl
      rw [hw3.out] at hF
      go_wp2_with fail
      go_ret
      exact ⟨_, rfl, hF.mono (by omega), hb0.trans (hB.mono (by omega))⟩
end
section
open Go.RowKit

/-- Before, from place k on (m places are left). -/
def precAt (a b : List Int) : Nat → Nat → Bool
  | _, 0 => false
  | k, m + 1 => if a.getD k 0 = b.getD k 0 then precAt a b (k + 1) m else decide (a.getD k 0 < b.getD k 0)
def precL (a b : List Int) : Bool := precAt a b 0 a.length
theorem prec_same {a b : List Int} {k m : Nat} (h : a.getD k 0 = b.getD k 0) : precAt a b k (m + 1) = precAt a b (k + 1) m := by
  show (if a.getD k 0 = b.getD k 0 then precAt a b (k + 1) m else _) = _
  exact if_pos h
theorem prec_diff {a b : List Int} {k m : Nat} (h : ¬ a.getD k 0 = b.getD k 0) : precAt a b k (m + 1) = decide (a.getD k 0 < b.getD k 0) := by
  show (if a.getD k 0 = b.getD k 0 then precAt a b (k + 1) m else _) = _
  exact if_neg h
set_option maxRecDepth 100000 in
set_option maxHeartbeats 1000000 in
theorem specPrec (A A' : Option Addr) (c c' : Nat) (xs ys : List Int) (n : Nat) (w : World) (hx : IntsAt w A xs) (hy : IntsAt w A' ys) (hxl : xs.length = n) (hyl : ys.length = n) (hn : n ≤ 1048576) :
    Calls Try.prog 141 #[.slice A n c, .slice A' n c'] w (Quiet (.bool (precL xs ys)) w) := by
  obtain ⟨b0, hb0⟩ : ∃ b0, precL xs ys = b0 := ⟨_, rfl⟩
  rw [hb0]
  have HB0 : Hid (precAt xs ys 0 n = b0) := by unfold Hid; rw [← hb0, precL, hxl]
  have HXL := Lib.hid hxl
  have HYL := Lib.hid hyl
  clear hb0 hxl hyl
  go_enter Try.func141, Try.ntmps141
  go_wp2_with fail
  go_loopw [5] (fun i wr => ∃ (k nq : Nat), k ≤ n ∧ i = .int .i64 k ∧ Hid (precAt xs ys k (n - k) = b0) ∧ wr = w.drewN nq) (fun i _ => n - (intOf i).toNat)
  case atStart => exact ⟨0, 0, Nat.zero_le _, rfl, HB0, rfl⟩
  case round =>
    obtain ⟨k, nd, hk, rfl, HO, hw2⟩ := hrel
    have hxr : IntsAt wr A xs := by rw [hw2]; exact hx.drewN nd
    have hyr : IntsAt wr A' ys := by rw [hw2]; exact hy.drewN nd
    have HW2 : Hid (∀ m, ∃ j, wr.drewN m = w.drewN j) := fun m => ⟨nd + m, by rw [hw2, World.drewN_drewN]⟩
    clear hw2
    by_cases hlt : k < n
    · obtain ⟨b, off, x, rfl, hb, hc0, HX⟩ := hxr.at_ (k := k) (by rw [HXL.out]; exact hlt)
      obtain ⟨b', off', y, rfl, hb', hc1, HY⟩ := hyr.at_ (k := k) (by rw [HYL.out]; exact hlt)
      have p0 : (0 : Int) ≤ (k : Int) := by omega
      have p1 : (k : Int) < (n : Int) := by omega
      have hnk : n - k = (n - (k + 1)) + 1 := by omega
      have HO2 := HO.out
      rw [hnk] at HO2
      by_cases hxy : x = y
      · subst hxy
        have HN : Hid (precAt xs ys (k + 1) (n - (k + 1)) = b0) := by unfold Hid; rw [← HO2, prec_same (by rw [HX.out, HY.out])]
        clear HO2 hnk
        go_wp2_with fail
        go_quiet (fail)
        go_wp2_with fail
        go_roundw
        case rel =>
          obtain ⟨j, hj⟩ := HW2.out nq
          exact ⟨k + 1, j, by omega, by go_num, HN, hj⟩
        case measure => simp [intOf]; omega
      · have HN : Hid (decide (x < y) = b0) := by unfold Hid; rw [← HO2, prec_diff (by rw [HX.out, HY.out]; exact hxy), HX.out, HY.out]
        clear HO2 hnk
        go_wp2_with fail
        go_quiet (fail)
        go_wp2_with fail
        go_quiet (fail)
        go_wp2_with fail
        go_ret
        first
          | exact ⟨ret_bool HN.out, HW2.out _⟩
          | exact ⟨ret_bool HN.out, by rw [World.drewN_drewN]; exact HW2.out _⟩
    · obtain rfl : k = n := by omega
      have HE : Hid (false = b0) := by unfold Hid; rw [← HO.out, Nat.sub_self]; rfl
      go_wp2_with fail
      go_ret
      exact ⟨ret_bool HE.out, HW2.out 0⟩
end
section
open Go.RowKit Grp

theorem isP_permQ {n : Nat} {p : List Nat} (h : IsP n p) (h1 : 1 ≤ n) (h2 : n ≤ 20) : permQ (natI p) = true := by
  refine permQ_yes ⟨by rw [natI_len, h.len]; exact h1, by rw [natI_len, h.len]; exact h2, fun j hj => ?_⟩
  rw [natI_len, h.len] at hj
  rw [natI_getD, natI_len, h.len]
  refine ⟨by omega, by have := h.lt hj; omega, fun j' hj' => ?_⟩
  rw [natI_getD]
  intro e
  have e2 : app p j' = app p j := by omega
  have := h.inj (i := j') (j := j) (by omega) hj e2
  omega
set_option maxHeartbeats 1000000 in
theorem specInverseUp (A : Option Addr) (c n : Nat) (p : List Nat) (w : World) (hx : IntsAt w A (natI p)) (hp : IsP n p) (hn : n ≤ 20) (hn1 : 1 ≤ n) (hc : n ≤ c) :
    Calls Try.prog 131 #[.slice A n c] w (CompPost (inv p) w) := by
  have hq := isP_permQ hp hn1 hn
  have h1 := specPerm A c (natI p) w hx (by rw [natI_len, hp.len]; omega) (by rw [natI_len, hp.len]; exact hc)
  rw [hq, natI_len, hp.len] at h1
  have HX := Lib.hid hx
  have HP := Lib.hid hp
  clear hx hp hq
  go_enter Try.func131, Try.ntmps131
  go_wp2_with fail
  refine h1.mono ?_
  rintro e w1 ⟨rfl, n1, rfl⟩
  go_wp2_with fail
  refine (specInverse A c n p _ (HX.out.drewN n1) HP.out (by omega)).mono ?_
  rintro e w2 ⟨v2, rfl, hF2, hb2⟩
  go_wp2_with fail
  go_ret
  exact ⟨_, rfl, hF2, belowStep hb2 (belowDrewN (Below.refl _ _) _)⟩
/-- A pair of lists read through: out[i] = mv[pat[i]]. -/
theorem pick_snoc {mv pat : List Int} {k : Nat} (hk : k < pat.length) : (pickI mv pat).take (k + 1) = (pickI mv pat).take k ++ [mv.getD (pat.getD k 0).toNat 0] := by
  have hk2 : k < (pickI mv pat).length := by unfold pickI; rw [List.length_map]; exact hk
  rw [List.take_succ_eq_append_getElem hk2, ← pickI_at hk, getD_at _ _ hk2]
set_option linter.unusedVariables false in
set_option maxRecDepth 100000 in
set_option maxHeartbeats 1000000 in
theorem specApply1 (A A2 : Option Addr) (c c2 n L : Nat) (pt : Int) (nm : ByteArray) (ms : List (List Int)) (pat : List Int) (i : Nat) (w : World) (hx : LAt w A ms) (hp : IntsAt w A2 pat) (hpo : PtsOk n L pat) (hL : L ≤ 1048576) (hi : i < ms.length) (hl : ms.length ≤ 100000) (hm : MvsOk n ms) (hn : n ≤ 20) (hn1 : 1 ≤ n) :
    Calls Try.prog 113 #[.agg #[.int .i64 pt, .string nm, .slice A ms.length c], .slice A2 L c2, .int .i64 ((i + 1 : Nat) : Int)] w fun e w' => ∃ v, e = .returned v ∧ Fresh w.heap.size w' v (pickI (ms.getD i []) pat) ∧ Below w.heap.size w w' := by
  obtain ⟨b, off, Ai, ci, rfl, h1, h2, h3, h4⟩ := hx i hi
  obtain ⟨p, hpp, hpe⟩ := hm i hi
  have e2 : invI (natI p) = natI (inv p) := by unfold invI; rw [natOf_natI]
  rw [hpe, natI_len, hpp.len] at h2 h3
  rw [hpe] at h4 ⊢
  try rw [e2]
  have HMP : Hid (PtsOk n n (natI p)) := isP_pts hpp
  have HMI : Hid (PtsOk n n (natI (inv p))) := isP_pts hpp.inv
  have H4 := Lib.hid h4
  have HPP := Lib.hid hpp
  have HX := Lib.hid hp
  have HPO := Lib.hid hpo
  obtain ⟨w0, hw0⟩ : ∃ w0, w.alloc (.cells #[.int .i64 pt, .string nm, .slice (some ⟨b, off, none⟩) ms.length c] 29) = w0 := ⟨_, rfl⟩
  have hb0 : Below w.heap.size w w0 := by rw [← hw0]; exact (by repeat (first | exact Below.refl _ _ | assumption | refine Below.setCell ?_ (by first | omega | (simp <;> omega)) _ | refine Below.alloc ?_ (by first | omega | (simp <;> omega)) _ | refine Below.drew ?_))
  have r0 : w0.heap[w.heap.size]? = some (.cells #[.int .i64 pt, .string nm, .slice (some ⟨b, off, none⟩) ms.length c] 29 (0, 0)) := by rw [← hw0]; exact heap_alloc_new _ _
  have c0 := cell_of_row w0 w.heap.size 2 _ _ (0, 0) r0
  have h3' := (hb0.cell (p := ⟨b, off + i, none⟩) h1).trans h3
  have hz0 := hb0.size
  obtain ⟨y, hy⟩ : ∃ y : Int, ((i + 1 : Nat) : Int) = y := ⟨_, rfl⟩
  rw [hy]
  have p0 : 0 < y := by omega
  have pn : ¬ y < 0 := by omega
  have pm : -y < 0 := by omega
  have px : ¬ y ≤ -y := by omega
  have hm1 : max y (-y) = y := by omega
  have hm2 : max (-y) y = y := by omega
  have hw0 : IntKind.i64.wrap (-y) = -y := IntWalk.i64_in _ (by omega)
  have hwy : IntKind.i64.wrap y = y := IntWalk.i64_in _ (by omega)
  have hw00 : IntKind.i64.wrap (- -y) = y := (IntWalk.i64_in _ (by omega)).trans (by omega)
  have hw1 : IntKind.i64.wrap (y - 1) = (i : Int) := (IntWalk.i64_in _ (by omega)).trans (by omega)
  have p1 : (0 : Int) ≤ (i : Int) := by omega
  have p2 : (i : Int) < (ms.length : Int) := by omega
  clear hy h4 hx h3 hpp hpe hm hp hpo e2 r0
  obtain ⟨mv, hmv⟩ : ∃ mv, natI p = mv := ⟨_, rfl⟩
  rw [hmv] at HMP ⊢
  have HMV := Lib.hid hmv
  clear hmv
  go_enter Try.func113, Try.ntmps113
  go_wp2_with fail
  have hB2 : Below w.heap.size w w0 := hb0; have HIM : Hid (IntsAt w0 Ai (natI p)) := H4.out.below hb0
  have hzm := hB2.size
  rw [HMV.out] at HIM
  have HXM : Hid (IntsAt w0 A2 pat) := HX.out.below hB2
  have hE : Fresh w0.heap.size (w0.alloc (.cells #[] 2)) (.slice (some ⟨w0.heap.size, 0, none⟩) 0 0) [] := Fresh.empty (Nat.le_refl _)
  clear c0 h3' p0 pn pm px hm1 hm2 hwy hw0 hw00 hw1 p1 p2 H4 HPP
  go_loopw [8, 9] (fun v i wr => ∃ k : Nat, k ≤ L ∧ i = .int .i64 k ∧ Fresh w0.heap.size wr v ((pickI mv pat).take k) ∧ Below w0.heap.size w0 wr) (fun _ i _ => L - (intOf i).toNat)
  case atStart => exact ⟨0, Nat.zero_le _, rfl, hE, (by repeat (first | exact Below.refl _ _ | assumption | refine Below.setCell ?_ (by first | omega | (simp <;> omega)) _ | refine Below.alloc ?_ (by first | omega | (simp <;> omega)) _ | refine Below.drew ?_))⟩
  case round =>
    obtain ⟨k, hk, rfl, hF, hB⟩ := hrel
    clear hE
    by_cases hlt : k < L
    · have hx := HPO.out.2 k hlt
      obtain ⟨b6, off6, rfl, hb6, hc6⟩ := (HXM.out.below hB) k (by rw [HPO.out.1]; exact hlt)
      obtain ⟨x, hxx⟩ : ∃ x : Nat, pat.getD k 0 = (x : Int) := ⟨(pat.getD k 0).toNat, by omega⟩
      have HSN : Hid ((pickI mv pat).take (k + 1) = (pickI mv pat).take k ++ [mv.getD x 0]) := by unfold Hid; rw [pick_snoc (by rw [HPO.out.1]; exact hlt), hxx]; rfl
      rw [hxx] at hc6 hx
      obtain ⟨b7, off7, rfl, hb7, hc7⟩ := (HIM.out.below hB) x (by rw [(HMP).out.1]; omega)
      obtain ⟨z, hz⟩ : ∃ z : Int, mv.getD x 0 = z := ⟨_, rfl⟩
      rw [hz] at hc7 HSN
      obtain ⟨qs, hqs⟩ : ∃ qs, (pickI mv pat).take k = qs := ⟨_, rfl⟩
      rw [hqs] at hF HSN
      have hql : qs.length ≤ 1048576 := by rw [← hqs, List.length_take]; omega
      have hzB := hB.size
      have q0 : (0 : Int) ≤ (k : Int) := by omega
      have q1 : (k : Int) < (L : Int) := by omega
      have q2 : (0 : Int) ≤ (x : Int) := by omega
      have q3 : (x : Int) < (n : Int) := by omega
      clear hqs hz hxx hx
      go_wp2_with (first | (at_builtin; refine append_one rfl (.tmp 30) (.tmp 38) rfl w0.heap.size _ qs z rfl (hF.below (by repeat (first | exact Below.refl _ _ | assumption | refine Below.setCell ?_ (by first | omega | (simp <;> omega)) _ | refine Below.alloc ?_ (by first | omega | (simp <;> omega)) _ | refine Below.drew ?_))) wr.heap.size rfl (by simp) hql (by simp; omega) ?_; intro v8 w8 hF8 hg8 hb8))
      have hB8 : Below w0.heap.size w0 w8 := hB.trans (((Below.refl _ _).alloc (by omega) _).trans hb8)
      go_roundw
      case rel => exact ⟨k + 1, by omega, by go_num, by rw [HSN.out]; exact hF8, hB8⟩
      case measure => simp [intOf]; omega
    · obtain rfl : k = L := by omega
      rw [List.take_of_length_le (by unfold pickI; rw [List.length_map, HPO.out.1]; omega)] at hF
      go_wp2_with fail
      go_ret
      exact ⟨_, rfl, hF.mono (by omega), belowStep hB hB2⟩
set_option linter.unusedVariables false in
set_option maxRecDepth 100000 in
set_option maxHeartbeats 1000000 in
theorem specApply2 (A A2 : Option Addr) (c c2 n L : Nat) (pt : Int) (nm : ByteArray) (ms : List (List Int)) (pat : List Int) (i : Nat) (w : World) (hx : LAt w A ms) (hp : IntsAt w A2 pat) (hpo : PtsOk n L pat) (hL : L ≤ 1048576) (hi : i < ms.length) (hl : ms.length ≤ 100000) (hm : MvsOk n ms) (hn : n ≤ 20) (hn1 : 1 ≤ n) :
    Calls Try.prog 113 #[.agg #[.int .i64 pt, .string nm, .slice A ms.length c], .slice A2 L c2, .int .i64 (-((i + 1 : Nat) : Int))] w fun e w' => ∃ v, e = .returned v ∧ Fresh w.heap.size w' v (pickI (invI (ms.getD i [])) pat) ∧ Below w.heap.size w w' := by
  obtain ⟨b, off, Ai, ci, rfl, h1, h2, h3, h4⟩ := hx i hi
  obtain ⟨p, hpp, hpe⟩ := hm i hi
  have e2 : invI (natI p) = natI (inv p) := by unfold invI; rw [natOf_natI]
  rw [hpe, natI_len, hpp.len] at h2 h3
  rw [hpe] at h4 ⊢
  try rw [e2]
  have HMP : Hid (PtsOk n n (natI p)) := isP_pts hpp
  have HMI : Hid (PtsOk n n (natI (inv p))) := isP_pts hpp.inv
  have H4 := Lib.hid h4
  have HPP := Lib.hid hpp
  have HX := Lib.hid hp
  have HPO := Lib.hid hpo
  obtain ⟨w0, hw0⟩ : ∃ w0, w.alloc (.cells #[.int .i64 pt, .string nm, .slice (some ⟨b, off, none⟩) ms.length c] 29) = w0 := ⟨_, rfl⟩
  have hb0 : Below w.heap.size w w0 := by rw [← hw0]; exact (by repeat (first | exact Below.refl _ _ | assumption | refine Below.setCell ?_ (by first | omega | (simp <;> omega)) _ | refine Below.alloc ?_ (by first | omega | (simp <;> omega)) _ | refine Below.drew ?_))
  have r0 : w0.heap[w.heap.size]? = some (.cells #[.int .i64 pt, .string nm, .slice (some ⟨b, off, none⟩) ms.length c] 29 (0, 0)) := by rw [← hw0]; exact heap_alloc_new _ _
  have c0 := cell_of_row w0 w.heap.size 2 _ _ (0, 0) r0
  have h3' := (hb0.cell (p := ⟨b, off + i, none⟩) h1).trans h3
  have hz0 := hb0.size
  obtain ⟨y, hy⟩ : ∃ y : Int, ((i + 1 : Nat) : Int) = y := ⟨_, rfl⟩
  rw [hy]
  have p0 : 0 < y := by omega
  have pn : ¬ y < 0 := by omega
  have pm : -y < 0 := by omega
  have px : ¬ y ≤ -y := by omega
  have hm1 : max y (-y) = y := by omega
  have hm2 : max (-y) y = y := by omega
  have hw0 : IntKind.i64.wrap (-y) = -y := IntWalk.i64_in _ (by omega)
  have hwy : IntKind.i64.wrap y = y := IntWalk.i64_in _ (by omega)
  have hw00 : IntKind.i64.wrap (- -y) = y := (IntWalk.i64_in _ (by omega)).trans (by omega)
  have hw1 : IntKind.i64.wrap (y - 1) = (i : Int) := (IntWalk.i64_in _ (by omega)).trans (by omega)
  have p1 : (0 : Int) ≤ (i : Int) := by omega
  have p2 : (i : Int) < (ms.length : Int) := by omega
  clear hy h4 hx h3 hpp hpe hm hp hpo e2 r0
  obtain ⟨mv, hmv⟩ : ∃ mv, natI (inv p) = mv := ⟨_, rfl⟩
  rw [hmv] at HMI ⊢
  have HMV := Lib.hid hmv
  clear hmv
  go_enter Try.func113, Try.ntmps113
  go_wp2_with fail
  refine (specInverseUp Ai ci n p _ (H4.out.below hb0) HPP.out hn hn1 h2).mono ?_; rintro e w2 ⟨v2, rfl, hF2, hb2⟩; obtain ⟨A5, c5, hc5, rfl, hI5⟩ := hF2.capped; have hI5l : (natI (inv p)).length = n := (by rw [natI_len, inv_len, HPP.out.len]); have HIM := Lib.hid hI5; have hB2 : Below w.heap.size w w2 := belowStep hb2 hb0; rw [hI5l]; clear hF2 hI5 hc5 hI5l; go_wp2_with fail
  have hzm := hB2.size
  rw [HMV.out] at HIM
  have HXM : Hid (IntsAt w2 A2 pat) := HX.out.below hB2
  have hE : Fresh w2.heap.size (w2.alloc (.cells #[] 2)) (.slice (some ⟨w2.heap.size, 0, none⟩) 0 0) [] := Fresh.empty (Nat.le_refl _)
  clear c0 h3' p0 pn pm px hm1 hm2 hwy hw0 hw00 hw1 p1 p2 H4 HPP
  go_loopw [8, 9] (fun v i wr => ∃ k : Nat, k ≤ L ∧ i = .int .i64 k ∧ Fresh w2.heap.size wr v ((pickI mv pat).take k) ∧ Below w2.heap.size w2 wr) (fun _ i _ => L - (intOf i).toNat)
  case atStart => exact ⟨0, Nat.zero_le _, rfl, hE, (by repeat (first | exact Below.refl _ _ | assumption | refine Below.setCell ?_ (by first | omega | (simp <;> omega)) _ | refine Below.alloc ?_ (by first | omega | (simp <;> omega)) _ | refine Below.drew ?_))⟩
  case round =>
    obtain ⟨k, hk, rfl, hF, hB⟩ := hrel
    clear hE
    by_cases hlt : k < L
    · have hx := HPO.out.2 k hlt
      obtain ⟨b6, off6, rfl, hb6, hc6⟩ := (HXM.out.below hB) k (by rw [HPO.out.1]; exact hlt)
      obtain ⟨x, hxx⟩ : ∃ x : Nat, pat.getD k 0 = (x : Int) := ⟨(pat.getD k 0).toNat, by omega⟩
      have HSN : Hid ((pickI mv pat).take (k + 1) = (pickI mv pat).take k ++ [mv.getD x 0]) := by unfold Hid; rw [pick_snoc (by rw [HPO.out.1]; exact hlt), hxx]; rfl
      rw [hxx] at hc6 hx
      obtain ⟨b7, off7, rfl, hb7, hc7⟩ := (HIM.out.below hB) x (by rw [(HMI).out.1]; omega)
      obtain ⟨z, hz⟩ : ∃ z : Int, mv.getD x 0 = z := ⟨_, rfl⟩
      rw [hz] at hc7 HSN
      obtain ⟨qs, hqs⟩ : ∃ qs, (pickI mv pat).take k = qs := ⟨_, rfl⟩
      rw [hqs] at hF HSN
      have hql : qs.length ≤ 1048576 := by rw [← hqs, List.length_take]; omega
      have hzB := hB.size
      have q0 : (0 : Int) ≤ (k : Int) := by omega
      have q1 : (k : Int) < (L : Int) := by omega
      have q2 : (0 : Int) ≤ (x : Int) := by omega
      have q3 : (x : Int) < (n : Int) := by omega
      clear hqs hz hxx hx
      go_wp2_with (first | (at_builtin; refine append_one rfl (.tmp 30) (.tmp 38) rfl w2.heap.size _ qs z rfl (hF.below (by repeat (first | exact Below.refl _ _ | assumption | refine Below.setCell ?_ (by first | omega | (simp <;> omega)) _ | refine Below.alloc ?_ (by first | omega | (simp <;> omega)) _ | refine Below.drew ?_))) wr.heap.size rfl (by simp) hql (by simp; omega) ?_; intro v8 w8 hF8 hg8 hb8))
      have hB8 : Below w2.heap.size w2 w8 := hB.trans (((Below.refl _ _).alloc (by omega) _).trans hb8)
      go_roundw
      case rel => exact ⟨k + 1, by omega, by go_num, by rw [HSN.out]; exact hF8, hB8⟩
      case measure => simp [intOf]; omega
    · obtain rfl : k = L := by omega
      rw [List.take_of_length_le (by unfold pickI; rw [List.length_map, HPO.out.1]; omega)] at hF
      go_wp2_with fail
      go_ret
      exact ⟨_, rfl, hF.mono (by omega), belowStep hB hB2⟩
theorem specApply (A A2 : Option Addr) (c c2 n L : Nat) (pt : Int) (nm : ByteArray) (ms : List (List Int)) (pat : List Int) (k : Nat) (w : World) (hx : LAt w A ms) (hp : IntsAt w A2 pat) (hpo : PtsOk n L pat) (hL : L ≤ 1048576) (hk : k < 2 * ms.length) (hl : ms.length ≤ 100000) (hm : MvsOk n ms) (hn : n ≤ 20) (hn1 : 1 ≤ n) :
    Calls Try.prog 113 #[.agg #[.int .i64 pt, .string nm, .slice A ms.length c], .slice A2 L c2, .int .i64 ((letsOf ms.length).getD k 0)] w fun e w' => ∃ v, e = .returned v ∧ Fresh w.heap.size w' v (pickI ((mvsOf ms).getD k []) pat) ∧ Below w.heap.size w w' := by
  rcases Nat.mod_two_eq_zero_or_one k with e2 | e2
  · obtain ⟨i, rfl⟩ : ∃ i, k = 2 * i := ⟨k / 2, by omega⟩
    rw [letsOf_even _ i (by omega), mvsOf_even _ i (by omega)]
    exact specApply1 A A2 c c2 n L pt nm ms pat i w hx hp hpo hL (by omega) hl hm hn hn1
  · obtain ⟨i, rfl⟩ : ∃ i, k = 2 * i + 1 := ⟨k / 2, by omega⟩
    rw [letsOf_odd _ i (by omega), mvsOf_odd _ i (by omega)]
    exact specApply2 A A2 c c2 n L pt nm ms pat i w hx hp hpo hL (by omega) hl hm hn hn1
end
end Go.Proofs.Ytfhdnanbhigpmaa
