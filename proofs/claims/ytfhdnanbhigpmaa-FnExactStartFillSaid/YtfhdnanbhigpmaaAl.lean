/- A letter applied to a list, spec. Conditions: as each contract says. -/
import Derived.Test.YtfhdnanbhigpmaaPr
import Derived.Test.YtfhdnanbhigpmaaGi
import Derived.Test.YtfhdnanbhigpmaaSt
import Derived.Test.YtfhdnanbhigpmaaPz
namespace Go.Proofs.Ytfhdnanbhigpmaa
open Go.RowKit Grp

theorem isP_permQ {n : Nat} {p : List Nat} (h : IsP n p) (h1 : 1 ≤ n) (h2 : n ≤ 20) : permQ (natI p) = true := by
  refine permQ_yes ⟨by rw [natI_len, h.len]; exact h1, by rw [natI_len, h.len]; exact h2, fun j hj => ?_⟩
  rw [natI_len, h.len] at hj
  rw [natI_getD, natI_len, h.len]
  refine ⟨by omega, by have := h.lt hj; omega, fun j' hj' => ?_⟩
  rw [natI_getD]
  intro e
  have e2 : app p j' = app p j := by omega
  have := h.inj (i := j') (j := j) (by omega) hj e2
  omega
set_option maxHeartbeats 1000000 in
theorem specInverseUp (A : Option Addr) (c n : Nat) (p : List Nat) (w : World) (hx : IntsAt w A (natI p)) (hp : IsP n p) (hn : n ≤ 20) (hn1 : 1 ≤ n) (hc : n ≤ c) :
    Calls Try.prog 131 #[.slice A n c] w (CompPost (inv p) w) := by
  have hq := isP_permQ hp hn1 hn
  have h1 := specPerm A c (natI p) w hx (by rw [natI_len, hp.len]; omega) (by rw [natI_len, hp.len]; exact hc)
  rw [hq, natI_len, hp.len] at h1
  have HX := Lib.hid hx
  have HP := Lib.hid hp
  clear hx hp hq
  go_enter Try.func131, Try.ntmps131
  go_wp2_with fail
  refine h1.mono ?_
  rintro e w1 ⟨rfl, n1, rfl⟩
  go_wp2_with fail
  refine (specInverse A c n p _ (HX.out.drewN n1) HP.out (by omega)).mono ?_
  rintro e w2 ⟨v2, rfl, hF2, hb2⟩
  go_wp2_with fail
  go_ret
  exact ⟨_, rfl, hF2, belowStep hb2 (belowDrewN (Below.refl _ _) _)⟩
/-- A pair of lists read through: out[i] = mv[pat[i]]. -/
theorem pick_snoc {mv pat : List Int} {k : Nat} (hk : k < pat.length) : (pickI mv pat).take (k + 1) = (pickI mv pat).take k ++ [mv.getD (pat.getD k 0).toNat 0] := by
  have hk2 : k < (pickI mv pat).length := by unfold pickI; rw [List.length_map]; exact hk
  rw [List.take_succ_eq_append_getElem hk2, ← pickI_at hk, getD_at _ _ hk2]
set_option linter.unusedVariables false in
set_option maxRecDepth 100000 in
set_option maxHeartbeats 1000000 in
theorem specApply1 (A A2 : Option Addr) (c c2 n L : Nat) (pt : Int) (nm : ByteArray) (ms : List (List Int)) (pat : List Int) (i : Nat) (w : World) (hx : LAt w A ms) (hp : IntsAt w A2 pat) (hpo : PtsOk n L pat) (hL : L ≤ 1048576) (hi : i < ms.length) (hl : ms.length ≤ 100000) (hm : MvsOk n ms) (hn : n ≤ 20) (hn1 : 1 ≤ n) :
    Calls Try.prog 113 #[.agg #[.int .i64 pt, .string nm, .slice A ms.length c], .slice A2 L c2, .int .i64 ((i + 1 : Nat) : Int)] w fun e w' => ∃ v, e = .returned v ∧ Fresh w.heap.size w' v (pickI (ms.getD i []) pat) ∧ Below w.heap.size w w' := by
  obtain ⟨b, off, Ai, ci, rfl, h1, h2, h3, h4⟩ := hx i hi
  obtain ⟨p, hpp, hpe⟩ := hm i hi
  have e2 : invI (natI p) = natI (inv p) := by unfold invI; rw [natOf_natI]
  rw [hpe, natI_len, hpp.len] at h2 h3
  rw [hpe] at h4 ⊢
  try rw [e2]
  have HMP : Hid (PtsOk n n (natI p)) := isP_pts hpp
  have HMI : Hid (PtsOk n n (natI (inv p))) := isP_pts hpp.inv
  have H4 := Lib.hid h4
  have HPP := Lib.hid hpp
  have HX := Lib.hid hp
  have HPO := Lib.hid hpo
  obtain ⟨w0, hw0⟩ : ∃ w0, w.alloc (.cells #[.int .i64 pt, .string nm, .slice (some ⟨b, off, none⟩) ms.length c] 29) = w0 := ⟨_, rfl⟩
  have hb0 : Below w.heap.size w w0 := by rw [← hw0]; exact (by repeat (first | exact Below.refl _ _ | assumption | refine Below.setCell ?_ (by first | omega | (simp <;> omega)) _ | refine Below.alloc ?_ (by first | omega | (simp <;> omega)) _ | refine Below.drew ?_))
  have r0 : w0.heap[w.heap.size]? = some (.cells #[.int .i64 pt, .string nm, .slice (some ⟨b, off, none⟩) ms.length c] 29 (0, 0)) := by rw [← hw0]; exact heap_alloc_new _ _
  have c0 := cell_of_row w0 w.heap.size 2 _ _ (0, 0) r0
  have h3' := (hb0.cell (p := ⟨b, off + i, none⟩) h1).trans h3
  have hz0 := hb0.size
  obtain ⟨y, hy⟩ : ∃ y : Int, ((i + 1 : Nat) : Int) = y := ⟨_, rfl⟩
  rw [hy]
  have p0 : 0 < y := by omega
  have pn : ¬ y < 0 := by omega
  have pm : -y < 0 := by omega
  have px : ¬ y ≤ -y := by omega
  have hm1 : max y (-y) = y := by omega
  have hm2 : max (-y) y = y := by omega
  have hw0 : IntKind.i64.wrap (-y) = -y := IntWalk.i64_in _ (by omega)
  have hwy : IntKind.i64.wrap y = y := IntWalk.i64_in _ (by omega)
  have hw00 : IntKind.i64.wrap (- -y) = y := (IntWalk.i64_in _ (by omega)).trans (by omega)
  have hw1 : IntKind.i64.wrap (y - 1) = (i : Int) := (IntWalk.i64_in _ (by omega)).trans (by omega)
  have p1 : (0 : Int) ≤ (i : Int) := by omega
  have p2 : (i : Int) < (ms.length : Int) := by omega
  clear hy h4 hx h3 hpp hpe hm hp hpo e2 r0
  obtain ⟨mv, hmv⟩ : ∃ mv, natI p = mv := ⟨_, rfl⟩
  rw [hmv] at HMP ⊢
  have HMV := Lib.hid hmv
  clear hmv
  go_enter Try.func113, Try.ntmps113
  go_wp2_with fail
  have hB2 : Below w.heap.size w w0 := hb0; have HIM : Hid (IntsAt w0 Ai (natI p)) := H4.out.below hb0
  have hzm := hB2.size
  rw [HMV.out] at HIM
  have HXM : Hid (IntsAt w0 A2 pat) := HX.out.below hB2
  have hE : Fresh w0.heap.size (w0.alloc (.cells #[] 2)) (.slice (some ⟨w0.heap.size, 0, none⟩) 0 0) [] := Fresh.empty (Nat.le_refl _)
  clear c0 h3' p0 pn pm px hm1 hm2 hwy hw0 hw00 hw1 p1 p2 H4 HPP
  go_loopw [8, 9] (fun v i wr => ∃ k : Nat, k ≤ L ∧ i = .int .i64 k ∧ Fresh w0.heap.size wr v ((pickI mv pat).take k) ∧ Below w0.heap.size w0 wr) (fun _ i _ => L - (intOf i).toNat)
  case atStart => exact ⟨0, Nat.zero_le _, rfl, hE, (by repeat (first | exact Below.refl _ _ | assumption | refine Below.setCell ?_ (by first | omega | (simp <;> omega)) _ | refine Below.alloc ?_ (by first | omega | (simp <;> omega)) _ | refine Below.drew ?_))⟩
  case round =>
    obtain ⟨k, hk, rfl, hF, hB⟩ := hrel
    clear hE
    by_cases hlt : k < L
    · have hx := HPO.out.2 k hlt
      obtain ⟨b6, off6, rfl, hb6, hc6⟩ := (HXM.out.below hB) k (by rw [HPO.out.1]; exact hlt)
      obtain ⟨x, hxx⟩ : ∃ x : Nat, pat.getD k 0 = (x : Int) := ⟨(pat.getD k 0).toNat, by omega⟩
      have HSN : Hid ((pickI mv pat).take (k + 1) = (pickI mv pat).take k ++ [mv.getD x 0]) := by unfold Hid; rw [pick_snoc (by rw [HPO.out.1]; exact hlt), hxx]; rfl
      rw [hxx] at hc6 hx
      obtain ⟨b7, off7, rfl, hb7, hc7⟩ := (HIM.out.below hB) x (by rw [(HMP).out.1]; omega)
      obtain ⟨z, hz⟩ : ∃ z : Int, mv.getD x 0 = z := ⟨_, rfl⟩
      rw [hz] at hc7 HSN
      obtain ⟨qs, hqs⟩ : ∃ qs, (pickI mv pat).take k = qs := ⟨_, rfl⟩
      rw [hqs] at hF HSN
      have hql : qs.length ≤ 1048576 := by rw [← hqs, List.length_take]; omega
      have hzB := hB.size
      have q0 : (0 : Int) ≤ (k : Int) := by omega
      have q1 : (k : Int) < (L : Int) := by omega
      have q2 : (0 : Int) ≤ (x : Int) := by omega
      have q3 : (x : Int) < (n : Int) := by omega
      clear hqs hz hxx hx
      go_wp2_with (first | (at_builtin; refine append_one rfl (.tmp 30) (.tmp 38) rfl w0.heap.size _ qs z rfl (hF.below (by repeat (first | exact Below.refl _ _ | assumption | refine Below.setCell ?_ (by first | omega | (simp <;> omega)) _ | refine Below.alloc ?_ (by first | omega | (simp <;> omega)) _ | refine Below.drew ?_))) wr.heap.size rfl (by simp) hql (by simp; omega) ?_; intro v8 w8 hF8 hg8 hb8))
      have hB8 : Below w0.heap.size w0 w8 := hB.trans (((Below.refl _ _).alloc (by omega) _).trans hb8)
      go_roundw
      case rel => exact ⟨k + 1, by omega, by go_num, by rw [HSN.out]; exact hF8, hB8⟩
      case measure => simp [intOf]; omega
    · obtain rfl : k = L := by omega
      rw [List.take_of_length_le (by unfold pickI; rw [List.length_map, HPO.out.1]; omega)] at hF
      go_wp2_with fail
      go_ret
      exact ⟨_, rfl, hF.mono (by omega), belowStep hB hB2⟩
set_option linter.unusedVariables false in
set_option maxRecDepth 100000 in
set_option maxHeartbeats 1000000 in
theorem specApply2 (A A2 : Option Addr) (c c2 n L : Nat) (pt : Int) (nm : ByteArray) (ms : List (List Int)) (pat : List Int) (i : Nat) (w : World) (hx : LAt w A ms) (hp : IntsAt w A2 pat) (hpo : PtsOk n L pat) (hL : L ≤ 1048576) (hi : i < ms.length) (hl : ms.length ≤ 100000) (hm : MvsOk n ms) (hn : n ≤ 20) (hn1 : 1 ≤ n) :
    Calls Try.prog 113 #[.agg #[.int .i64 pt, .string nm, .slice A ms.length c], .slice A2 L c2, .int .i64 (-((i + 1 : Nat) : Int))] w fun e w' => ∃ v, e = .returned v ∧ Fresh w.heap.size w' v (pickI (invI (ms.getD i [])) pat) ∧ Below w.heap.size w w' := by
  obtain ⟨b, off, Ai, ci, rfl, h1, h2, h3, h4⟩ := hx i hi
  obtain ⟨p, hpp, hpe⟩ := hm i hi
  have e2 : invI (natI p) = natI (inv p) := by unfold invI; rw [natOf_natI]
  rw [hpe, natI_len, hpp.len] at h2 h3
  rw [hpe] at h4 ⊢
  try rw [e2]
  have HMP : Hid (PtsOk n n (natI p)) := isP_pts hpp
  have HMI : Hid (PtsOk n n (natI (inv p))) := isP_pts hpp.inv
  have H4 := Lib.hid h4
  have HPP := Lib.hid hpp
  have HX := Lib.hid hp
  have HPO := Lib.hid hpo
  obtain ⟨w0, hw0⟩ : ∃ w0, w.alloc (.cells #[.int .i64 pt, .string nm, .slice (some ⟨b, off, none⟩) ms.length c] 29) = w0 := ⟨_, rfl⟩
  have hb0 : Below w.heap.size w w0 := by rw [← hw0]; exact (by repeat (first | exact Below.refl _ _ | assumption | refine Below.setCell ?_ (by first | omega | (simp <;> omega)) _ | refine Below.alloc ?_ (by first | omega | (simp <;> omega)) _ | refine Below.drew ?_))
  have r0 : w0.heap[w.heap.size]? = some (.cells #[.int .i64 pt, .string nm, .slice (some ⟨b, off, none⟩) ms.length c] 29 (0, 0)) := by rw [← hw0]; exact heap_alloc_new _ _
  have c0 := cell_of_row w0 w.heap.size 2 _ _ (0, 0) r0
  have h3' := (hb0.cell (p := ⟨b, off + i, none⟩) h1).trans h3
  have hz0 := hb0.size
  obtain ⟨y, hy⟩ : ∃ y : Int, ((i + 1 : Nat) : Int) = y := ⟨_, rfl⟩
  rw [hy]
  have p0 : 0 < y := by omega
  have pn : ¬ y < 0 := by omega
  have pm : -y < 0 := by omega
  have px : ¬ y ≤ -y := by omega
  have hm1 : max y (-y) = y := by omega
  have hm2 : max (-y) y = y := by omega
  have hw0 : IntKind.i64.wrap (-y) = -y := IntWalk.i64_in _ (by omega)
  have hwy : IntKind.i64.wrap y = y := IntWalk.i64_in _ (by omega)
  have hw00 : IntKind.i64.wrap (- -y) = y := (IntWalk.i64_in _ (by omega)).trans (by omega)
  have hw1 : IntKind.i64.wrap (y - 1) = (i : Int) := (IntWalk.i64_in _ (by omega)).trans (by omega)
  have p1 : (0 : Int) ≤ (i : Int) := by omega
  have p2 : (i : Int) < (ms.length : Int) := by omega
  clear hy h4 hx h3 hpp hpe hm hp hpo e2 r0
  obtain ⟨mv, hmv⟩ : ∃ mv, natI (inv p) = mv := ⟨_, rfl⟩
  rw [hmv] at HMI ⊢
  have HMV := Lib.hid hmv
  clear hmv
  go_enter Try.func113, Try.ntmps113
  go_wp2_with fail
  refine (specInverseUp Ai ci n p _ (H4.out.below hb0) HPP.out hn hn1 h2).mono ?_; rintro e w2 ⟨v2, rfl, hF2, hb2⟩; obtain ⟨A5, c5, hc5, rfl, hI5⟩ := hF2.capped; have hI5l : (natI (inv p)).length = n := (by rw [natI_len, inv_len, HPP.out.len]); have HIM := Lib.hid hI5; have hB2 : Below w.heap.size w w2 := belowStep hb2 hb0; rw [hI5l]; clear hF2 hI5 hc5 hI5l; go_wp2_with fail
  have hzm := hB2.size
  rw [HMV.out] at HIM
  have HXM : Hid (IntsAt w2 A2 pat) := HX.out.below hB2
  have hE : Fresh w2.heap.size (w2.alloc (.cells #[] 2)) (.slice (some ⟨w2.heap.size, 0, none⟩) 0 0) [] := Fresh.empty (Nat.le_refl _)
  clear c0 h3' p0 pn pm px hm1 hm2 hwy hw0 hw00 hw1 p1 p2 H4 HPP
  go_loopw [8, 9] (fun v i wr => ∃ k : Nat, k ≤ L ∧ i = .int .i64 k ∧ Fresh w2.heap.size wr v ((pickI mv pat).take k) ∧ Below w2.heap.size w2 wr) (fun _ i _ => L - (intOf i).toNat)
  case atStart => exact ⟨0, Nat.zero_le _, rfl, hE, (by repeat (first | exact Below.refl _ _ | assumption | refine Below.setCell ?_ (by first | omega | (simp <;> omega)) _ | refine Below.alloc ?_ (by first | omega | (simp <;> omega)) _ | refine Below.drew ?_))⟩
  case round =>
    obtain ⟨k, hk, rfl, hF, hB⟩ := hrel
    clear hE
    by_cases hlt : k < L
    · have hx := HPO.out.2 k hlt
      obtain ⟨b6, off6, rfl, hb6, hc6⟩ := (HXM.out.below hB) k (by rw [HPO.out.1]; exact hlt)
      obtain ⟨x, hxx⟩ : ∃ x : Nat, pat.getD k 0 = (x : Int) := ⟨(pat.getD k 0).toNat, by omega⟩
      have HSN : Hid ((pickI mv pat).take (k + 1) = (pickI mv pat).take k ++ [mv.getD x 0]) := by unfold Hid; rw [pick_snoc (by rw [HPO.out.1]; exact hlt), hxx]; rfl
      rw [hxx] at hc6 hx
      obtain ⟨b7, off7, rfl, hb7, hc7⟩ := (HIM.out.below hB) x (by rw [(HMI).out.1]; omega)
      obtain ⟨z, hz⟩ : ∃ z : Int, mv.getD x 0 = z := ⟨_, rfl⟩
      rw [hz] at hc7 HSN
      obtain ⟨qs, hqs⟩ : ∃ qs, (pickI mv pat).take k = qs := ⟨_, rfl⟩
      rw [hqs] at hF HSN
      have hql : qs.length ≤ 1048576 := by rw [← hqs, List.length_take]; omega
      have hzB := hB.size
      have q0 : (0 : Int) ≤ (k : Int) := by omega
      have q1 : (k : Int) < (L : Int) := by omega
      have q2 : (0 : Int) ≤ (x : Int) := by omega
      have q3 : (x : Int) < (n : Int) := by omega
      clear hqs hz hxx hx
      go_wp2_with (first | (at_builtin; refine append_one rfl (.tmp 30) (.tmp 38) rfl w2.heap.size _ qs z rfl (hF.below (by repeat (first | exact Below.refl _ _ | assumption | refine Below.setCell ?_ (by first | omega | (simp <;> omega)) _ | refine Below.alloc ?_ (by first | omega | (simp <;> omega)) _ | refine Below.drew ?_))) wr.heap.size rfl (by simp) hql (by simp; omega) ?_; intro v8 w8 hF8 hg8 hb8))
      have hB8 : Below w2.heap.size w2 w8 := hB.trans (((Below.refl _ _).alloc (by omega) _).trans hb8)
      go_roundw
      case rel => exact ⟨k + 1, by omega, by go_num, by rw [HSN.out]; exact hF8, hB8⟩
      case measure => simp [intOf]; omega
    · obtain rfl : k = L := by omega
      rw [List.take_of_length_le (by unfold pickI; rw [List.length_map, HPO.out.1]; omega)] at hF
      go_wp2_with fail
      go_ret
      exact ⟨_, rfl, hF.mono (by omega), belowStep hB hB2⟩
theorem specApply (A A2 : Option Addr) (c c2 n L : Nat) (pt : Int) (nm : ByteArray) (ms : List (List Int)) (pat : List Int) (k : Nat) (w : World) (hx : LAt w A ms) (hp : IntsAt w A2 pat) (hpo : PtsOk n L pat) (hL : L ≤ 1048576) (hk : k < 2 * ms.length) (hl : ms.length ≤ 100000) (hm : MvsOk n ms) (hn : n ≤ 20) (hn1 : 1 ≤ n) :
    Calls Try.prog 113 #[.agg #[.int .i64 pt, .string nm, .slice A ms.length c], .slice A2 L c2, .int .i64 ((letsOf ms.length).getD k 0)] w fun e w' => ∃ v, e = .returned v ∧ Fresh w.heap.size w' v (pickI ((mvsOf ms).getD k []) pat) ∧ Below w.heap.size w w' := by
  rcases Nat.mod_two_eq_zero_or_one k with e2 | e2
  · obtain ⟨i, rfl⟩ : ∃ i, k = 2 * i := ⟨k / 2, by omega⟩
    rw [letsOf_even _ i (by omega), mvsOf_even _ i (by omega)]
    exact specApply1 A A2 c c2 n L pt nm ms pat i w hx hp hpo hL (by omega) hl hm hn hn1
  · obtain ⟨i, rfl⟩ : ∃ i, k = 2 * i + 1 := ⟨k / 2, by omega⟩
    rw [letsOf_odd _ i (by omega), mvsOf_odd _ i (by omega)]
    exact specApply2 A A2 c c2 n L pt nm ms pat i w hx hp hpo hL (by omega) hl hm hn hn1
end Go.Proofs.Ytfhdnanbhigpmaa
