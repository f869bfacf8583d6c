/- Reachable patterns and the table, impl. Conditions: as each contract says. -/
import Derived.Test.YtfhdnanbhigpmaaPt
namespace Go.Proofs.Ytfhdnanbhigpmaa
open Go.RowKit Grp

noncomputable def buildQ (p : Pz) (trk : List Int) : Bool := trkQ p trk && (searchB (mvsOf p.moves) trk).isSome
theorem mvs_of_gs {N : Nat} {ms : List (List Int)} {ps : List (List Nat)} (h : ms = ps.map natI) (hp : ∀ q, q ∈ ps → IsP N q) : MvsOk N ms := by
  intro i hi
  subst h
  rw [List.length_map] at hi
  refine ⟨ps[i], hp _ (List.getElem_mem hi), ?_⟩
  rw [List.getD_eq_getElem?_getD, List.getElem?_map, List.getElem?_eq_getElem hi]; rfl
theorem trk_parts {p : Pz} {trk : List Int} (h : trkQ p trk = true) : ∃ N : Nat, p.pts = (N : Int) ∧ N ≤ 20 ∧ MvsOk N p.moves ∧ p.moves.length ≤ 8 ∧ PtsOk N trk.length trk ∧ 0 < trk.length := by
  unfold trkQ at h
  rw [Bool.and_eq_true] at h
  obtain ⟨h1, h2⟩ := h
  unfold pzQ at h1
  rw [Bool.and_eq_true] at h1
  obtain ⟨N, ps, e1, n0, n1, e2, e3, e4⟩ := gs_perms h1.1
  obtain ⟨g1, g2⟩ := ptQ_iff.1 h2
  refine ⟨N, e1, n1, mvs_of_gs e2 e4, e3, ⟨rfl, fun j hj => ?_⟩, by omega⟩
  have := (g2 j hj)
  rw [e1] at this
  omega
set_option maxRecDepth 100000 in
set_option maxHeartbeats 1000000 in
theorem implReach (A : Option Addr) (c : Nat) (p : Pz) (A2 : Option Addr) (c2 : Nat) (trk : List Int) (w : World) (h : PzAt w A p) (hx : IntsAt w A2 trk) (hl : trk.length ≤ 1048576) :
    Calls Try.prog 84 #[.agg #[.int .i64 p.pts, .string p.names, .slice A p.moves.length c], .slice A2 trk.length c2] w fun e w' => ∃ A1 n1 c1 A3 n3 c3, e = .returned (.tuple #[.slice A1 n1 c1, .slice A3 n3 c3, .bool (buildQ p trk)]) ∧ Below w.heap.size w w' := by
  have HP := Lib.hid h
  have HX := Lib.hid hx
  obtain ⟨q, hq⟩ : ∃ q, trkQ p trk = q := ⟨_, rfl⟩
  have HQ := Lib.hid hq
  have HC := Lib.hid (fun wx hw hw2 => implTrk A c p A2 c2 trk wx hw hw2 hl)
  rw [hq] at HC
  clear hx h hq
  obtain ⟨w0, hw0⟩ : ∃ w0, w.alloc (.cells #[.int .i64 p.pts, .string p.names, .slice A p.moves.length c] 29) = w0 := ⟨_, rfl⟩
  have hb : Below w.heap.size w w0 := by rw [← hw0]; exact (by repeat (first | exact Below.refl _ _ | assumption | refine Below.setCell ?_ (by first | omega | (simp <;> omega)) _ | refine Below.alloc ?_ (by first | omega | (simp <;> omega)) _ | refine Below.drew ?_))
  have r0 : w0.heap[w.heap.size]? = some (.cells #[.int .i64 p.pts, .string p.names, .slice A p.moves.length c] 29 (0, 0)) := by rw [← hw0]; exact heap_alloc_new _ _
  obtain ⟨p0, p1, p2, -, -⟩ := row3 r0
  have HR0 := Lib.hid r0
  clear r0
  go_enter Try.func84, Try.ntmps84
  go_wp2_with fail
  clear hw0
  refine (HC.out _ (HP.out.below hb) (HX.out.below hb)).mono ?_
  rintro e w1 ⟨rfl, hb1⟩
  have hr1 := rowB hb1 HR0.out
  have hB1 := belowStep hb1 hb
  clear p0 p1 p2 hb1 hb
  obtain ⟨p0, p1, p2, -, -⟩ := row3 hr1
  clear hr1
  cases q with
  | false =>
    have HF : Hid (buildQ p trk = false) := by unfold Hid; rw [buildQ, HQ.out]; rfl
    go_wp2_with fail
    go_ret3
    first
      | exact ⟨⟨_, _, _, _, _, _, by rw [HF.out]; rfl⟩, hB1⟩
      | exact ⟨_, _, _, _, _, _, by rw [HF.out]; rfl, hB1⟩
  | true =>
    obtain ⟨N, hN, hN20, hmv, hm8, hpt, hne⟩ := trk_parts HQ.out
    have HF : Hid (buildQ p trk = (searchB (mvsOf p.moves) trk).isSome) := by unfold Hid; rw [buildQ, HQ.out]; rfl
    have HMV := Lib.hid hmv
    have HPT := Lib.hid hpt
    have HNN := Lib.hid hN
    clear hmv hpt hN
    go_wp2_with fail
    refine (implPats A c p A2 c2 trk N _ (HP.out.below hB1) (HX.out.below hB1) HMV.out hm8 hN20 HPT.out hne hl).mono ?_
    rintro e w2 ⟨B1, n1, k1, B3, n3, k3, rfl, hb2⟩
    have hB2 := belowStep hb2 hB1
    obtain ⟨b, hb⟩ : ∃ b, (searchB (mvsOf p.moves) trk).isSome = b := ⟨_, rfl⟩
    rw [hb] at HF ⊢
    clear hb hb2
    go_wp2_with fail
    go_ret3
    first
      | exact ⟨⟨_, _, _, _, _, _, by rw [HF.out]; rfl⟩, hB2⟩
      | exact ⟨_, _, _, _, _, _, by rw [HF.out]; rfl, hB2⟩
theorem row3S {w : World} {g : Nat} {a b c : Value} {T : TypeId} (h : w.heap[g]? = some (.cells #[a, b, c] T (0, 0))) (x y z : Value) : (((w.setCell ⟨g, 0, none⟩ x).setCell ⟨g, 1, none⟩ y).setCell ⟨g, 2, none⟩ z).heap[g]? = some (.cells #[x, y, z] T (0, 0)) := rowSet z (rowSet y (rowSet x h))
set_option maxRecDepth 100000 in
set_option maxHeartbeats 1000000 in
theorem implBuild (A : Option Addr) (c : Nat) (p : Pz) (A2 : Option Addr) (c2 : Nat) (trk : List Int) (w : World) (h : PzAt w A p) (hx : IntsAt w A2 trk) (hl : trk.length ≤ 1048576) :
    Calls Try.prog 50 #[.agg #[.int .i64 p.pts, .string p.names, .slice A p.moves.length c], .slice A2 trk.length c2] w fun e w' => ∃ A1 n1 c1 A2 n2 c2 A3 n3 c3, e = .returned (.tuple #[.agg #[.slice A1 n1 c1, .slice A2 n2 c2, .slice A3 n3 c3], .bool (buildQ p trk)]) ∧ Below w.heap.size w w' := by
  have HP := Lib.hid h
  have HX := Lib.hid hx
  have hA2 : buildQ p trk = true → A2 ≠ none := fun hq e => by
    unfold buildQ at hq
    rw [Bool.and_eq_true] at hq
    obtain ⟨N, -, -, -, -, -, hne⟩ := trk_parts hq.1
    obtain ⟨b, off, e2, -⟩ := hx 0 hne
    rw [e] at e2; cases e2
  obtain ⟨q, hq⟩ : ∃ q, buildQ p trk = q := ⟨_, rfl⟩
  have HQ := Lib.hid hq
  have HC := Lib.hid (fun wx hw hw2 => implReach A c p A2 c2 trk wx hw hw2 hl)
  rw [hq] at HC hA2 ⊢
  clear hx h hq
  obtain ⟨w0, hw0⟩ : ∃ w0, (w.alloc (.cells #[.int .i64 p.pts, .string p.names, .slice A p.moves.length c] 29)).alloc (.cells #[.slice none 0 0, .slice none 0 0, .slice none 0 0] 34) = w0 := ⟨_, rfl⟩
  have hb : Below w.heap.size w w0 := by rw [← hw0]; exact (by repeat (first | exact Below.refl _ _ | assumption | refine Below.setCell ?_ (by first | omega | (simp <;> omega)) _ | refine Below.alloc ?_ (by first | omega | (simp <;> omega)) _ | refine Below.drew ?_))
  have r0 : w0.heap[w.heap.size]? = some (.cells #[.int .i64 p.pts, .string p.names, .slice A p.moves.length c] 29 (0, 0)) := by rw [← hw0]; exact alloc2_0 _ _ _
  have r1 : w0.heap[w.heap.size + 1]? = some (.cells #[.slice none 0 0, .slice none 0 0, .slice none 0 0] 34 (0, 0)) := by rw [← hw0]; exact alloc2_1 _ _ _
  obtain ⟨p0, p1, p2, -, -⟩ := row3 r0
  have HR1 := Lib.hid r1
  clear r0 r1
  go_enter Try.func50, Try.ntmps50
  go_wp2_with fail
  clear hw0
  refine (HC.out _ (HP.out.below hb) (HX.out.below hb)).mono ?_
  rintro e w1 ⟨B1, n1, k1, B3, n3, k3, rfl, hb1⟩
  have hr1 := rowB hb1 HR1.out
  have hB1 := belowStep hb1 hb
  clear p0 p1 p2 hb1 hb
  obtain ⟨t0, t1, t2, tf, tl⟩ := row3 hr1
  cases q with
  | false =>
    clear HP HX HC
    obtain ⟨y0, y1, y2, -, -⟩ := row3 (row3S hr1 (.slice none 0 0) (.slice none 0 0) (.slice none 0 0))
    go_wp2_with fail
    refine bodyPost_ret (v := .tuple #[.agg #[.slice none 0 0, .slice none 0 0, .slice none 0 0], .bool false]) (by simp [results, Try.results50, go_sem, y0, y1, y2]) rfl ?_
    exact ⟨_, _, _, _, _, _, _, _, _, rfl, ((hB1.setCell (p := ⟨w.heap.size + 1, 0, none⟩) (by simp) _).setCell (p := ⟨w.heap.size + 1, 1, none⟩) (by simp) _).setCell (p := ⟨w.heap.size + 1, 2, none⟩) (by simp) _⟩
  | true =>
    have hne := hA2 rfl
    go_wp2_with fail
    refine (cloneInts A2 c2 trk _ (HX.out.below hB1) hl hne).mono ?_
    rintro e w2 ⟨v3, rfl, hF2, hb2⟩
    obtain ⟨B2, k2, -, rfl, -⟩ := hF2.capped
    have hr2 := rowB hb2 hr1
    have hB2 := belowStep hb2 hB1
    clear t0 t1 t2 tf tl hr1 hF2
    obtain ⟨t0, t1, t2, tf, tl⟩ := row3 hr2
    obtain ⟨y0, y1, y2, -, -⟩ := row3 (row3S hr2 (.slice B2 trk.length k2) (.slice B1 n1 k1) (.slice B3 n3 k3))
    go_wp2_with fail
    refine bodyPost_ret (v := .tuple #[.agg #[.slice B2 trk.length k2, .slice B1 n1 k1, .slice B3 n3 k3], .bool true]) (by simp [results, Try.results50, go_sem, y0, y1, y2]) rfl ?_
    exact ⟨_, _, _, _, _, _, _, _, _, rfl, ((hB2.setCell (p := ⟨w.heap.size + 1, 0, none⟩) (by simp) _).setCell (p := ⟨w.heap.size + 1, 1, none⟩) (by simp) _).setCell (p := ⟨w.heap.size + 1, 2, none⟩) (by simp) _⟩
end Go.Proofs.Ytfhdnanbhigpmaa
