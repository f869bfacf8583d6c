/- Tables and new jobs, spec. Conditions: as each contract says. New jobs, spec. Conditions: as each contract says. -/
import Derived.Test.YtfhdnanbhigpmaaSm
import Derived.Test.YtfhdnanbhigpmaaTa
namespace Go.Proofs.Ytfhdnanbhigpmaa
section
open Go.RowKit Grp

set_option maxRecDepth 100000 in
set_option maxHeartbeats 1000000 in
theorem specCopies (A : Option Addr) (c n : Nat) (ls : List (List Int)) (w : World) (hx : LAt w A ls) (hn : ls.length = n) (hl : n ≤ 1048576) (hr : ∀ i, i < n → (ls.getD i []).length ≤ 1048576) :
    Calls Try.prog 47 #[.slice A n c] w fun e w' => ∃ v, e = .returned v ∧ OwnL w.heap.size w' v ls ∧ Below w.heap.size w w' := by
  have HX := Lib.hid hx
  have HN := Lib.hid hn
  have HR := Lib.hid hr
  clear hx hn hr
  obtain ⟨w0, hw0⟩ : ∃ w0, w.alloc (.cells #[] 31) = w0 := ⟨_, rfl⟩
  have hb0 : Below w.heap.size w w0 := by rw [← hw0]; exact (by repeat (first | exact Below.refl _ _ | assumption | refine Below.setCell ?_ (by first | omega | (simp <;> omega)) _ | refine Below.alloc ?_ (by first | omega | (simp <;> omega)) _ | refine Below.drew ?_))
  have hG0 : OwnL w.heap.size w0 (.slice (some ⟨w.heap.size, 0, none⟩) 0 0) [] := by
    rw [← hw0]
    exact ⟨[], World.ownsRow_made w #[] 0 (Nat.le_refl _) (by unfold maxLen; omega) rfl, fun b hb h => by (injection hb with hb; simp only at hb h; omega), fun j hj => by simp at hj⟩
  go_enter Try.func47, Try.ntmps47
  go_wp2_with fail
  clear hw0
  go_loopw [3, 4] (fun v i wr => ∃ k : Nat, k ≤ n ∧ i = .int .i64 k ∧ OwnL w.heap.size wr v (ls.take k) ∧ Below w.heap.size w wr) (fun _ i _ => n - (intOf i).toNat)
  case atStart => exact ⟨0, Nat.zero_le _, rfl, hG0, hb0⟩
  case round =>
    obtain ⟨k, hk, rfl, hG, hB⟩ := hrel
    clear hG0 hb0
    by_cases hlt : k < n
    · obtain ⟨b, off, Ai, ci, rfl, h1, h2, h3, h4⟩ := (HX.out.below hB) k (by rw [HN.out]; exact hlt)
      obtain ⟨ys, hys⟩ : ∃ ys, ls.getD k [] = ys := ⟨_, rfl⟩
      have hyl : ys.length ≤ 1048576 := by rw [← hys]; exact HR.out k hlt
      have HSN : Hid (ls.take (k + 1) = ls.take k ++ [ys]) := by unfold Hid; rw [take_snocL _ _ (by rw [HN.out]; exact hlt), hys]
      rw [hys] at h2 h3 h4
      obtain ⟨qs, hqs⟩ : ∃ qs, ls.take k = qs := ⟨_, rfl⟩
      have hql : qs.length ≤ 1048576 := by rw [← hqs, List.length_take]; omega
      rw [hqs] at hG HSN
      have q0 : (0 : Int) ≤ (k : Int) := by omega
      have q1 : (k : Int) < (n : Int) := by omega
      have HI := Lib.hid h4
      have HB := Lib.hid hB
      have HG := Lib.hid hG
      have HGO := Lib.hid hG.own
      have hzB := hB.size
      clear hys hqs h4 hB hG
      go_wp2_with fail
      refine (specCopy Ai ci ys.length ys wr HI.out rfl hyl).mono ?_
      rintro e w3 ⟨v3, rfl, hF3, hb3⟩
      obtain ⟨A3, c3, hc3, rfl, hI3⟩ := hF3.capped
      have HI3 := Lib.hid hI3
      have HF3 := Lib.hid hF3
      have HB3 := Lib.hid hb3
      have hz3 := hb3.size
      clear hF3 hI3 hb3
      go_wp2_with (first | (at_builtin; refine append_gr rfl (.tmp 12) (.tmp 18) rfl w.heap.size (fun b => b < w.heap.size) u3 qs ys A3 c3 rfl ((HG.out.below HB3.out).below (by exact (by repeat (first | exact Below.refl _ _ | assumption | refine Below.setCell ?_ (by first | omega | (simp <;> omega)) _ | refine Below.alloc ?_ (by first | omega | (simp <;> omega)) _ | refine Below.drew ?_)))) (fun b hb => by simp; omega) w3.heap.size rfl (by simp) hc3 (HI3.out.below (by exact (by repeat (first | exact Below.refl _ _ | assumption | refine Below.setCell ?_ (by first | omega | (simp <;> omega)) _ | refine Below.alloc ?_ (by first | omega | (simp <;> omega)) _ | refine Below.drew ?_)))) (fun h0 g off s e => ⟨fun h => by have g1 := (World.ownsRow.lt HF3.out g (by rw [e]; rfl)).1; omega, fun e2 => by have g1 := (World.ownsRow.lt HF3.out g (by rw [e]; rfl)).1; have g2 := (HGO.out g e2).2.1; omega⟩) hql (by simp; omega) ?_; intro A8 c8 w8 hG8 hg8 hat8))
      have hB8 : Below w.heap.size w w8 := ((HB.out.trans (HB3.out.mono (by omega))).alloc (by omega) _).grown hg8 (by simp; omega) (fun b hb => (HGO.out b hb).1)
      go_roundw
      case rel => exact ⟨k + 1, by omega, by go_num, by rw [HSN.out]; exact hG8, hB8⟩
      case measure => simp [intOf]; omega
    · obtain rfl : k = n := by omega
      rw [List.take_of_length_le (by rw [HN.out]; omega)] at hG
      go_wp2_with fail
      go_ret
      exact ⟨_, rfl, hG, hB⟩
/-- What a search over patterns hands back. -/
def PatsPost (p : Pz) (trk : List Int) (w : World) (e : Ending) (w' : World) : Prop :=
  ∃ Al cl Ad cd As ns cs wh ls ds, e = .returned (.tuple #[.agg #[.slice Al ls.length cl, .slice Ad ls.length cd, .slice As ns cs, .bool wh], .bool (buildQ p trk)]) ∧ (buildQ p trk = true → OwnL w.heap.size w' (.slice Al ls.length cl) ls ∧ ls.length ≤ cl ∧ Fresh w.heap.size w' (.slice Ad ls.length cd) ds ∧ ds.length = ls.length ∧ ls.length ≤ cd ∧ ls.length ≤ 3000 ∧ (∀ i, i < ls.length → (ls.getD i []).length = trk.length) ∧ searchB (mvsOf p.moves) trk = some ⟨ls, ds⟩) ∧ Below w.heap.size w w'
set_option maxRecDepth 100000 in
set_option maxHeartbeats 4000000 in
theorem specPats (A : Option Addr) (c : Nat) (p : Pz) (A2 : Option Addr) (c2 : Nat) (trk : List Int) (w : World) (h : PzAt w A p) (hx : IntsAt w A2 trk) (hl : trk.length ≤ 1048576) :
    Calls Try.prog 45 #[.agg #[.int .i64 p.pts, .string p.names, .slice A p.moves.length c], .slice A2 trk.length c2] w (PatsPost p trk w) := by
  have HP := Lib.hid h
  have HX := Lib.hid hx
  obtain ⟨q, hq⟩ : ∃ q, trkQ p trk = q := ⟨_, rfl⟩
  have HQ := Lib.hid hq
  have HC := Lib.hid (fun wx hw hw2 => specTrk A c p A2 c2 trk wx hw hw2 hl)
  rw [hq] at HC
  clear hx h hq
  obtain ⟨w0, hw0⟩ : ∃ w0, (w.alloc (.cells #[.int .i64 p.pts, .string p.names, .slice A p.moves.length c] 29)).alloc (.cells #[.slice none 0 0, .slice none 0 0, .slice none 0 0, .bool false] 77) = w0 := ⟨_, rfl⟩
  have hb : Below w.heap.size w w0 := by rw [← hw0]; exact (by repeat (first | exact Below.refl _ _ | assumption | refine Below.setCell ?_ (by first | omega | (simp <;> omega)) _ | refine Below.alloc ?_ (by first | omega | (simp <;> omega)) _ | refine Below.drew ?_))
  have r0 : w0.heap[w.heap.size]? = some (.cells #[.int .i64 p.pts, .string p.names, .slice A p.moves.length c] 29 (0, 0)) := by rw [← hw0]; exact alloc2_0 _ _ _
  have R1 : Hid (w0.heap[w.heap.size + 1]? = some (.cells #[.slice none 0 0, .slice none 0 0, .slice none 0 0, .bool false] 77 (0, 0))) := by rw [← hw0]; exact alloc2_1 _ _ _
  obtain ⟨p0, p1, p2, -, -⟩ := row3 r0
  have HR0 := Lib.hid r0
  clear r0
  go_enter Try.func45, Try.ntmps45
  go_wp2_with fail
  clear hw0
  refine (HC.out _ (HP.out.below hb) (HX.out.below hb)).mono ?_
  rintro e w1 ⟨rfl, hb1⟩
  have hr1 := rowB hb1 HR0.out
  have RR1 := Lib.hid (rowB hb1 R1.out)
  have hB1 := belowStep hb1 hb
  clear p0 p1 p2 hb1 hb
  obtain ⟨p0, p1, p2, -, -⟩ := row3 hr1
  have HRR1 := Lib.hid hr1
  clear hr1
  obtain ⟨t0, t1, t2, t3, tf, tl⟩ := row4 RR1.out
  cases q with
  | false =>
    have HF : Hid (buildQ p trk = false) := by unfold Hid; rw [buildQ, HQ.out]; rfl
    go_wp2_with fail
    obtain ⟨y0, y1, y2, y3, -, -⟩ := row4 (row4S RR1.out (.slice none 0 0) (.slice none 0 0) (.slice none 0 0) (.bool false))
    refine bodyPost_ret (v := .tuple #[.agg #[.slice none 0 0, .slice none 0 0, .slice none 0 0, .bool false], .bool false]) (by simp [results, Try.results45, go_sem, y0, y1, y2, y3]) rfl ?_
    refine ⟨none, 0, none, 0, none, 0, 0, false, [], [], by rw [HF.out]; rfl, fun e => ?_, belSet4 hB1 (Nat.le_succ _) _ _ _ _⟩
    rw [HF.out] at e; cases e
  | true =>
    obtain ⟨N, hN, hN20, hmv, hm8, hpt, hne⟩ := trk_parts HQ.out
    have HF : Hid (buildQ p trk = (searchB (mvsOf p.moves) trk).isSome) := by unfold Hid; rw [buildQ, HQ.out]; rfl
    have HMV := Lib.hid hmv
    have HPT := Lib.hid hpt
    clear hmv hpt hN
    go_wp2_with fail
    refine (specFrom A c p A2 c2 trk N trk.length _ (HP.out.below hB1) (HX.out.below hB1) HMV.out hm8 hN20 HPT.out hne hl).mono ?_
    rintro e w2 ⟨Al, cl, Ad, cd, As, ns, cs, ls, ds, rfl, g1, g2, g3, g4, g5, g6, g7, g8, hb2⟩
    have HG := Lib.hid (And.intro g1 (And.intro g2 (And.intro g3 (And.intro g4 (And.intro g5 (And.intro g6 (And.intro g7 g8)))))))
    have hB2 := belowStep hb2 hB1
    have RR2 := Lib.hid (rowB hb2 RR1.out)
    obtain ⟨b, hb⟩ : ∃ b, (searchB (mvsOf p.moves) trk).isSome = b := ⟨_, rfl⟩
    rw [hb] at HF ⊢
    have HBB := Lib.hid hb
    clear hb hb2 g1 g2 g3 g4 g5 g6 g7 g8 t0 t1 t2 t3 tf tl
    go_wp2_with fail
    obtain ⟨w3, hw3⟩ : ∃ w3, w2.alloc (.cells #[.slice Al ls.length cl, .slice Ad ls.length cd, .slice As ns cs, .bool b] 77) = w3 := ⟨_, rfl⟩
    rw [hw3]
    have R6 : Hid (w3.heap[w2.heap.size]? = some (.cells #[.slice Al ls.length cl, .slice Ad ls.length cd, .slice As ns cs, .bool b] 77 (0, 0))) := by rw [← hw3]; exact heap_alloc_new _ _
    have hb3 : Below w2.heap.size w2 w3 := by rw [← hw3]; exact (by repeat (first | exact Below.refl _ _ | assumption | refine Below.setCell ?_ (by first | omega | (simp <;> omega)) _ | refine Below.alloc ?_ (by first | omega | (simp <;> omega)) _ | refine Below.drew ?_))
    have RR3 := Lib.hid (rowB hb3 RR2.out)
    have hB3 := belowStep hb3 hB2
    have HB3 := Lib.hid hb3
    obtain ⟨c0, c1, c2, c3, cf, cl3⟩ := row4 R6.out
    obtain ⟨t0, t1, t2, t3, tf, tl⟩ := row4 RR3.out
    have hne : w2.heap.size ≠ w.heap.size + 1 := by have := row_lt RR2.out; omega
    have hne2 : w.heap.size + 1 ≠ w2.heap.size := fun e => hne e.symm
    clear hw3 hb3
    obtain ⟨y0, y1, y2, y3, -, -⟩ := row4 (row4S (w := w3) RR3.out (.slice Al ls.length cl) (.slice Ad ls.length cd) (.slice As ns cs) (.bool b))
    have HPOST : Hid (PatsPost p trk w (.returned (.tuple #[.agg #[.slice Al ls.length cl, .slice Ad ls.length cd, .slice As ns cs, .bool b], .bool b])) ((((w3.setCell ⟨w.heap.size + 1, 0, none⟩ (.slice Al ls.length cl)).setCell ⟨w.heap.size + 1, 1, none⟩ (.slice Ad ls.length cd)).setCell ⟨w.heap.size + 1, 2, none⟩ (.slice As ns cs)).setCell ⟨w.heap.size + 1, 3, none⟩ (.bool b)).drew) := by
      obtain ⟨g1, g2, g3, g4, g5, g6, g7, g8⟩ := HG.out
      refine ⟨Al, cl, Ad, cd, As, ns, cs, b, ls, ds, by rw [HF.out], fun e => ?_, (belSet4 hB3 (Nat.le_succ _) _ _ _ _).drew⟩
      have hH : w.heap.size + 1 < w1.heap.size := row_lt RR1.out
      have hsm : (searchB (mvsOf p.moves) trk).isSome = true := by rw [HBB.out, ← HF.out]; exact e
      refine ⟨?_, g2, ?_, g4, g5, g6, g7, ?_⟩
      · have k1 := (((((g1.below HB3.out).kept (setGrown w3 (w.heap.size + 1) 0 (.slice Al ls.length cl)) hH).kept (setGrown _ (w.heap.size + 1) 1 (.slice Ad ls.length cd)) hH).kept (setGrown _ (w.heap.size + 1) 2 (.slice As ns cs)) hH).kept (setGrown _ (w.heap.size + 1) 3 (.bool b)) hH).less (show w.heap.size ≤ w1.heap.size by omega)
        exact k1.below (Below.refl _ _).drew
      · have k1 := (((((g3.below HB3.out).setCell (a := ⟨w.heap.size + 1, 0, none⟩) hH (.slice Al ls.length cl)).setCell (a := ⟨w.heap.size + 1, 1, none⟩) hH (.slice Ad ls.length cd)).setCell (a := ⟨w.heap.size + 1, 2, none⟩) hH (.slice As ns cs)).setCell (a := ⟨w.heap.size + 1, 3, none⟩) hH (.bool b)).mono (show w.heap.size ≤ w1.heap.size by omega)
        exact k1.below (Below.refl _ _).drew
      · rcases g8 with g8 | g8
        · rw [g8] at hsm; cases hsm
        · exact g8
    go_region
    all_goals go_wp2_with fail
    all_goals refine bodyPost_ret (v := .tuple #[.agg #[.slice Al ls.length cl, .slice Ad ls.length cd, .slice As ns cs, .bool b], .bool b]) (by simp [results, Try.results45, go_sem, y0, y1, y2, y3]) rfl HPOST.out
/-- What spec.BuildTable hands back. -/
def BuiltPost (p : Pz) (trk : List Int) (w : World) (e : Ending) (w' : World) : Prop :=
  ∃ A1 n1 c1 A2 n2 c2 A3 n3 c3, e = .returned (.tuple #[.agg #[.slice A1 n1 c1, .slice A2 n2 c2, .slice A3 n3 c3], .bool (buildQ p trk)]) ∧ (buildQ p trk = true → n1 = trk.length ∧ Fresh w.heap.size w' (.slice A1 n1 c1) trk ∧ ∃ ls ds, n2 = ls.length ∧ n3 = ls.length ∧ OwnL w.heap.size w' (.slice A2 n2 c2) ls ∧ Fresh w.heap.size w' (.slice A3 n3 c3) ds ∧ ds.length = ls.length ∧ ls.length ≤ 3000 ∧ (∀ i, i < ls.length → (ls.getD i []).length = trk.length) ∧ searchB (mvsOf p.moves) trk = some ⟨ls, ds⟩) ∧ Below w.heap.size w w'
set_option maxRecDepth 100000 in
set_option maxHeartbeats 8000000 in
theorem specBuild (A : Option Addr) (c : Nat) (p : Pz) (A2 : Option Addr) (c2 : Nat) (trk : List Int) (w : World) (h : PzAt w A p) (hx : IntsAt w A2 trk) (hl : trk.length ≤ 1048576) :
    Calls Try.prog 14 #[.agg #[.int .i64 p.pts, .string p.names, .slice A p.moves.length c], .slice A2 trk.length c2] w (BuiltPost p trk w) := by
  have HP := Lib.hid h
  have HX := Lib.hid hx
  obtain ⟨q, hq⟩ : ∃ q, buildQ p trk = q := ⟨_, rfl⟩
  have HQ := Lib.hid hq
  clear hx h hq
  obtain ⟨w0, hw0⟩ : ∃ w0, (w.alloc (.cells #[.int .i64 p.pts, .string p.names, .slice A p.moves.length c] 29)).alloc (.cells #[.slice none 0 0, .slice none 0 0, .slice none 0 0] 34) = w0 := ⟨_, rfl⟩
  have hb : Below w.heap.size w w0 := by rw [← hw0]; exact (by repeat (first | exact Below.refl _ _ | assumption | refine Below.setCell ?_ (by first | omega | (simp <;> omega)) _ | refine Below.alloc ?_ (by first | omega | (simp <;> omega)) _ | refine Below.drew ?_))
  have r0 : w0.heap[w.heap.size]? = some (.cells #[.int .i64 p.pts, .string p.names, .slice A p.moves.length c] 29 (0, 0)) := by rw [← hw0]; exact alloc2_0 _ _ _
  have R1 : Hid (w0.heap[w.heap.size + 1]? = some (.cells #[.slice none 0 0, .slice none 0 0, .slice none 0 0] 34 (0, 0))) := by rw [← hw0]; exact alloc2_1 _ _ _
  obtain ⟨p0, p1, p2, -, -⟩ := row3 r0
  clear r0
  go_enter Try.func14, Try.ntmps14
  go_wp2_with fail
  clear hw0
  refine (specPats A c p A2 c2 trk w0 (HP.out.below hb) (HX.out.below hb) hl).mono ?_
  rintro e w1 ⟨Al, cl, Ad, cd, As, ns, cs, wh, ls, ds, rfl, hG, hb1⟩
  rw [HQ.out] at hG ⊢
  have HG : Hid (q = true → _) := hG
  have RR1 := Lib.hid (rowB hb1 R1.out)
  have hB1 := belowStep hb1 hb
  have hz1 := hb1.size
  have hz0 := row_lt R1.out
  clear p0 p1 p2 hb1 hb hG
  obtain ⟨t0, t1, t2, tf, tl⟩ := row3 RR1.out
  cases q with
  | false =>
    clear HP HX
    go_wp2_with fail
    obtain ⟨w3, hw3⟩ : ∃ w3, ((w1.setCell ⟨w.heap.size + 1, 0, none⟩ (.slice none 0 0)).setCell ⟨w.heap.size + 1, 1, none⟩ (.slice none 0 0)).setCell ⟨w.heap.size + 1, 2, none⟩ (.slice none 0 0) = w3 := ⟨_, rfl⟩
    rw [hw3]
    have R3 : w3.heap[w.heap.size + 1]? = some (.cells #[.slice none 0 0, .slice none 0 0, .slice none 0 0] 34 (0, 0)) := by rw [← hw3]; exact row3S RR1.out _ _ _
    have hB3 : Below w.heap.size w w3 := by rw [← hw3]; exact ((hB1.setCell (p := ⟨w.heap.size + 1, 0, none⟩) (Nat.le_succ _) _).setCell (p := ⟨w.heap.size + 1, 1, none⟩) (Nat.le_succ _) _).setCell (p := ⟨w.heap.size + 1, 2, none⟩) (Nat.le_succ _) _
    have hbA : Below w3.heap.size w3 (w3.alloc (.cells #[.slice Al ls.length cl, .slice Ad ls.length cd, .slice As ns cs, .bool wh] 77)) := (by repeat (first | exact Below.refl _ _ | assumption | refine Below.setCell ?_ (by first | omega | (simp <;> omega)) _ | refine Below.alloc ?_ (by first | omega | (simp <;> omega)) _ | refine Below.drew ?_))
    obtain ⟨y0, y1, y2, -, -⟩ := row3 (rowB hbA R3)
    refine bodyPost_ret (v := .tuple #[.agg #[.slice none 0 0, .slice none 0 0, .slice none 0 0], .bool false]) (by simp [results, Try.results14, go_sem, y0, y1, y2]) rfl ?_
    refine ⟨_, _, _, _, _, _, _, _, _, by rw [HQ.out], fun e => ?_, belowStep hbA hB3⟩
    rw [HQ.out] at e
    cases e
  | true =>
    obtain ⟨w3, hw3⟩ : ∃ w3, w1.alloc (.cells #[.slice Al ls.length cl, .slice Ad ls.length cd, .slice As ns cs, .bool wh] 77) = w3 := ⟨_, rfl⟩
    have HW3 := Lib.hid hw3
    have R6 : Hid (w3.heap[w1.heap.size]? = some (.cells #[.slice Al ls.length cl, .slice Ad ls.length cd, .slice As ns cs, .bool wh] 77 (0, 0))) := by rw [← hw3]; exact heap_alloc_new _ _
    have hb3 : Below w1.heap.size w1 w3 := by rw [← hw3]; exact (by repeat (first | exact Below.refl _ _ | assumption | refine Below.setCell ?_ (by first | omega | (simp <;> omega)) _ | refine Below.alloc ?_ (by first | omega | (simp <;> omega)) _ | refine Below.drew ?_))
    have RR3 := Lib.hid (rowB hb3 RR1.out)
    have hB3 := belowStep hb3 hB1
    have HB3 := Lib.hid hb3
    clear hw3 hb3
    go_wp2_with fail
    rw [HW3.out]
    clear t0 t1 t2 tf tl
    obtain ⟨c0, c1, -, -, -, cl3⟩ := row4 R6.out
    obtain ⟨t0, t1, t2, tf, tl⟩ := row3 RR3.out
    obtain ⟨g1, g2, g3, g4, g5, g6, g7, g8⟩ := HG.out (by first | exact trivial | rfl)
    have HL3 := Lib.hid ((g1.below HB3.out).lat)
    have HD3 := Lib.hid ((g3.below HB3.out).intsAt)
    have HX3 := Lib.hid (HX.out.below hB3)
    have HG7 := Lib.hid g7
    have HG8 := Lib.hid g8
    have hl3 : ls.length ≤ 1048576 := by omega
    have HDL := Lib.hid g4
    have HSL : Hid (∀ i, i < ls.length → (ls.getD i []).length ≤ 1048576) := fun i hi => by rw [HG7.out i hi]; exact hl
    have hne : w1.heap.size ≠ w.heap.size + 1 := by omega
    have hne2 : w.heap.size + 1 ≠ w1.heap.size := by omega
    clear g1 g3 g4 g7 g8 HP HX
    go_region_held3 (fun w' => w'.cell? ⟨w1.heap.size, 0, none⟩ = some (.slice Al ls.length cl) ∧ w'.cell? ⟨w1.heap.size, 1, none⟩ = some (.slice Ad ls.length cd)) (first | go_keep | exact ⟨u50, u51⟩ | exact ⟨u60, u61⟩ | exact ⟨u70, u71⟩) (first
      | (go_at_call 46; with_reducible refine Calls.mono (specCopy A2 c2 trk.length trk _ (by exact HX3.out.below (by first | assumption | exact (Below.refl _ _).drew)) rfl hl) ?_; rintro e w5 ⟨v5, rfl, hF5, hb5⟩; have T5 : Below w3.heap.size w3 w5 := belowStep hb5 (by first | assumption | exact (Below.refl _ _).drew); have u50 := (T5.cell (p := ⟨w1.heap.size, 0, none⟩) cl3).trans c0; have u51 := (T5.cell (p := ⟨w1.heap.size, 1, none⟩) cl3).trans c1; obtain ⟨t50, t51, t52, t5f, t5l⟩ := row3 (rowB T5 RR3.out); obtain ⟨A5, c5, -, rfl, -⟩ := hF5.capped)
      | (go_at_call 46; with_reducible refine Calls.mono (specCopy Ad cd ls.length ds _ (by exact HD3.out.below (by first | assumption | exact (Below.refl _ _).drew)) HDL.out hl3) ?_; rintro e w7 ⟨v7, rfl, hF7, hb7⟩; have T7 : Below w3.heap.size w3 w7 := belowStep hb7 (by first | assumption | exact (Below.refl _ _).drew); have u70 := (T7.cell (p := ⟨w1.heap.size, 0, none⟩) cl3).trans c0; have u71 := (T7.cell (p := ⟨w1.heap.size, 1, none⟩) cl3).trans c1; obtain ⟨t70, t71, t72, t7f, t7l⟩ := row3 (rowB T7 RR3.out); obtain ⟨A7, c7, -, rfl, -⟩ := hF7.capped)
      | (go_at_call 47; refine Calls.mono (specCopies Al cl ls.length ls _ (by exact HL3.out.below (by first | assumption | exact (Below.refl _ _).drew)) rfl hl3 HSL.out) ?_; rintro e w6 ⟨v6, rfl, hF6, hb6⟩; have T6 : Below w3.heap.size w3 w6 := belowStep hb6 (by first | assumption | exact (Below.refl _ _).drew); have u60 := (T6.cell (p := ⟨w1.heap.size, 0, none⟩) cl3).trans c0; have u61 := (T6.cell (p := ⟨w1.heap.size, 1, none⟩) cl3).trans c1; obtain ⟨t60, t61, t62, t6f, t6l⟩ := row3 (rowB T6 RR3.out); obtain ⟨A6, c6, rfl, -, -⟩ := GrAt.shape hF6))
    have hH3 : w.heap.size + 1 < w3.heap.size := row_lt RR3.out
    have hz3 := T5.size
    have hz5 := hb6.size
    have hz6 := hb7.size
    have hB7 := belowStep T7 hB3
    have HLS := Lib.hid (show ls.length ≤ 3000 by omega)
    obtain ⟨y0, y1, y2, -, -⟩ := row3 (row3S (rowB T7 RR3.out) (.slice A5 trk.length c5) (.slice A6 ls.length c6) (.slice A7 ds.length c7))
    have HF5 : Hid (Fresh w.heap.size (((w7.setCell ⟨w.heap.size + 1, 0, none⟩ (.slice A5 trk.length c5)).setCell ⟨w.heap.size + 1, 1, none⟩ (.slice A6 ls.length c6)).setCell ⟨w.heap.size + 1, 2, none⟩ (.slice A7 ds.length c7)) (.slice A5 trk.length c5) trk) :=
      (((((hF5.below hb6).below hb7).setCell (a := ⟨w.heap.size + 1, 0, none⟩) hH3 _).setCell (a := ⟨w.heap.size + 1, 1, none⟩) hH3 _).setCell (a := ⟨w.heap.size + 1, 2, none⟩) hH3 _).mono (show w.heap.size ≤ w3.heap.size by omega)
    have HF6 : Hid (OwnL w.heap.size (((w7.setCell ⟨w.heap.size + 1, 0, none⟩ (.slice A5 trk.length c5)).setCell ⟨w.heap.size + 1, 1, none⟩ (.slice A6 ls.length c6)).setCell ⟨w.heap.size + 1, 2, none⟩ (.slice A7 ds.length c7)) (.slice A6 ls.length c6) ls) :=
      ((((hF6.below hb7).kept (setGrown _ (w.heap.size + 1) 0 _) (by omega)).kept (setGrown _ (w.heap.size + 1) 1 _) (by omega)).kept (setGrown _ (w.heap.size + 1) 2 _) (by omega)).less (show w.heap.size ≤ w5.heap.size by omega)
    have HF7 : Hid (Fresh w.heap.size (((w7.setCell ⟨w.heap.size + 1, 0, none⟩ (.slice A5 trk.length c5)).setCell ⟨w.heap.size + 1, 1, none⟩ (.slice A6 ls.length c6)).setCell ⟨w.heap.size + 1, 2, none⟩ (.slice A7 ds.length c7)) (.slice A7 ds.length c7) ds) :=
      (((hF7.setCell (a := ⟨w.heap.size + 1, 0, none⟩) (by simp only; omega) _).setCell (a := ⟨w.heap.size + 1, 1, none⟩) (by simp only; omega) _).setCell (a := ⟨w.heap.size + 1, 2, none⟩) (by simp only; omega) _).mono (show w.heap.size ≤ w6.heap.size by omega)
    go_wp2_with fail
    refine bodyPost_ret (v := .tuple #[.agg #[.slice A5 trk.length c5, .slice A6 ls.length c6, .slice A7 ds.length c7], .bool true]) (by simp [results, Try.results14, go_sem, y0, y1, y2]) rfl ?_
    exact ⟨A5, trk.length, c5, A6, ls.length, c6, A7, ds.length, c7, by rw [HQ.out], fun _ => ⟨rfl, HF5.out, ls, ds, rfl, HDL.out, HF6.out, HF7.out, HDL.out, HLS.out, HG7.out, HG8.out⟩, ((hB7.setCell (p := ⟨w.heap.size + 1, 0, none⟩) (Nat.le_succ _) _).setCell (p := ⟨w.heap.size + 1, 1, none⟩) (Nat.le_succ _) _).setCell (p := ⟨w.heap.size + 1, 2, none⟩) (Nat.le_succ _) _⟩
end
section
open Go.RowKit Grp

theorem grown6 (w : World) (g : Nat) (x y z u v t : Value) : w.grownBy ((((((w.setCell ⟨g, 0, none⟩ x).setCell ⟨g, 1, none⟩ y).setCell ⟨g, 2, none⟩ z).setCell ⟨g, 3, none⟩ u).setCell ⟨g, 4, none⟩ v).setCell ⟨g, 5, none⟩ t) (some g) :=
  (((((setGrown w g 0 x).trans (setGrown _ g 1 y)).trans (setGrown _ g 2 z)).trans (setGrown _ g 3 u)).trans (setGrown _ g 4 v)).trans (setGrown _ g 5 t)
/-- A new job of the call's own. -/
def NewJob (lo : Nat) (trk : List Int) (v : Value) (w : World) : Prop :=
  ∃ A1 c1 A2 c2 A3 c3, v = .agg #[.slice A1 trk.length c1, .slice A2 1 c2, .slice A3 1 c3, .int .i64 0, .string ⟨#[]⟩, .int .i64 0] ∧ Fresh lo w (.slice A1 trk.length c1) trk ∧ trk.length ≤ c1 ∧ OwnL lo w (.slice A2 1 c2) [trk] ∧ 1 ≤ c2 ∧ Fresh lo w (.slice A3 1 c3) [0] ∧ 1 ≤ c3
set_option maxRecDepth 100000 in
set_option maxHeartbeats 4000000 in
theorem specNew (A : Option Addr) (c : Nat) (trk : List Int) (w : World) (hx : IntsAt w A trk) (hl : trk.length ≤ 1048576) :
    Calls Try.prog 56 #[.slice A trk.length c] w fun e w' => ∃ v, e = .returned v ∧ NewJob w.heap.size trk v w' ∧ Below w.heap.size w w' := by
  have HX := Lib.hid hx
  obtain ⟨w0, hw0⟩ : ∃ w0, w.alloc (.cells #[.slice none 0 0, .slice none 0 0, .slice none 0 0, .int .i64 0, .string ⟨#[]⟩, .int .i64 0] 45) = w0 := ⟨_, rfl⟩
  have hb0 : Below w.heap.size w w0 := by rw [← hw0]; exact (by repeat (first | exact Below.refl _ _ | assumption | refine Below.setCell ?_ (by first | omega | (simp <;> omega)) _ | refine Below.alloc ?_ (by first | omega | (simp <;> omega)) _ | refine Below.drew ?_))
  have R0 : Hid (w0.heap[w.heap.size]? = some (.cells #[.slice none 0 0, .slice none 0 0, .slice none 0 0, .int .i64 0, .string ⟨#[]⟩, .int .i64 0] 45 (0, 0))) := by rw [← hw0]; exact heap_alloc_new _ _
  have HB0 := Lib.hid hb0
  clear hx hb0
  go_enter Try.func56, Try.ntmps56
  go_wp2_with fail
  clear hw0
  refine (specCopy A c trk.length trk w0 (HX.out.below HB0.out) rfl hl).mono ?_
  rintro e w1 ⟨v1, rfl, hF1, hb1⟩
  obtain ⟨A1, c1, hc1, rfl, hI1⟩ := hF1.capped
  have HF1 := Lib.hid hF1
  have HI1 := Lib.hid hI1
  have HN1 : Hid (∀ g off s, A1 = some ⟨g, off, s⟩ → w0.heap.size ≤ g) := fun g off s e => (World.ownsRow.lt hF1 g (by rw [e]; rfl)).1
  have HB1 := Lib.hid (belowStep hb1 HB0.out)
  have R1 := Lib.hid (rowB hb1 R0.out)
  have HZ1 := Lib.hid hb1.size
  clear hF1 hI1 hb1
  go_wp2_with fail
  refine (specCopy A c trk.length trk w1 (HX.out.below HB1.out) rfl hl).mono ?_
  rintro e w2 ⟨v2, rfl, hF2, hb2⟩
  obtain ⟨A2, c2, hc2, rfl, hI2⟩ := hF2.capped
  have HF1 : Hid (Fresh w0.heap.size w2 (.slice A1 trk.length c1) trk) := HF1.out.below hb2
  have HI2 := Lib.hid hI2
  have HN2 : Hid (∀ g off s, A2 = some ⟨g, off, s⟩ → w1.heap.size ≤ g) := fun g off s e => (World.ownsRow.lt hF2 g (by rw [e]; rfl)).1
  have HU2 : Hid (∀ g off s, A2 = some ⟨g, off, s⟩ → g < w2.heap.size) := fun g off s e => (World.ownsRow.lt hF2 g (by rw [e]; rfl)).2
  have hz1 : w0.heap.size ≤ w1.heap.size := HZ1.out
  have HB2 := Lib.hid (belowStep hb2 HB1.out)
  have R2 := Lib.hid (rowB hb2 R1.out)
  have HZ2 : Hid (w1.heap.size ≤ w2.heap.size) := hb2.size
  clear hF2 hI2 hb2 HB1 R1
  obtain ⟨w4, hw4⟩ : ∃ w4, (w2.alloc (.cells #[.slice A2 trk.length c2] 31)).alloc (.cells #[.int .i64 0] 2) = w4 := ⟨_, rfl⟩
  have hb4 : Below w2.heap.size w2 w4 := by rw [← hw4]; exact (by repeat (first | exact Below.refl _ _ | assumption | refine Below.setCell ?_ (by first | omega | (simp <;> omega)) _ | refine Below.alloc ?_ (by first | omega | (simp <;> omega)) _ | refine Below.drew ?_))
  have hz4 : w4.heap.size = w2.heap.size + 2 := by rw [← hw4]; simp
  have RL : Hid (w4.heap[w2.heap.size]? = some (.cells #[.slice A2 trk.length c2] 31 (0, 0))) := by rw [← hw4]; exact alloc2_0 _ _ _
  have RD : Hid (w4.heap[w2.heap.size + 1]? = some (.cells #[.int .i64 0] 2 (0, 0))) := by rw [← hw4]; exact alloc2_1 _ _ _
  have HF1 : Hid (Fresh w0.heap.size w4 (.slice A1 trk.length c1) trk) := HF1.out.below hb4
  have HI2 : Hid (IntsAt w4 A2 trk) := HI2.out.below hb4
  have HB4 := Lib.hid (belowStep hb4 HB2.out)
  have R4 := Lib.hid (rowB hb4 R2.out)
  clear hb4 HB2 R2
  obtain ⟨w5, hw5⟩ : ∃ w5, w4.alloc (.cells #[.slice A1 trk.length c1, .slice (some ⟨w2.heap.size, 0, none⟩) 1 1, .slice (some ⟨w2.heap.size + 1, 0, none⟩) 1 1] 34) = w5 := ⟨_, rfl⟩
  have hb5 : Below w4.heap.size w4 w5 := by rw [← hw5]; exact (by repeat (first | exact Below.refl _ _ | assumption | refine Below.setCell ?_ (by first | omega | (simp <;> omega)) _ | refine Below.alloc ?_ (by first | omega | (simp <;> omega)) _ | refine Below.drew ?_))
  have R5 := Lib.hid (rowB hb5 R4.out)
  have RT : Hid (w5.heap[w2.heap.size + 2]? = some (.cells #[.slice A1 trk.length c1, .slice (some ⟨w2.heap.size, 0, none⟩) 1 1, .slice (some ⟨w2.heap.size + 1, 0, none⟩) 1 1] 34 (0, 0))) := by rw [← hw5, ← hz4]; exact heap_alloc_new _ _
  have HB5 := Lib.hid hb5
  clear hb5
  obtain ⟨m0, m1, m2, -, -⟩ := row3 RT.out
  obtain ⟨k0, k1, k2, k3, k4, k5, kf, kl⟩ := row6 R5.out
  go_wp2_with fail
  obtain ⟨y0, y1, y2, y3, y4, y5, -, -⟩ := row6 (row6S R5.out (.slice A1 trk.length c1) (.slice (some ⟨w2.heap.size, 0, none⟩) 1 1) (.slice (some ⟨w2.heap.size + 1, 0, none⟩) 1 1) (.int .i64 0) (.string ⟨#[]⟩) (.int .i64 0))
  have hHl := row_lt R0.out
  have hne2 : w.heap.size < w2.heap.size := by have := row_lt RL.out; have := HZ2.out; omega
  have hgr := grown6 w5 w.heap.size (.slice A1 trk.length c1) (.slice (some ⟨w2.heap.size, 0, none⟩) 1 1) (.slice (some ⟨w2.heap.size + 1, 0, none⟩) 1 1) (.int .i64 0) (.string ⟨#[]⟩) (.int .i64 0)
  refine bodyPost_ret (v := .agg #[.slice A1 trk.length c1, .slice (some ⟨w2.heap.size, 0, none⟩) 1 1, .slice (some ⟨w2.heap.size + 1, 0, none⟩) 1 1, .int .i64 0, .string ⟨#[]⟩, .int .i64 0]) (by simp [results, Try.results56, go_sem, y0, y1, y2, y3, y4, y5]) rfl ?_
  refine ⟨_, rfl, ⟨A1, c1, _, 1, _, 1, rfl, ((HF1.out.below HB5.out).row hgr (fun b hb e => ?_)).mono (by omega), hc1, GrAt.one (rowR hgr (rowB HB5.out RL.out) (fun e => by injection e with e; omega)) (by omega) hc2 ((HI2.out.below HB5.out).kept hgr (fun h0 g off s e e2 => ?_)) (by omega) (fun g off s e => ?_), Nat.le_refl _, Fresh.one0 (rowR hgr (rowB HB5.out RD.out) (fun e => by injection e with e; omega)) (by omega), Nat.le_refl _⟩, belSet6 (belowStep HB5.out HB4.out) (Nat.le_refl _) _ _ _ _ _ _⟩
  · have := (World.ownsRow.lt HF1.out b hb).1
    injection e with e
    omega
  · have := HN2.out g off s e
    injection e2 with e2
    omega
  · have h1 := HN2.out g off s e
    have h2 := HI2.out
    have h3 := HU2.out g off s e
    exact ⟨by omega, by omega⟩
def SpecJob (p : Pz) (trk : List Int) (w : World) (e : Ending) (w' : World) : Prop :=
  if buildQ p trk = true then ∃ A1 c1 A2 c2 A3 c3, e = .returned (.tuple #[.agg #[.slice A1 trk.length c1, .slice A2 1 c2, .slice A3 1 c3, .int .i64 0, .string ⟨#[]⟩, .int .i64 0], .bool true]) ∧ Fresh w.heap.size w' (.slice A1 trk.length c1) trk ∧ trk.length ≤ c1 ∧ OwnL w.heap.size w' (.slice A2 1 c2) [trk] ∧ 1 ≤ c2 ∧ Fresh w.heap.size w' (.slice A3 1 c3) [0] ∧ 1 ≤ c3 ∧ Below w.heap.size w w' else JobNo w e w'
set_option maxRecDepth 100000 in
set_option maxHeartbeats 4000000 in
theorem specStartFill (A : Option Addr) (c : Nat) (p : Pz) (A2 : Option Addr) (c2 : Nat) (trk : List Int) (w : World) (h : PzAt w A p) (hx : IntsAt w A2 trk) (hl : trk.length ≤ 1048576) :
    Calls Try.prog 19 #[.agg #[.int .i64 p.pts, .string p.names, .slice A p.moves.length c], .slice A2 trk.length c2] w (SpecJob p trk w) := by
  have HP := Lib.hid h
  have HX := Lib.hid hx
  obtain ⟨q, hq⟩ : ∃ q, buildQ p trk = q := ⟨_, rfl⟩
  have HQ := Lib.hid hq
  unfold SpecJob
  rw [hq]
  clear hx h hq
  obtain ⟨w0, hw0⟩ : ∃ w0, (w.alloc (.cells #[.int .i64 p.pts, .string p.names, .slice A p.moves.length c] 29)).alloc (.cells #[.slice none 0 0, .slice none 0 0, .slice none 0 0, .int .i64 0, .string ⟨#[]⟩, .int .i64 0] 45) = w0 := ⟨_, rfl⟩
  have hb : Below w.heap.size w w0 := by rw [← hw0]; exact (by repeat (first | exact Below.refl _ _ | assumption | refine Below.setCell ?_ (by first | omega | (simp <;> omega)) _ | refine Below.alloc ?_ (by first | omega | (simp <;> omega)) _ | refine Below.drew ?_))
  have r0 : w0.heap[w.heap.size]? = some (.cells #[.int .i64 p.pts, .string p.names, .slice A p.moves.length c] 29 (0, 0)) := by rw [← hw0]; exact alloc2_0 _ _ _
  have R1 : Hid (w0.heap[w.heap.size + 1]? = some (.cells #[.slice none 0 0, .slice none 0 0, .slice none 0 0, .int .i64 0, .string ⟨#[]⟩, .int .i64 0] 45 (0, 0))) := by rw [← hw0]; exact alloc2_1 _ _ _
  obtain ⟨p0, p1, p2, -, -⟩ := row3 r0
  clear r0
  go_enter Try.func19, Try.ntmps19
  go_wp2_with fail
  clear hw0
  refine (specBuild A c p A2 c2 trk w0 (HP.out.below hb) (HX.out.below hb) hl).mono ?_
  rintro e w1 ⟨A1, n1, c1, A3, n3, c3, A4, n4, c4, rfl, -, hb1⟩
  rw [HQ.out]
  have RR1 := Lib.hid (rowB hb1 R1.out)
  have hB1 := belowStep hb1 hb
  have hz1 := hb1.size
  have hz0 := row_lt R1.out
  clear p0 p1 p2 hb1 hb
  obtain ⟨k0, k1, k2, k3, k4, k5, kf, kl⟩ := row6 RR1.out
  cases q with
  | false =>
    clear HP HX
    go_wp2_with fail
    obtain ⟨w3, hw3⟩ : ∃ w3, (((((w1.setCell ⟨w.heap.size + 1, 0, none⟩ (.slice none 0 0)).setCell ⟨w.heap.size + 1, 1, none⟩ (.slice none 0 0)).setCell ⟨w.heap.size + 1, 2, none⟩ (.slice none 0 0)).setCell ⟨w.heap.size + 1, 3, none⟩ (.int .i64 0)).setCell ⟨w.heap.size + 1, 4, none⟩ (.string ⟨#[]⟩)).setCell ⟨w.heap.size + 1, 5, none⟩ (.int .i64 0) = w3 := ⟨_, rfl⟩
    rw [hw3]
    have R3 := row6S RR1.out (.slice none 0 0) (.slice none 0 0) (.slice none 0 0) (.int .i64 0) (.string ⟨#[]⟩) (.int .i64 0)
    have hB3 := belSet6 hB1 (Nat.le_succ w.heap.size) (.slice none 0 0) (.slice none 0 0) (.slice none 0 0) (.int .i64 0) (.string ⟨#[]⟩) (.int .i64 0)
    rw [hw3] at R3 hB3
    have hbA : Below w3.heap.size w3 (w3.alloc (.cells #[.slice A1 n1 c1, .slice A3 n3 c3, .slice A4 n4 c4] 34)) := (by repeat (first | exact Below.refl _ _ | assumption | refine Below.setCell ?_ (by first | omega | (simp <;> omega)) _ | refine Below.alloc ?_ (by first | omega | (simp <;> omega)) _ | refine Below.drew ?_))
    obtain ⟨y0, y1, y2, y3, y4, y5, -, -⟩ := row6 (rowB hbA R3)
    refine bodyPost_ret (v := .tuple #[.agg #[.slice none 0 0, .slice none 0 0, .slice none 0 0, .int .i64 0, .string ⟨#[]⟩, .int .i64 0], .bool false]) (by simp [results, Try.results19, go_sem, y0, y1, y2, y3, y4, y5]) rfl ?_
    exact ⟨rfl, belowStep hbA hB3⟩
  | true =>
    obtain ⟨wa, hwa⟩ : ∃ wa, w1.alloc (.cells #[.slice A1 n1 c1, .slice A3 n3 c3, .slice A4 n4 c4] 34) = wa := ⟨_, rfl⟩
    have hba : Below w1.heap.size w1 wa := by rw [← hwa]; exact (by repeat (first | exact Below.refl _ _ | assumption | refine Below.setCell ?_ (by first | omega | (simp <;> omega)) _ | refine Below.alloc ?_ (by first | omega | (simp <;> omega)) _ | refine Below.drew ?_))
    have RA := Lib.hid (rowB hba RR1.out)
    have HWA := Lib.hid hwa
    have HBA := Lib.hid (belowStep hba hB1)
    clear hwa hba
    go_wp2_with fail
    rw [HWA.out]
    refine (specNew A2 c2 trk wa (HX.out.below HBA.out) hl).mono ?_
    rintro e w2 ⟨v2, rfl, ⟨B1, d1, B2, d2, B3, d3, rfl, i1, i2, i3, i4, i5, i6⟩, hb2⟩
    have R2 := Lib.hid (rowB hb2 RA.out)
    have HB2 := Lib.hid (belowStep hb2 HBA.out)
    have hH1 : w.heap.size + 1 < wa.heap.size := row_lt RA.out
    have HI1 := Lib.hid i1
    have HI3 := Lib.hid i3
    have HI5 := Lib.hid i5
    clear i1 i3 i5 hb2 k0 k1 k2 k3 k4 k5 kf kl
    obtain ⟨k0, k1, k2, k3, k4, k5, kf, kl⟩ := row6 R2.out
    go_wp2_with fail
    obtain ⟨y0, y1, y2, y3, y4, y5, -, -⟩ := row6 (row6S R2.out (.slice B1 trk.length d1) (.slice B2 1 d2) (.slice B3 1 d3) (.int .i64 0) (.string ⟨#[]⟩) (.int .i64 0))
    have hgr := grown6 w2 (w.heap.size + 1) (.slice B1 trk.length d1) (.slice B2 1 d2) (.slice B3 1 d3) (.int .i64 0) (.string ⟨#[]⟩) (.int .i64 0)
    refine bodyPost_ret (v := .tuple #[.agg #[.slice B1 trk.length d1, .slice B2 1 d2, .slice B3 1 d3, .int .i64 0, .string ⟨#[]⟩, .int .i64 0], .bool true]) (by simp [results, Try.results19, go_sem, y0, y1, y2, y3, y4, y5]) rfl ?_
    have hz : w.heap.size ≤ wa.heap.size := by omega
    exact ⟨B1, d1, B2, d2, B3, d3, rfl, (HI1.out.row hgr (fun b hb e => by have := (World.ownsRow.lt HI1.out b hb).1; injection e with e; omega)).mono hz, i2, (HI3.out.kept hgr hH1).less hz, i4, (HI5.out.row hgr (fun b hb e => by have := (World.ownsRow.lt HI5.out b hb).1; injection e with e; omega)).mono hz, i6, belSet6 HB2.out (Nat.le_succ _) _ _ _ _ _ _⟩
end
end Go.Proofs.Ytfhdnanbhigpmaa
