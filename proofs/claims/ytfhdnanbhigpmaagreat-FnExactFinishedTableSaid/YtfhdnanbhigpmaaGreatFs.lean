/- A finished job's table, spec. Conditions: as the contract says. -/
import Derived.Test.YtfhdnanbhigpmaaGreatXv
import Derived.Test.YtfhdnanbhigpmaaGreatTg
namespace Go.Proofs.YtfhdnanbhigpmaaGreat
open Go.RowKit Grp

/-- The three stay as they are, wherever one block below lo is written. -/
def Keeps (lo : Nat) (A1 A2 A3 : Option Addr) (t : Tb) (w : World) : Prop := ∀ g w2, g < lo → w.grownBy w2 (some g) → IntsAt w2 A1 t.trk ∧ LAt w2 A2 t.pats ∧ IntsAt w2 A3 t.dist
theorem Keeps.own {lo : Nat} {A1 A2 A3 : Option Addr} {c1 c3 : Nat} {t : Tb} {w : World} (h : FTo lo w A1 c1 A2 A3 c3 t) : Keeps lo A1 A2 A3 t w := fun g w2 hg h2 => by
  have ho : OnlyIn g (g + 1) w w2 := (OnlyIn.refl _ _ _).grown h2 (fun b e => by injection e with e; omega)
  have h3 := h.only ho (by omega)
  exact ⟨h3.at1, h3.at2, h3.at3⟩
def SFinYes (t : Tb) (w : World) (e : Ending) (w' : World) : Prop :=
  ∃ (A1 : Option Addr) (c1 : Nat) (A2 : Option Addr) (c2 : Nat) (A3 : Option Addr) (c3 : Nat), e = .returned (.tuple #[.agg #[.slice A1 t.trk.length c1, .slice A2 t.pats.length c2, .slice A3 t.dist.length c3], .bool true]) ∧ IntsAt w' A1 t.trk ∧ LAt w' A2 t.pats ∧ IntsAt w' A3 t.dist ∧ Keeps w.heap.size A1 A2 A3 t w' ∧ Below w.heap.size w w'
set_option maxRecDepth 100000 in
set_option maxHeartbeats 8000000 in
theorem specFinQ (A : Option Addr) (c : Nat) (p : Pz) (A1 A2 A3 : Option Addr) (c1 c2 c3 : Nat) (t : Tb) (nx : Int) (lg : ByteArray) (sy : Int) (w : World) (h : PzAt w A p) (h1 : IntsAt w A1 t.trk) (h2 : LAt w A2 t.pats) (h3 : IntsAt w A3 t.dist) (hs : ShortT t) (hnx : -9223372036854775808 ≤ nx ∧ nx ≤ 9223372036854775807) (hlg : lg.size ≤ 1048576) (Q : Ending → World → Prop) (hy : validF p t nx lg sy = true ∧ nx = (t.pats.length : Int) → ∀ e w', SFinYes t w e w' → Q e w') (hn : ¬ (validF p t nx lg sy = true ∧ nx = (t.pats.length : Int)) → ∀ e w', FinNo w e w' → Q e w') :
    Calls Tryz.prog 6 #[.agg #[.int .i64 p.pts, .string p.names, .slice A p.moves.length c], jobV A1 A2 A3 c1 c2 c3 t nx lg sy] w Q := by
  have HYY := Lib.hid hy
  have HNN := Lib.hid hn
  clear hy hn
  obtain ⟨w0, hw0⟩ : ∃ w0, ((w.alloc (.cells #[.int .i64 p.pts, .string p.names, .slice A p.moves.length c] 35)).alloc (.cells #[.slice A1 t.trk.length c1, .slice A2 t.pats.length c2, .slice A3 t.dist.length c3, .int .i64 nx, .string lg, .int .i64 sy] 38)).alloc (.cells #[.slice none 0 0, .slice none 0 0, .slice none 0 0] 32) = w0 := ⟨_, rfl⟩
  have hb0 : Below w.heap.size w w0 := by rw [← hw0]; exact (by repeat (first | exact Below.refl _ _ | assumption | refine Below.setCell ?_ (by first | omega | (simp <;> omega)) _ | refine Below.alloc ?_ (by first | omega | (simp <;> omega)) _ | refine Below.drew ?_))
  have hz0 : w0.heap.size = w.heap.size + 3 := by rw [← hw0]; simp
  have R0 : Hid (w0.heap[w.heap.size]? = some (.cells #[.int .i64 p.pts, .string p.names, .slice A p.moves.length c] 35 (0, 0))) := by rw [← hw0]; exact alloc3_0 _ _ _ _
  have R1 : Hid (w0.heap[w.heap.size + 1]? = some (.cells #[.slice A1 t.trk.length c1, .slice A2 t.pats.length c2, .slice A3 t.dist.length c3, .int .i64 nx, .string lg, .int .i64 sy] 38 (0, 0))) := by rw [← hw0]; exact alloc3_1 _ _ _ _
  have R2 : Hid (w0.heap[w.heap.size + 1 + 1]? = some (.cells #[.slice none 0 0, .slice none 0 0, .slice none 0 0] 32 (0, 0))) := by rw [← hw0]; exact alloc3_2r _ _ _ _
  obtain ⟨p0, p1, p2, -, -⟩ := row3 R0.out
  obtain ⟨j0, j1, j2, j3, j4, j5, -, jl⟩ := row6 R1.out
  have HB0 := Lib.hid hb0
  have hval := specValid A c p A1 A2 A3 c1 c2 c3 t nx lg sy w0 (h.below hb0) (h1.below hb0) (h2.below hb0) (h3.below hb0) hs hnx hlg
  obtain ⟨V, hV⟩ : ∃ V, validF p t nx lg sy = V := ⟨_, rfl⟩
  rw [hV] at hval HYY HNN
  unfold jobV at hval ⊢
  have HVC := Lib.hid hval
  have HCT := Lib.hid (fun wx (hb : Below w.heap.size w wx) => specCopyT A1 A2 A3 c1 c2 c3 t wx (h1.below hb) (h2.below hb) (h3.below hb) hs)
  have HW0 := Lib.hid hw0
  obtain ⟨n1, hn1⟩ : ∃ n1, t.trk.length = n1 := ⟨_, rfl⟩
  obtain ⟨n2, hn2⟩ : ∃ n2, t.pats.length = n2 := ⟨_, rfl⟩
  obtain ⟨n3, hn3⟩ : ∃ n3, t.dist.length = n3 := ⟨_, rfl⟩
  rw [hn1, hn2, hn3] at HVC R1 HCT HW0
  rw [hn2] at HYY HNN
  rw [hn1] at j0
  rw [hn2] at j1
  rw [hn3] at j2
  rw [hn1, hn2, hn3]
  have HN1 := Lib.hid hn1
  have HN2 := Lib.hid hn2
  have HN3 := Lib.hid hn3
  clear h h1 h2 h3 hs hb0 hw0 hval hV hn1 hn2 hn3
  go_enter Tryz.func6, Tryz.ntmps6
  go_wp2_with fail
  rw [HW0.out]
  refine HVC.out.mono ?_
  rintro e w1 ⟨rfl, hb1⟩
  have HB1 := Lib.hid (belowStep hb1 HB0.out)
  have HR1 := Lib.hid (rowB hb1 R1.out)
  have HRB := Lib.hid (rowB hb1 R2.out)
  have hz1 := hb1.size
  clear hb1 HVC j0 j1 j2 j3 j4 j5 jl p0 p1 p2 HW0
  obtain ⟨j0, j1, j2, j3, j4, j5, -, jl⟩ := row6 HR1.out
  obtain ⟨q0, q1, q2, qF, ql⟩ := row3 HRB.out
  cases V with
  | false =>
    have hno := Lib.hid (HNN.out (fun k => by cases k.1))
    clear HNN HYY
    go_wp2_with fail
    obtain ⟨y0, y1, y2, -, -⟩ := row3 (row3S HRB.out (.slice none 0 0) (.slice none 0 0) (.slice none 0 0))
    refine bodyPost_ret (v := .tuple #[.agg #[.slice none 0 0, .slice none 0 0, .slice none 0 0], .bool false]) (by simp [results, Tryz.results6, go_sem, y0, y1, y2]) rfl ?_
    exact hno.out _ _ ⟨rfl, HB1.out.grown (row3S_grown _ _ _ _ _) HB1.out.size (fun b e => by injection e with e; omega)⟩
  | true =>
    by_cases heq : nx = (n2 : Int)
    rotate_left
    · have hno := Lib.hid (HNN.out (fun k => heq k.2))
      have hne : (nx == (n2 : Int)) = false := by rw [← Bool.not_eq_true, beq_iff_eq]; exact heq
      clear HNN HYY
      go_wp2_with fail
      obtain ⟨y0, y1, y2, -, -⟩ := row3 (row3S HRB.out (.slice none 0 0) (.slice none 0 0) (.slice none 0 0))
      refine bodyPost_ret (v := .tuple #[.agg #[.slice none 0 0, .slice none 0 0, .slice none 0 0], .bool false]) (by simp [results, Tryz.results6, go_sem, y0, y1, y2]) rfl ?_
      exact hno.out _ _ ⟨rfl, HB1.out.grown (row3S_grown _ _ _ _ _) HB1.out.size (fun b e => by injection e with e; omega)⟩
    have hyes := Lib.hid (HYY.out ⟨rfl, heq⟩)
    have hne : (nx == (n2 : Int)) = true := by rw [beq_iff_eq]; exact heq
    subst heq
    clear HNN HYY
    go_wp2_with fail
    refine (HCT.out w1 HB1.out).mono ?_
    rintro e w2 ⟨v1, v2, v3, rfl, hCP, hb2⟩
    obtain ⟨E1, e1, -, rfl, -⟩ := hCP.1.capped
    obtain ⟨E2, e2, rfl, -, -⟩ := GrAt.shape hCP.2.1
    obtain ⟨E3, e3, -, rfl, -⟩ := hCP.2.2.1.capped
    rw [HN1.out, HN2.out, HN3.out] at hCP
    rw [HN1.out, HN2.out, HN3.out]
    have HCP := Lib.hid hCP
    have HRB2 := Lib.hid (rowB hb2 HRB.out)
    have HB2 := Lib.hid (belowStep hb2 HB1.out)
    clear hCP hb2 q0 q1 q2 qF ql j0 j1 j2 j3 j4 j5 jl
    obtain ⟨q0, q1, q2, qF, ql⟩ := row3 HRB2.out
    go_wp2_with fail
    obtain ⟨y0, y1, y2, -, -⟩ := row3 (row3S HRB2.out (.slice E1 n1 e1) (.slice E2 n2 e2) (.slice E3 n3 e3))
    refine bodyPost_ret (v := .tuple #[.agg #[.slice E1 n1 e1, .slice E2 n2 e2, .slice E3 n3 e3], .bool true]) (by simp [results, Tryz.results6, go_sem, y0, y1, y2]) rfl ?_
    have hg := row3S_grown w2 (w.heap.size + 1 + 1) (.slice E1 n1 e1) (.slice E2 n2 e2) (.slice E3 n3 e3)
    have hK := CpTb.kept HCP.out hg (by omega)
    exact hyes.out _ _ ⟨E1, e1, E2, e2, E3, e3, by rw [HN1.out, HN2.out, HN3.out], hK.1.intsAt, GrAt.lat hK.2.1, hK.2.2.1.intsAt, (fun g w3 hg3 h3 => by
      have hK3 := CpTb.kept hK h3 (by omega)
      exact ⟨hK3.1.intsAt, GrAt.lat hK3.2.1, hK3.2.2.1.intsAt⟩), HB2.out.grown hg HB2.out.size (fun b e => by injection e with e; omega)⟩
theorem specFinJ (A : Option Addr) (c : Nat) (p : Pz) (A1 A2 A3 : Option Addr) (c1 c2 c3 : Nat) (t : Tb) (nx : Int) (lg : ByteArray) (sy : Int) (w : World) (h : PzAt w A p) (h1 : IntsAt w A1 t.trk) (h2 : LAt w A2 t.pats) (h3 : IntsAt w A3 t.dist) (hs : ShortT t) (hnx : -9223372036854775808 ≤ nx ∧ nx ≤ 9223372036854775807) (hlg : lg.size ≤ 1048576) :
    Calls Tryz.prog 6 #[.agg #[.int .i64 p.pts, .string p.names, .slice A p.moves.length c], jobV A1 A2 A3 c1 c2 c3 t nx lg sy] w fun e w' => ∃ B1 d1 B2 d2 B3 d3, e = .returned (.tuple #[.agg #[.slice B1 (finT p t nx lg sy).trk.length d1, .slice B2 (finT p t nx lg sy).pats.length d2, .slice B3 (finT p t nx lg sy).dist.length d3], .bool (finB p t nx lg sy)]) ∧ IntsAt w' B1 (finT p t nx lg sy).trk ∧ LAt w' B2 (finT p t nx lg sy).pats ∧ IntsAt w' B3 (finT p t nx lg sy).dist ∧ Keeps w.heap.size B1 B2 B3 (finT p t nx lg sy) w' ∧ Below w.heap.size w w' := by
  refine specFinQ A c p A1 A2 A3 c1 c2 c3 t nx lg sy w h h1 h2 h3 hs hnx hlg _ (fun hq e w' k => ?_) (fun hq e w' k => ?_)
  · have hb := finB_iff.2 hq
    unfold finT
    rw [if_pos hb, hb]
    exact k
  · obtain ⟨rfl, hb⟩ := k
    have hb2 : finB p t nx lg sy = false := (Bool.not_eq_true _).mp (fun q => hq (finB_iff.1 q))
    unfold finT
    rw [if_neg (fun q => hq (finB_iff.1 q)), hb2]
    exact ⟨none, 0, none, 0, none, 0, rfl, IntsAt.nil _ _, fun i hi => by simp at hi, IntsAt.nil _ _, fun _ _ _ _ => ⟨IntsAt.nil _ _, fun i hi => by simp at hi, IntsAt.nil _ _⟩, hb⟩
end Go.Proofs.YtfhdnanbhigpmaaGreat
