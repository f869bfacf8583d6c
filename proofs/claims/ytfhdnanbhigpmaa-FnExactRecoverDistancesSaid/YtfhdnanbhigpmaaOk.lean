/- Arguments opened: a puzzle. Arguments opened: a job; what the law files do with it. Conditions: as each contract says. -/
import Derived.Test.YtfhdnanbhigpmaaOt
import Derived.Test.YtfhdnanbhigpmaaPz
import Derived.Test.YtfhdnanbhigpmaaJk
namespace Go.Proofs.Ytfhdnanbhigpmaa
section
open Go.RowKit Go.ChangeShapes Go.WideShapes Go.ChangeAt Go.Deep
set_option maxRecDepth 100000

/-- A puzzle as a law gets it. -/
structure PA where
  A : Option Addr
  c : Nat
  p : Pz
def PA.val (g : PA) : Value := .agg #[.int .i64 g.p.pts, .string g.p.names, .slice g.A g.p.moves.length g.c]
structure PA.Ok (w : World) (g : PA) : Prop where
  at_ : LAt w g.A g.p.moves
  m1 : g.p.names.size ≤ 9223372036854775807
  m2 : g.p.moves.length ≤ 9223372036854775807
  m3 : ∀ i, i < g.p.moves.length → (g.p.moves.getD i []).length ≤ 9223372036854775807
section
variable {H : Type} {enc : TypeId × Value → H} {w : World} {base : Nat} {spare : Nat → Bool} {held : Bool}
theorem arg_puzzle {r : Reach} {b0 : Nat} {v : Value} {d : DataW H} {p : List MemPlace} (hv : Value.okWide Try.prog w r b0 42 v) (h : DataW.Trod enc Try.prog w base spare held 42 v d p) :
    ∃ g : PA, v = g.val ∧ g.Ok w := by
  obtain ⟨l, n, rfl, hl, hf⟩ := open_agg Try.underlying42 (by kernel_rfl) (by kernel_rfl) hv h
  obtain ⟨u0, y0, e0, t0⟩ := hf 0 _ rfl
  obtain ⟨u1, y1, e1, t1⟩ := hf 1 _ rfl
  obtain ⟨u2, y2, e2, t2⟩ := hf 2 _ rfl
  obtain ⟨n0, rfl, -, -⟩ := int_of_trod t0
  obtain ⟨s1, c1, -, hs1⟩ := DataW.trod_string Try.underlying9 t1
  simp only [List.cons.injEq, and_true] at c1
  subst c1
  obtain ⟨A2, c2, ls, rfl, b1, b2, b3⟩ := lists_of_trod t2
  unfold maxLen at *
  refine ⟨⟨A2, c2, ⟨n0, s1, ls⟩⟩, ?_, ⟨b1, by dsimp only; omega, by dsimp only; omega, fun i hi => by have := b3 i hi; dsimp only; omega⟩⟩
  have hl3 : l.length = 3 := hl
  match l, hl3 with
  | [x, y, z], _ =>
    simp only [List.getElem?_cons_zero, List.getElem?_cons_succ, Option.some.injEq] at e0 e1 e2
    subst e0 e1 e2
    rfl
end
end
section
open Go.RowKit Go.ChangeShapes Go.WideShapes Go.ChangeAt Go.Deep
set_option maxRecDepth 100000

/-- A job as a law gets it. -/
structure JA where
  A1 : Option Addr
  c1 : Nat
  A2 : Option Addr
  c2 : Nat
  A3 : Option Addr
  c3 : Nat
  t : Tb
  nx : Int
  lg : ByteArray
  sy : Int
def JA.val (g : JA) : Value := .agg #[.slice g.A1 g.t.trk.length g.c1, .slice g.A2 g.t.pats.length g.c2, .slice g.A3 g.t.dist.length g.c3, .int .i64 g.nx, .string g.lg, .int .i64 g.sy]
structure JA.Ok (w : World) (g : JA) : Prop where
  h1 : IntsAt w g.A1 g.t.trk
  h2 : LAt w g.A2 g.t.pats
  h3 : IntsAt w g.A3 g.t.dist
  m1 : g.t.trk.length ≤ 9223372036854775807
  m2 : g.t.pats.length ≤ 9223372036854775807
  m3 : ∀ i, i < g.t.pats.length → (g.t.pats.getD i []).length ≤ 9223372036854775807
  m4 : g.t.dist.length ≤ 9223372036854775807
  m5 : g.lg.size ≤ 9223372036854775807
  b1 : -9223372036854775808 ≤ g.nx ∧ g.nx ≤ 9223372036854775807
  b2 : -9223372036854775808 ≤ g.sy ∧ g.sy ≤ 9223372036854775807
theorem cellsTab : Try.prog.cellsOf 66 = 3 := by kernel_rfl
theorem cellsInt : Try.prog.cellsOf 2 = 1 := by kernel_rfl
theorem cellsStr : Try.prog.cellsOf 9 = 1 := by kernel_rfl
theorem cellsLists : Try.prog.cellsOf 27 = 1 := by kernel_rfl
theorem cellsJob : Try.prog.cellsOf 68 = 6 := by kernel_rfl
section
variable {H : Type} {enc : TypeId × Value → H} {w : World} {base : Nat} {spare : Nat → Bool} {held : Bool}
theorem tab_of_trod {fuel : Nat} {a b c : Value} {x : DataW H × List MemPlace} (h : DataW.trod enc Try.prog w base spare held fuel 66 [a, b, c] = some x) :
    ∃ A1 c1 A2 c2 A3 c3, ∃ t : Tb, a = .slice A1 t.trk.length c1 ∧ b = .slice A2 t.pats.length c2 ∧ c = .slice A3 t.dist.length c3 ∧ IntsAt w A1 t.trk ∧ LAt w A2 t.pats ∧ IntsAt w A3 t.dist ∧ t.trk.length ≤ maxLen ∧ t.pats.length ≤ maxLen ∧ (∀ i, i < t.pats.length → (t.pats.getD i []).length ≤ maxLen) ∧ t.dist.length ≤ maxLen := by
  obtain ⟨xs, n, _, _, _, hlen, hg⟩ := DataW.trod_struct Try.underlying66 h
  have hx : ∀ j, j < 3 → ∃ y, xs[j]? = some y := fun j hj => ⟨_, List.getElem?_eq_getElem (by have : xs.length = 3 := hlen; omega)⟩
  obtain ⟨y0, e0⟩ := hx 0 (by omega)
  obtain ⟨y1, e1⟩ := hx 1 (by omega)
  obtain ⟨y2, e2⟩ := hx 2 (by omega)
  have g0 : DataW.trod enc Try.prog w base spare held n 31 [a] = some y0 := by have := hg 0 _ rfl; simpa [cellsInts, e0] using this
  have g1 : DataW.trod enc Try.prog w base spare held n 27 [b] = some y1 := by have := hg 1 _ rfl; simpa [cellsLists, e1] using this
  have g2 : DataW.trod enc Try.prog w base spare held n 31 [c] = some y2 := by have := hg 2 _ rfl; simpa [cellsInts, e2] using this
  obtain ⟨A1, c1, xs, rfl, a1, -, a2, -⟩ := ints_of_trodC g0
  obtain ⟨A2, c2, ls, rfl, b1, b2, b3⟩ := lists_of_trod g1
  obtain ⟨A3, c3, ys, rfl, d1, -, d2, -⟩ := ints_of_trodC g2
  exact ⟨A1, c1, A2, c2, A3, c3, ⟨xs, ls, ys⟩, rfl, rfl, rfl, a1, b1, d1, a2, b2, b3, d2⟩
theorem arg_job {r : Reach} {b0 : Nat} {v : Value} {d : DataW H} {p : List MemPlace} (hv : Value.okWide Try.prog w r b0 68 v) (h : DataW.Trod enc Try.prog w base spare held 68 v d p) :
    ∃ g : JA, v = g.val ∧ g.Ok w := by
  obtain ⟨⟨l⟩, rfl, hsz⟩ := okWide_struct Try.underlying68 hv
  obtain ⟨fuel, hf⟩ := h
  obtain ⟨xs, n, _, _, _, hlen, hg⟩ := DataW.trod_struct Try.underlying68 hf
  have hl6 : l.length = 6 := by simpa [cellsJob] using hsz
  match l, hl6 with
  | [a, b, c, d', e, f], _ =>
    have hx : ∀ j, j < 4 → ∃ y, xs[j]? = some y := fun j hj => ⟨_, List.getElem?_eq_getElem (by have : xs.length = 4 := hlen; omega)⟩
    obtain ⟨y0, e0⟩ := hx 0 (by omega)
    obtain ⟨y1, e1⟩ := hx 1 (by omega)
    obtain ⟨y2, e2⟩ := hx 2 (by omega)
    obtain ⟨y3, e3⟩ := hx 3 (by omega)
    have g0 : DataW.trod enc Try.prog w base spare held n 66 [a, b, c] = some y0 := by have := hg 0 _ rfl; simpa [Value.cells, cellsTab, e0] using this
    have g1 : DataW.trod enc Try.prog w base spare held n 2 [d'] = some y1 := by have := hg 1 _ rfl; simpa [Value.cells, cellsInt, e1] using this
    have g2 : DataW.trod enc Try.prog w base spare held n 9 [e] = some y2 := by have := hg 2 _ rfl; simpa [Value.cells, cellsStr, e2] using this
    have g3 : DataW.trod enc Try.prog w base spare held n 2 [f] = some y3 := by have := hg 3 _ rfl; simpa [Value.cells, cellsInt, e3] using this
    obtain ⟨A1, c1, A2, c2, A3, c3, t, rfl, rfl, rfl, h1, h2, h3, m1, m2, m3, m4⟩ := tab_of_trod g0
    obtain ⟨nx, rfl, n1, n2⟩ := int_of_trod g1
    obtain ⟨s1, q1, -, hs1⟩ := DataW.trod_string Try.underlying9 g2
    simp only [List.cons.injEq, and_true] at q1
    subst q1
    obtain ⟨sy, rfl, n3, n4⟩ := int_of_trod g3
    unfold maxLen at *
    exact ⟨⟨A1, c1, A2, c2, A3, c3, t, nx, s1, sy⟩, rfl, ⟨h1, h2, h3, by dsimp only; omega, by dsimp only; omega, fun i hi => by have := m3 i hi; dsimp only; omega, by dsimp only; omega, by dsimp only; omega, ⟨by dsimp only; omega, by dsimp only; omega⟩, ⟨by dsimp only; omega, by dsimp only; omega⟩⟩⟩
end
open Grp
def SzJb (t : Tb) (lg : ByteArray) (w : World) (e : Ending) (w' : World) : Prop := ∃ q : Int, e = .returned (.int .i64 q) ∧ (0 ≤ q → ShortT t ∧ lg.size ≤ 1048576) ∧ Below w.heap.size w w'
set_option maxHeartbeats 1000000 in
theorem szJob (A1 A2 A3 : Option Addr) (c1 c2 c3 : Nat) (t : Tb) (nx : Int) (lg : ByteArray) (sy left : Int) (w : World) (h2 : LAt w A2 t.pats) (m1 : t.trk.length ≤ 9223372036854775807) (m2 : t.pats.length ≤ 9223372036854775807) (m3 : ∀ i, i < t.pats.length → (t.pats.getD i []).length ≤ 9223372036854775807) (m4 : t.dist.length ≤ 9223372036854775807) (m5 : lg.size ≤ 9223372036854775807) (l0 : 0 ≤ left) (l1 : left ≤ 1048576) :
    Calls Try.prog 41 #[jobV A1 A2 A3 c1 c2 c3 t nx lg sy, .int .i64 left] w (SzJb t lg w) := by
  unfold jobV
  obtain ⟨w0, hw0⟩ : ∃ w0, w.alloc (.cells #[.slice A1 t.trk.length c1, .slice A2 t.pats.length c2, .slice A3 t.dist.length c3, .int .i64 nx, .string lg, .int .i64 sy] 68) = w0 := ⟨_, rfl⟩
  have hb0 : Below w.heap.size w w0 := by rw [← hw0]; exact (by repeat (first | exact Below.refl _ _ | assumption | refine Below.setCell ?_ (by first | omega | (simp <;> omega)) _ | refine Below.alloc ?_ (by first | omega | (simp <;> omega)) _ | refine Below.drew ?_))
  have R0 : Hid (w0.heap[w.heap.size]? = some (.cells #[.slice A1 t.trk.length c1, .slice A2 t.pats.length c2, .slice A3 t.dist.length c3, .int .i64 nx, .string lg, .int .i64 sy] 68 (0, 0))) := by rw [← hw0]; exact heap_alloc_new _ _
  have HC := Lib.hid (szTab A1 A2 A3 c1 c2 c3 t left w0 (h2.below hb0) m1 m2 m3 m4 l0 l1)
  obtain ⟨p0, p1, p2, p3, p4, p5, -, -⟩ := row6 R0.out
  have HB0 := Lib.hid hb0
  clear h2 m1 m2 m3 m4 hb0
  go_enter Try.func41, Try.ntmps41
  go_wp2_with fail
  clear hw0
  refine HC.out.mono ?_
  rintro e w1 ⟨q, rfl, hq, hq2, hb1⟩
  have HQ := Lib.hid hq
  have HQ2 := Lib.hid hq2
  have HB1 := Lib.hid (belowStep hb1 HB0.out)
  have r1 := rowB hb1 R0.out
  clear hq hq2 hb1 p0 p1 p2 p3 p4 p5
  obtain ⟨p0, p1, p2, p3, p4, p5, -, -⟩ := row6 r1
  by_cases n1 : q < 0
  · go_wp2_with fail
    go_ret
    exact ⟨-1, rfl, fun h => by omega, HB1.out⟩
  · have hq3 := HQ2.out (by omega)
    have hwq : IntKind.i64.wrap (q - (lg.size : Int)) = q - (lg.size : Int) := IntWalk.i64_in _ (by omega)
    obtain ⟨q2, hq2⟩ : ∃ q2, q - (lg.size : Int) = q2 := ⟨_, rfl⟩
    rw [hq2] at hwq
    have HQ3 := Lib.hid hq2
    by_cases n2 : q2 < 0
    · go_wp2_with fail
      go_ret
      exact ⟨-1, rfl, fun h => by omega, HB1.out⟩
    · go_wp2_with fail
      go_ret
      exact ⟨q2, rfl, fun h => ⟨HQ.out (by omega), by have := HQ3.out; omega⟩, HB1.out⟩
def ToJb (t : Tb) (nx : Int) (lg : ByteArray) (sy : Int) (w : World) (e : Ending) (w' : World) : Prop := ∃ A1 c1 A2 c2 A3 c3, e = .returned (jobV A1 A2 A3 c1 c2 c3 t nx lg sy) ∧ IntsAt w' A1 t.trk ∧ LAt w' A2 t.pats ∧ IntsAt w' A3 t.dist ∧ FTab w.heap.size w'.heap.size w' (.agg #[.slice A1 t.trk.length c1, .slice A2 t.pats.length c2, .slice A3 t.dist.length c3]) t ∧ Below w.heap.size w w'
set_option maxHeartbeats 4000000 in
theorem toJob (A1 A2 A3 : Option Addr) (c1 c2 c3 : Nat) (t : Tb) (nx : Int) (lg : ByteArray) (sy : Int) (w : World) (h1 : IntsAt w A1 t.trk) (h2 : LAt w A2 t.pats) (h3 : IntsAt w A3 t.dist) (hs : ShortT t) :
    Calls Try.prog 42 #[jobV A1 A2 A3 c1 c2 c3 t nx lg sy] w (ToJb t nx lg sy w) := by
  unfold jobV
  obtain ⟨w0, hw0⟩ : ∃ w0, ((w.alloc (.cells #[.slice A1 t.trk.length c1, .slice A2 t.pats.length c2, .slice A3 t.dist.length c3, .int .i64 nx, .string lg, .int .i64 sy] 68)).alloc (.cells #[.slice none 0 0, .slice none 0 0, .slice none 0 0, .int .i64 0, .string ⟨#[]⟩, .int .i64 0] 45)).alloc (.cells #[.slice none 0 0, .slice none 0 0, .slice none 0 0, .int .i64 0, .string ⟨#[]⟩, .int .i64 0] 45) = w0 := ⟨_, rfl⟩
  have hb0 : Below w.heap.size w w0 := by rw [← hw0]; exact (by repeat (first | exact Below.refl _ _ | assumption | refine Below.setCell ?_ (by first | omega | (simp <;> omega)) _ | refine Below.alloc ?_ (by first | omega | (simp <;> omega)) _ | refine Below.drew ?_))
  have hz0 : w0.heap.size = w.heap.size + 3 := by rw [← hw0]; simp
  have R0 : Hid (w0.heap[w.heap.size]? = some (.cells #[.slice A1 t.trk.length c1, .slice A2 t.pats.length c2, .slice A3 t.dist.length c3, .int .i64 nx, .string lg, .int .i64 sy] 68 (0, 0))) := by rw [← hw0]; exact alloc3_0 _ _ _ _
  have R1 : Hid (w0.heap[w.heap.size + 1]? = some (.cells #[.slice none 0 0, .slice none 0 0, .slice none 0 0, .int .i64 0, .string ⟨#[]⟩, .int .i64 0] 45 (0, 0))) := by rw [← hw0]; exact alloc3_1 _ _ _ _
  have R2 : Hid (w0.heap[w.heap.size + 1 + 1]? = some (.cells #[.slice none 0 0, .slice none 0 0, .slice none 0 0, .int .i64 0, .string ⟨#[]⟩, .int .i64 0] 45 (0, 0))) := by
    rw [← hw0]
    have := heap_alloc_new ((w.alloc (.cells #[.slice A1 t.trk.length c1, .slice A2 t.pats.length c2, .slice A3 t.dist.length c3, .int .i64 nx, .string lg, .int .i64 sy] 68)).alloc (.cells #[.slice none 0 0, .slice none 0 0, .slice none 0 0, .int .i64 0, .string ⟨#[]⟩, .int .i64 0] 45)) (.cells #[.slice none 0 0, .slice none 0 0, .slice none 0 0, .int .i64 0, .string ⟨#[]⟩, .int .i64 0] 45)
    unfold Hid
    simpa using this
  have HW0 := Lib.hid hw0
  have HB0 := Lib.hid hb0
  have HZ0 := Lib.hid hz0
  have HC := Lib.hid (toTab A1 A2 A3 c1 c2 c3 t w0 (h1.below hb0) (h2.below hb0) (h3.below hb0) hs)
  clear h1 h2 h3 hs hw0 hb0 hz0
  obtain ⟨n1, hn1⟩ : ∃ n1, t.trk.length = n1 := ⟨_, rfl⟩
  obtain ⟨n2, hn2⟩ : ∃ n2, t.pats.length = n2 := ⟨_, rfl⟩
  obtain ⟨n3, hn3⟩ : ∃ n3, t.dist.length = n3 := ⟨_, rfl⟩
  rw [hn1, hn2, hn3] at R0 HC HW0
  rw [hn1, hn2, hn3]
  have HN1 := Lib.hid hn1
  have HN2 := Lib.hid hn2
  have HN3 := Lib.hid hn3
  clear hn1 hn2 hn3
  go_enter Try.func42, Try.ntmps42
  go_wp2_with fail
  rw [HW0.out]
  refine HC.out.mono ?_
  rintro e w1 ⟨v, rfl, -, ⟨v1, v2, v3, m1, m2, rfl, f1, b1, f2, f3, b3, o1, o2, o3⟩, hb1⟩
  obtain ⟨B1, d1, -, rfl, -⟩ := f1.capped
  obtain ⟨B2, d2, rfl⟩ := f2.shape
  obtain ⟨B3, d3, -, rfl, -⟩ := f3.capped
  rw [HN1.out] at f1 b1 ⊢
  rw [HN2.out] at f2 ⊢
  rw [HN3.out] at f3 b3 ⊢
  have r0 := rowB hb1 R0.out
  have r1 := rowB hb1 R1.out
  have r2 := rowB hb1 R2.out
  obtain ⟨p0, p1, p2, p3, p4, p5, -, -⟩ := row6 r0
  obtain ⟨q0, q1, q2, q3, q4, q5, qF, ql⟩ := row6 r1
  obtain ⟨t0, t1, t2, t3, t4, t5, tF, tl⟩ := row6 r2
  have RR1 := Lib.hid r1
  have RR2 := Lib.hid r2
  have HB1 := Lib.hid (belowStep hb1 HB0.out)
  have F1 := Lib.hid f1
  have F2 := Lib.hid f2
  have F3 := Lib.hid f3
  have hz1 := hb1.size
  have HBB1 := Lib.hid b1
  have HBB3 := Lib.hid b3
  clear f1 f2 f3 b1 b3 hb1 r0 r1 r2 HC
  go_wp2_with fail
  obtain ⟨w2, hw2⟩ : ∃ w2, (((((w1.setCell ⟨w.heap.size + 1 + 1, 0, none⟩ (.slice B1 n1 d1)).setCell ⟨w.heap.size + 1 + 1, 1, none⟩ (.slice B2 n2 d2)).setCell ⟨w.heap.size + 1 + 1, 2, none⟩ (.slice B3 n3 d3)).setCell ⟨w.heap.size + 1 + 1, 3, none⟩ (.int .i64 nx)).setCell ⟨w.heap.size + 1 + 1, 4, none⟩ (.string lg)).setCell ⟨w.heap.size + 1 + 1, 5, none⟩ (.int .i64 sy) = w2 := ⟨_, rfl⟩
  have hg2 : w1.grownBy w2 (some (w.heap.size + 1 + 1)) := by rw [← hw2]; exact grown6 _ _ _ _ _ _ _ _
  have hR2 := rowR hg2 RR1.out (fun e => by injection e with e; omega)
  obtain ⟨y0, y1, y2, y3, y4, y5, -, -⟩ := row6 (row6S hR2 (.slice B1 n1 d1) (.slice B2 n2 d2) (.slice B3 n3 d3) (.int .i64 nx) (.string lg) (.int .i64 sy))
  have hg3 := grown6 w2 (w.heap.size + 1) (.slice B1 n1 d1) (.slice B2 n2 d2) (.slice B3 n3 d3) (.int .i64 nx) (.string lg) (.int .i64 sy)
  have hon : OnlyIn (w.heap.size + 1) (w.heap.size + 3) w1 _ := ((OnlyIn.refl _ _ _).grown hg2 (fun b e => by injection e with e; omega)).grown hg3 (fun b e => by injection e with e; omega)
  have hzw := HZ0.out
  subst hw2
  refine bodyPost_ret (v := .agg #[.slice B1 n1 d1, .slice B2 n2 d2, .slice B3 n3 d3, .int .i64 nx, .string lg, .int .i64 sy]) (by simp [results, Try.results42, go_sem, y0, y1, y2, y3, y4, y5]) rfl ?_
  have g1 := F1.out.onlyHi hon (by omega)
  have g2 := F2.out.onlyHi hon (by omega)
  have g3 := F3.out.onlyHi hon (by omega)
  refine ⟨B1, d1, B2, d2, B3, d3, by unfold jobV; rw [HN1.out, HN2.out, HN3.out], g1.intsAt, g2.lat, g3.intsAt, ?_, hon.below HB1.out (by omega) HB1.out.size⟩
  refine ⟨_, _, _, m1, m2, rfl, ?_, ?_, ?_, ?_, ?_, by omega, o2, ?_⟩
  · rw [HN1.out]; exact g1.mono (by omega)
  · rw [HN1.out]; exact HBB1.out
  · rw [HN2.out]; exact g2
  · rw [HN3.out]; exact g3
  · rw [HN3.out]; exact fun b hb => Nat.lt_of_lt_of_le (HBB3.out b hb) hon.size
  · exact Nat.le_trans o3 hon.size
end
end Go.Proofs.Ytfhdnanbhigpmaa
