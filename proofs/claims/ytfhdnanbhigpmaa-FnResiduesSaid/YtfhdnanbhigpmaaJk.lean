/- What the law files do with puzzles and jobs. Conditions: as each contract says. New jobs at both packages in one shape. Conditions: as each contract says. -/
import Derived.Test.YtfhdnanbhigpmaaJs
import Derived.Test.YtfhdnanbhigpmaaMt
import Derived.Test.YtfhdnanbhigpmaaTb
namespace Go.Proofs.Ytfhdnanbhigpmaa
section
open Go.RowKit Grp

def SzPz (p : Pz) (w : World) (e : Ending) (w' : World) : Prop := ∃ q : Int, e = .returned (.int .i64 q) ∧ (0 ≤ q → p.names.size ≤ 1048576 ∧ p.moves.length ≤ 1048576 ∧ ShortL p.moves) ∧ (0 ≤ q → q ≤ 1048576) ∧ Below w.heap.size w w'
set_option maxRecDepth 100000 in
set_option maxHeartbeats 1000000 in
theorem szPz (A : Option Addr) (c : Nat) (p : Pz) (left : Int) (w : World) (hx : LAt w A p.moves) (m1 : p.names.size ≤ 9223372036854775807) (m2 : p.moves.length ≤ 9223372036854775807) (m3 : ∀ i, i < p.moves.length → (p.moves.getD i []).length ≤ 9223372036854775807) (l0 : 0 ≤ left) (l1 : left ≤ 1048576) :
    Calls Try.prog 18 #[.agg #[.int .i64 p.pts, .string p.names, .slice A p.moves.length c], .int .i64 left] w (SzPz p w) := by
  have HX := Lib.hid hx
  have M3 := Lib.hid m3
  clear hx m3
  have hw1 : IntKind.i64.wrap (left - (p.names.size : Int)) = left - (p.names.size : Int) := IntWalk.i64_in _ (by omega)
  obtain ⟨q1, hq1⟩ : ∃ q1, left - (p.names.size : Int) = q1 := ⟨_, rfl⟩
  rw [hq1] at hw1
  have HQ1 := Lib.hid hq1
  by_cases n1 : q1 < 0
  · go_enter Try.func18, Try.ntmps18
    go_wp2_with fail
    go_ret
    exact ⟨-1, rfl, fun h => by omega, fun h => by omega, (by repeat (first | exact Below.refl _ _ | assumption | refine Below.setCell ?_ (by first | omega | (simp <;> omega)) _ | refine Below.alloc ?_ (by first | omega | (simp <;> omega)) _ | refine Below.drew ?_))⟩
  · go_enter Try.func18, Try.ntmps18
    go_wp2_with fail
    refine (szLists A c p.moves q1 _ (by exact HX.out.below (by repeat (first | exact Below.refl _ _ | assumption | refine Below.setCell ?_ (by first | omega | (simp <;> omega)) _ | refine Below.alloc ?_ (by first | omega | (simp <;> omega)) _ | refine Below.drew ?_))) m2 M3.out (by omega) (by have := HQ1.out; omega)).mono ?_
    rintro e w2 ⟨q2, rfl, hs, hs2, rfl⟩
    have HS := Lib.hid hs
    clear hs
    by_cases n2 : q2 < 0
    · go_wp2_with fail
      go_ret
      exact ⟨-1, rfl, fun h => by omega, fun h => by omega, (by repeat (first | exact Below.refl _ _ | assumption | refine Below.setCell ?_ (by first | omega | (simp <;> omega)) _ | refine Below.alloc ?_ (by first | omega | (simp <;> omega)) _ | refine Below.drew ?_))⟩
    · have hq2 := hs2 (by omega)
      go_wp2_with fail
      go_ret
      exact ⟨q2, rfl, fun h => ⟨by have := HQ1.out; omega, (HS.out h).1, (HS.out h).2⟩, fun _ => hq2, (by repeat (first | exact Below.refl _ _ | assumption | refine Below.setCell ?_ (by first | omega | (simp <;> omega)) _ | refine Below.alloc ?_ (by first | omega | (simp <;> omega)) _ | refine Below.drew ?_))⟩
def ToPz (p : Pz) (w : World) (e : Ending) (w' : World) : Prop := ∃ g, e = .returned (.agg #[.int .i64 p.pts, .string p.names, .slice (some ⟨g, 0, none⟩) p.moves.length p.moves.length]) ∧ FLs w.heap.size w'.heap.size w' (.slice (some ⟨g, 0, none⟩) p.moves.length p.moves.length) p.moves ∧ Below w.heap.size w w'
set_option maxRecDepth 100000 in
set_option maxHeartbeats 4000000 in
theorem toPz (A : Option Addr) (c : Nat) (p : Pz) (w : World) (hx : LAt w A p.moves) (hl : p.moves.length ≤ 1048576) (hs : ShortL p.moves) :
    Calls Try.prog 20 #[.agg #[.int .i64 p.pts, .string p.names, .slice A p.moves.length c]] w (ToPz p w) := by
  have HX := Lib.hid hx
  have HS := Lib.hid hs
  clear hx hs
  obtain ⟨w0, hw0⟩ : ∃ w0, ((w.alloc (.cells #[.int .i64 p.pts, .string p.names, .slice A p.moves.length c] 42)).alloc (.cells #[.int .i64 0, .string ⟨#[]⟩, .slice none 0 0] 29)).alloc (.cells #[.int .i64 p.pts, .string p.names, .slice none 0 0] 29) = w0 := ⟨_, rfl⟩
  have hb0 : Below w.heap.size w w0 := by rw [← hw0]; exact (by repeat (first | exact Below.refl _ _ | assumption | refine Below.setCell ?_ (by first | omega | (simp <;> omega)) _ | refine Below.alloc ?_ (by first | omega | (simp <;> omega)) _ | refine Below.drew ?_))
  have hz0 : w0.heap.size = w.heap.size + 3 := by rw [← hw0]; simp
  have R0 : Hid (w0.heap[w.heap.size]? = some (.cells #[.int .i64 p.pts, .string p.names, .slice A p.moves.length c] 42 (0, 0))) := by rw [← hw0]; exact alloc3_0 _ _ _ _
  have R1 : Hid (w0.heap[w.heap.size + 1]? = some (.cells #[.int .i64 0, .string ⟨#[]⟩, .slice none 0 0] 29 (0, 0))) := by rw [← hw0]; exact alloc3_1 _ _ _ _
  have R2 : Hid (w0.heap[w.heap.size + 1 + 1]? = some (.cells #[.int .i64 p.pts, .string p.names, .slice none 0 0] 29 (0, 0))) := by
    rw [← hw0]
    have := heap_alloc_new ((w.alloc (.cells #[.int .i64 p.pts, .string p.names, .slice A p.moves.length c] 42)).alloc (.cells #[.int .i64 0, .string ⟨#[]⟩, .slice none 0 0] 29)) (.cells #[.int .i64 p.pts, .string p.names, .slice none 0 0] 29)
    unfold Hid
    simpa using this
  have HW0 := Lib.hid hw0
  have HB0 := Lib.hid hb0
  clear hw0 hb0
  go_enter Try.func20, Try.ntmps20
  go_wp2_with fail
  rw [HW0.out]
  refine (toListsB A c p.moves w0 (HX.out.below HB0.out) hl HS.out).mono ?_
  rintro e w1 ⟨g, rfl, -, hF1, hb1⟩
  have HF1 := Lib.hid hF1
  have r1 := rowB hb1 R1.out
  have r2 := rowB hb1 R2.out
  have HB1 := Lib.hid (belowStep hb1 HB0.out)
  have hz1 := hb1.size
  obtain ⟨a0, a1, a2, af, -⟩ := row3 r1
  obtain ⟨b0, b1, b2, bf, -⟩ := row3 r2
  have RR1 := Lib.hid r1
  have RR2 := Lib.hid r2
  clear hF1 hb1 r1 r2
  go_wp2_with fail
  have hon : OnlyIn (w.heap.size + 1) (w.heap.size + 3) w1 ((((w1.setCell ⟨w.heap.size + 1 + 1, 2, none⟩ (.slice (some ⟨g, 0, none⟩) p.moves.length p.moves.length)).setCell ⟨w.heap.size + 1, 0, none⟩ (.int .i64 p.pts)).setCell ⟨w.heap.size + 1, 1, none⟩ (.string p.names)).setCell ⟨w.heap.size + 1, 2, none⟩ (.slice (some ⟨g, 0, none⟩) p.moves.length p.moves.length)) :=
    ((((OnlyIn.refl _ _ _).grown (setGrown _ (w.heap.size + 1 + 1) 2 _) (fun b e => by injection e with e; omega)).grown (setGrown _ (w.heap.size + 1) 0 _) (fun b e => by injection e with e; omega)).grown (setGrown _ (w.heap.size + 1) 1 _) (fun b e => by injection e with e; omega)).grown (setGrown _ (w.heap.size + 1) 2 _) (fun b e => by injection e with e; omega)
  have r3 := rowS (a := ⟨w.heap.size + 1 + 1, 2, none⟩) (v := .slice (some ⟨g, 0, none⟩) p.moves.length p.moves.length) RR1.out (by simp)
  obtain ⟨y0, y1, y2, -, -⟩ := row3 (row3S r3 (.int .i64 p.pts) (.string p.names) (.slice (some ⟨g, 0, none⟩) p.moves.length p.moves.length))
  refine bodyPost_ret (v := .agg #[.int .i64 p.pts, .string p.names, .slice (some ⟨g, 0, none⟩) p.moves.length p.moves.length]) (by simp [results, Try.results20, go_sem, y0, y1, y2]) rfl ?_
  exact ⟨g, rfl, (HF1.out.onlyHi hon (by omega)).weak (by omega) (by simp), hon.below HB1.out (by omega) HB1.out.size⟩
set_option maxRecDepth 100000 in
set_option maxHeartbeats 4000000 in
theorem eqPz (A1 A2 : Option Addr) (c1 c2 : Nat) (p : Pz) (w : World) (h1 : LAt w A1 p.moves) (h2 : LAt w A2 p.moves) (hl : p.moves.length ≤ 1048576) (hs : ShortL p.moves) :
    Calls Try.prog 24 #[.agg #[.int .i64 p.pts, .string p.names, .slice A1 p.moves.length c1], .agg #[.int .i64 p.pts, .string p.names, .slice A2 p.moves.length c2]] w (ReadsBool true w) := by
  have H1 := Lib.hid h1
  have H2 := Lib.hid h2
  have HS := Lib.hid hs
  clear h1 h2 hs
  go_enter Try.func24, Try.ntmps24
  go_wp2_with fail
  refine (eqLists A1 A2 c1 c2 p.moves _ (by exact H1.out.below (by exact (by repeat (first | exact Below.refl _ _ | assumption | refine Below.setCell ?_ (by first | omega | (simp <;> omega)) _ | refine Below.alloc ?_ (by first | omega | (simp <;> omega)) _ | refine Below.drew ?_)))) (by exact H2.out.below (by exact (by repeat (first | exact Below.refl _ _ | assumption | refine Below.setCell ?_ (by first | omega | (simp <;> omega)) _ | refine Below.alloc ?_ (by first | omega | (simp <;> omega)) _ | refine Below.drew ?_)))) hl HS.out).mono ?_
  rintro e w1 ⟨rfl, hb1⟩
  have hB1 : Below w.heap.size w w1 := belowStep hb1 (by exact (by repeat (first | exact Below.refl _ _ | assumption | refine Below.setCell ?_ (by first | omega | (simp <;> omega)) _ | refine Below.alloc ?_ (by first | omega | (simp <;> omega)) _ | refine Below.drew ?_)))
  go_wp2_with fail
  go_ret
  exact ⟨rfl, hB1⟩
set_option maxRecDepth 100000 in
set_option maxHeartbeats 4000000 in
theorem markPz (lo hi : Nat) (A : Option Addr) (c : Nat) (p : Pz) (k0 : Int) (w : World) (hf : FLs lo hi w (.slice A p.moves.length c) p.moves) (hl : p.moves.length ≤ 1048576) (hs : ShortL p.moves) (h0 : 0 ≤ k0) (h1 : k0 ≤ 1048576) :
    Calls Try.prog 26 #[.agg #[.int .i64 p.pts, .string p.names, .slice A p.moves.length c], .int .i64 k0] w fun e w' => e = .returned (.int .i64 (k0 + totTo p.moves p.moves.length)) ∧ OnlyIn lo hi w w' := by
  have HF := Lib.hid hf
  have HS := Lib.hid hs
  clear hf hs
  go_enter Try.func26, Try.ntmps26
  go_wp2_with fail
  have hb : Below w.heap.size w (w.alloc (.cells #[.int .i64 p.pts, .string p.names, .slice A p.moves.length c] 29)) := (by repeat (first | exact Below.refl _ _ | assumption | refine Below.setCell ?_ (by first | omega | (simp <;> omega)) _ | refine Below.alloc ?_ (by first | omega | (simp <;> omega)) _ | refine Below.drew ?_))
  refine (markLists lo hi A c p.moves k0 _ (HF.out.below hb) hl HS.out h0 h1).mono ?_
  rintro e w1 ⟨rfl, ho, -, -⟩
  have HO : Hid (OnlyIn lo hi w w1) := OnlyIn.trans ⟨hb.os, hb.tape, hb.output, hb.size, fun k hk _ => hb.block k hk⟩ ho
  go_wp2_with fail
  go_ret
  exact ⟨rfl, HO.out⟩
/-- A job's value. -/
def jobV (A1 A2 A3 : Option Addr) (c1 c2 c3 : Nat) (t : Tb) (nx : Int) (lg : ByteArray) (sy : Int) : Value := .agg #[.slice A1 t.trk.length c1, .slice A2 t.pats.length c2, .slice A3 t.dist.length c3, .int .i64 nx, .string lg, .int .i64 sy]
set_option maxRecDepth 100000 in
set_option maxHeartbeats 4000000 in
theorem eqJob (A1 A2 A3 B1 B2 B3 : Option Addr) (c1 c2 c3 d1 d2 d3 : Nat) (t : Tb) (nx : Int) (lg : ByteArray) (sy : Int) (w : World) (h1 : IntsAt w A1 t.trk) (h2 : LAt w A2 t.pats) (h3 : IntsAt w A3 t.dist) (g1 : IntsAt w B1 t.trk) (g2 : LAt w B2 t.pats) (g3 : IntsAt w B3 t.dist) (hs : ShortT t) :
    Calls Try.prog 23 #[jobV A1 A2 A3 c1 c2 c3 t nx lg sy, jobV B1 B2 B3 d1 d2 d3 t nx lg sy] w (ReadsBool true w) := by
  have H1 := Lib.hid h1
  have H2 := Lib.hid h2
  have H3 := Lib.hid h3
  have G1 := Lib.hid g1
  have G2 := Lib.hid g2
  have G3 := Lib.hid g3
  have HS := Lib.hid hs
  clear h1 h2 h3 g1 g2 g3 hs
  obtain ⟨n1, hn1⟩ : ∃ n1, t.trk.length = n1 := ⟨_, rfl⟩
  obtain ⟨n2, hn2⟩ : ∃ n2, t.pats.length = n2 := ⟨_, rfl⟩
  obtain ⟨n3, hn3⟩ : ∃ n3, t.dist.length = n3 := ⟨_, rfl⟩
  have HQ := Lib.hid (fun wx k1 k2 k3 k4 k5 k6 => eqTab A1 A2 A3 B1 B2 B3 c1 c2 c3 d1 d2 d3 t wx k1 k2 k3 k4 k5 k6 HS.out)
  unfold jobV
  rw [hn1, hn2, hn3] at HQ ⊢
  clear hn1 hn2 hn3
  obtain ⟨w0, hw0⟩ : ∃ w0, (w.alloc (.cells #[.slice A1 n1 c1, .slice A2 n2 c2, .slice A3 n3 c3, .int .i64 nx, .string lg, .int .i64 sy] 45)).alloc (.cells #[.slice B1 n1 d1, .slice B2 n2 d2, .slice B3 n3 d3, .int .i64 nx, .string lg, .int .i64 sy] 45) = w0 := ⟨_, rfl⟩
  have hb0 : Below w.heap.size w w0 := by rw [← hw0]; exact (by repeat (first | exact Below.refl _ _ | assumption | refine Below.setCell ?_ (by first | omega | (simp <;> omega)) _ | refine Below.alloc ?_ (by first | omega | (simp <;> omega)) _ | refine Below.drew ?_))
  have R0 : Hid (w0.heap[w.heap.size]? = some (.cells #[.slice A1 n1 c1, .slice A2 n2 c2, .slice A3 n3 c3, .int .i64 nx, .string lg, .int .i64 sy] 45 (0, 0))) := by rw [← hw0]; exact alloc2_0 _ _ _
  have R1 : Hid (w0.heap[w.heap.size + 1]? = some (.cells #[.slice B1 n1 d1, .slice B2 n2 d2, .slice B3 n3 d3, .int .i64 nx, .string lg, .int .i64 sy] 45 (0, 0))) := by rw [← hw0]; exact alloc2_1 _ _ _
  obtain ⟨p0, p1, p2, -, -, -, -, -⟩ := row6 R0.out
  obtain ⟨q0, q1, q2, -, -, -, -, -⟩ := row6 R1.out
  go_enter Try.func23, Try.ntmps23
  go_wp2_with fail
  clear hw0
  refine (HQ.out _ (H1.out.below hb0) (H2.out.below hb0) (H3.out.below hb0) (G1.out.below hb0) (G2.out.below hb0) (G3.out.below hb0)).mono ?_
  rintro e w1 ⟨rfl, hb1⟩
  have hB1 := belowStep hb1 hb0
  have r0 := rowB hb1 R0.out
  have r1 := rowB hb1 R1.out
  clear p0 p1 p2 q0 q1 q2 hb1
  obtain ⟨-, -, -, p3, p4, p5, -, -⟩ := row6 r0
  obtain ⟨-, -, -, q3, q4, q5, -, -⟩ := row6 r1
  clear r0 r1
  go_wp2_with fail
  go_ret
  exact ⟨rfl, hB1⟩
set_option maxRecDepth 100000 in
set_option maxHeartbeats 4000000 in
theorem markJob (lo hi m1 m2 : Nat) (A1 A2 A3 : Option Addr) (c1 c2 c3 : Nat) (t : Tb) (nx : Int) (lg : ByteArray) (sy k0 : Int) (w : World) (hf : FTb lo hi w A1 c1 A2 c2 A3 c3 m1 m2 t) (hs : ShortT t) (h0 : 0 ≤ k0) (h1 : k0 + t.trk.length ≤ 1048576) (hw : hi ≤ w.heap.size) :
    Calls Try.prog 28 #[jobV A1 A2 A3 c1 c2 c3 t nx lg sy, .int .i64 k0] w fun e w' => e = .returned (.int .i64 (k0 + t.trk.length + totTo t.pats t.pats.length + t.dist.length)) ∧ FTb lo hi w' A1 c1 A2 c2 A3 c3 m1 m2 (mrkT k0 t) ∧ OnlyIn lo hi w w' := by
  obtain ⟨w0, hw0⟩ : ∃ w0, w.alloc (.cells #[.slice A1 t.trk.length c1, .slice A2 t.pats.length c2, .slice A3 t.dist.length c3, .int .i64 nx, .string lg, .int .i64 sy] 45) = w0 := ⟨_, rfl⟩
  have hb0 : Below w.heap.size w w0 := by rw [← hw0]; exact (by repeat (first | exact Below.refl _ _ | assumption | refine Below.setCell ?_ (by first | omega | (simp <;> omega)) _ | refine Below.alloc ?_ (by first | omega | (simp <;> omega)) _ | refine Below.drew ?_))
  have R0 : Hid (w0.heap[w.heap.size]? = some (.cells #[.slice A1 t.trk.length c1, .slice A2 t.pats.length c2, .slice A3 t.dist.length c3, .int .i64 nx, .string lg, .int .i64 sy] 45 (0, 0))) := by rw [← hw0]; exact heap_alloc_new _ _
  have hf0 : FTb lo hi w0 A1 c1 A2 c2 A3 c3 m1 m2 t := ⟨hf.f1.below hb0, hf.b1, hf.f2.below hb0, hf.b2, hf.f3.below hb0, hf.b3, hf.o1, hf.o2, hf.o3⟩
  have HM := Lib.hid (markTab lo hi m1 m2 A1 A2 A3 c1 c2 c3 t k0 w0 hf0 hs h0 h1 (by have := hb0.size; omega))
  have HB0 := Lib.hid hb0
  obtain ⟨p0, p1, p2, -, -, -, -, -⟩ := row6 R0.out
  clear hf hf0 hb0
  unfold jobV
  obtain ⟨n1, hn1⟩ : ∃ n1, t.trk.length = n1 := ⟨_, rfl⟩
  obtain ⟨n2, hn2⟩ : ∃ n2, t.pats.length = n2 := ⟨_, rfl⟩
  obtain ⟨n3, hn3⟩ : ∃ n3, t.dist.length = n3 := ⟨_, rfl⟩
  obtain ⟨tt, htt⟩ : ∃ tt : Int, k0 + (t.trk.length : Int) + (totTo t.pats t.pats.length : Int) + (t.dist.length : Int) = tt := ⟨_, rfl⟩
  rw [htt] at HM ⊢
  simp only [hn1, hn2, hn3] at HM hw0 p0 p1 p2 ⊢
  clear hn1 hn2 hn3 htt
  go_enter Try.func28, Try.ntmps28
  go_wp2_with fail
  clear hw0
  refine HM.out.mono ?_
  rintro e w1 ⟨rfl, hF1, ho⟩
  have HF1 := Lib.hid hF1
  have HO : Hid (OnlyIn lo hi w w1) := OnlyIn.trans ⟨HB0.out.os, HB0.out.tape, HB0.out.output, HB0.out.size, fun k hk _ => HB0.out.block k hk⟩ ho
  clear hF1 ho
  go_wp2_with fail
  go_ret
  exact ⟨rfl, HF1.out, HO.out⟩
set_option maxRecDepth 100000 in
set_option maxHeartbeats 4000000 in
theorem heldJob (A1 A2 A3 : Option Addr) (c1 c2 c3 : Nat) (t : Tb) (nx : Int) (lg : ByteArray) (sy k0 : Int) (w : World) (hx : MrkAt w A1 A2 A3 t k0) (hs : ShortT t) (h0 : 0 ≤ k0) (h1 : k0 + t.trk.length ≤ 1048576) :
    Calls Try.prog 29 #[jobV A1 A2 A3 c1 c2 c3 t nx lg sy, .int .i64 k0] w fun e w' => e = .returned (.int .i64 (k0 + t.trk.length + totTo t.pats t.pats.length + t.dist.length)) ∧ Below w.heap.size w w' := by
  obtain ⟨w0, hw0⟩ : ∃ w0, w.alloc (.cells #[.slice A1 t.trk.length c1, .slice A2 t.pats.length c2, .slice A3 t.dist.length c3, .int .i64 nx, .string lg, .int .i64 sy] 45) = w0 := ⟨_, rfl⟩
  have hb0 : Below w.heap.size w w0 := by rw [← hw0]; exact (by repeat (first | exact Below.refl _ _ | assumption | refine Below.setCell ?_ (by first | omega | (simp <;> omega)) _ | refine Below.alloc ?_ (by first | omega | (simp <;> omega)) _ | refine Below.drew ?_))
  have R0 : Hid (w0.heap[w.heap.size]? = some (.cells #[.slice A1 t.trk.length c1, .slice A2 t.pats.length c2, .slice A3 t.dist.length c3, .int .i64 nx, .string lg, .int .i64 sy] 45 (0, 0))) := by rw [← hw0]; exact heap_alloc_new _ _
  have HM := Lib.hid (heldTab A1 A2 A3 c1 c2 c3 t k0 w0 ⟨hx.1.below hb0, hx.2.1.below hb0, hx.2.2.below hb0⟩ hs h0 h1)
  have HB0 := Lib.hid hb0
  obtain ⟨p0, p1, p2, -, -, -, -, -⟩ := row6 R0.out
  clear hx hb0
  unfold jobV
  obtain ⟨n1, hn1⟩ : ∃ n1, t.trk.length = n1 := ⟨_, rfl⟩
  obtain ⟨n2, hn2⟩ : ∃ n2, t.pats.length = n2 := ⟨_, rfl⟩
  obtain ⟨n3, hn3⟩ : ∃ n3, t.dist.length = n3 := ⟨_, rfl⟩
  obtain ⟨tt, htt⟩ : ∃ tt : Int, k0 + (t.trk.length : Int) + (totTo t.pats t.pats.length : Int) + (t.dist.length : Int) = tt := ⟨_, rfl⟩
  have htt0 : ¬ tt < 0 := by omega
  rw [htt] at HM ⊢
  simp only [hn1, hn2, hn3] at HM hw0 p0 p1 p2 ⊢
  clear hn1 hn2 hn3 htt
  go_enter Try.func29, Try.ntmps29
  go_wp2_with fail
  clear hw0
  refine HM.out.mono ?_
  rintro e w1 ⟨rfl, hb1⟩
  have hB1 := belowStep hb1 HB0.out
  go_wp2_with fail
  go_ret
  exact ⟨rfl, hB1⟩
end
section
open Go.RowKit Grp

noncomputable def newT (p : Pz) (trk : List Int) : Tb := if buildQ p trk = true then ⟨trk, [trk], [0]⟩ else ⟨[], [], []⟩
def SJob (t : Tb) (b : Bool) (w : World) (e : Ending) (w' : World) : Prop :=
  ∃ A1 c1 A2 c2 A3 c3, e = .returned (.tuple #[jobV A1 A2 A3 c1 c2 c3 t 0 ⟨#[]⟩ 0, .bool b]) ∧ IntsAt w' A1 t.trk ∧ LAt w' A2 t.pats ∧ IntsAt w' A3 t.dist ∧ Below w.heap.size w w'
def IJob (t : Tb) (b : Bool) (w : World) (e : Ending) (w' : World) : Prop :=
  ∃ A1 c1 A2 c2 A3 c3 lo m1 m2 hi, w.heap.size ≤ lo ∧ e = .returned (.tuple #[jobV A1 A2 A3 c1 c2 c3 t 0 ⟨#[]⟩ 0, .bool b]) ∧ FTb lo hi w' A1 c1 A2 c2 A3 c3 m1 m2 t ∧ hi ≤ w'.heap.size ∧ Below w.heap.size w w'
theorem newT_short {p : Pz} {trk : List Int} (h : trk.length ≤ 1048576) : ShortT (newT p trk) := by
  unfold newT
  split
  · refine ⟨h, by simp, fun i hi => ?_, by simp⟩
    obtain rfl : i = 0 := by simpa using hi
    exact h
  · exact ⟨by simp, by simp, fun i hi => by simp at hi, by simp⟩
theorem pt_up {m : Int} {xs : List Int} (h : PtTo m xs xs.length) : ∀ j, j < xs.length → (j : Int) ≤ xs.getD j 0 := by
  intro j
  induction j with
  | zero => intro hj; have := h 0 hj; omega
  | succ j ih =>
    intro hj
    have h1 := ih (by omega)
    have h2 := (h (j + 1) hj).2.2 (by omega)
    rw [Nat.add_sub_cancel] at h2
    omega
theorem newT_trk {p : Pz} {trk : List Int} : (newT p trk).trk.length ≤ 255 := by
  unfold newT
  split
  · rename_i h
    unfold buildQ trkQ at h
    rw [Bool.and_eq_true, Bool.and_eq_true] at h
    have hp := h.1.1
    obtain ⟨g1, g2⟩ := ptQ_iff.1 h.1.2
    have g3 := pt_up g2 (trk.length - 1) (by omega)
    have g4 := g2 (trk.length - 1) (by omega)
    have := pz_pts hp
    show trk.length ≤ 255
    omega
  · simp
theorem specJob (A : Option Addr) (c : Nat) (p : Pz) (A2 : Option Addr) (c2 : Nat) (trk : List Int) (w : World) (h : PzAt w A p) (hx : IntsAt w A2 trk) (hl : trk.length ≤ 1048576) :
    Calls Try.prog 19 #[.agg #[.int .i64 p.pts, .string p.names, .slice A p.moves.length c], .slice A2 trk.length c2] w (SJob (newT p trk) (buildQ p trk) w) := by
  refine (specStartFill A c p A2 c2 trk w h hx hl).mono ?_
  intro e w' h1
  unfold SpecJob at h1
  by_cases hq : buildQ p trk = true
  · rw [if_pos hq] at h1
    obtain ⟨B1, d1, B2, d2, B3, d3, rfl, i1, -, i2, -, i3, -, hb⟩ := h1
    unfold newT
    rw [if_pos hq, hq]
    exact ⟨B1, d1, B2, d2, B3, d3, rfl, i1.intsAt, GrAt.lat i2, i3.intsAt, hb⟩
  · rw [if_neg hq] at h1
    obtain ⟨rfl, hb⟩ := h1
    unfold newT
    rw [if_neg hq, (Bool.not_eq_true _).mp hq]
    exact ⟨none, 0, none, 0, none, 0, rfl, IntsAt.nil _ _, fun i hi => by simp at hi, IntsAt.nil _ _, hb⟩
theorem implJob (A : Option Addr) (c : Nat) (p : Pz) (A2 : Option Addr) (c2 : Nat) (trk : List Int) (w : World) (h : PzAt w A p) (hx : IntsAt w A2 trk) (hl : trk.length ≤ 1048576) :
    Calls Try.prog 22 #[.agg #[.int .i64 p.pts, .string p.names, .slice A p.moves.length c], .slice A2 trk.length c2] w (IJob (newT p trk) (buildQ p trk) w) := by
  refine (implStartFill A c p A2 c2 trk w h hx hl).mono ?_
  intro e w' h1
  by_cases hq : buildQ p trk = true
  · rw [if_pos hq] at h1
    obtain ⟨At, ct, Al, Ad, lo, m1, m2, hi, hlo, rfl, hF, hhi, hb⟩ := h1
    unfold newT
    rw [if_pos hq, hq]
    exact ⟨At, ct, Al, 1, Ad, 1, lo, m1, m2, hi, hlo, rfl, hF, hhi, hb⟩
  · rw [if_neg hq] at h1
    obtain ⟨rfl, hb⟩ := h1
    unfold newT
    rw [if_neg hq, (Bool.not_eq_true _).mp hq]
    have hz := hb.size
    have hL : FLs w.heap.size w.heap.size w' (.slice none 0 0) [] := ⟨none, 0, fun _ => .slice none 0 0, fun _ => w.heap.size, rfl, ⟨fun i hi => by simp at hi, fun i hi => by simp at hi, fun i hi => by simp at hi, fun i hi => by simp at hi⟩, Nat.le_refl _, Nat.le_refl _, fun g off s e => by cases e⟩
    have hF : FTb w.heap.size w.heap.size w' none 0 none 0 none 0 w.heap.size w.heap.size ⟨[], [], []⟩ := by
      refine ⟨Fresh.nil _ _, fun b hb => ?_, hL, fun g off s e => ?_, Fresh.nil _ _, fun b hb => ?_, Nat.le_refl _, Nat.le_refl _, Nat.le_refl _⟩
      · cases hb
      · cases e
      · cases hb
    exact ⟨none, 0, none, 0, none, 0, w.heap.size, w.heap.size, w.heap.size, w.heap.size, Nat.le_refl _, rfl, hF, hz, hb⟩
end
end Go.Proofs.Ytfhdnanbhigpmaa
