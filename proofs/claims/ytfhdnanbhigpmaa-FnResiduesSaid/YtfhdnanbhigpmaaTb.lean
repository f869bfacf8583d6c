/- Tables: the law file's equality; well-formed ones at both packages. Conditions: as each contract says. -/
import Derived.Test.YtfhdnanbhigpmaaTa
import Derived.Test.YtfhdnanbhigpmaaTk
namespace Go.Proofs.Ytfhdnanbhigpmaa
open Go.RowKit

theorem drewRow {w : World} {H : Nat} {o : Option Obj} (n : Nat) (h : w.heap[H]? = o) : (w.drewN n).heap[H]? = o := h
set_option maxRecDepth 100000 in
set_option maxHeartbeats 1000000 in
theorem eqTab (A1 A2 A3 B1 B2 B3 : Option Addr) (c1 c2 c3 d1 d2 d3 : Nat) (t : Tb) (w : World) (h1 : IntsAt w A1 t.trk) (h2 : LAt w A2 t.pats) (h3 : IntsAt w A3 t.dist) (g1 : IntsAt w B1 t.trk) (g2 : LAt w B2 t.pats) (g3 : IntsAt w B3 t.dist) (hs : ShortT t) :
    Calls Try.prog 59 #[.agg #[.slice A1 t.trk.length c1, .slice A2 t.pats.length c2, .slice A3 t.dist.length c3], .agg #[.slice B1 t.trk.length d1, .slice B2 t.pats.length d2, .slice B3 t.dist.length d3]] w (ReadsBool true w) := by
  obtain ⟨xs, ls, ys⟩ := t
  obtain ⟨s1, s2, s3, s4⟩ := hs
  dsimp only at *
  have H1 := Lib.hid h1
  have H2 := Lib.hid h2
  have H3 := Lib.hid h3
  have G1 := Lib.hid g1
  have G2 := Lib.hid g2
  have G3 := Lib.hid g3
  have S3 := Lib.hid s3
  clear h1 h2 h3 g1 g2 g3 s3
  go_enter Try.func59, Try.ntmps59
  go_wp2_with fail
  obtain ⟨w0, hw0⟩ : ∃ w0, (w.alloc (.cells #[.slice A1 xs.length c1, .slice A2 ls.length c2, .slice A3 ys.length c3] 34)).alloc (.cells #[.slice B1 xs.length d1, .slice B2 ls.length d2, .slice B3 ys.length d3] 34) = w0 := ⟨_, rfl⟩
  have hb0 : Below w.heap.size w w0 := by rw [← hw0]; exact (by repeat (first | exact Below.refl _ _ | assumption | refine Below.setCell ?_ (by first | omega | (simp <;> omega)) _ | refine Below.alloc ?_ (by first | omega | (simp <;> omega)) _ | refine Below.drew ?_))
  have r0 : w0.heap[w.heap.size]? = some (.cells #[.slice A1 xs.length c1, .slice A2 ls.length c2, .slice A3 ys.length c3] 34 (0, 0)) := by
    rw [← hw0, heap_alloc_old _ _ (by simp), heap_alloc_new]
  have r1 : w0.heap[w.heap.size + 1]? = some (.cells #[.slice B1 xs.length d1, .slice B2 ls.length d2, .slice B3 ys.length d3] 34 (0, 0)) := by
    rw [← hw0]
    have := heap_alloc_new (w.alloc (.cells #[.slice A1 xs.length c1, .slice A2 ls.length c2, .slice A3 ys.length c3] 34)) (.cells #[.slice B1 xs.length d1, .slice B2 ls.length d2, .slice B3 ys.length d3] 34)
    simpa using this
  rw [hw0]
  clear hw0
  have HR0 := Lib.hid r0
  have HR1 := Lib.hid r1
  clear r0 r1
  have hq := eqInts A1 B1 c1 d1 xs xs
  rw [sameB_yes rfl] at hq
  refine (hq _ (by exact H1.out.below hb0) (by exact G1.out.below hb0) s1).mono ?_
  clear hq
  rintro e w1 ⟨rfl, n1, rfl⟩
  have hb1 : Below w.heap.size w (w0.drewN n1) := belowDrewN hb0 _
  obtain ⟨w1, hw1⟩ : ∃ w1, w0.drewN n1 = w1 := ⟨_, rfl⟩
  have hr0 := drewRow n1 HR0.out
  have hr1 := drewRow n1 HR1.out
  rw [hw1] at hb1 hr0 hr1 ⊢
  have HR0 := Lib.hid hr0
  have HR1 := Lib.hid hr1
  clear hr0 hr1
  clear hw1
  obtain ⟨p0, p1, p2, -, -⟩ := row3 HR0.out
  obtain ⟨q0, q1, q2, -, -⟩ := row3 HR1.out
  go_wp2_with fail
  refine (eqLists A2 B2 c2 d2 ls _ (by exact H2.out.below hb1) (by exact G2.out.below hb1) s2 S3.out).mono ?_
  rintro e w2 ⟨rfl, hb2⟩
  have hB2 := belowStep hb2 hb1
  obtain ⟨p0, p1, p2, -, -⟩ := row3 (rowB hb2 HR0.out)
  obtain ⟨q0, q1, q2, -, -⟩ := row3 (rowB hb2 HR1.out)
  clear hb2
  go_wp2_with fail
  have hq := eqInts A3 B3 c3 d3 ys ys
  rw [sameB_yes rfl] at hq
  refine (hq _ (by exact H3.out.below hB2) (by exact G3.out.below hB2) s4).mono ?_
  clear hq
  rintro e w3 ⟨rfl, n1, rfl⟩
  go_wp2_with fail
  go_ret
  exact ⟨rfl, belowDrewN hB2 _⟩
end Go.Proofs.Ytfhdnanbhigpmaa
