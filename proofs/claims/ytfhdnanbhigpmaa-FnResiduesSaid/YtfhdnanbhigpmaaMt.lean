/- A table of the call's own: written over with running numbers. Conditions: as each contract says. -/
import Derived.Test.YtfhdnanbhigpmaaTa
namespace Go.Proofs.Ytfhdnanbhigpmaa
open Go.RowKit

theorem Fresh.onlyLo {lo hi B : Nat} {w w' : World} {v : Value} {xs : List Int} (hF : Fresh B w v xs) (h : OnlyIn lo hi w w') (hb : ∀ b, v.ownBlock = some b → b < lo) : Fresh B w' v xs := by
  refine ⟨hF.1, ?_⟩
  rcases hF.2 with hn | ⟨g, cap, cur, rfl, hbg, hgg, rest⟩
  · exact .inl hn
  · exact .inr ⟨g, cap, cur, rfl, hbg, by rw [h.block g (Array.getElem?_eq_some_iff.1 hgg).1 (.inl (hb g rfl))]; exact hgg, rest⟩
theorem FLs.onlyLo {lo hi lo' hi' : Nat} {w w' : World} {A : Option Addr} {n c : Nat} {ls : List (List Int)} (h : FLs lo' hi' w (.slice A n c) ls) (ho : OnlyIn lo hi w w') (hB : hi' ≤ lo) (hg : ∀ g off s, A = some ⟨g, off, s⟩ → g < lo) : FLs lo' hi' w' (.slice A n c) ls := by
  obtain ⟨A', c', V, B, e0, h2, h3, h4, h5⟩ := h
  have eA : A = A' := by injection e0
  subst eA
  refine ⟨A, c', V, B, e0, ⟨fun i hi => ?_, fun i hi => (h2.own i hi).onlyLo ho (fun b hb => ?_), h2.cap, h2.up⟩, h3, h4, h5⟩
  · obtain ⟨g, e, g1, g2, g3⟩ := h2.row i hi
    have := hg g 0 none e
    exact ⟨g, e, Nat.lt_of_lt_of_le g1 ho.size, (World.cell?_of_block (a := ⟨g, i, none⟩) (ho.block g g1 (.inl (by omega)))).trans g2, g3⟩
  · have h6 := h2.cap i hi b hb
    have h7 := h2.upij (i + 1) ls.length (by omega) (Nat.le_refl _)
    omega
structure FTb (lo hi : Nat) (w : World) (A1 : Option Addr) (c1 : Nat) (A2 : Option Addr) (c2 : Nat) (A3 : Option Addr) (c3 m1 m2 : Nat) (t : Tb) : Prop where
  f1 : Fresh lo w (.slice A1 t.trk.length c1) t.trk
  b1 : ∀ b, (Value.slice A1 t.trk.length c1).ownBlock = some b → b < m1
  f2 : FLs m1 m2 w (.slice A2 t.pats.length c2) t.pats
  b2 : ∀ g off s, A2 = some ⟨g, off, s⟩ → g < m2
  f3 : Fresh m2 w (.slice A3 t.dist.length c3) t.dist
  b3 : ∀ b, (Value.slice A3 t.dist.length c3).ownBlock = some b → b < hi
  o1 : lo ≤ m1
  o2 : m1 ≤ m2
  o3 : m2 ≤ hi
def mrkT (k0 : Int) (t : Tb) : Tb := ⟨marks k0 t.trk.length, mrkL (k0 + t.trk.length) t.pats, marks (k0 + t.trk.length + totTo t.pats t.pats.length) t.dist.length⟩
theorem OnlyIn.weak {lo hi lo' hi' : Nat} {w w' : World} (h : OnlyIn lo hi w w') (h1 : lo' ≤ lo) (h2 : hi ≤ hi') : OnlyIn lo' hi' w w' := ⟨h.os, h.tape, h.output, h.size, fun k hk hc => h.block k hk (by omega)⟩
theorem OnlyIn.trans {lo hi : Nat} {w w' w'' : World} (h : OnlyIn lo hi w w') (h' : OnlyIn lo hi w' w'') : OnlyIn lo hi w w'' := ⟨h'.os.trans h.os, h'.tape.trans h.tape, h'.output.trans h.output, Nat.le_trans h.size h'.size, fun k hk hc => (h'.block k (Nat.lt_of_lt_of_le hk h.size) hc).trans (h.block k hk hc)⟩
theorem OnlyIn.row {lo hi k : Nat} {w w' : World} {o : Obj} (h : OnlyIn lo hi w w') (hk : hi ≤ k) (hr : w.heap[k]? = some o) : w'.heap[k]? = some o := (h.block k (row_lt hr) (.inr hk)).trans hr
set_option maxRecDepth 100000 in
set_option maxHeartbeats 1000000 in
theorem markTab (lo hi m1 m2 : Nat) (A1 A2 A3 : Option Addr) (c1 c2 c3 : Nat) (t : Tb) (k0 : Int) (w : World) (hf : FTb lo hi w A1 c1 A2 c2 A3 c3 m1 m2 t) (hs : ShortT t) (h0 : 0 ≤ k0) (h1 : k0 + t.trk.length ≤ 1048576) (hw : hi ≤ w.heap.size) :
    Calls Try.prog 62 #[.agg #[.slice A1 t.trk.length c1, .slice A2 t.pats.length c2, .slice A3 t.dist.length c3], .int .i64 k0] w fun e w' => e = .returned (.int .i64 (k0 + t.trk.length + totTo t.pats t.pats.length + t.dist.length)) ∧ FTb lo hi w' A1 c1 A2 c2 A3 c3 m1 m2 (mrkT k0 t) ∧ OnlyIn lo hi w w' := by
  obtain ⟨xs, ls, ys⟩ := t
  obtain ⟨s1, s2, s3, s4⟩ := hs
  obtain ⟨f1, b1, f2, b2, f3, b3, o1, o2, o3⟩ := hf
  dsimp only at f1 b1 f2 b2 f3 b3 s1 s2 s3 s4 h1 ⊢
  have F1 := Lib.hid f1
  have F2 := Lib.hid f2
  have F3 := Lib.hid f3
  have B1 := Lib.hid b1
  have B2 := Lib.hid b2
  have B3 := Lib.hid b3
  have S3 := Lib.hid s3
  have htot := totTo_le s3 ls.length (Nat.le_refl _)
  clear f1 b1 f2 b2 f3 b3 s3
  go_enter Try.func62, Try.ntmps62
  go_wp2_with fail
  obtain ⟨w0, hw0⟩ : ∃ w0, w.alloc (.cells #[.slice A1 xs.length c1, .slice A2 ls.length c2, .slice A3 ys.length c3] 34) = w0 := ⟨_, rfl⟩
  have hb0 : Below w.heap.size w w0 := by rw [← hw0]; exact (by repeat (first | exact Below.refl _ _ | assumption | refine Below.setCell ?_ (by first | omega | (simp <;> omega)) _ | refine Below.alloc ?_ (by first | omega | (simp <;> omega)) _ | refine Below.drew ?_))
  have r0 : w0.heap[w.heap.size]? = some (.cells #[.slice A1 xs.length c1, .slice A2 ls.length c2, .slice A3 ys.length c3] 34 (0, 0)) := by
    rw [← hw0, heap_alloc_new]
  rw [hw0]
  clear hw0
  have n0 : OnlyIn lo hi w w0 := ⟨hb0.os, hb0.tape, hb0.output, hb0.size, fun k hk _ => hb0.block k hk⟩
  have G1 := F1.out.below hb0
  have G2 := F2.out.below hb0
  have G3 := F3.out.below hb0
  clear hb0
  refine (markInts lo _ xs k0 _ G1 s1 h0 (by omega)).mono ?_
  rintro e w1 ⟨rfl, G1, g1⟩
  have q1 : OnlyIn lo m1 w0 w1 := (OnlyIn.refl _ _ _).grown g1 (fun b hb => ⟨(G1.block b hb), B1.out b hb⟩)
  have r1 := q1.row (by omega) r0
  have G2 := G2.onlyHi q1 (Nat.le_refl _)
  have G3 := G3.onlyHi q1 o2
  have n1 := n0.trans (q1.weak (Nat.le_refl _) (by omega))
  obtain ⟨p0, p1, p2, -, -⟩ := row3 r1
  have HG1 := Lib.hid G1
  have HR1 := Lib.hid r1
  clear q1 g1 n0 r0 G1 r1
  go_wp2_with fail
  refine (markLists m1 m2 A2 c2 ls (k0 + xs.length) _ G2 s2 S3.out (by omega) h1).mono ?_
  rintro e w2 ⟨rfl, q2, -, G2⟩
  have G2 := G2 c2
  have r2 := q2.row (by omega) HR1.out
  have G1 := HG1.out.onlyLo q2 B1.out
  have G3 := G3.onlyHi q2 (Nat.le_refl _)
  have n2 := n1.trans (q2.weak (lo' := lo) (hi' := hi) o1 o3)
  obtain ⟨p0, p1, p2, -, -⟩ := row3 r2
  have HG1 := Lib.hid G1
  have HG2 := Lib.hid G2
  clear q2 G1 G2 r2 n1
  go_wp2_with fail
  refine (markInts m2 _ ys _ _ G3 s4 (by omega) (by omega)).mono ?_
  rintro e w3 ⟨rfl, G3, g3⟩
  have q3 : OnlyIn m2 hi w2 w3 := (OnlyIn.refl _ _ _).grown g3 (fun b hb => ⟨(G3.block b hb), B3.out b hb⟩)
  have G1 := HG1.out.onlyLo q3 (fun b hb => Nat.lt_of_lt_of_le (B1.out b hb) o2)
  have G2 := HG2.out.onlyLo q3 (Nat.le_refl _) B2.out
  have n3 := n2.trans (q3.weak (lo' := lo) (hi' := hi) (by omega) (Nat.le_refl _))
  have HG1 := Lib.hid G1
  have HG2 := Lib.hid G2
  have HG3 := Lib.hid G3
  clear q3 g3 G1 G2 G3 n2
  go_wp2_with fail
  go_ret
  refine ⟨rfl, ⟨?_, ?_, ?_, B2.out, ?_, ?_, o1, o2, o3⟩, n3⟩
  · dsimp only [mrkT]; rw [marks_length]; exact HG1.out
  · dsimp only [mrkT]; rw [marks_length]; exact B1.out
  · dsimp only [mrkT]; rw [mrkL_len]; exact HG2.out
  · dsimp only [mrkT]; rw [marks_length]; exact HG3.out
  · dsimp only [mrkT]; rw [marks_length]; exact B3.out
/-- It is read again. -/
def MrkAt (w : World) (A1 A2 A3 : Option Addr) (t : Tb) (k0 : Int) : Prop := IntsAt w A1 (marks k0 t.trk.length) ∧ LAt w A2 (mrkL (k0 + t.trk.length) t.pats) ∧ IntsAt w A3 (marks (k0 + t.trk.length + totTo t.pats t.pats.length) t.dist.length)
theorem FTb.mrk {lo hi m1 m2 : Nat} {w : World} {A1 A2 A3 : Option Addr} {c1 c2 c3 : Nat} {t : Tb} {k0 : Int} (h : FTb lo hi w A1 c1 A2 c2 A3 c3 m1 m2 (mrkT k0 t)) : MrkAt w A1 A2 A3 t k0 := ⟨h.f1.intsAt, h.f2.lat, h.f3.intsAt⟩
set_option maxRecDepth 100000 in
set_option maxHeartbeats 1000000 in
theorem heldTab (A1 A2 A3 : Option Addr) (c1 c2 c3 : Nat) (t : Tb) (k0 : Int) (w : World) (hx : MrkAt w A1 A2 A3 t k0) (hs : ShortT t) (h0 : 0 ≤ k0) (h1 : k0 + t.trk.length ≤ 1048576) :
    Calls Try.prog 63 #[.agg #[.slice A1 t.trk.length c1, .slice A2 t.pats.length c2, .slice A3 t.dist.length c3], .int .i64 k0] w fun e w' => e = .returned (.int .i64 (k0 + t.trk.length + totTo t.pats t.pats.length + t.dist.length)) ∧ Below w.heap.size w w' := by
  obtain ⟨xs, ls, ys⟩ := t
  obtain ⟨s1, s2, s3, s4⟩ := hs
  obtain ⟨x1, x2, x3⟩ := hx
  dsimp only at x1 x2 x3 s1 s2 s3 s4 h1 ⊢
  have X1 := Lib.hid x1
  have X2 := Lib.hid x2
  have X3 := Lib.hid x3
  have S3 := Lib.hid s3
  have htot := totTo_le s3 ls.length (Nat.le_refl _)
  have l1 : ¬ k0 + (xs.length : Int) < 0 := by omega
  have l2 : ¬ k0 + (xs.length : Int) + (totTo ls ls.length : Nat) < 0 := by omega
  have l3 : ¬ k0 + (xs.length : Int) + (totTo ls ls.length : Nat) + (ys.length : Int) < 0 := by omega
  clear x1 x2 x3 s3
  go_enter Try.func63, Try.ntmps63
  go_wp2_with fail
  refine (heldInts A1 c1 xs.length k0 _ (by exact X1.out.below (by repeat (first | exact Below.refl _ _ | assumption | refine Below.setCell ?_ (by first | omega | (simp <;> omega)) _ | refine Below.alloc ?_ (by first | omega | (simp <;> omega)) _ | refine Below.drew ?_))) s1 h0 (by omega)).mono ?_
  rintro e w1 ⟨rfl, rfl⟩
  go_wp2_with fail
  refine (heldLists A2 c2 ls.length ls (k0 + xs.length) _ rfl (by exact X2.out.below (by repeat (first | exact Below.refl _ _ | assumption | refine Below.setCell ?_ (by first | omega | (simp <;> omega)) _ | refine Below.alloc ?_ (by first | omega | (simp <;> omega)) _ | refine Below.drew ?_))) s2 S3.out (by omega) h1).mono ?_
  rintro e w1 ⟨rfl, rfl⟩
  go_wp2_with fail
  refine (heldInts A3 c3 ys.length _ _ (by exact X3.out.below (by repeat (first | exact Below.refl _ _ | assumption | refine Below.setCell ?_ (by first | omega | (simp <;> omega)) _ | refine Below.alloc ?_ (by first | omega | (simp <;> omega)) _ | refine Below.drew ?_))) s4 (by omega) (by omega)).mono ?_
  rintro e w1 ⟨rfl, rfl⟩
  go_wp2_with fail
  go_ret
  exact ⟨rfl, (by repeat (first | exact Below.refl _ _ | assumption | refine Below.setCell ?_ (by first | omega | (simp <;> omega)) _ | refine Below.alloc ?_ (by first | omega | (simp <;> omega)) _ | refine Below.drew ?_))⟩
end Go.Proofs.Ytfhdnanbhigpmaa
