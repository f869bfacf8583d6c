/- A table of the call's own, written over with running numbers: which blocks change. A job recovered, both packages in one shape. Conditions: as each contract says. -/
import Derived.Test.YtfhdnanbhigpmaaXu
namespace Go.Proofs.Ytfhdnanbhigpmaa
open Go.RowKit Grp

set_option maxRecDepth 100000 in
set_option maxHeartbeats 1000000 in
theorem markTh (lo : Nat) (A1 A2 A3 : Option Addr) (c1 c2 c3 : Nat) (t : Tb) (V : Nat → Value) (k0 : Int) (w : World) (wq : World) (hq : FTg lo wq A1 c1 A2 A3 c3 t V) (hf : FTg lo w A1 c1 A2 A3 c3 t V) (hs : ShortT t) (h0 : 0 ≤ k0) (h1 : k0 + t.trk.length ≤ 1048576) :
    Calls Try.prog 62 #[.agg #[.slice A1 t.trk.length c1, .slice A2 t.pats.length c2, .slice A3 t.dist.length c3], .int .i64 k0] w fun e w' => e = .returned (.int .i64 (k0 + t.trk.length + totTo t.pats t.pats.length + t.dist.length)) ∧ MrkAt w' A1 A2 A3 t k0 ∧ OnlyIn lo wq.heap.size w w' := by
  obtain ⟨xs, ls, ys⟩ := t
  obtain ⟨s1, s2, s3, s4⟩ := hs
  dsimp only at s1 s2 s3 s4 h1 ⊢
  have HF := Lib.hid hf
  have hbq1 : ∀ b, (Value.slice A1 xs.length c1).ownBlock = some b → lo ≤ b ∧ b < wq.heap.size := fun b hb => World.ownsRow.lt hq.f1 b hb
  have hbq3 : ∀ b, (Value.slice A3 ys.length c3).ownBlock = some b → lo ≤ b ∧ b < wq.heap.size := fun b hb => World.ownsRow.lt hq.f3 b hb
  have hbqr : ∀ i, i < ls.length → ∀ b, (V i).ownBlock = some b → lo ≤ b ∧ b < wq.heap.size := fun i hi b hb => World.ownsRow.lt (hq.f2.own i hi) b hb
  clear hq
  have S3 := Lib.hid s3
  have htot := totTo_le s3 ls.length (Nat.le_refl _)
  clear hf s3
  go_enter Try.func62, Try.ntmps62
  go_wp2_with fail
  obtain ⟨w0, hw0⟩ : ∃ w0, w.alloc (.cells #[.slice A1 xs.length c1, .slice A2 ls.length c2, .slice A3 ys.length c3] 34) = w0 := ⟨_, rfl⟩
  have hb0 : Below w.heap.size w w0 := by rw [← hw0]; exact (by repeat (first | exact Below.refl _ _ | assumption | refine Below.setCell ?_ (by first | omega | (simp <;> omega)) _ | refine Below.alloc ?_ (by first | omega | (simp <;> omega)) _ | refine Below.drew ?_))
  have r0 : w0.heap[w.heap.size]? = some (.cells #[.slice A1 xs.length c1, .slice A2 ls.length c2, .slice A3 ys.length c3] 34 (0, 0)) := by
    rw [← hw0, heap_alloc_new]
  rw [hw0]
  clear hw0
  have hG0 := HF.out.below hb0
  have n0 : OnlyIn lo wq.heap.size w w0 := ⟨hb0.os, hb0.tape, hb0.output, hb0.size, fun k hk _ => hb0.block k hk⟩
  have hbw : ∀ b, (Value.slice A1 xs.length c1).ownBlock = some b → lo ≤ b ∧ b < w.heap.size := fun b hb => World.ownsRow.lt HF.out.f1 b hb
  have hbw3 : ∀ b, (Value.slice A3 ys.length c3).ownBlock = some b → lo ≤ b ∧ b < w.heap.size := fun b hb => World.ownsRow.lt HF.out.f3 b hb
  have hbwr : ∀ i, i < ls.length → ∀ b, (V i).ownBlock = some b → lo ≤ b ∧ b < w.heap.size := fun i hi b hb => World.ownsRow.lt (HF.out.f2.own i hi) b hb
  have hz0 := hb0.size
  have hl0 := row_lt r0
  clear hb0
  refine (markInts lo _ xs k0 _ hG0.f1 s1 h0 (by omega)).mono ?_
  rintro e w1 ⟨rfl, G1, g1⟩
  have n1 : OnlyIn lo wq.heap.size w w1 := n0.grown g1 hbq1
  have r1 := rowR g1 r0 (fun e => by have := (hbw _ e).2; omega)
  have hR1 : RsAt lo w1 A2 ls V := hG0.f2.keep g1.size fun b hb hc => g1.block b hb fun e => by
    obtain ⟨i, hi, e2 | e2⟩ := hc
    · exact (HF.out.a2 i hi b e2).1 e.symm
    · exact (HF.out.ar i hi b e2).1 e.symm
  have hF3 : Fresh lo w1 (.slice A3 ys.length c3) ys := hG0.f3.row g1 fun b hb e => HF.out.a13 b e hb
  obtain ⟨p0, p1, p2, -, -⟩ := row3 r1
  have HG1 := Lib.hid G1
  have HR1 := Lib.hid r1
  have HRS1 := Lib.hid hR1
  have HF31 := Lib.hid hF3
  have HN1 := Lib.hid n1
  have hz1 := g1.size
  clear g1 n0 r0 G1 r1 hR1 hF3 n1 hG0
  go_wp2_with fail
  refine (markLg lo A2 c2 ls V (k0 + xs.length) _ HRS1.out s2 S3.out (by omega) h1).mono ?_
  rintro e w2 ⟨rfl, q2, qa, qb⟩
  have r2 := (q2.block w.heap.size (by omega) (fun i hi e => by have := (hbwr i hi _ e).2; omega)).trans HR1.out
  have G1 := q2.fresh HG1.out (fun b hb i hi e => (HF.out.ar i hi b e).1 hb)
  have G3 := q2.fresh HF31.out (fun b hb i hi e => (HF.out.ar i hi b e).2 hb)
  have n2 : OnlyIn lo wq.heap.size w w2 := HN1.out.trans ⟨q2.os, q2.tape, q2.output, q2.size, fun k hk hc => q2.block k hk fun i hi e => by have := hbqr i hi k e; omega⟩
  obtain ⟨p0, p1, p2, -, -⟩ := row3 r2
  have HG1 := Lib.hid G1
  have HG3 := Lib.hid G3
  have QA := Lib.hid qa
  have QB := Lib.hid qb
  have HN2 := Lib.hid n2
  clear q2 G1 G3 r2 n2 qa qb
  go_wp2_with fail
  refine (markInts lo _ ys _ _ HG3.out s4 (by omega) (by omega)).mono ?_
  rintro e w3 ⟨rfl, G3, g3⟩
  have HN3 := Lib.hid (HN2.out.grown g3 hbq3)
  have HG1 := Lib.hid (HG1.out.row g3 fun b hb e => HF.out.a13 b hb e)
  have HM : Hid (MrkAt w3 A1 A2 A3 ⟨xs, ls, ys⟩ k0) := by
    refine ⟨?_, MarkG.lat (V := V) (fun i hi => ?_) (fun i hi => ?_), ?_⟩
    · exact HG1.out.intsAt
    · obtain ⟨g, e, h1, h2⟩ := QA.out i hi
      exact ⟨g, e, Nat.lt_of_lt_of_le h1 g3.size, (World.cell?_of_block (a := ⟨g, i, none⟩) (g3.block g h1 fun e2 => (HF.out.a2 i hi g e).2 e2.symm)).trans h2⟩
    · obtain ⟨l2, hF⟩ := QB.out i hi
      exact ⟨l2, hF.row g3 fun b hb e => (HF.out.ar i hi b hb).2 e⟩
    · exact G3.intsAt
  clear G3 g3
  go_wp2_with fail
  go_ret
  exact ⟨rfl, HM.out, HN3.out⟩
set_option maxRecDepth 100000 in
set_option maxHeartbeats 4000000 in
theorem markJh (lo : Nat) (A1 A2 A3 : Option Addr) (c1 c2 c3 : Nat) (t : Tb) (V : Nat → Value) (nx : Int) (lg : ByteArray) (sy k0 : Int) (w : World) (wq : World) (hq : FTg lo wq A1 c1 A2 A3 c3 t V) (hf : FTg lo w A1 c1 A2 A3 c3 t V) (hs : ShortT t) (h0 : 0 ≤ k0) (h1 : k0 + t.trk.length ≤ 1048576) :
    Calls Try.prog 28 #[jobV A1 A2 A3 c1 c2 c3 t nx lg sy, .int .i64 k0] w fun e w' => e = .returned (.int .i64 (k0 + t.trk.length + totTo t.pats t.pats.length + t.dist.length)) ∧ MrkAt w' A1 A2 A3 t k0 ∧ OnlyIn lo wq.heap.size w w' := by
  obtain ⟨w0, hw0⟩ : ∃ w0, w.alloc (.cells #[.slice A1 t.trk.length c1, .slice A2 t.pats.length c2, .slice A3 t.dist.length c3, .int .i64 nx, .string lg, .int .i64 sy] 45) = w0 := ⟨_, rfl⟩
  have hb0 : Below w.heap.size w w0 := by rw [← hw0]; exact (by repeat (first | exact Below.refl _ _ | assumption | refine Below.setCell ?_ (by first | omega | (simp <;> omega)) _ | refine Below.alloc ?_ (by first | omega | (simp <;> omega)) _ | refine Below.drew ?_))
  have R0 : Hid (w0.heap[w.heap.size]? = some (.cells #[.slice A1 t.trk.length c1, .slice A2 t.pats.length c2, .slice A3 t.dist.length c3, .int .i64 nx, .string lg, .int .i64 sy] 45 (0, 0))) := by rw [← hw0]; exact heap_alloc_new _ _
  have HM := Lib.hid (markTh lo A1 A2 A3 c1 c2 c3 t V k0 w0 wq hq (hf.below hb0) hs h0 h1)
  have HB0 := Lib.hid hb0
  obtain ⟨p0, p1, p2, -, -, -, -, -⟩ := row6 R0.out
  clear hf hb0 hq
  unfold jobV
  obtain ⟨n1, hn1⟩ : ∃ n1, t.trk.length = n1 := ⟨_, rfl⟩
  obtain ⟨n2, hn2⟩ : ∃ n2, t.pats.length = n2 := ⟨_, rfl⟩
  obtain ⟨n3, hn3⟩ : ∃ n3, t.dist.length = n3 := ⟨_, rfl⟩
  obtain ⟨tt, htt⟩ : ∃ tt : Int, k0 + (t.trk.length : Int) + (totTo t.pats t.pats.length : Int) + (t.dist.length : Int) = tt := ⟨_, rfl⟩
  rw [htt] at HM ⊢
  simp only [hn1, hn2, hn3] at HM hw0 p0 p1 p2 ⊢
  clear hn1 hn2 hn3 htt
  go_enter Try.func28, Try.ntmps28
  go_wp2_with fail
  clear hw0
  refine HM.out.mono ?_
  rintro e w1 ⟨rfl, hF1, ho⟩
  have HF1 := Lib.hid hF1
  have HO : Hid (OnlyIn lo wq.heap.size w w1) := OnlyIn.trans ⟨HB0.out.os, HB0.out.tape, HB0.out.output, HB0.out.size, fun k hk _ => HB0.out.block k hk⟩ ho
  clear hF1 ho
  go_wp2_with fail
  go_ret
  exact ⟨rfl, HF1.out, HO.out⟩
/-- What the program's recovering gives, and the reference's. -/
noncomputable def recI (p : Pz) (trk : List Int) (log : ByteArray) : Nat := Classical.epsilon (RecAt (mvsOf p.moves) trk log)
theorem RecAt.eps {p : Pz} {trk : List Int} {log : ByteArray} {i : Nat} (h : RecAt (mvsOf p.moves) trk log i) : i = recI p trk log := h.one (Classical.epsilon_spec ⟨i, h⟩)
structure Jb where
  t : Tb
  nx : Int
  lg : ByteArray
  sy : Int
noncomputable def recJ (p : Pz) (trk : List Int) (log : ByteArray) : Jb := if buildQ p trk = true ∧ log.size ≤ 60000 then ⟨chT p trk (recI p trk log), (recI p trk log : Int), (chF (mvsOf p.moves) trk (recI p trk log)).2, ((chF (mvsOf p.moves) trk (recI p trk log)).2.size : Int)⟩ else ⟨⟨[], [], []⟩, 0, ⟨#[]⟩, 0⟩
noncomputable def recB (p : Pz) (trk : List Int) (log : ByteArray) : Bool := buildQ p trk && decide (log.size ≤ 60000)
theorem recB_iff {p : Pz} {trk : List Int} {log : ByteArray} : (buildQ p trk = true ∧ log.size ≤ 60000) ↔ recB p trk log = true := by unfold recB; rw [Bool.and_eq_true, decide_eq_true_eq]
def SJobR (j : Jb) (b : Bool) (w : World) (e : Ending) (w' : World) : Prop :=
  ∃ A1 c1 A2 c2 A3 c3, e = .returned (.tuple #[jobV A1 A2 A3 c1 c2 c3 j.t j.nx j.lg j.sy, .bool b]) ∧ IntsAt w' A1 j.t.trk ∧ LAt w' A2 j.t.pats ∧ IntsAt w' A3 j.t.dist ∧ Below w.heap.size w w'
def IJobR (j : Jb) (b : Bool) (w : World) (e : Ending) (w' : World) : Prop :=
  ∃ A1 c1 A2 c2 A3 c3, e = .returned (.tuple #[jobV A1 A2 A3 c1 c2 c3 j.t j.nx j.lg j.sy, .bool b]) ∧ FTo w.heap.size w' A1 c1 A2 A3 c3 j.t ∧ Below w.heap.size w w'
theorem recJ_short {p : Pz} {trk : List Int} {log : ByteArray} (h : ∃ i, RecAt (mvsOf p.moves) trk log i ∧ i = recI p trk log) : ShortT (recJ p trk log).t ∧ (recJ p trk log).t.trk.length ≤ 255 := by
  unfold recJ
  split
  · rename_i hq
    obtain ⟨i, h1, h2⟩ := h
    rw [← h2]
    obtain ⟨N, g1, g2, g3, g4, g5, g6⟩ := ch_full hq.1
    have := (g6 i h1.ok).1
    unfold chT
    exact ⟨⟨by dsimp only; omega, by dsimp only; have := this.cap; omega, fun j hj => by dsimp only at hj ⊢; have := (this.rows j hj).1; omega, by dsimp only; rw [this.len]; have := this.cap; omega⟩, by dsimp only; omega⟩
  · exact ⟨⟨by simp, by simp, fun i hi => by simp at hi, by simp⟩, by simp⟩
theorem noJob_eq : noJob = jobV none none none 0 0 0 ⟨[], [], []⟩ 0 ⟨#[]⟩ 0 := rfl
theorem specRecJ (A : Option Addr) (c : Nat) (p : Pz) (A1 : Option Addr) (c1 : Nat) (trk : List Int) (log : ByteArray) (w : World) (h : PzAt w A p) (h1 : IntsAt w A1 trk) (hl : trk.length ≤ 1048576) (hlg : log.size ≤ 1048576) :
    Calls Try.prog 40 #[.agg #[.int .i64 p.pts, .string p.names, .slice A p.moves.length c], .slice A1 trk.length c1, .string log] w (fun e w' => SJobR (recJ p trk log) (recB p trk log) w e w' ∧ ShortT (recJ p trk log).t ∧ (recJ p trk log).t.trk.length ≤ 255) := by
  refine specRecoverQ A c p A1 c1 trk log w h h1 hl hlg _ (fun hq e w' k => ?_) (fun hq e w' k => ?_)
  · obtain ⟨i, C1, e1, C2, e2, C3, e3, hr, rfl, hat, hb⟩ := k
    have he := hr.eps
    refine ⟨?_, recJ_short ⟨i, hr, he⟩⟩
    unfold recJ
    rw [if_pos hq, recB_iff.1 hq, ← he]
    exact ⟨C1, e1, C2, e2, C3, e3, rfl, hat.1, hat.2.1, hat.2.2, hb⟩
  · obtain ⟨rfl, hb⟩ := k
    unfold recJ
    rw [if_neg hq, show recB p trk log = false from (Bool.not_eq_true _).mp (fun q => hq (recB_iff.2 q))]
    exact ⟨⟨none, 0, none, 0, none, 0, rfl, IntsAt.nil _ _, fun i hi => by simp at hi, IntsAt.nil _ _, hb⟩, ⟨by simp, by simp, fun i hi => by simp at hi, by simp⟩, by simp⟩
theorem implRecJ (A : Option Addr) (c : Nat) (p : Pz) (A1 : Option Addr) (c1 : Nat) (trk : List Int) (log : ByteArray) (w : World) (h : PzAt w A p) (h1 : IntsAt w A1 trk) (hl : trk.length ≤ 1048576) (hlg : log.size ≤ 1048576) :
    Calls Try.prog 36 #[.agg #[.int .i64 p.pts, .string p.names, .slice A p.moves.length c], .slice A1 trk.length c1, .string log] w (IJobR (recJ p trk log) (recB p trk log) w) := by
  refine implRecoverQ A c p A1 c1 trk log w h h1 hl hlg _ (fun hq e w' k => ?_) (fun hq e w' k => ?_)
  · obtain ⟨i, C1, e1, C2, e2, C3, e3, hr, rfl, hat, hb⟩ := k
    have he := hr.eps
    unfold recJ
    rw [if_pos hq, recB_iff.1 hq, ← he]
    exact ⟨C1, e1, C2, e2, C3, e3, rfl, hat, hb⟩
  · obtain ⟨rfl, hb⟩ := k
    unfold recJ
    rw [if_neg hq, show recB p trk log = false from (Bool.not_eq_true _).mp (fun q => hq (recB_iff.2 q))]
    exact ⟨none, 0, none, 0, none, 0, rfl, FTo.empty _ _, hb⟩
theorem markJo (lo : Nat) (A1 A2 A3 : Option Addr) (c1 c2 c3 : Nat) (t : Tb) (nx : Int) (lg : ByteArray) (sy k0 : Int) (w wq : World) (hq : FTo lo wq A1 c1 A2 A3 c3 t) (hb : Below wq.heap.size wq w) (hs : ShortT t) (h0 : 0 ≤ k0) (h1 : k0 + t.trk.length ≤ 1048576) :
    Calls Try.prog 28 #[jobV A1 A2 A3 c1 c2 c3 t nx lg sy, .int .i64 k0] w fun e w' => e = .returned (.int .i64 (k0 + t.trk.length + totTo t.pats t.pats.length + t.dist.length)) ∧ MrkAt w' A1 A2 A3 t k0 ∧ OnlyIn lo wq.heap.size w w' := by
  obtain ⟨V, hV, -⟩ := hq
  exact markJh lo A1 A2 A3 c1 c2 c3 t V nx lg sy k0 w wq hV (hV.below hb) hs h0 h1
end Go.Proofs.Ytfhdnanbhigpmaa
