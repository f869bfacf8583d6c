/- A table whose rows lie anywhere in blocks of the call's own: written over with running numbers. Conditions: as each contract says. -/
import Derived.Test.YtfhdnanbhigpmaaRs
namespace Go.Proofs.Ytfhdnanbhigpmaa
open Go.RowKit Grp

/-- The lists ls, each in a block of its own. -/
structure RsAt (lo : Nat) (w : World) (A : Option Addr) (ls : List (List Int)) (V : Nat → Value) : Prop where
  row : ∀ i, i < ls.length → ∃ g, A = some ⟨g, 0, none⟩ ∧ g < w.heap.size ∧ w.cell? ⟨g, i, none⟩ = some (V i) ∧ ∀ j, j < ls.length → (V j).ownBlock ≠ some g
  own : ∀ i, i < ls.length → Fresh lo w (V i) (ls.getD i [])
  sep : ∀ i j, i < ls.length → j < ls.length → i ≠ j → ∀ b, (V i).ownBlock = some b → (V j).ownBlock ≠ some b
/-- w' is w but for the blocks of V, and new ones. -/
structure OnlyV (n : Nat) (V : Nat → Value) (w w' : World) : Prop where
  os : w'.os = w.os
  tape : w'.tape = w.tape
  output : w'.output = w.output
  size : w.heap.size ≤ w'.heap.size
  block : ∀ b, b < w.heap.size → (∀ i, i < n → (V i).ownBlock ≠ some b) → w'.heap[b]? = w.heap[b]?
theorem OnlyV.refl (n : Nat) (V : Nat → Value) (w : World) : OnlyV n V w w := ⟨rfl, rfl, rfl, Nat.le_refl _, fun _ _ _ => rfl⟩
theorem OnlyV.grown {n i : Nat} {V : Nat → Value} {w w1 w2 : World} (h : OnlyV n V w w1) (hi : i < n) (hg : w1.grownBy w2 (V i).ownBlock) : OnlyV n V w w2 :=
  ⟨hg.os.trans h.os, hg.tape.trans h.tape, hg.output.trans h.output, Nat.le_trans h.size hg.size, fun b hb hc => (hg.block b (Nat.lt_of_lt_of_le hb h.size) (fun e => hc i hi e.symm)).trans (h.block b hb hc)⟩
theorem OnlyV.only {n lo : Nat} {V : Nat → Value} {w w' : World} (h : OnlyV n V w w') (hlo : ∀ i, i < n → ∀ b, (V i).ownBlock = some b → lo ≤ b) : OnlyIn lo w.heap.size w w' :=
  ⟨h.os, h.tape, h.output, h.size, fun k hk hc => h.block k hk fun i hi e => by have := hlo i hi k e; omega⟩
theorem OnlyV.fresh {n lo : Nat} {V : Nat → Value} {w w' : World} {v : Value} {xs : List Int} (h : OnlyV n V w w') (hF : Fresh lo w v xs) (hv : ∀ b, v.ownBlock = some b → ∀ i, i < n → (V i).ownBlock ≠ some b) : Fresh lo w' v xs :=
  hF.keep fun b hb => h.block b (World.ownsRow.lt hF b hb).2 (hv b hb)
def MarkG (A : Option Addr) (ls : List (List Int)) (V : Nat → Value) (k0 : Int) (w : World) (e : Ending) (w' : World) : Prop := e = .returned (.int .i64 (k0 + totTo ls ls.length)) ∧ OnlyV ls.length V w w' ∧ (∀ i, i < ls.length → ∃ g, A = some ⟨g, 0, none⟩ ∧ g < w'.heap.size ∧ w'.cell? ⟨g, i, none⟩ = some (V i)) ∧ ∀ i, i < ls.length → ∃ lo, Fresh lo w' (V i) (marks (k0 + totTo ls i) (ls.getD i []).length)
theorem MarkG.lat {w' : World} {A : Option Addr} {ls : List (List Int)} {V : Nat → Value} {k0 : Int} (h1 : ∀ i, i < ls.length → ∃ g, A = some ⟨g, 0, none⟩ ∧ g < w'.heap.size ∧ w'.cell? ⟨g, i, none⟩ = some (V i)) (h2 : ∀ i, i < ls.length → ∃ lo, Fresh lo w' (V i) (marks (k0 + totTo ls i) (ls.getD i []).length)) : LAt w' A (mrkL k0 ls) := fun i hi => by
  rw [mrkL_len] at hi
  obtain ⟨g, e, g1, g2⟩ := h1 i hi
  obtain ⟨lo, hF⟩ := h2 i hi
  obtain ⟨Ai, ci, h3, h4, h5⟩ := hF.capped
  rw [mrkL_at hi]
  exact ⟨g, 0, Ai, ci, e, g1, h3, by rw [Nat.zero_add, g2, h4], h5⟩
set_option maxRecDepth 3000 in
set_option maxHeartbeats 2000000 in
theorem markLg (lo : Nat) (A : Option Addr) (c : Nat) (ls : List (List Int)) (V : Nat → Value) (k0 : Int) (w : World) (hL : RsAt lo w A ls V) (hl : ls.length ≤ 1048576) (hs : ShortL ls) (h0 : 0 ≤ k0) (h1 : k0 ≤ 1048576) :
    Calls Try.prog 61 #[.slice A ls.length c, .int .i64 k0] w (MarkG A ls V k0 w) := by
  have HL := Lib.hid hL
  have HS := Lib.hid hs
  have HT := Lib.hid (totTo_le hs)
  have HK0 : Hid (k0 + (totTo ls 0 : Nat) = k0) := by unfold Hid; rw [totTo_zero]; simp
  have HF0 : Hid (∀ j, 0 ≤ j → j < ls.length → Fresh lo w (V j) (ls.getD j [])) := fun j _ hj => hL.own j hj
  have HM0 : Hid (∀ j, j < 0 → Fresh lo w (V j) (marks (k0 + totTo ls j) (ls.getD j []).length)) := fun j hj => absurd hj (Nat.not_lt_zero _)
  clear hs hL
  go_enter Try.func61, Try.ntmps61
  go_wp2_with fail
  go_loopw [1, 5] (fun q i wr => ∃ (k : Nat) (x : Int), k ≤ ls.length ∧ i = .int .i64 k ∧ q = .int .i64 x ∧ Hid (k0 + (totTo ls k : Nat) = x) ∧ Hid (∀ j, k ≤ j → j < ls.length → Fresh lo wr (V j) (ls.getD j [])) ∧ Hid (∀ j, j < k → Fresh lo wr (V j) (marks (k0 + totTo ls j) (ls.getD j []).length)) ∧
      Hid (∀ i, i < ls.length → ∃ g, A = some ⟨g, 0, none⟩ ∧ g < wr.heap.size ∧ wr.cell? ⟨g, i, none⟩ = some (V i) ∧ ∀ j, j < ls.length → (V j).ownBlock ≠ some g) ∧ OnlyV ls.length V w wr) (fun _ i _ => ls.length - (intOf i).toNat)
  case atStart => exact ⟨0, k0, Nat.zero_le _, rfl, rfl, HK0, HF0, HM0, HL.out.row, OnlyV.refl _ _ _⟩
  case round =>
    obtain ⟨k, x, hk, rfl, rfl, HK, HF, HM, HR, hon⟩ := hrel
    clear HK0 HF0 HM0
    have htk := HT.out k hk
    have hkx := HK.out
    by_cases hlt : k < ls.length
    · obtain ⟨g, rfl, hgl, hc, hsep⟩ := HR.out k hlt
      have hFk := HF.out k (Nat.le_refl _) hlt
      obtain ⟨xs, hxs⟩ : ∃ xs, ls.getD k [] = xs := ⟨_, rfl⟩
      have hxl : xs.length ≤ 1048576 := by rw [← hxs]; exact HS.out k hlt
      rw [hxs] at hFk
      have HXS := Lib.hid hxs
      obtain ⟨tv, htv⟩ : ∃ tv, V k = tv := ⟨_, rfl⟩
      rw [htv] at hc hFk
      have HTV := Lib.hid htv
      have p0 : (0 : Int) ≤ (k : Int) := by omega
      have p1 : (k : Int) < (ls.length : Int) := by omega
      have HCALL := Lib.hid (markInts lo tv xs x wr hFk hxl (by omega) (by omega))
      have hkx2 : x + (xs.length : Int) ≤ 9223372036854775807 := by omega
      have HSEP := Lib.hid hsep
      have HON := Lib.hid hon
      clear hxs htv hFk hkx htk hsep hon
      go_wp2_with fail
      refine HCALL.out.mono ?_
      rintro e w2 ⟨rfl, hF2, hg2⟩
      rw [← HTV.out] at hg2
      have HKN : Hid (k0 + (totTo ls (k + 1) : Nat) = x + (xs.length : Int)) := by
        have := HK.out
        unfold Hid
        rw [totTo_more hlt, HXS.out]
        omega
      have HFN : Hid (∀ j, k + 1 ≤ j → j < ls.length → Fresh lo w2 (V j) (ls.getD j [])) := fun j hj1 hj2 => (HF.out j (by omega) hj2).row hg2 fun b hb e => HL.out.sep k j hlt hj2 (by omega) b e hb
      have HMN : Hid (∀ j, j < k + 1 → Fresh lo w2 (V j) (marks (k0 + totTo ls j) (ls.getD j []).length)) := fun j hj => by
        rcases Nat.lt_or_ge j k with h3 | h3
        · exact (HM.out j h3).row hg2 fun b hb e => HL.out.sep k j hlt (by omega) (by omega) b e hb
        · obtain rfl : j = k := by omega
          rw [HTV.out, HXS.out, HK.out]
          exact hF2
      have HRN : Hid (∀ i, i < ls.length → ∃ g', some (⟨g, 0, none⟩ : Addr) = some ⟨g', 0, none⟩ ∧ g' < w2.heap.size ∧ w2.cell? ⟨g', i, none⟩ = some (V i) ∧ ∀ j, j < ls.length → (V j).ownBlock ≠ some g') := fun i hi => by
        obtain ⟨g', e', h1, h2, h3⟩ := HR.out i hi
        refine ⟨g', e', Nat.lt_of_lt_of_le h1 hg2.size, (World.cell?_of_block (a := ⟨g', i, none⟩) (hg2.block g' h1 fun e => h3 k hlt e.symm)).trans h2, h3⟩
      have hon2 := HON.out.grown hlt hg2
      clear hF2 hg2 HCALL
      go_wp2_with fail
      go_roundw
      case rel => exact ⟨k + 1, _, by omega, by go_num, rfl, HKN, HFN, HMN, HRN, hon2⟩
      case measure => simp [intOf]; omega
    · obtain rfl : k = ls.length := by omega
      clear hkx htk
      go_wp2_with fail
      go_ret
      exact ⟨ret_int HK.out.symm, hon, fun i hi => by
        obtain ⟨g, e, g1, g2, -⟩ := HR.out i hi
        exact ⟨g, e, g1, g2⟩, fun i hi => ⟨lo, HM.out i hi⟩⟩
/-- A table of the call's own. -/
structure FTg (lo : Nat) (w : World) (A1 : Option Addr) (c1 : Nat) (A2 A3 : Option Addr) (c3 : Nat) (t : Tb) (V : Nat → Value) : Prop where
  f1 : Fresh lo w (.slice A1 t.trk.length c1) t.trk
  f2 : RsAt lo w A2 t.pats V
  f3 : Fresh lo w (.slice A3 t.dist.length c3) t.dist
  a13 : ∀ b, (Value.slice A1 t.trk.length c1).ownBlock = some b → (Value.slice A3 t.dist.length c3).ownBlock ≠ some b
  a2 : ∀ i, i < t.pats.length → ∀ g, A2 = some ⟨g, 0, none⟩ → (Value.slice A1 t.trk.length c1).ownBlock ≠ some g ∧ (Value.slice A3 t.dist.length c3).ownBlock ≠ some g
  ar : ∀ i, i < t.pats.length → ∀ b, (V i).ownBlock = some b → (Value.slice A1 t.trk.length c1).ownBlock ≠ some b ∧ (Value.slice A3 t.dist.length c3).ownBlock ≠ some b
theorem RsAt.keep {lo : Nat} {w w' : World} {A : Option Addr} {ls : List (List Int)} {V : Nat → Value} (h : RsAt lo w A ls V) (hs : w.heap.size ≤ w'.heap.size) (hk : ∀ b, b < w.heap.size → (∃ i, i < ls.length ∧ (A = some ⟨b, 0, none⟩ ∨ (V i).ownBlock = some b)) → w'.heap[b]? = w.heap[b]?) : RsAt lo w' A ls V :=
  ⟨fun i hi => by
    obtain ⟨g, e, g1, g2, g3⟩ := h.row i hi
    exact ⟨g, e, Nat.lt_of_lt_of_le g1 hs, (World.cell?_of_block (a := ⟨g, i, none⟩) (hk g g1 ⟨i, hi, .inl e⟩)).trans g2, g3⟩, fun i hi => (h.own i hi).keep fun b hb => hk b (World.ownsRow.lt (h.own i hi) b hb).2 ⟨i, hi, .inr hb⟩, h.sep⟩
theorem FTg.below {lo : Nat} {w w' : World} {A1 A2 A3 : Option Addr} {c1 c3 : Nat} {t : Tb} {V : Nat → Value} (h : FTg lo w A1 c1 A2 A3 c3 t V) (hb : Below w.heap.size w w') : FTg lo w' A1 c1 A2 A3 c3 t V :=
  ⟨h.f1.below hb, h.f2.keep hb.size (fun b hb2 _ => hb.block b hb2), h.f3.below hb, h.a13, h.a2, h.ar⟩
/-- Blocks below all of a table's own do not matter. -/
theorem FTg.only {lo lo' hi' : Nat} {w w' : World} {A1 A2 A3 : Option Addr} {c1 c3 : Nat} {t : Tb} {V : Nat → Value} (h : FTg lo w A1 c1 A2 A3 c3 t V) (hA : ∀ i, i < t.pats.length → ∀ g, A2 = some ⟨g, 0, none⟩ → lo ≤ g) (ho : OnlyIn lo' hi' w w') (hh : hi' ≤ lo) : FTg lo w' A1 c1 A2 A3 c3 t V := by
  refine ⟨h.f1.onlyHi ho hh, ?_, h.f3.onlyHi ho hh, h.a13, h.a2, h.ar⟩
  refine h.f2.keep ho.size fun b hb hc => ho.block b hb (.inr ?_)
  obtain ⟨i, hi, e | e⟩ := hc
  · have := hA i hi b e; omega
  · have := (World.ownsRow.lt (h.f2.own i hi) b e).1; omega
set_option maxRecDepth 100000 in
set_option maxHeartbeats 1000000 in
theorem markTg (lo : Nat) (A1 A2 A3 : Option Addr) (c1 c2 c3 : Nat) (t : Tb) (V : Nat → Value) (k0 : Int) (w : World) (hf : FTg lo w A1 c1 A2 A3 c3 t V) (hs : ShortT t) (h0 : 0 ≤ k0) (h1 : k0 + t.trk.length ≤ 1048576) :
    Calls Try.prog 62 #[.agg #[.slice A1 t.trk.length c1, .slice A2 t.pats.length c2, .slice A3 t.dist.length c3], .int .i64 k0] w fun e w' => e = .returned (.int .i64 (k0 + t.trk.length + totTo t.pats t.pats.length + t.dist.length)) ∧ MrkAt w' A1 A2 A3 t k0 ∧ OnlyIn lo w.heap.size w w' := by
  obtain ⟨xs, ls, ys⟩ := t
  obtain ⟨s1, s2, s3, s4⟩ := hs
  dsimp only at s1 s2 s3 s4 h1 ⊢
  have HF := Lib.hid hf
  have S3 := Lib.hid s3
  have htot := totTo_le s3 ls.length (Nat.le_refl _)
  clear hf s3
  go_enter Try.func62, Try.ntmps62
  go_wp2_with fail
  obtain ⟨w0, hw0⟩ : ∃ w0, w.alloc (.cells #[.slice A1 xs.length c1, .slice A2 ls.length c2, .slice A3 ys.length c3] 34) = w0 := ⟨_, rfl⟩
  have hb0 : Below w.heap.size w w0 := by rw [← hw0]; exact (by repeat (first | exact Below.refl _ _ | assumption | refine Below.setCell ?_ (by first | omega | (simp <;> omega)) _ | refine Below.alloc ?_ (by first | omega | (simp <;> omega)) _ | refine Below.drew ?_))
  have r0 : w0.heap[w.heap.size]? = some (.cells #[.slice A1 xs.length c1, .slice A2 ls.length c2, .slice A3 ys.length c3] 34 (0, 0)) := by
    rw [← hw0, heap_alloc_new]
  rw [hw0]
  clear hw0
  have hG0 := HF.out.below hb0
  have n0 : OnlyIn lo w.heap.size w w0 := ⟨hb0.os, hb0.tape, hb0.output, hb0.size, fun k hk _ => hb0.block k hk⟩
  have hbw : ∀ b, (Value.slice A1 xs.length c1).ownBlock = some b → lo ≤ b ∧ b < w.heap.size := fun b hb => World.ownsRow.lt HF.out.f1 b hb
  have hbw3 : ∀ b, (Value.slice A3 ys.length c3).ownBlock = some b → lo ≤ b ∧ b < w.heap.size := fun b hb => World.ownsRow.lt HF.out.f3 b hb
  have hbwr : ∀ i, i < ls.length → ∀ b, (V i).ownBlock = some b → lo ≤ b ∧ b < w.heap.size := fun i hi b hb => World.ownsRow.lt (HF.out.f2.own i hi) b hb
  have hz0 := hb0.size
  have hl0 := row_lt r0
  clear hb0
  refine (markInts lo _ xs k0 _ hG0.f1 s1 h0 (by omega)).mono ?_
  rintro e w1 ⟨rfl, G1, g1⟩
  have n1 : OnlyIn lo w.heap.size w w1 := n0.grown g1 hbw
  have r1 := rowR g1 r0 (fun e => by have := (hbw _ e).2; omega)
  have hR1 : RsAt lo w1 A2 ls V := hG0.f2.keep g1.size fun b hb hc => g1.block b hb fun e => by
    obtain ⟨i, hi, e2 | e2⟩ := hc
    · exact (HF.out.a2 i hi b e2).1 e.symm
    · exact (HF.out.ar i hi b e2).1 e.symm
  have hF3 : Fresh lo w1 (.slice A3 ys.length c3) ys := hG0.f3.row g1 fun b hb e => HF.out.a13 b e hb
  obtain ⟨p0, p1, p2, -, -⟩ := row3 r1
  have HG1 := Lib.hid G1
  have HR1 := Lib.hid r1
  have HRS1 := Lib.hid hR1
  have HF31 := Lib.hid hF3
  have HN1 := Lib.hid n1
  have hz1 := g1.size
  clear g1 n0 r0 G1 r1 hR1 hF3 n1 hG0
  go_wp2_with fail
  refine (markLg lo A2 c2 ls V (k0 + xs.length) _ HRS1.out s2 S3.out (by omega) h1).mono ?_
  rintro e w2 ⟨rfl, q2, qa, qb⟩
  have r2 := (q2.block w.heap.size (by omega) (fun i hi e => by have := (hbwr i hi _ e).2; omega)).trans HR1.out
  have G1 := q2.fresh HG1.out (fun b hb i hi e => (HF.out.ar i hi b e).1 hb)
  have G3 := q2.fresh HF31.out (fun b hb i hi e => (HF.out.ar i hi b e).2 hb)
  have n2 : OnlyIn lo w.heap.size w w2 := HN1.out.trans ⟨q2.os, q2.tape, q2.output, q2.size, fun k hk hc => q2.block k hk fun i hi e => by have := hbwr i hi k e; omega⟩
  obtain ⟨p0, p1, p2, -, -⟩ := row3 r2
  have HG1 := Lib.hid G1
  have HG3 := Lib.hid G3
  have QA := Lib.hid qa
  have QB := Lib.hid qb
  have HN2 := Lib.hid n2
  clear q2 G1 G3 r2 n2 qa qb
  go_wp2_with fail
  refine (markInts lo _ ys _ _ HG3.out s4 (by omega) (by omega)).mono ?_
  rintro e w3 ⟨rfl, G3, g3⟩
  have HN3 := Lib.hid (HN2.out.grown g3 hbw3)
  have HG1 := Lib.hid (HG1.out.row g3 fun b hb e => HF.out.a13 b hb e)
  have HM : Hid (MrkAt w3 A1 A2 A3 ⟨xs, ls, ys⟩ k0) := by
    refine ⟨?_, MarkG.lat (V := V) (fun i hi => ?_) (fun i hi => ?_), ?_⟩
    · exact HG1.out.intsAt
    · obtain ⟨g, e, h1, h2⟩ := QA.out i hi
      exact ⟨g, e, Nat.lt_of_lt_of_le h1 g3.size, (World.cell?_of_block (a := ⟨g, i, none⟩) (g3.block g h1 fun e2 => (HF.out.a2 i hi g e).2 e2.symm)).trans h2⟩
    · obtain ⟨l2, hF⟩ := QB.out i hi
      exact ⟨l2, hF.row g3 fun b hb e => (HF.out.ar i hi b hb).2 e⟩
    · exact G3.intsAt
  clear G3 g3
  go_wp2_with fail
  go_ret
  exact ⟨rfl, HM.out, HN3.out⟩
set_option maxRecDepth 100000 in
set_option maxHeartbeats 4000000 in
theorem markJg (lo : Nat) (A1 A2 A3 : Option Addr) (c1 c2 c3 : Nat) (t : Tb) (V : Nat → Value) (nx : Int) (lg : ByteArray) (sy k0 : Int) (w : World) (hf : FTg lo w A1 c1 A2 A3 c3 t V) (hs : ShortT t) (h0 : 0 ≤ k0) (h1 : k0 + t.trk.length ≤ 1048576) :
    Calls Try.prog 28 #[jobV A1 A2 A3 c1 c2 c3 t nx lg sy, .int .i64 k0] w fun e w' => e = .returned (.int .i64 (k0 + t.trk.length + totTo t.pats t.pats.length + t.dist.length)) ∧ MrkAt w' A1 A2 A3 t k0 ∧ OnlyIn lo (w.heap.size + 1) w w' := by
  obtain ⟨w0, hw0⟩ : ∃ w0, w.alloc (.cells #[.slice A1 t.trk.length c1, .slice A2 t.pats.length c2, .slice A3 t.dist.length c3, .int .i64 nx, .string lg, .int .i64 sy] 45) = w0 := ⟨_, rfl⟩
  have hb0 : Below w.heap.size w w0 := by rw [← hw0]; exact (by repeat (first | exact Below.refl _ _ | assumption | refine Below.setCell ?_ (by first | omega | (simp <;> omega)) _ | refine Below.alloc ?_ (by first | omega | (simp <;> omega)) _ | refine Below.drew ?_))
  have hz0 : w0.heap.size = w.heap.size + 1 := by rw [← hw0]; simp
  have R0 : Hid (w0.heap[w.heap.size]? = some (.cells #[.slice A1 t.trk.length c1, .slice A2 t.pats.length c2, .slice A3 t.dist.length c3, .int .i64 nx, .string lg, .int .i64 sy] 45 (0, 0))) := by rw [← hw0]; exact heap_alloc_new _ _
  have HM := Lib.hid (markTg lo A1 A2 A3 c1 c2 c3 t V k0 w0 (hf.below hb0) hs h0 h1)
  have HB0 := Lib.hid hb0
  have HZ0 := Lib.hid hz0
  obtain ⟨p0, p1, p2, -, -, -, -, -⟩ := row6 R0.out
  clear hf hb0 hz0
  unfold jobV
  obtain ⟨n1, hn1⟩ : ∃ n1, t.trk.length = n1 := ⟨_, rfl⟩
  obtain ⟨n2, hn2⟩ : ∃ n2, t.pats.length = n2 := ⟨_, rfl⟩
  obtain ⟨n3, hn3⟩ : ∃ n3, t.dist.length = n3 := ⟨_, rfl⟩
  obtain ⟨tt, htt⟩ : ∃ tt : Int, k0 + (t.trk.length : Int) + (totTo t.pats t.pats.length : Int) + (t.dist.length : Int) = tt := ⟨_, rfl⟩
  rw [htt] at HM ⊢
  simp only [hn1, hn2, hn3] at HM hw0 p0 p1 p2 ⊢
  clear hn1 hn2 hn3 htt
  go_enter Try.func28, Try.ntmps28
  go_wp2_with fail
  clear hw0
  refine HM.out.mono ?_
  rintro e w1 ⟨rfl, hF1, ho⟩
  have HF1 := Lib.hid hF1
  have HO : Hid (OnlyIn lo (w.heap.size + 1) w w1) := OnlyIn.trans ⟨HB0.out.os, HB0.out.tape, HB0.out.output, HB0.out.size, fun k hk _ => HB0.out.block k hk⟩ (by have := HZ0.out; rw [← this]; exact ho)
  clear hF1 ho
  go_wp2_with fail
  go_ret
  exact ⟨rfl, HF1.out, HO.out⟩
/-! Distinct rows. -/
theorem addTo_nodup {ls : List (List Int)} {pat : List Int} : ∀ mvs acc, (ls ++ acc).Nodup → (ls ++ addTo ls pat mvs acc).Nodup := by
  intro mvs
  induction mvs with
  | nil => intro acc h; exact h
  | cons m r ih =>
    intro acc h
    simp only [addTo]
    split
    · exact ih acc h
    · rename_i hin
      refine ih _ ?_
      rw [← List.append_assoc, List.nodup_append]
      refine ⟨h, by simp, fun a ha b hb e => hin ?_⟩
      rw [List.mem_singleton] at hb
      rw [inL_iff, ← hb, ← e]
      exact ha
theorem ch_nodup {mvs : List (List Int)} {trk : List Int} : ∀ i, (chF mvs trk i).1.ls.Nodup := by
  intro i
  induction i with
  | zero => simp [chF]
  | succ i ih => exact addTo_nodup mvs [] (by simpa using ih)
theorem nodup_ne {ls : List (List Int)} (h : ls.Nodup) {i j : Nat} (hi : i < ls.length) (hj : j < ls.length) (hne : i ≠ j) : ls.getD i [] ≠ ls.getD j [] := by
  rw [List.getD_eq_getElem?_getD, List.getD_eq_getElem?_getD, List.getElem?_eq_getElem hi, List.getElem?_eq_getElem hj]
  intro e
  exact hne ((List.getElem_inj h).1 e)
theorem same_block {lo b : Nat} {w : World} {u v : Value} {x y : List Int} (hu : Fresh lo w u x) (hv : Fresh lo w v y) (hl : x.length = y.length) (e1 : u.ownBlock = some b) (e2 : v.ownBlock = some b) : x = y := by
  obtain ⟨A, c, -, rfl, hI⟩ := hu.capped
  obtain ⟨B, d, -, rfl, hJ⟩ := hv.capped
  have hA : A = some ⟨b, 0, none⟩ := by
    rcases hu.2 with ⟨h, -⟩ | ⟨g, cap, cur, h, -⟩
    · injection h with h; rw [h] at e1; cases e1
    · injection h with h; rw [h] at e1; injection e1 with e1; rw [h, ← e1]
  have hB : B = some ⟨b, 0, none⟩ := by
    rcases hv.2 with ⟨h, -⟩ | ⟨g, cap, cur, h, -⟩
    · injection h with h; rw [h] at e2; cases e2
    · injection h with h; rw [h] at e2; injection e2 with e2; rw [h, ← e2]
  refine eq_of_getD hl fun k hk => ?_
  obtain ⟨b1, o1, q1, -, c1⟩ := hI k hk
  obtain ⟨b2, o2, q2, -, c2⟩ := hJ k (by omega)
  rw [hA] at q1
  rw [hB] at q2
  injection q1 with q1
  injection q1 with q1 q3
  injection q2 with q2
  injection q2 with q2 q4
  subst q1 q3 q2 q4
  rw [c1] at c2
  injection c2 with c2
  injection c2 with c2 c3
/-- A filler's table is the call's own. -/
theorem ftg_of {lo lo2 : Nat} {zs : Nat → Prop} {w : World} {A1 A2 A3 : Option Addr} {c1 c2 c3 : Nat} {t : Tb} {N L : Nat} (f1 : Fresh lo w (.slice A1 t.trk.length c1) t.trk) (f2 : GrAt lo2 zs w (.slice A2 t.pats.length c2) t.pats) (fr : RowF lo w (.slice A2 t.pats.length c2) t.pats) (f3 : Fresh lo w (.slice A3 t.dist.length c3) t.dist) (z1 : ∀ b, (Value.slice A1 t.trk.length c1).ownBlock = some b → zs b) (z3 : ∀ b, (Value.slice A3 t.dist.length c3).ownBlock = some b → zs b) (h13 : ∀ b, (Value.slice A1 t.trk.length c1).ownBlock = some b → (Value.slice A3 t.dist.length c3).ownBlock ≠ some b) (hr : RowsOk N L t.pats) (hL : 0 < L) (hd : t.pats.Nodup) : ∃ V, FTg lo w A1 c1 A2 A3 c3 t V := by
  by_cases hn : 0 < t.pats.length
  rotate_left
  · exact ⟨fun _ => .slice none 0 0, f1, ⟨fun i hi => absurd hi (by omega), fun i hi => absurd hi (by omega), fun i j hi => absurd hi (by omega)⟩, f3, h13, fun i hi => absurd hi (by omega), fun i hi => absurd hi (by omega)⟩
  obtain ⟨g, A0, c0, e0, hgl, -⟩ := f2.at_ hn
  subst e0
  have ho := f2.own g rfl
  have hV : ∀ i, i < t.pats.length → ∃ Ai ci, w.cell? ⟨g, i, none⟩ = some (.slice Ai (t.pats.getD i []).length ci) ∧ Fresh lo w (.slice Ai (t.pats.getD i []).length ci) (t.pats.getD i []) ∧ ∀ b, (Value.slice Ai (t.pats.getD i []).length ci).ownBlock = some b → ¬ zs b ∧ b ≠ g := fun i hi => by
    have hl : 0 < (t.pats.getD i []).length := by rw [(hr i hi).1]; exact hL
    obtain ⟨g', Ai, ci, q1, -, q2, -, -, q3⟩ := f2.at_ hi
    injection q1 with q1
    injection q1 with q1
    subst q1
    have hF := fr.at_ rfl q2 hi hl
    obtain ⟨cs, h1, h2, h3⟩ := f2
    obtain ⟨Aj, cj, g1, g2, g3, g4⟩ := h3 i hi
    have hcc : w.cell? ⟨g, i, none⟩ = cs[i]? := World.ownsRow.cellAt h1 i (show i < t.pats.length * 1 by omega)
    rw [q2, g1] at hcc
    injection hcc with hcc
    injection hcc with k1 k2 k3
    subst k1 k3
    refine ⟨Ai, ci, q2, hF, fun b hb => ?_⟩
    obtain ⟨off, s, e3⟩ := own_some hb
    exact ⟨(g4 hl b off s e3).1, fun e => (g4 hl b off s e3).2 (by rw [e]; rfl)⟩
  refine ⟨fun i => (w.cell? ⟨g, i, none⟩).getD undef, f1, ⟨fun i hi => ?_, fun i hi => ?_, fun i j hi hj hne b hb e => ?_⟩, f3, h13, fun i hi g' e => ?_, fun i hi b hb => ?_⟩
  · obtain ⟨Ai, ci, k1, -, -⟩ := hV i hi
    refine ⟨g, rfl, hgl, by rw [k1]; rfl, fun j hj e => ?_⟩
    obtain ⟨Aj, cj, m1, -, m3⟩ := hV j hj
    rw [m1] at e
    exact (m3 g e).2 rfl
  · obtain ⟨Ai, ci, k1, k2, -⟩ := hV i hi
    rw [k1]
    exact k2
  · obtain ⟨Ai, ci, k1, k2, -⟩ := hV i hi
    obtain ⟨Aj, cj, m1, m2, -⟩ := hV j hj
    simp only [k1] at hb
    simp only [m1] at e
    exact nodup_ne hd hi hj hne (same_block k2 m2 (by rw [(hr i hi).1, (hr j hj).1]) hb e)
  · injection e with e
    injection e with e
    subst e
    exact ⟨fun e => ho.2.2 (z1 g e), fun e => ho.2.2 (z3 g e)⟩
  · obtain ⟨Ai, ci, k1, -, k3⟩ := hV i hi
    simp only [k1] at hb
    exact ⟨fun e => (k3 b hb).1 (z1 b e), fun e => (k3 b hb).1 (z3 b e)⟩
end Go.Proofs.Ytfhdnanbhigpmaa
