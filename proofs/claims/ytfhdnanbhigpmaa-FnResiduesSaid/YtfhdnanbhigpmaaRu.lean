/- Jobs run on, synced, finished, impl. Conditions: as each contract says. -/
import Derived.Test.YtfhdnanbhigpmaaMg
import Derived.Test.YtfhdnanbhigpmaaJk
namespace Go.Proofs.Ytfhdnanbhigpmaa
open Go.RowKit Grp

/-- A table of the call's own, its lists' header among it. -/
def FTo (lo : Nat) (w : World) (A1 : Option Addr) (c1 : Nat) (A2 A3 : Option Addr) (c3 : Nat) (t : Tb) : Prop :=
  ∃ V, FTg lo w A1 c1 A2 A3 c3 t V ∧ ∀ i, i < t.pats.length → ∀ g, A2 = some ⟨g, 0, none⟩ → lo ≤ g
section
variable {lo lo' hi' : Nat} {w w' : World} {A1 A2 A3 : Option Addr} {c1 c3 : Nat} {t : Tb}
theorem FTo.below (h : FTo lo w A1 c1 A2 A3 c3 t) (hb : Below w.heap.size w w') : FTo lo w' A1 c1 A2 A3 c3 t := by
  obtain ⟨V, h1, h2⟩ := h
  exact ⟨V, h1.below hb, h2⟩
theorem FTo.only (h : FTo lo w A1 c1 A2 A3 c3 t) (ho : OnlyIn lo' hi' w w') (hh : hi' ≤ lo) : FTo lo w' A1 c1 A2 A3 c3 t := by
  obtain ⟨V, h1, h2⟩ := h
  exact ⟨V, h1.only h2 ho hh, h2⟩
theorem FTo.less (h : FTo lo w A1 c1 A2 A3 c3 t) (hl : lo' ≤ lo) : FTo lo' w A1 c1 A2 A3 c3 t := by
  obtain ⟨V, ⟨f1, f2, f3, a, b, c⟩, h2⟩ := h
  exact ⟨V, ⟨f1.mono hl, ⟨f2.row, fun i hi => (f2.own i hi).mono hl, f2.sep⟩, f3.mono hl, a, b, c⟩, fun i hi g e => Nat.le_trans hl (h2 i hi g e)⟩
theorem FTo.at1 (h : FTo lo w A1 c1 A2 A3 c3 t) : IntsAt w A1 t.trk := by
  obtain ⟨V, h1, -⟩ := h
  exact h1.f1.intsAt
theorem FTo.at2 (h : FTo lo w A1 c1 A2 A3 c3 t) : LAt w A2 t.pats := by
  obtain ⟨V, h1, -⟩ := h
  intro i hi
  obtain ⟨g, e, g1, g2, -⟩ := h1.f2.row i hi
  obtain ⟨Ai, ci, h3, h4, h5⟩ := (h1.f2.own i hi).capped
  exact ⟨g, 0, Ai, ci, e, g1, h3, by rw [Nat.zero_add, g2, h4], h5⟩
theorem FTo.at3 (h : FTo lo w A1 c1 A2 A3 c3 t) : IntsAt w A3 t.dist := by
  obtain ⟨V, h1, -⟩ := h
  exact h1.f3.intsAt
theorem FTo.empty (lo : Nat) (w : World) : FTo lo w none 0 none none 0 ⟨[], [], []⟩ :=
  ⟨fun _ => .slice none 0 0, ⟨Fresh.nil _ _, ⟨fun i hi => absurd hi (Nat.not_lt_zero _), fun i hi => absurd hi (Nat.not_lt_zero _), fun i j hi => absurd hi (Nat.not_lt_zero _)⟩, Fresh.nil _ _, (fun b hb => by cases hb), fun i hi => absurd hi (Nat.not_lt_zero _), fun i hi => absurd hi (Nat.not_lt_zero _)⟩, fun i hi => absurd hi (Nat.not_lt_zero _)⟩
end
theorem FlAt.fto {lo f bm : Nat} {w : World} {A1 A2 A3 : Option Addr} {c1 c2 c3 : Nat} {vm : Value} {trk : List Int} {mvs ls : List (List Int)} {ds : List Int} {next : Int} {log : ByteArray} {syn : Int} {n : Nat} {K : List ByteArray} {N L : Nat} (h : FlAt lo f bm w (.slice A1 trk.length c1) (.slice A2 ls.length c2) (.slice A3 ds.length c3) vm trk mvs ls ds next log syn n K) (hr : RowsOk N L ls) (hL : 0 < L) (hd : ls.Nodup) : FTo lo w A1 c1 A2 A3 c3 ⟨trk, ls, ds⟩ := by
  obtain ⟨V, hV⟩ := ftg_of (t := ⟨trk, ls, ds⟩) h.trk h.st.lists h.own h.st.deps (fun b hb => .inl (.inr hb)) (fun b hb => .inr (.inr (.inl hb))) (fun b hb e => h.st.zdep b e (.inr hb)) hr hL hd
  exact ⟨V, hV, fun i hi g e => by subst e; exact (h.st.lists.own g rfl).1⟩
theorem FsAt.own {lo f bm : Nat} {vt vm : Value} {trk : List Int} {mvs : List (List Int)} {syn : Int} {w : World} {s : Bs} {k : Nat} {log : ByteArray} {N L : Nat} (h : FsAt lo f bm vt vm trk mvs syn w s k log) (hr : RowsOk N L s.ls) (hL : 0 < L) (hd : s.ls.Nodup) :
    ∃ A1 c1 A2 c2 A3 c3 mp, w.heap[f]? = some (.cells #[.slice A1 trk.length c1, .slice A2 s.ls.length c2, .slice A3 s.ds.length c3, .int .i64 (k : Int), .string log, .int .i64 syn, vm, mp] 96 (0, 0)) ∧ FTo lo w A1 c1 A2 A3 c3 ⟨trk, s.ls, s.ds⟩ ∧ lo ≤ f := by
  obtain ⟨vl, vd, K, hF, -⟩ := h
  obtain ⟨A1, c1, -, rfl, -⟩ := hF.trk.capped
  obtain ⟨A2, c2, rfl, -, -⟩ := hF.st.lists.shape
  obtain ⟨A3, c3, -, rfl, -⟩ := hF.st.deps.capped
  exact ⟨A1, c1, A2, c2, A3, c3, _, hF.row, hF.fto hr hL hd, hF.lof⟩
theorem alloc3_2r (w : World) (a b c : Obj) : (((w.alloc a).alloc b).alloc c).heap[w.heap.size + 1 + 1]? = some c := by
  have := heap_alloc_new ((w.alloc a).alloc b) c
  simpa using this
theorem row8 {w : World} {g : Nat} {a b c d e f x y : Value} {T : TypeId} (h : w.heap[g]? = some (.cells #[a, b, c, d, e, f, x, y] T (0, 0))) : w.cell? ⟨g, 0, none⟩ = some a ∧ w.cell? ⟨g, 1, none⟩ = some b ∧ w.cell? ⟨g, 2, none⟩ = some c ∧ w.cell? ⟨g, 3, none⟩ = some d ∧ w.cell? ⟨g, 4, none⟩ = some e ∧ w.cell? ⟨g, 5, none⟩ = some f ∧ (∀ p, w.frozen? ⟨g, p, none⟩ = false) ∧ g < w.heap.size :=
  ⟨cell_of_row w g 0 _ _ (0, 0) h, cell_of_row w g 1 _ _ (0, 0) h, cell_of_row w g 2 _ _ (0, 0) h, cell_of_row w g 3 _ _ (0, 0) h, cell_of_row w g 4 _ _ (0, 0) h, cell_of_row w g 5 _ _ (0, 0) h, fun _ => row_free h, row_lt h⟩
/-- A chain that can be walked: all that its tables are known to be. -/
theorem ch_full {p : Pz} {trk : List Int} (h : buildQ p trk = true) : ∃ N : Nat, N ≤ 20 ∧ 0 < trk.length ∧ (∀ i, i < (mvsOf p.moves).length → PtsOk N N ((mvsOf p.moves).getD i [])) ∧ (mvsOf p.moves).length ≤ 100 ∧ trk.length ≤ 20 ∧ ∀ i, chOk (mvsOf p.moves) trk i → BsOk N trk.length (chF (mvsOf p.moves) trk i).1 ∧ i ≤ (chF (mvsOf p.moves) trk i).1.ls.length := by
  obtain ⟨N, h1, h2, h3, h4, h5, h6⟩ := bld_bfs h
  exact ⟨N, h1, h5, h3, by rw [mvsOf_len]; omega, h4, h6⟩
theorem ch_next {mvs : List (List Int)} {trk : List Int} {i : Nat} (h : chOk mvs trk i) (hi : i < (chF mvs trk i).1.ls.length) : chOk mvs trk (i + 1) := fun j hj => by
  by_cases e : j = i
  · rw [e]; exact hi
  · exact h j (by omega)
/-- One more expansion is made. -/
def canF (mvs : List (List Int)) (trk : List Int) (i : Nat) : Prop := i < (chF mvs trk i).1.ls.length ∧ (chF mvs trk (i + 1)).2.size ≤ 60000
def noJob : Value := .agg #[.slice none 0 0, .slice none 0 0, .slice none 0 0, .int .i64 0, .string ⟨#[]⟩, .int .i64 0]
def chT (p : Pz) (trk : List Int) (i : Nat) : Tb := ⟨trk, (chF (mvsOf p.moves) trk i).1.ls, (chF (mvsOf p.moves) trk i).1.ds⟩
def RunYes (p : Pz) (t : Tb) (nx sy steps : Int) (w : World) (e : Ending) (w' : World) : Prop :=
  ∃ (c : Nat) (A1 : Option Addr) (c1 : Nat) (A2 : Option Addr) (c2 : Nat) (A3 : Option Addr) (c3 : Nat), (c : Int) ≤ steps ∧ chOk (mvsOf p.moves) t.trk (nx.toNat + c) ∧ (chF (mvsOf p.moves) t.trk (nx.toNat + c)).2.size ≤ 60000 ∧ ((c : Int) = steps ∨ ¬ canF (mvsOf p.moves) t.trk (nx.toNat + c)) ∧
    e = .returned (.tuple #[jobV A1 A2 A3 c1 c2 c3 (chT p t.trk (nx.toNat + c)) ((nx.toNat + c : Nat) : Int) (chF (mvsOf p.moves) t.trk (nx.toNat + c)).2 sy, .int .i64 (c : Int)]) ∧ FTo w.heap.size w' A1 c1 A2 A3 c3 (chT p t.trk (nx.toNat + c)) ∧ Below w.heap.size w w'
def RunNo (w : World) (e : Ending) (w' : World) : Prop := e = .returned (.tuple #[noJob, .int .i64 (-1)]) ∧ Below w.heap.size w w'
set_option maxRecDepth 100000 in
set_option maxHeartbeats 8000000 in
theorem implRunFillQ (A : Option Addr) (c : Nat) (p : Pz) (A1 A2 A3 : Option Addr) (c1 c2 c3 : Nat) (t : Tb) (nx : Int) (lg : ByteArray) (sy steps : Int) (w : World) (h : PzAt w A p) (h1 : IntsAt w A1 t.trk) (h2 : LAt w A2 t.pats) (h3 : IntsAt w A3 t.dist) (hs : ShortT t) (hnx : -9223372036854775808 ≤ nx ∧ nx ≤ 9223372036854775807) (hlg : lg.size ≤ 1048576) (Q : Ending → World → Prop) (hy : validF p t nx lg sy = true ∧ 0 ≤ steps → ∀ e w', RunYes p t nx sy steps w e w' → Q e w') (hn : ¬ (validF p t nx lg sy = true ∧ 0 ≤ steps) → ∀ e w', RunNo w e w' → Q e w') :
    Calls Try.prog 30 #[.agg #[.int .i64 p.pts, .string p.names, .slice A p.moves.length c], jobV A1 A2 A3 c1 c2 c3 t nx lg sy, .int .i64 steps] w Q := by
  have HYY := Lib.hid hy
  have HNN := Lib.hid hn
  clear hy hn
  obtain ⟨w0, hw0⟩ : ∃ w0, ((w.alloc (.cells #[.int .i64 p.pts, .string p.names, .slice A p.moves.length c] 29)).alloc (.cells #[.slice A1 t.trk.length c1, .slice A2 t.pats.length c2, .slice A3 t.dist.length c3, .int .i64 nx, .string lg, .int .i64 sy] 45)).alloc (.cells #[.slice none 0 0, .slice none 0 0, .slice none 0 0, .int .i64 0, .string ⟨#[]⟩, .int .i64 0] 45) = w0 := ⟨_, rfl⟩
  have hb0 : Below w.heap.size w w0 := by rw [← hw0]; exact (by repeat (first | exact Below.refl _ _ | assumption | refine Below.setCell ?_ (by first | omega | (simp <;> omega)) _ | refine Below.alloc ?_ (by first | omega | (simp <;> omega)) _ | refine Below.drew ?_))
  have hz0 : w0.heap.size = w.heap.size + 3 := by rw [← hw0]; simp
  have R0 : Hid (w0.heap[w.heap.size]? = some (.cells #[.int .i64 p.pts, .string p.names, .slice A p.moves.length c] 29 (0, 0))) := by rw [← hw0]; exact alloc3_0 _ _ _ _
  have R1 : Hid (w0.heap[w.heap.size + 1]? = some (.cells #[.slice A1 t.trk.length c1, .slice A2 t.pats.length c2, .slice A3 t.dist.length c3, .int .i64 nx, .string lg, .int .i64 sy] 45 (0, 0))) := by rw [← hw0]; exact alloc3_1 _ _ _ _
  have R2 : Hid (w0.heap[w.heap.size + 1 + 1]? = some (.cells #[.slice none 0 0, .slice none 0 0, .slice none 0 0, .int .i64 0, .string ⟨#[]⟩, .int .i64 0] 45 (0, 0))) := by rw [← hw0]; exact alloc3_2r _ _ _ _
  obtain ⟨p0, p1, p2, -, -⟩ := row3 R0.out
  obtain ⟨j0, j1, j2, j3, j4, j5, -, jl⟩ := row6 R1.out
  have HB0 := Lib.hid hb0
  have HR := Lib.hid (implResume A c p A1 A2 A3 c1 c2 c3 t nx lg sy w0 (h.below hb0) (h1.below hb0) (h2.below hb0) (h3.below hb0) hs hnx hlg)
  obtain ⟨V, hV⟩ : ∃ V, validF p t nx lg sy = V := ⟨_, rfl⟩
  have HV := Lib.hid hV
  unfold ResPost at HR
  simp only [hV] at HR
  rw [hV] at HYY HNN
  unfold jobV at HR ⊢
  have HW0 := Lib.hid hw0
  clear h h1 h2 h3 hs hb0 hV hw0
  go_enter Try.func30, Try.ntmps30
  go_wp2_with fail
  rw [HW0.out]
  refine HR.out.mono ?_
  rintro e w1 ⟨⟨f, rfl, hok⟩, hb1⟩
  have HB1 := Lib.hid (belowStep hb1 HB0.out)
  have HRB := Lib.hid (rowB hb1 R2.out)
  have hz1 := hb1.size
  have HOK := Lib.hid hok
  clear hb1 hok HR j0 j1 j2 j3 j4 j5 jl p0 p1 p2 HW0
  obtain ⟨q0, q1, q2, q3, q4, q5, qF, ql⟩ := row6 HRB.out
  by_cases hgo : V = true ∧ 0 ≤ steps
  rotate_left
  · have hno := Lib.hid (HNN.out hgo)
    clear HYY HNN
    cases V with
    | false =>
      clear hgo
      go_wp2_with fail
      obtain ⟨y0, y1, y2, y3, y4, y5, -, -⟩ := row6 (row6S HRB.out (.slice none 0 0) (.slice none 0 0) (.slice none 0 0) (.int .i64 0) (.string ⟨#[]⟩) (.int .i64 0))
      refine bodyPost_ret (v := .tuple #[.agg #[.slice none 0 0, .slice none 0 0, .slice none 0 0, .int .i64 0, .string ⟨#[]⟩, .int .i64 0], .int .i64 (-1)]) (by simp [results, Try.results30, go_sem, y0, y1, y2, y3, y4, y5]) rfl ?_
      exact hno.out _ _ ⟨rfl, belSet6 (g := w.heap.size + 1 + 1) HB1.out (by omega) _ _ _ _ _ _⟩
    | true =>
      have hst : steps < 0 := by
        rcases Int.lt_or_le steps 0 with h | h
        · exact h
        · exact absurd ⟨rfl, h⟩ hgo
      clear hgo
      go_wp2_with fail
      obtain ⟨y0, y1, y2, y3, y4, y5, -, -⟩ := row6 (row6S HRB.out (.slice none 0 0) (.slice none 0 0) (.slice none 0 0) (.int .i64 0) (.string ⟨#[]⟩) (.int .i64 0))
      refine bodyPost_ret (v := .tuple #[.agg #[.slice none 0 0, .slice none 0 0, .slice none 0 0, .int .i64 0, .string ⟨#[]⟩, .int .i64 0], .int .i64 (-1)]) (by simp [results, Try.results30, go_sem, y0, y1, y2, y3, y4, y5]) rfl ?_
      exact hno.out _ _ ⟨rfl, belSet6 (g := w.heap.size + 1 + 1) HB1.out (by omega) _ _ _ _ _ _⟩
  obtain ⟨rfl, hst⟩ := hgo
  have hyes := Lib.hid (HYY.out ⟨rfl, hst⟩)
  clear HYY HNN
  obtain ⟨lo, f, bm, vt, vm, rfl, hlo, hlbm, hFs⟩ := HOK.out rfl
  have hva := validF_iff.1 HV.out
  obtain ⟨N, hN20, hx0, hmv, hml, hx20, hch⟩ := ch_full hva.vbld
  have HMV := Lib.hid hmv
  have HCH := Lib.hid hch
  have HFS := Lib.hid hFs
  have hok0 := hva.vok
  have hlg0 := hva.vlog
  have hlg6 := hva.vlg
  obtain ⟨n0, hn0⟩ : ∃ n0, nx.toNat = n0 := ⟨_, rfl⟩
  unfold RunYes at hyes
  rw [hn0] at hok0 hlg0 HFS hyes
  have HOK0 := Lib.hid hok0
  have HLG0 : Hid ((chF (mvsOf p.moves) t.trk n0).2 = lg) := hlg0
  clear hok0 hlg0 hva hmv hch hFs hn0
  go_wp2_with fail
  clear q0 q1 q2 q3 q4 q5 qF ql
  go_loopw [10] (fun v wr => ∃ i : Nat, (i : Int) ≤ steps ∧ v = .int .i64 (i : Int) ∧ FsAt lo f bm vt vm t.trk (mvsOf p.moves) sy wr (chF (mvsOf p.moves) t.trk (n0 + i)).1 (n0 + i) (chF (mvsOf p.moves) t.trk (n0 + i)).2 ∧ Hid (chOk (mvsOf p.moves) t.trk (n0 + i)) ∧ (chF (mvsOf p.moves) t.trk (n0 + i)).2.size ≤ 60000 ∧ Below lo w1 wr) (fun v _ => steps.toNat - (intOf v).toNat)
  case atStart => exact ⟨0, by omega, rfl, by rw [Nat.add_zero, HLG0.out]; exact HFS.out, HOK0.out, by rw [Nat.add_zero, HLG0.out]; exact hlg6, Below.refl _ _⟩
  case round =>
    obtain ⟨i, hi, rfl, hF, HOKI, hsz, hB⟩ := hrel
    have hRR := (hB.block (w.heap.size + 1 + 1) (by omega)).trans HRB.out
    have hgd := HCH.out (n0 + i) HOKI.out
    have e1' : (chF (mvsOf p.moves) t.trk (n0 + (i + 1))).1 = nextB (mvsOf p.moves) (chF (mvsOf p.moves) t.trk (n0 + i)).1 (n0 + i) := rfl
    have e2' : (chF (mvsOf p.moves) t.trk (n0 + (i + 1))).2 = (chF (mvsOf p.moves) t.trk (n0 + i)).2 ++ fullS (n0 + i) (addedB (mvsOf p.moves) (chF (mvsOf p.moves) t.trk (n0 + i)).1.ls (n0 + i)) := rfl
    have hnext := fun q => ch_next HOKI.out q
    have HCAN : Hid (canF (mvsOf p.moves) t.trk (n0 + i) ↔ n0 + i < (chF (mvsOf p.moves) t.trk (n0 + i)).1.ls.length ∧ (chF (mvsOf p.moves) t.trk (n0 + (i + 1))).2.size ≤ 60000) := Iff.rfl
    obtain ⟨s, hs⟩ : ∃ s, (chF (mvsOf p.moves) t.trk (n0 + i)).1 = s := ⟨_, rfl⟩
    obtain ⟨lgi, hlgi⟩ : ∃ lgi, (chF (mvsOf p.moves) t.trk (n0 + i)).2 = lgi := ⟨_, rfl⟩
    obtain ⟨K, hK⟩ : ∃ K : Int, ((n0 + i : Nat) : Int) = K := ⟨_, rfl⟩
    simp only [hs, hlgi] at hF hsz hgd e1' e2' hnext HCAN
    have HSS := Lib.hid hs
    have HLI := Lib.hid hlgi
    have HK := Lib.hid hK
    have HE1 := Lib.hid e1'
    have HE2 := Lib.hid e2'
    have HNX := Lib.hid hnext
    have HGD := Lib.hid hgd
    have HBW := Lib.hid (HB1.out.trans (hB.mono (by omega)))
    have HB := Lib.hid hB
    have HRR := Lib.hid hRR
    have HF := Lib.hid hF
    have hcap := hgd.1.cap
    have hkl := hgd.2
    have hzw := hB.size
    clear hs hlgi e1' e2' hnext hgd hB hRR
    by_cases hlt : (i : Int) < steps
    · have hstep := implStep lo f bm vt vm t.trk (mvsOf p.moves) sy s (n0 + i) lgi N t.trk.length wr hF HGD.out.1 HMV.out hml hkl (by omega) (by omega) hlbm hsz
      have HST := Lib.hid hstep
      clear hstep hF hK
      go_wp2_with fail
      refine HST.out.mono ?_
      rintro e w5 ⟨b, rfl, hb, hy, hn, hb5⟩
      have HBB := Lib.hid hb
      have HY := Lib.hid hy
      have HN := Lib.hid hn
      have HB5 := Lib.hid (HB.out.trans hb5)
      have HBW5 : Hid (Below w.heap.size w w5) := HB1.out.trans (HB5.out.mono (by omega))
      have HRR : Hid (w5.heap[w.heap.size + 1 + 1]? = some (.cells #[.slice none 0 0, .slice none 0 0, .slice none 0 0, .int .i64 0, .string ⟨#[]⟩, .int .i64 0] 45 (0, 0))) := (HB5.out.block (w.heap.size + 1 + 1) (by omega)).trans HRB.out
      clear HST hb hy hn hb5
      cases b with
      | true =>
        obtain ⟨g1, g2⟩ := HBB.out.1 rfl
        have hF5 := HY.out rfl
        rw [← HE1.out, ← HE2.out] at hF5
        have hs2 : (chF (mvsOf p.moves) t.trk (n0 + (i + 1))).2.size ≤ 60000 := by rw [HE2.out, ByteArray.size_append]; exact g2
        have hwi : IntKind.i64.wrap ((i : Int) + 1) = ((i + 1 : Nat) : Int) := (IntWalk.i64_in _ (by omega)).trans (by omega)
        have HF5 := Lib.hid hF5
        clear hF5
        go_wp2_with fail
        go_roundw
        case rel => exact ⟨i + 1, by omega, by first | rfl | go_num, HF5.out, HNX.out g1, hs2, HB5.out⟩
        case measure => simp [intOf]; omega
      | false =>
        have hF5 := HN.out rfl
        have HNC : Hid (¬ canF (mvsOf p.moves) t.trk (n0 + i)) := fun q => by
          have h1 := HCAN.out.1 q
          rw [HE2.out, ByteArray.size_append] at h1
          have := HBB.out.2 h1
          cases this
        have hrow0 := hF5.own (HGD.out.1).rows hx0 (by rw [← HSS.out]; exact ch_nodup _)
        obtain ⟨E1, e1, E2, e2, E3, e3, mp, hrow, hFT, hlf⟩ := hrow0
        have HFT := Lib.hid hFT
        rw [HK.out] at hrow
        obtain ⟨f0, f1, f2, f3, f4, f5, fF, fl⟩ := row8 hrow
        clear hrow hFT
        obtain ⟨q0, q1, q2, q3, q4, q5, qF, ql⟩ := row6 HRR.out
        go_wp2_with fail
        obtain ⟨y0, y1, y2, y3, y4, y5, -, -⟩ := row6 (row6S HRR.out (.slice E1 t.trk.length e1) (.slice E2 s.ls.length e2) (.slice E3 s.ds.length e3) (.int .i64 K) (.string lgi) (.int .i64 sy))
        refine bodyPost_ret (v := .tuple #[.agg #[.slice E1 t.trk.length e1, .slice E2 s.ls.length e2, .slice E3 s.ds.length e3, .int .i64 K, .string lgi, .int .i64 sy], .int .i64 (i : Int)]) (by simp [results, Try.results30, go_sem, y0, y1, y2, y3, y4, y5]) rfl ?_
        have hon := (OnlyIn.refl (w.heap.size + 1 + 1) (w.heap.size + 1 + 1 + 1) w5).grown (grown6 w5 (w.heap.size + 1 + 1) (.slice E1 t.trk.length e1) (.slice E2 s.ls.length e2) (.slice E3 s.ds.length e3) (.int .i64 K) (.string lgi) (.int .i64 sy)) (fun b e => by injection e with e; omega)
        refine hyes.out _ _ ⟨i, E1, e1, E2, e2, E3, e3, hi, HOKI.out, by rw [HLI.out]; exact hsz, .inr HNC.out, ?_, ?_, hon.below HBW5.out (by omega) (HBW5.out).size⟩
        · unfold jobV chT; rw [HSS.out, HLI.out, HK.out]
        · unfold chT; rw [HSS.out]; exact (HFT.out.only hon (by omega)).less (by omega)
    · have HIE : Hid ((i : Int) = steps) := by unfold Hid; omega
      clear hK
      have hrow0 := hF.own (HGD.out.1).rows hx0 (by rw [← HSS.out]; exact ch_nodup _)
      obtain ⟨E1, e1, E2, e2, E3, e3, mp, hrow, hFT, hlf⟩ := hrow0
      have HFT := Lib.hid hFT
      rw [HK.out] at hrow
      obtain ⟨f0, f1, f2, f3, f4, f5, fF, fl⟩ := row8 hrow
      clear hrow hFT
      obtain ⟨q0, q1, q2, q3, q4, q5, qF, ql⟩ := row6 HRR.out
      go_wp2_with fail
      obtain ⟨y0, y1, y2, y3, y4, y5, -, -⟩ := row6 (row6S HRR.out (.slice E1 t.trk.length e1) (.slice E2 s.ls.length e2) (.slice E3 s.ds.length e3) (.int .i64 K) (.string lgi) (.int .i64 sy))
      refine bodyPost_ret (v := .tuple #[.agg #[.slice E1 t.trk.length e1, .slice E2 s.ls.length e2, .slice E3 s.ds.length e3, .int .i64 K, .string lgi, .int .i64 sy], .int .i64 (i : Int)]) (by simp [results, Try.results30, go_sem, y0, y1, y2, y3, y4, y5]) rfl ?_
      have hon := (OnlyIn.refl (w.heap.size + 1 + 1) (w.heap.size + 1 + 1 + 1) wr).grown (grown6 wr (w.heap.size + 1 + 1) (.slice E1 t.trk.length e1) (.slice E2 s.ls.length e2) (.slice E3 s.ds.length e3) (.int .i64 K) (.string lgi) (.int .i64 sy)) (fun b e => by injection e with e; omega)
      refine hyes.out _ _ ⟨i, E1, e1, E2, e2, E3, e3, hi, HOKI.out, by rw [HLI.out]; exact hsz, .inl HIE.out, ?_, ?_, hon.below HBW.out (by omega) (HBW.out).size⟩
      · unfold jobV chT; rw [HSS.out, HLI.out, HK.out]
      · unfold chT; rw [HSS.out]; exact (HFT.out.only hon (by omega)).less (by omega)
theorem implRunFill (A : Option Addr) (c : Nat) (p : Pz) (A1 A2 A3 : Option Addr) (c1 c2 c3 : Nat) (t : Tb) (nx : Int) (lg : ByteArray) (sy steps : Int) (w : World) (h : PzAt w A p) (h1 : IntsAt w A1 t.trk) (h2 : LAt w A2 t.pats) (h3 : IntsAt w A3 t.dist) (hs : ShortT t) (hnx : -9223372036854775808 ≤ nx ∧ nx ≤ 9223372036854775807) (hlg : lg.size ≤ 1048576) (hv : validF p t nx lg sy = true) (hst : 0 ≤ steps) :
    Calls Try.prog 30 #[.agg #[.int .i64 p.pts, .string p.names, .slice A p.moves.length c], jobV A1 A2 A3 c1 c2 c3 t nx lg sy, .int .i64 steps] w (RunYes p t nx sy steps w) :=
  implRunFillQ A c p A1 A2 A3 c1 c2 c3 t nx lg sy steps w h h1 h2 h3 hs hnx hlg _ (fun _ _ _ k => k) (fun k => absurd ⟨hv, hst⟩ k)
end Go.Proofs.Ytfhdnanbhigpmaa
