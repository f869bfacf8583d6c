/- Jobs run on, synced, finished, impl. Conditions: as each contract says. -/
import Derived.Test.YtfhdnanbhigpmaaGreatMg
import Derived.Test.YtfhdnanbhigpmaaGreatJk
namespace Go.Proofs.YtfhdnanbhigpmaaGreat
open Go.RowKit Grp

/-- A table of the call's own, its lists' header among it. -/
def FTo (lo : Nat) (w : World) (A1 : Option Addr) (c1 : Nat) (A2 A3 : Option Addr) (c3 : Nat) (t : Tb) : Prop :=
  ∃ V, FTg lo w A1 c1 A2 A3 c3 t V ∧ ∀ i, i < t.pats.length → ∀ g, A2 = some ⟨g, 0, none⟩ → lo ≤ g
section
variable {lo lo' hi' : Nat} {w w' : World} {A1 A2 A3 : Option Addr} {c1 c3 : Nat} {t : Tb}
theorem FTo.below (h : FTo lo w A1 c1 A2 A3 c3 t) (hb : Below w.heap.size w w') : FTo lo w' A1 c1 A2 A3 c3 t := by
  obtain ⟨V, h1, h2⟩ := h
  exact ⟨V, h1.below hb, h2⟩
theorem FTo.only (h : FTo lo w A1 c1 A2 A3 c3 t) (ho : OnlyIn lo' hi' w w') (hh : hi' ≤ lo) : FTo lo w' A1 c1 A2 A3 c3 t := by
  obtain ⟨V, h1, h2⟩ := h
  exact ⟨V, h1.only h2 ho hh, h2⟩
theorem FTo.less (h : FTo lo w A1 c1 A2 A3 c3 t) (hl : lo' ≤ lo) : FTo lo' w A1 c1 A2 A3 c3 t := by
  obtain ⟨V, ⟨f1, f2, f3, a, b, c⟩, h2⟩ := h
  exact ⟨V, ⟨f1.mono hl, ⟨f2.row, fun i hi => (f2.own i hi).mono hl, f2.sep⟩, f3.mono hl, a, b, c⟩, fun i hi g e => Nat.le_trans hl (h2 i hi g e)⟩
theorem FTo.at1 (h : FTo lo w A1 c1 A2 A3 c3 t) : IntsAt w A1 t.trk := by
  obtain ⟨V, h1, -⟩ := h
  exact h1.f1.intsAt
theorem FTo.at2 (h : FTo lo w A1 c1 A2 A3 c3 t) : LAt w A2 t.pats := by
  obtain ⟨V, h1, -⟩ := h
  intro i hi
  obtain ⟨g, e, g1, g2, -⟩ := h1.f2.row i hi
  obtain ⟨Ai, ci, h3, h4, h5⟩ := (h1.f2.own i hi).capped
  exact ⟨g, 0, Ai, ci, e, g1, h3, by rw [Nat.zero_add, g2, h4], h5⟩
theorem FTo.at3 (h : FTo lo w A1 c1 A2 A3 c3 t) : IntsAt w A3 t.dist := by
  obtain ⟨V, h1, -⟩ := h
  exact h1.f3.intsAt
theorem FTo.empty (lo : Nat) (w : World) : FTo lo w none 0 none none 0 ⟨[], [], []⟩ :=
  ⟨fun _ => .slice none 0 0, ⟨Fresh.nil _ _, ⟨fun i hi => absurd hi (Nat.not_lt_zero _), fun i hi => absurd hi (Nat.not_lt_zero _), fun i j hi => absurd hi (Nat.not_lt_zero _)⟩, Fresh.nil _ _, (fun b hb => by cases hb), fun i hi => absurd hi (Nat.not_lt_zero _), fun i hi => absurd hi (Nat.not_lt_zero _)⟩, fun i hi => absurd hi (Nat.not_lt_zero _)⟩
end
theorem FlAt.fto {lo f bm : Nat} {w : World} {A1 A2 A3 : Option Addr} {c1 c2 c3 : Nat} {vm : Value} {trk : List Int} {mvs ls : List (List Int)} {ds : List Int} {next : Int} {log : ByteArray} {syn : Int} {n : Nat} {K : List ByteArray} {N L : Nat} (h : FlAt lo f bm w (.slice A1 trk.length c1) (.slice A2 ls.length c2) (.slice A3 ds.length c3) vm trk mvs ls ds next log syn n K) (hr : RowsOk N L ls) (hL : 0 < L) (hd : ls.Nodup) : FTo lo w A1 c1 A2 A3 c3 ⟨trk, ls, ds⟩ := by
  obtain ⟨V, hV⟩ := ftg_of (t := ⟨trk, ls, ds⟩) h.trk h.st.lists h.own h.st.deps (fun b hb => .inl (.inr hb)) (fun b hb => .inr (.inr (.inl hb))) (fun b hb e => h.st.zdep b e (.inr hb)) hr hL hd
  exact ⟨V, hV, fun i hi g e => by subst e; exact (h.st.lists.own g rfl).1⟩
theorem FsAt.own {lo f bm : Nat} {vt vm : Value} {trk : List Int} {mvs : List (List Int)} {syn : Int} {w : World} {s : Bs} {k : Nat} {log : ByteArray} {N L : Nat} (h : FsAt lo f bm vt vm trk mvs syn w s k log) (hr : RowsOk N L s.ls) (hL : 0 < L) (hd : s.ls.Nodup) :
    ∃ A1 c1 A2 c2 A3 c3 mp, w.heap[f]? = some (.cells #[.slice A1 trk.length c1, .slice A2 s.ls.length c2, .slice A3 s.ds.length c3, .int .i64 (k : Int), .string log, .int .i64 syn, vm, mp] 59 (0, 0)) ∧ FTo lo w A1 c1 A2 A3 c3 ⟨trk, s.ls, s.ds⟩ ∧ lo ≤ f := by
  obtain ⟨vl, vd, K, hF, -⟩ := h
  obtain ⟨A1, c1, -, rfl, -⟩ := hF.trk.capped
  obtain ⟨A2, c2, rfl, -, -⟩ := hF.st.lists.shape
  obtain ⟨A3, c3, -, rfl, -⟩ := hF.st.deps.capped
  exact ⟨A1, c1, A2, c2, A3, c3, _, hF.row, hF.fto hr hL hd, hF.lof⟩
theorem alloc3_2r (w : World) (a b c : Obj) : (((w.alloc a).alloc b).alloc c).heap[w.heap.size + 1 + 1]? = some c := by
  have := heap_alloc_new ((w.alloc a).alloc b) c
  simpa using this
theorem row8 {w : World} {g : Nat} {a b c d e f x y : Value} {T : TypeId} (h : w.heap[g]? = some (.cells #[a, b, c, d, e, f, x, y] T (0, 0))) : w.cell? ⟨g, 0, none⟩ = some a ∧ w.cell? ⟨g, 1, none⟩ = some b ∧ w.cell? ⟨g, 2, none⟩ = some c ∧ w.cell? ⟨g, 3, none⟩ = some d ∧ w.cell? ⟨g, 4, none⟩ = some e ∧ w.cell? ⟨g, 5, none⟩ = some f ∧ (∀ p, w.frozen? ⟨g, p, none⟩ = false) ∧ g < w.heap.size :=
  ⟨cell_of_row w g 0 _ _ (0, 0) h, cell_of_row w g 1 _ _ (0, 0) h, cell_of_row w g 2 _ _ (0, 0) h, cell_of_row w g 3 _ _ (0, 0) h, cell_of_row w g 4 _ _ (0, 0) h, cell_of_row w g 5 _ _ (0, 0) h, fun _ => row_free h, row_lt h⟩
/-- A chain that can be walked: all that its tables are known to be. -/
theorem ch_full {p : Pz} {trk : List Int} (h : buildQ p trk = true) : ∃ N : Nat, N ≤ 20 ∧ 0 < trk.length ∧ (∀ i, i < (mvsOf p.moves).length → PtsOk N N ((mvsOf p.moves).getD i [])) ∧ (mvsOf p.moves).length ≤ 100 ∧ trk.length ≤ 20 ∧ ∀ i, chOk (mvsOf p.moves) trk i → BsOk N trk.length (chF (mvsOf p.moves) trk i).1 ∧ i ≤ (chF (mvsOf p.moves) trk i).1.ls.length := by
  obtain ⟨N, h1, h2, h3, h4, h5, h6⟩ := bld_bfs h
  exact ⟨N, h1, h5, h3, by rw [mvsOf_len]; omega, h4, h6⟩
theorem ch_next {mvs : List (List Int)} {trk : List Int} {i : Nat} (h : chOk mvs trk i) (hi : i < (chF mvs trk i).1.ls.length) : chOk mvs trk (i + 1) := fun j hj => by
  by_cases e : j = i
  · rw [e]; exact hi
  · exact h j (by omega)
/-- One more expansion is made. -/
def canF (mvs : List (List Int)) (trk : List Int) (i : Nat) : Prop := i < (chF mvs trk i).1.ls.length ∧ (chF mvs trk (i + 1)).2.size ≤ 60000
def noJob : Value := .agg #[.slice none 0 0, .slice none 0 0, .slice none 0 0, .int .i64 0, .string ⟨#[]⟩, .int .i64 0]
def chT (p : Pz) (trk : List Int) (i : Nat) : Tb := ⟨trk, (chF (mvsOf p.moves) trk i).1.ls, (chF (mvsOf p.moves) trk i).1.ds⟩
def RunYes (p : Pz) (t : Tb) (nx sy steps : Int) (w : World) (e : Ending) (w' : World) : Prop :=
  ∃ (c : Nat) (A1 : Option Addr) (c1 : Nat) (A2 : Option Addr) (c2 : Nat) (A3 : Option Addr) (c3 : Nat), (c : Int) ≤ steps ∧ chOk (mvsOf p.moves) t.trk (nx.toNat + c) ∧ (chF (mvsOf p.moves) t.trk (nx.toNat + c)).2.size ≤ 60000 ∧ ((c : Int) = steps ∨ ¬ canF (mvsOf p.moves) t.trk (nx.toNat + c)) ∧
    e = .returned (.tuple #[jobV A1 A2 A3 c1 c2 c3 (chT p t.trk (nx.toNat + c)) ((nx.toNat + c : Nat) : Int) (chF (mvsOf p.moves) t.trk (nx.toNat + c)).2 sy, .int .i64 (c : Int)]) ∧ FTo w.heap.size w' A1 c1 A2 A3 c3 (chT p t.trk (nx.toNat + c)) ∧ Below w.heap.size w w'
def RunNo (w : World) (e : Ending) (w' : World) : Prop := e = .returned (.tuple #[noJob, .int .i64 (-1)]) ∧ Below w.heap.size w w'
end Go.Proofs.YtfhdnanbhigpmaaGreat
