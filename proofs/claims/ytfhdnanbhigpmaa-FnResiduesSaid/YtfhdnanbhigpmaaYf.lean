/- Distances out of residues, plainly. Conditions: as each theorem says. Descents, spec. Conditions: as each contract says. Lists of machine integers of the call's own, lists of them, a map from strings to places. No conditions. The descents of a puzzle, impl.newDescents. Conditions: as each contract says. A descent, impl. Conditions: as each contract says. -/
import Derived.Test.YtfhdnanbhigpmaaRu
import Derived.Test.YtfhdnanbhigpmaaXa
import Derived.Deep.RegionHeld3
import Derived.Test.YtfhdnanbhigpmaaSt
import Derived.Test.YtfhdnanbhigpmaaSa
import Derived.Deep.QuietTactic
import Derived.BigQuiet
namespace Go.Proofs.Ytfhdnanbhigpmaa
section
open Go.RowKit Grp

theorem ch_le {p : Pz} {trk : List Int} {i : Nat} (hq : buildQ p trk = true) (hi : chOk (mvsOf p.moves) trk i) : i ≤ 3000 := by
  obtain ⟨N, g1, g2, g3, g4, g5, g6⟩ := ch_full hq
  have := g6 i hi
  have := this.1.cap
  omega
theorem addB_len {s s' : Bs} {x : List Int} {d : Int} (h : addB s x d = some s') : s.ls.length ≤ s'.ls.length := by
  unfold addB at h
  split at h
  · injection h with h; rw [h]; exact Nat.le_refl _
  · split at h
    · cases h
    · injection h with h; rw [← h]; simp
theorem innB_len {k : Nat} : ∀ (mvs : List (List Int)) (s s' : Bs), innB k mvs s = some s' → s.ls.length ≤ s'.ls.length := by
  intro mvs
  induction mvs with
  | nil => intro s s' h; simp only [innB, Option.some.injEq] at h; rw [h]; exact Nat.le_refl _
  | cons m r ih =>
    intro s s' h
    simp only [innB] at h
    cases hq : addB s (nextOf k m s) (depOf k s) with
    | none => rw [hq] at h; cases h
    | some t => rw [hq] at h; exact Nat.le_trans (addB_len hq) (ih t s' h)
theorem bfsB_len {mvs : List (List Int)} : ∀ (f k : Nat) (s r : Bs), bfsB mvs f k s = some r → s.ls.length ≤ r.ls.length := by
  intro f
  induction f with
  | zero => intro k s r h; simp only [bfsB, Option.some.injEq] at h; rw [h]; exact Nat.le_refl _
  | succ f ih =>
    intro k s r h
    simp only [bfsB] at h
    split at h
    · cases hq : innB k mvs s with
      | none => rw [hq] at h; cases h
      | some t => rw [hq] at h; exact Nat.le_trans (innB_len _ _ _ hq) (ih _ t r h)
    · injection h with h; rw [h]; exact Nat.le_refl _
/-- Where the job ends, its table is the one that is built. -/
theorem ch_fin {p : Pz} {trk : List Int} {r : Bs} (hq : buildQ p trk = true) (hr : searchB (mvsOf p.moves) trk = some r) {i : Nat} (hi : chOk (mvsOf p.moves) trk i) (h : r.ls.length ≤ i ∨ (chF (mvsOf p.moves) trk i).1.ls.length ≤ i) : (chF (mvsOf p.moves) trk i).1 = r ∧ i = r.ls.length := by
  have ht : trkQ p trk = true := by
    unfold buildQ at hq
    rw [Bool.and_eq_true] at hq
    exact hq.1
  obtain ⟨N, -, -, h3, -, h5, -⟩ := trk_parts ht
  obtain ⟨g1, g2, g3⟩ := ch_bfs h3.all h5 hr i hi
  have g4 := bfsB_len _ _ _ _ g2
  have g5 := g1.cap
  rw [bfs_end (by omega) (by omega)] at g2
  injection g2 with g2
  rw [g2] at g3 g4 h
  exact ⟨g2, by omega⟩

section
variable {mvs : List (List Int)} {trk : List Int} {p : Pz} {r : Bs}
theorem ch_lsP {i j : Nat} (h : i ≤ j) : (chF mvs trk i).1.ls <+: (chF mvs trk j).1.ls := by
  induction h with
  | refl => exact List.prefix_refl _
  | step _ ih => exact ih.trans (List.prefix_append _ _)
theorem ch_dsP {i j : Nat} (h : i ≤ j) : (chF mvs trk i).1.ds <+: (chF mvs trk j).1.ds := by
  induction h with
  | refl => exact List.prefix_refl _
  | step _ ih => exact ih.trans (List.prefix_append _ _)
theorem pre_getD {α : Type} {a b : List α} {d : α} {i : Nat} (h : a <+: b) (hi : i < a.length) : b.getD i d = a.getD i d := by
  obtain ⟨t, rfl⟩ := h
  rw [List.getD_eq_getElem?_getD, List.getElem?_append_left hi, ← List.getD_eq_getElem?_getD]
theorem ch_reach (hq : buildQ p trk = true) : ∃ n, chOk (mvsOf p.moves) trk n ∧ (chF (mvsOf p.moves) trk n).1.ls.length ≤ n := by
  apply Classical.byContradiction
  intro hno
  have h : ∀ i, chOk (mvsOf p.moves) trk i := by
    intro i
    induction i with
    | zero => exact fun j hj => absurd hj (Nat.not_lt_zero _)
    | succ i ih => exact ch_next ih (Nat.lt_of_not_le fun q => hno ⟨i, ih, q⟩)
  have := ch_le hq (h 3001)
  omega
theorem tbl_of (hq : buildQ p trk = true) (hr : searchB (mvsOf p.moves) trk = some r) : chOk (mvsOf p.moves) trk r.ls.length ∧ (chF (mvsOf p.moves) trk r.ls.length).1 = r := by
  obtain ⟨n, h1, h2⟩ := ch_reach hq
  obtain ⟨h3, h4⟩ := ch_fin hq hr h1 (.inr h2)
  rw [h4] at h1 h3
  exact ⟨h1, h3⟩
theorem addTo_acc {ls : List (List Int)} {pat : List Int} : ∀ (ms acc : List (List Int)), acc <+: addTo ls pat ms acc := by
  intro ms
  induction ms with
  | nil => intro acc; exact List.prefix_refl _
  | cons m r ih =>
    intro acc
    simp only [addTo]
    split
    · exact ih acc
    · exact (List.prefix_append _ _).trans (ih _)
theorem addTo_has {ls : List (List Int)} {pat m : List Int} : ∀ (ms acc : List (List Int)), m ∈ ms → pickI m pat ∈ ls ++ addTo ls pat ms acc := by
  intro ms
  induction ms with
  | nil => intro acc h; cases h
  | cons m2 r ih =>
    intro acc h
    simp only [addTo]
    rcases List.mem_cons.1 h with rfl | h
    · split
      · rename_i q
        have q2 := inL_iff.1 q
        rcases List.mem_append.1 q2 with q3 | q3
        · exact List.mem_append.2 (.inl q3)
        · exact List.mem_append.2 (.inr ((addTo_acc r acc).subset q3))
      · exact List.mem_append.2 (.inr ((addTo_acc r _).subset (by simp)))
    · split
      · exact ih _ h
      · exact ih _ h
theorem tbl_closed (hq : buildQ p trk = true) (hr : searchB (mvsOf p.moves) trk = some r) {i : Nat} (hi : i < r.ls.length) {m : List Int} (hm : m ∈ mvsOf p.moves) : pickI m (r.ls.getD i []) ∈ r.ls := by
  obtain ⟨h1, h2⟩ := tbl_of hq hr
  have h3 := h1 i hi
  have h4 := ch_lsP (mvs := mvsOf p.moves) (trk := trk) (i := i) (j := r.ls.length) (by omega)
  have h5 := ch_lsP (mvs := mvsOf p.moves) (trk := trk) (i := i + 1) (j := r.ls.length) (by omega)
  rw [h2] at h4 h5
  rw [pre_getD h4 h3]
  exact h5.subset (addTo_has (ls := (chF (mvsOf p.moves) trk i).1.ls) (mvsOf p.moves) [] hm)
theorem tbl_nodup (hq : buildQ p trk = true) (hr : searchB (mvsOf p.moves) trk = some r) : r.ls.Nodup := by
  have := ch_nodup (mvs := mvsOf p.moves) (trk := trk) r.ls.length
  rwa [(tbl_of hq hr).2] at this
end
/-- The place of a pattern's neighbour. -/
def nbI (mvs ls : List (List Int)) (i j : Nat) : Nat := ls.idxOf (pickI (mvs.getD j []) (ls.getD i []))
theorem idx_uniq {ls : List (List Int)} {x : List Int} {k : Nat} (hn : ls.Nodup) (hk : k < ls.length) (h : ls.getD k [] = x) : ls.idxOf x = k := by
  have hx : x ∈ ls := by rw [← h, List.getD_eq_getElem?_getD, List.getElem?_eq_getElem hk]; exact List.getElem_mem hk
  have h1 := List.idxOf_lt_length_of_mem hx
  have h2 : ls[ls.idxOf x] = x := List.getElem_idxOf h1
  rw [List.getD_eq_getElem?_getD, List.getElem?_eq_getElem hk] at h
  exact (List.getElem_inj hn).1 (h2.trans h.symm)
section
variable {mvs : List (List Int)} {trk : List Int} {p : Pz} {r : Bs}
theorem mvs_mem {j : Nat} (hj : j < mvs.length) : mvs.getD j [] ∈ mvs := by rw [List.getD_eq_getElem?_getD, List.getElem?_eq_getElem hj]; exact List.getElem_mem hj
theorem nb_ok (hq : buildQ p trk = true) (hr : searchB (mvsOf p.moves) trk = some r) {i j : Nat} (hi : i < r.ls.length) (hj : j < (mvsOf p.moves).length) : nbI (mvsOf p.moves) r.ls i j < r.ls.length ∧ r.ls.getD (nbI (mvsOf p.moves) r.ls i j) [] = pickI ((mvsOf p.moves).getD j []) (r.ls.getD i []) := by
  have h := tbl_closed hq hr hi (mvs_mem hj)
  have h1 := List.idxOf_lt_length_of_mem h
  refine ⟨h1, ?_⟩
  unfold nbI
  rw [List.getD_eq_getElem?_getD, List.getElem?_eq_getElem h1]
  exact List.getElem_idxOf h1
theorem nb_is (hq : buildQ p trk = true) (hr : searchB (mvsOf p.moves) trk = some r) {i j k : Nat} (hk : k < r.ls.length) (h : r.ls.getD k [] = pickI ((mvsOf p.moves).getD j []) (r.ls.getD i [])) : nbI (mvsOf p.moves) r.ls i j = k := idx_uniq (tbl_nodup hq hr) hk h
end
/-- The row of a pattern's neighbours; the step down; the whole way down. -/
def rowN (mvs ls : List (List Int)) (i : Nat) : List Nat := (List.range mvs.length).map (nbI mvs ls i)
def fitR (res : List Int) (i k : Nat) : Bool := decide (res.getD k 0 = (res.getD i 0 + 2) % 3)
def stepR (mvs ls : List (List Int)) (res : List Int) (i : Nat) : Option Nat := (rowN mvs ls i).find? (fitR res i)
def walkR (mvs ls : List (List Int)) (res : List Int) : Nat → Nat → Nat → Option Nat
  | 0, i, m => if i = 0 then some m else none
  | f + 1, i, m => if i = 0 then some m else (match stepR mvs ls res i with
    | none => none
    | some k => walkR mvs ls res f k (m + 1))
def distR (mvs ls : List (List Int)) (res : List Int) (i : Nat) : Option Nat := walkR mvs ls res ls.length i 0
def allW (mvs ls : List (List Int)) (res : List Int) : Bool := (List.range ls.length).all fun i => (distR mvs ls res i).isSome
def listW (mvs ls : List (List Int)) (res : List Int) (k : Nat) : List Int := (List.range k).map fun i => (((distR mvs ls res i).getD 0 : Nat) : Int)
section
variable {mvs ls : List (List Int)} {res : List Int}
theorem rowN_len (i : Nat) : (rowN mvs ls i).length = mvs.length := by simp [rowN]
theorem rowN_at {i j : Nat} (hj : j < mvs.length) : (rowN mvs ls i).getD j 0 = nbI mvs ls i j := by simp [rowN, List.getD_eq_getElem?_getD, hj]
theorem step_some {i j : Nat} (hj : j < mvs.length) (hno : ∀ k, k < j → fitR res i (nbI mvs ls i k) = false) (h : fitR res i (nbI mvs ls i j) = true) : stepR mvs ls res i = some (nbI mvs ls i j) := by
  unfold stepR rowN
  have e : List.find? (fitR res i ∘ nbI mvs ls i) (List.range mvs.length) = some j := List.find?_eq_some_iff_getElem.2 ⟨h, j, by simpa using hj, by simp, fun k hk => by simpa using hno k hk⟩
  rw [List.find?_map, e]
  rfl
theorem step_none {i : Nat} (hno : ∀ k, k < mvs.length → fitR res i (nbI mvs ls i k) = false) : stepR mvs ls res i = none := by
  unfold stepR rowN
  rw [List.find?_eq_none]
  intro x hx
  obtain ⟨k, hk, rfl⟩ := List.mem_map.1 hx
  rw [hno k (List.mem_range.1 hk)]
  decide
theorem desc_zero (f m : Nat) : walkR mvs ls res f 0 m = some m := by cases f <;> simp [walkR]
theorem desc_out {i : Nat} (hi : i ≠ 0) (m : Nat) : walkR mvs ls res 0 i m = none := by simp [walkR, hi]
theorem desc_stop {i f m : Nat} (hi : i ≠ 0) (h : stepR mvs ls res i = none) : walkR mvs ls res f i m = none := by
  cases f <;> simp [walkR, hi, h]
theorem desc_next {i f m k : Nat} (hi : i ≠ 0) (h : stepR mvs ls res i = some k) : walkR mvs ls res (f + 1) i m = walkR mvs ls res f k (m + 1) := by
  simp [walkR, hi, h]
theorem desc_bd : ∀ (f i m d : Nat), walkR mvs ls res f i m = some d → m ≤ d ∧ d ≤ m + f := by
  intro f
  induction f with
  | zero =>
    intro i m d h
    by_cases hi : i = 0
    · simp [walkR, hi] at h; omega
    · simp [walkR, hi] at h
  | succ f ih =>
    intro i m d h
    by_cases hi : i = 0
    · simp [walkR, hi] at h; omega
    · cases hs : stepR mvs ls res i with
      | none => simp [walkR, hi, hs] at h
      | some k =>
        simp [walkR, hi, hs] at h
        have := ih k (m + 1) d h
        omega
theorem listW_more (k : Nat) : listW mvs ls res (k + 1) = listW mvs ls res k ++ [(((distR mvs ls res k).getD 0 : Nat) : Int)] := by simp [listW, List.range_succ]
theorem listW_len (k : Nat) : (listW mvs ls res k).length = k := by simp [listW]
theorem allW_iff : allW mvs ls res = true ↔ ∀ i, i < ls.length → (distR mvs ls res i).isSome = true := by
  unfold allW
  rw [List.all_eq_true]
  exact ⟨fun h i hi => h i (List.mem_range.2 hi), fun h i hi => h i (List.mem_range.1 hi)⟩
theorem allW_no {i : Nat} (hi : i < ls.length) (h : distR mvs ls res i = none) : allW mvs ls res = false := by
  rw [Bool.eq_false_iff]
  intro q
  have := allW_iff.1 q i hi
  rw [h] at this
  cases this
end
end
section
open Go.RowKit Grp

def dVal (o : Option Nat) : Int := match o with
  | none => -1
  | some d => (d : Int)
/-- What is known of a table that is built and of residues over it. -/
structure TabR (p : Pz) (trk : List Int) (r : Bs) (N : Nat) (res : List Int) : Prop where
  g : ChG p trk N
  s : searchB (mvsOf p.moves) trk = some r
  len : r.ls.length ≤ 3000
  rows : RowsOk N trk.length r.ls
  di : RowsDi trk.length r.ls
  rl : res.length = r.ls.length
  rb : ∀ k, k < res.length → 0 ≤ res.getD k 0 ∧ res.getD k 0 ≤ 3
theorem tabR_of {p : Pz} {trk : List Int} {r : Bs} {res : List Int} (hq : buildQ p trk = true) (hs : searchB (mvsOf p.moves) trk = some r) (hl : res.length = r.ls.length) (hb : ∀ k, k < res.length → 0 ≤ res.getD k 0 ∧ res.getD k 0 ≤ 3) : ∃ N, TabR p trk r N res := by
  obtain ⟨N, hG⟩ := ch_good hq
  obtain ⟨h1, h2⟩ := tbl_of hq hs
  have h3 := hG.ok _ h1
  rw [h2] at h3
  exact ⟨N, hG, hs, h3.1.cap, h3.1.rows, h3.2.1, hl, hb⟩
theorem TabR.nb {p : Pz} {trk : List Int} {r : Bs} {N : Nat} {res : List Int} (h : TabR p trk r N res) {i j : Nat} (hi : i < r.ls.length) (hj : j < (mvsOf p.moves).length) : nbI (mvsOf p.moves) r.ls i j < r.ls.length ∧ r.ls.getD (nbI (mvsOf p.moves) r.ls i j) [] = pickI ((mvsOf p.moves).getD j []) (r.ls.getD i []) := nb_ok h.g.bld h.s hi hj
theorem fitR_eq {res : List Int} {i k : Nat} {a b : Int} (ha : res.getD k 0 = a) (hb : res.getD i 0 = b) : (a == (b + 2) % 3) = fitR res i k := by
  unfold fitR
  rw [ha, hb]
  by_cases e : a = (b + 2) % 3
  · rw [decide_eq_true e]; simpa using e
  · rw [decide_eq_false e]; simpa using e
set_option maxRecDepth 100000 in
set_option maxHeartbeats 8000000 in
theorem specDesc (A : Option Addr) (c : Nat) (p : Pz) (A1 A2 A3 Ar : Option Addr) (c1 c2 n3 c3 cr N : Nat) (trk : List Int) (r : Bs) (res : List Int) (i0 : Nat) (w : World) (h : PzAt w A p) (h1 : IntsAt w A1 trk) (h2 : LAt w A2 r.ls) (hr : IntsAt w Ar res) (hT : TabR p trk r N res) (hi0 : i0 < r.ls.length) :
    Calls Try.prog 75 #[.agg #[.int .i64 p.pts, .string p.names, .slice A p.moves.length c], .agg #[.slice A1 trk.length c1, .slice A2 r.ls.length c2, .slice A3 n3 c3], .slice Ar r.ls.length cr, .int .i64 (i0 : Int)] w fun e w' => e = .returned (.int .i64 (dVal (distR (mvsOf p.moves) r.ls res i0))) ∧ Below w.heap.size w w' := by
  obtain ⟨w0, hw0⟩ : ∃ w0, (w.alloc (.cells #[.int .i64 p.pts, .string p.names, .slice A p.moves.length c] 29)).alloc (.cells #[.slice A1 trk.length c1, .slice A2 r.ls.length c2, .slice A3 n3 c3] 34) = w0 := ⟨_, rfl⟩
  have hb0 : Below w.heap.size w w0 := by rw [← hw0]; exact (by repeat (first | exact Below.refl _ _ | assumption | refine Below.setCell ?_ (by first | omega | (simp <;> omega)) _ | refine Below.alloc ?_ (by first | omega | (simp <;> omega)) _ | refine Below.drew ?_))
  have R0 : Hid (w0.heap[w.heap.size]? = some (.cells #[.int .i64 p.pts, .string p.names, .slice A p.moves.length c] 29 (0, 0))) := by rw [← hw0]; exact alloc2_0 _ _ _
  have R1 : Hid (w0.heap[w.heap.size + 1]? = some (.cells #[.slice A1 trk.length c1, .slice A2 r.ls.length c2, .slice A3 n3 c3] 34 (0, 0))) := by rw [← hw0]; exact alloc2_1 _ _ _
  have HP := Lib.hid h
  have H1 := Lib.hid h1
  have H2 := Lib.hid h2
  have HR := Lib.hid hr
  have HTR := Lib.hid hT
  have hn3 := hT.len
  have hpz : pzQ p = true := by
    have := hT.g.trq
    unfold trkQ at this
    rw [Bool.and_eq_true] at this
    exact this.1
  have hcl := specLettersP A c p w0 (h.below hb0) hpz (by have := hT.g.m8; omega)
  obtain ⟨n, hn⟩ : ∃ n, r.ls.length = n := ⟨_, rfl⟩
  obtain ⟨m, hmm⟩ : ∃ m, p.moves.length = m := ⟨_, rfl⟩
  obtain ⟨L, hL⟩ : ∃ L, trk.length = L := ⟨_, rfl⟩
  rw [hn, hL] at R1
  rw [hn, hmm, hL]
  rw [hn, hmm, hL] at hw0
  rw [hmm] at R0 hcl
  rw [hn] at hi0 hn3
  obtain ⟨D, hD⟩ : ∃ D, distR (mvsOf p.moves) r.ls res i0 = D := ⟨_, rfl⟩
  rw [hD]
  have HB0 := Lib.hid hb0
  have HN := Lib.hid hn
  have HM := Lib.hid hmm
  have HLL := Lib.hid hL
  have HD : Hid (walkR (mvsOf p.moves) r.ls res n i0 0 = D) := by unfold Hid; rw [← hD, ← hn]; rfl
  have HW0 := Lib.hid hw0
  have HCL := Lib.hid hcl
  obtain ⟨p0, p1, p2, -, pl⟩ := row3 R0.out
  obtain ⟨t0, t1, t2, -, tl⟩ := row3 R1.out
  clear hpz h h1 h2 hr hT hcl hn hmm hL hD hw0 hb0
  go_enter Try.func75, Try.ntmps75
  go_wp2_with fail
  rw [HW0.out]
  refine HCL.out.mono ?_
  rintro e w1 ⟨v1, rfl, hF1, hb1⟩
  obtain ⟨A7, c7, hc7, rfl, hI7⟩ := hF1.capped
  rw [letsOf_len] at hc7 ⊢
  have HI7 := Lib.hid hI7
  have HB1 := Lib.hid hb1
  clear hF1 hI7 hb1 HW0 HCL p0 p1 p2 pl t0 t1 t2 tl
  have r0 := rowB HB1.out R0.out
  have r1 := rowB HB1.out R1.out
  have R0' := Lib.hid r0
  have R1' := Lib.hid r1
  clear r0 r1 R0 R1
  obtain ⟨t0, t1, t2, -, tl⟩ := row3 R1'.out
  go_wp2_with fail
  clear t0 t1 t2 tl
  go_loopw [10, 11] (fun at_ mv wr => ∃ (i q : Nat), at_ = .int .i64 (i : Int) ∧ mv = .int .i64 (q : Int) ∧ i < n ∧ Below w1.heap.size w1 wr ∧ ((q ≤ n ∧ Hid (walkR (mvsOf p.moves) r.ls res (n - q) i q = D)) ∨ (q = n + 1 ∧ Hid (D = none)))) (fun _ mv _ => n + 1 - (intOf mv).toNat)
  case atStart => exact ⟨i0, 0, rfl, rfl, hi0, Below.refl _ _, .inl ⟨Nat.zero_le _, HD.out⟩⟩
  case round =>
    obtain ⟨i, q, rfl, rfl, hi, hB, hcase⟩ := hrel
    have HBW := Lib.hid (belowStep (belowStep hB HB1.out) HB0.out)
    have R0w := Lib.hid (rowB hB R0'.out)
    have R1w := Lib.hid (rowB hB R1'.out)
    have HI := Lib.hid (HI7.out.below hB)
    have HB := Lib.hid hB
    obtain ⟨p0, p1, p2, -, pl⟩ := row3 R0w.out
    obtain ⟨t0, t1, t2, -, tl⟩ := row3 R1w.out
    clear hB
    rcases hcase with ⟨hq, HWK⟩ | ⟨rfl, HNO⟩
    rotate_left
    · have hx : ¬ ((n + 1 : Nat) : Int) ≤ (n : Int) := by omega
      go_wp2_with fail
      go_ret
      exact ⟨by rw [HNO.out]; rfl, HBW.out⟩
    have hqn : (q : Int) ≤ (n : Int) := by omega
    by_cases hz : i = 0
    · subst hz
      have HDD : Hid (D = some q) := by unfold Hid; rw [← HWK.out, desc_zero]
      go_wp2_with fail
      go_ret
      exact ⟨by rw [HDD.out]; rfl, HBW.out⟩
    have hz2 : ((i : Int) == 0) = false := by simpa using hz
    go_wp2_with fail
    clear p0 p1 p2 pl t0 t1 t2 tl
    generalize wr = wo at *
    have hwo1 : w1.heap.size ≤ wo.heap.size := HB.out.size
    go_loopw [12, 13] (fun nx jv wr => ∃ (j : Nat) (z : Int), jv = .int .i64 (j : Int) ∧ nx = .int .i64 z ∧ j ≤ 2 * m ∧ Below wo.heap.size wo wr ∧ ((z = -1 ∧ Hid (∀ k, k < j → fitR res i (nbI (mvsOf p.moves) r.ls i k) = false)) ∨ ∃ k : Nat, z = (k : Int) ∧ k < n ∧ Hid (stepR (mvsOf p.moves) r.ls res i = some k))) (fun _ jv _ => 2 * m - (intOf jv).toNat)
    case atStart => exact ⟨0, -1, rfl, rfl, Nat.zero_le _, Below.refl _ _, .inl ⟨rfl, fun k hk => absurd hk (Nat.not_lt_zero _)⟩⟩
    case round =>
      obtain ⟨j, z, rfl, rfl, hj, hB, hc⟩ := hrel
      have HBx := Lib.hid hB
      have hzB := hB.size
      clear hB
      rcases hc with ⟨rfl, HNF⟩ | ⟨k, rfl, hkn, HST⟩
      rotate_left
      · have hk0 : ¬ (k : Int) < 0 := by omega
        have HNX : Hid ((q + 1 ≤ n ∧ Hid (walkR (mvsOf p.moves) r.ls res (n - (q + 1)) k (q + 1) = D)) ∨ (q + 1 = n + 1 ∧ Hid (D = none))) := by
          have hwk := HWK.out
          rcases Nat.lt_or_ge q n with h | h
          · left
            refine ⟨h, ?_⟩
            rw [show n - q = (n - (q + 1)) + 1 from by omega, desc_next hz HST.out] at hwk
            exact hwk
          · right
            rw [show n - q = 0 from by omega, desc_out hz] at hwk
            exact ⟨by omega, hwk.symm⟩
        have hBB := HB.out.trans (HBx.out.mono hwo1)
        by_cases hjl : j < 2 * m
        · have hj1 : (j : Int) < 2 * (m : Int) := by omega
          go_wp2_with fail
          go_roundw
          case rel => exact ⟨k, q + 1, rfl, by go_num, hkn, hBB, HNX.out⟩
          case measure => simp [intOf]; omega
        · have hj1 : ¬ (j : Int) < 2 * (m : Int) := by omega
          go_wp2_with fail
          go_roundw
          case rel => exact ⟨k, q + 1, rfl, by go_num, hkn, hBB, HNX.out⟩
          case measure => simp [intOf]; omega
      by_cases hlt : j < 2 * m
      rotate_left
      · have hj1 : ¬ (j : Int) < 2 * (m : Int) := by omega
        have HNO : Hid (D = none) := by
          unfold Hid
          rw [← HWK.out]
          refine desc_stop hz (step_none fun k hk => HNF.out k ?_)
          rw [mvsOf_len, HM.out] at hk
          omega
        have hBB := belowStep HBx.out HBW.out
        go_wp2_with fail
        go_ret
        exact ⟨by rw [HNO.out]; rfl, hBB⟩
      have q2 : (0 : Int) ≤ (j : Int) := by omega
      have q3 : (j : Int) < 2 * (m : Int) := by omega
      obtain ⟨b7, o7, rfl, hb7, hc7j⟩ := HI.out j (by rw [letsOf_len]; exact hlt)
      obtain ⟨y, hy⟩ : ∃ y, (letsOf m).getD j 0 = y := ⟨_, rfl⟩
      rw [hy] at hc7j
      obtain ⟨b2, o2, Ap, cp, rfl, hb2, hcp, hc2i, hIP⟩ := H2.out i (by rw [HN.out]; exact hi)
      obtain ⟨pat, hpat⟩ : ∃ pat, r.ls.getD i [] = pat := ⟨_, rfl⟩
      obtain ⟨x, hx⟩ : ∃ x, pickI ((mvsOf p.moves).getD j []) pat = x := ⟨_, rfl⟩
      have hpo := HTR.out.rows i (by rw [HN.out]; exact hi)
      have hdp := HTR.out.di i (by rw [HN.out]; exact hi)
      rw [hpat] at hpo hdp hcp hc2i hIP
      rw [hpo.1, HLL.out] at hcp hc2i
      have hmlen : (mvsOf p.moves).length = 2 * m := by rw [mvsOf_len, HM.out]
      have HPX : Hid (PtsOk N L x) := by unfold Hid; rw [← hx, ← HLL.out]; exact (HTR.out.g.mvs.all j (by rw [hmlen]; exact hlt)).pick hpo
      have HC2 := Lib.hid hc2i
      have HIP := Lib.hid hIP
      have HAFT : Hid (∀ wx A3 c3, Below w.heap.size w wx → IntsAt wx A3 [y] → Calls Try.prog 102 #[.agg #[.int .i64 p.pts, .string p.names, .slice A m c], .slice A1 L c1, .slice Ap L cp, .slice A3 1 c3] wx fun e w' => ∃ v, e = .returned (.tuple #[v, .bool true]) ∧ Fresh wx.heap.size w' v x ∧ Below wx.heap.size wx w') := fun wx A3 c3 hbx q => by
        have hdq := Dist.diQ hpo hdp
        rw [← HTR.out.g.pts] at hdq
        have := specAfter A A1 Ap A3 c c1 cp c3 N L p trk pat j y wx (HP.out.below hbx) (H1.out.below hbx) (HIP.out.below hbx) q (by have := HTR.out.g.len; omega) hcp (by rw [← HLL.out]; exact hpo) (by have := HTR.out.g.len; have := HLL.out; omega) (by rw [HM.out]; exact hlt) HTR.out.g.m8 HTR.out.g.mvs HTR.out.g.le HTR.out.g.one (by rw [HM.out]; exact hy) HTR.out.g.trq hdq
        rw [HM.out, HLL.out, hx] at this
        exact this
      have hm8 : m ≤ 8 := by rw [← HM.out]; exact HTR.out.g.m8
      have hne7 : ¬ c7 = j := by omega
      have q4 : (0 : Int) ≤ (j : Int) + 1 := by omega
      have q5 : (j : Int) + 1 ≤ (c7 : Int) := by omega
      have q6 : (j : Int) ≤ (j : Int) + 1 := by omega
      have i0' : (0 : Int) ≤ (i : Int) := by omega
      have i1' : (i : Int) < (n : Int) := by omega
      have hwj : IntKind.i64.wrap ((j : Int) + 1) = (j : Int) + 1 := IntWalk.i64_in _ (by omega)
      have HY : Hid (∀ wx, Below wo.heap.size wo wx → IntsAt wx (some ⟨b7, o7 + j, none⟩) [y]) := fun wx hb u hu => by
        obtain rfl : u = 0 := by simpa using hu
        exact ⟨b7, o7 + j, rfl, Nat.lt_of_lt_of_le hb7 hb.size, (hb.cell (p := ⟨b7, o7 + j, none⟩) hb7).trans hc7j⟩
      have HPAT := Lib.hid hpat
      have HXX := Lib.hid hx
      have HBWx := Lib.hid (belowStep HBx.out HBW.out)
      have hpc := (HBWx.out.cell (p := ⟨b2, o2 + i, none⟩) hb2).trans hc2i
      obtain ⟨p0, p1, p2, -, pl⟩ := row3 (rowB HBx.out R0w.out)
      obtain ⟨t0, t1, t2, -, tl⟩ := row3 (rowB HBx.out R1w.out)
      have hb2x : b2 < wr.heap.size := Nat.lt_of_lt_of_le hb2 HBWx.out.size
      clear hpo hdp hpat hx hy hcp hIP hc7j hc2i hmlen
      go_wp2_with fail
      go_region_held3 (fun w' => w'.cell? ⟨w.heap.size, 0, none⟩ = some (.int .i64 p.pts) ∧ w'.cell? ⟨w.heap.size, 1, none⟩ = some (.string p.names) ∧ w'.cell? ⟨w.heap.size, 2, none⟩ = some (.slice A m c) ∧ w'.cell? ⟨w.heap.size + 1, 0, none⟩ = some (.slice A1 L c1) ∧ w'.cell? ⟨w.heap.size + 1, 1, none⟩ = some (.slice (some ⟨b2, o2, none⟩) n c2) ∧ w'.cell? ⟨b2, o2 + i, none⟩ = some (.slice Ap L cp)) (first | exact ⟨e0, e1, e2, e3, e4, e5⟩ | go_keep) ((go_at_call 102; go_loud (refine (HAFT.out _ (some ⟨b7, o7 + j, none⟩) _ (by first | exact HBWx.out.drew | exact HBWx.out) (by first | exact HY.out _ (HBx.out.drew) | exact HY.out _ HBx.out)).mono ?_); rintro e w5 ⟨v5, rfl, hF5, hb5⟩; have B5 : Below wr.heap.size wr w5 := ⟨hb5.os, hb5.tape, hb5.output, hb5.size, hb5.block⟩; have e0 := (B5.cell (p := ⟨w.heap.size, 0, none⟩) pl).trans p0; have e1 := (B5.cell (p := ⟨w.heap.size, 1, none⟩) pl).trans p1; have e2 := (B5.cell (p := ⟨w.heap.size, 2, none⟩) pl).trans p2; have e3 := (B5.cell (p := ⟨w.heap.size + 1, 0, none⟩) tl).trans t0; have e4 := (B5.cell (p := ⟨w.heap.size + 1, 1, none⟩) tl).trans t1; have e5 := (B5.cell (p := ⟨b2, o2 + i, none⟩) hb2x).trans hpc))
      obtain ⟨A5, c5, hc5, rfl, hI5⟩ := hF5.capped
      rw [HPX.out.1] at hc5 hF5 ⊢
      have HB5 := Lib.hid (belowStep B5 HBWx.out)
      have hidx := specIdx (some ⟨b2, o2, none⟩) A5 c2 c5 n L r.ls x w5 (H2.out.below HB5.out) hI5 HN.out (by omega) (fun u hu => by have := (HTR.out.rows u hu).1; have := HTR.out.g.len; omega) HPX.out.1
      have HIDX := Lib.hid hidx
      have HBx5 := Lib.hid (belowStep B5 HBx.out)
      obtain ⟨k, hk1, hk2⟩ : ∃ k, k < n ∧ nbI (mvsOf p.moves) r.ls i j = k := by
        have := HTR.out.nb (i := i) (j := j) (by rw [HN.out]; exact hi) (by rw [mvsOf_len, HM.out]; exact hlt)
        exact ⟨_, by have := this.1; rwa [HN.out] at this, rfl⟩
      have HNB := Lib.hid hk2
      have HKX : Hid (r.ls.getD k [] = x) := by
        unfold Hid
        rw [← hk2, (HTR.out.nb (i := i) (j := j) (by rw [HN.out]; exact hi) (by rw [mvsOf_len, HM.out]; exact hlt)).2, HPAT.out, HXX.out]
      clear p0 p1 p2 pl t0 t1 t2 tl e0 e1 e2 e3 e4 e5 hpc hidx hk2 hF5 hI5 hb5 B5
      obtain ⟨t0, t1, t2, -, tl⟩ := row3 (rowB HBx5.out R1w.out)
      go_wp2_with fail
      refine HIDX.out.mono ?_
      rintro e w6 ⟨rr, rfl, hr1, hr2, hb6⟩
      have hin : inL r.ls x = true := by rw [← HKX.out]; exact inL_at (by rw [HN.out]; exact hk1) rfl
      rw [hin] at hr1
      have hr0 : 0 ≤ rr := of_decide_eq_true hr1
      obtain ⟨hr3, hr4⟩ := hr2 hr0
      have hrk : rr.toNat = k := by
        have g1 := idx_uniq (tbl_nodup HTR.out.g.bld HTR.out.s) hr3 hr4
        have g2 := idx_uniq (tbl_nodup HTR.out.g.bld HTR.out.s) (by rw [HN.out]; exact hk1) HKX.out
        omega
      obtain rfl : rr = (k : Int) := by omega
      clear hr1 hr2 hr3 hr4 hrk hin hr0 t0 t1 t2 tl
      have HB6 := Lib.hid (belowStep hb6 HB5.out)
      have HBx6 := Lib.hid (belowStep hb6 HBx5.out)
      obtain ⟨br, orr, rfl, hbr, hck⟩ := HR.out k (by rw [HTR.out.rl, HN.out]; exact hk1)
      obtain ⟨br2, or2, e2', hbr2, hci⟩ := HR.out i (by rw [HTR.out.rl, HN.out]; exact hi)
      injection e2' with e2'
      injection e2' with e3' e4'
      subst e3' e4'
      obtain ⟨ra, hra⟩ : ∃ ra, res.getD k 0 = ra := ⟨_, rfl⟩
      obtain ⟨rb, hrb⟩ : ∃ rb, res.getD i 0 = rb := ⟨_, rfl⟩
      have hbd := HTR.out.rb i (by rw [HTR.out.rl, HN.out]; exact hi)
      rw [hra] at hck
      rw [hrb] at hci hbd
      have hck6 := (HB6.out.cell (p := ⟨br, orr + k, none⟩) hbr).trans hck
      have hci6 := (HB6.out.cell (p := ⟨br, orr + i, none⟩) hbr2).trans hci
      have hfit := fitR_eq hra hrb
      have k0' : (0 : Int) ≤ (k : Int) := by omega
      have k1' : (k : Int) < (n : Int) := by omega
      have hw2 : IntKind.i64.wrap (rb + 2) = rb + 2 := IntWalk.i64_in _ (by omega)
      have hw3 : IntKind.i64.wrap ((rb + 2) % 3) = (rb + 2) % 3 := IntWalk.i64_in _ (by omega)
      have ht3 : (rb + 2).tmod 3 = (rb + 2) % 3 := IntWalk.rem_in _ _ (by omega)
      have HFIT : Hid (fitR res i k = (ra == (rb + 2) % 3)) := hfit.symm
      obtain ⟨bq, hbq⟩ : ∃ bq, (ra == (rb + 2) % 3) = bq := ⟨_, rfl⟩
      rw [hbq] at HFIT
      clear hra hrb hck hci hfit
      go_upto_region 14 with fail
      go_quiet (fail)
      have HBq := Lib.hid (belowDrewN HBx6.out nq)
      cases bq with
      | true =>
        have hne : ¬ (k : Int) < 0 := by omega
        have HST : Hid (stepR (mvsOf p.moves) r.ls res i = some k) := by
          unfold Hid
          rw [← HNB.out]
          refine step_some (by rw [mvsOf_len, HM.out]; exact hlt) (fun u hu => HNF.out u hu) ?_
          rw [HNB.out]; exact HFIT.out
        go_wp2_with fail
        go_roundw
        case rel => exact ⟨j + 1, (k : Int), by go_num, rfl, by omega, HBq.out, .inr ⟨k, rfl, hk1, HST.out⟩⟩
        case measure => simp [intOf]; omega
      | false =>
        have HNF2 : Hid (∀ u, u < j + 1 → fitR res i (nbI (mvsOf p.moves) r.ls i u) = false) := fun u hu => by
          rcases Nat.lt_or_ge u j with h | h
          · exact HNF.out u h
          · obtain rfl : u = j := by omega
            rw [HNB.out]; exact HFIT.out
        go_wp2_with fail
        go_roundw
        case rel => exact ⟨j + 1, -1, by go_num, rfl, by omega, HBq.out, .inl ⟨rfl, HNF2.out⟩⟩
        case measure => simp [intOf]; omega
end
section
open Go.RowKit

theorem rowInfo : (Try.prog.info? 75).map (fun i => (i.zero, i.size, i.bytes)) = some (some (.slice none 0 0), 1, 24) := by kernel_rfl
/-- A slice of int of the call's own. -/
def FreshW (B : Nat) (w : World) (v : Value) (xs : List Int) : Prop := w.ownsRow B 3 1 v xs.length (xs.map (Value.int .i64))
theorem FreshW.nil (B : Nat) (w : World) : FreshW B w (.slice none 0 0) [] := World.ownsRow_nil _ _ _ _
theorem FreshW.kept {B : Nat} {w w' : World} {v : Value} {xs : List Int} {row : Option Nat} (h : FreshW B w v xs) (hg : w.grownBy w' row) (hr : ∀ b, v.ownBlock = some b → row ≠ some b) : FreshW B w' v xs := by
  refine World.ownsRow.kept h hg ?_
  cases hv : v.ownBlock with
  | none => exact .inl rfl
  | some b => exact .inr fun e => hr b hv e.symm
theorem FreshW.below {B : Nat} {w w' : World} {v : Value} {xs : List Int} (h : FreshW B w v xs) (hb : Below w.heap.size w w') : FreshW B w' v xs := h.kept (gB hb none) (fun _ _ e => by cases e)
theorem FreshW.shape {B : Nat} {w : World} {v : Value} {xs : List Int} (h : FreshW B w v xs) : ∃ A c, v = .slice A xs.length c ∧ xs.length ≤ c ∧ (A = none ∨ ∃ g, A = some ⟨g, 0, none⟩) := by
  rcases h.2 with ⟨rfl, h0⟩ | ⟨g, cap, cur, rfl, _, _, h3, _⟩
  · exact ⟨none, 0, by rw [h0], by omega, .inl rfl⟩
  · exact ⟨_, cap, rfl, h3, .inr ⟨g, rfl⟩⟩
theorem FreshW.own {B : Nat} {w : World} {v : Value} {xs : List Int} (h : FreshW B w v xs) : ∀ b, v.ownBlock = some b → B ≤ b ∧ b < w.heap.size := fun b hb => World.ownsRow.lt h b hb
theorem FreshW.intsAt {B : Nat} {w : World} {A : Option Addr} {n c : Nat} {xs : List Int} (h : FreshW B w (.slice A n c) xs) : IntsAt w A xs := by
  intro k hk
  have ho := h.own
  rcases h.2 with ⟨e, h0⟩ | ⟨g, cap, cur, e, _, _, _, _⟩
  · omega
  · injection e with e1 e2 e3
    subst e1 e2 e3
    refine ⟨g, 0, rfl, (ho g rfl).2, ?_⟩
    rw [Nat.zero_add, World.ownsRow.cellAt h k (by omega)]
    simp [List.getD_eq_getElem?_getD, List.getElem?_eq_getElem hk]
theorem append_word {w : World} {ops : Array Oper} {rest : List Oper} {o : Oper} {a : Act} {Q : Exit → Act → World → Prop} (hgd : o.guard = none) (s x : Operand)
    (hop : o.op = Op.call { callee := Callee.builtin Builtin.append, args := #[s, x], argTypes := #[75, 75] })
    (B : Nat) (v : Value) (xs : List Int) (n : Int) (hs : a.eval s = v) (hown : FreshW B w v xs) (g : Nat) (hx : a.eval x = .slice (some ⟨g, 0, none⟩) 1 1)
    (hcell : w.cell? ⟨g, 0, none⟩ = some (.int .i64 n)) (hl : xs.length ≤ 1048576) (hB : B ≤ w.heap.size)
    (h : ∀ v' w', FreshW B w' v' (xs ++ [n]) → w.grownBy w' v.ownBlock → Below B w w' → wpList Try.prog ops Q rest (a.put o.dst v') w') : wpList Try.prog ops Q (o :: rest) a w := by
  obtain ⟨i0, hi, hz0, hz1, hz2⟩ := info_parts wordInfo
  have hbl := hown.own
  refine wpList_append_own_at _ hgd s x 75 hop B 3 i0 (.int .i64 0) 1 8 Try.underlying75 hi hz0 hz1 hz2 rfl (by decide) v xs.length (xs.map (Value.int .i64)) hs hown ⟨g, 0, none⟩ 1 1 [.int .i64 n] hx rfl ?_ ?_ ?_ ?_ hB ?_
  · intro j u hj
    match j, hj with
    | 0, hj => simp at hj; subst hj; simpa [Addr.add] using hcell
  · intro u hu; simp at hu; subst hu; rfl
  · unfold maxLen; omega
  · omega
  · intro v' w' hown' hgrow _ _
    refine h v' w' ?_ hgrow ((Below.refl _ _).grown hgrow hB fun b hb => (hbl b hb).1)
    simpa [FreshW] using hown'
/-- Lists of lists of int: the header is the call's own, no row lies there or in a block of zs. -/
def GnAt (lo : Nat) (zs : Nat → Prop) (w : World) (v : Value) (ls : List (List Int)) : Prop :=
  ∃ cs : List Value, w.ownsRow lo 75 1 v ls.length cs ∧ (∀ b, v.ownBlock = some b → ¬ zs b) ∧
    ∀ j, j < ls.length → ∃ Aj cj, cs[j]? = some (.slice Aj (ls.getD j []).length cj) ∧ (ls.getD j []).length ≤ cj ∧ IntsAt w Aj (ls.getD j []) ∧ (0 < (ls.getD j []).length → ∀ g off s, Aj = some ⟨g, off, s⟩ → ¬ zs g ∧ v.ownBlock ≠ some g)
theorem GnAt.nil (lo : Nat) (zs : Nat → Prop) (w : World) : GnAt lo zs w (.slice none 0 0) [] :=
  ⟨[], World.ownsRow_nil _ _ _ _, (fun b hb => by cases hb), (fun j hj => by simp at hj)⟩
theorem GnAt.own {lo : Nat} {zs : Nat → Prop} {w : World} {v : Value} {ls : List (List Int)} (h : GnAt lo zs w v ls) : ∀ b, v.ownBlock = some b → lo ≤ b ∧ b < w.heap.size ∧ ¬ zs b := by
  obtain ⟨cs, h1, h2, -⟩ := h
  exact fun b hb => ⟨(World.ownsRow.lt h1 b hb).1, (World.ownsRow.lt h1 b hb).2, h2 b hb⟩
theorem GnAt.kept {lo : Nat} {zs : Nat → Prop} {w w' : World} {v : Value} {ls : List (List Int)} {row : Option Nat} (h : GnAt lo zs w v ls) (hg : w.grownBy w' row) (hr : ∀ g, row = some g → zs g) : GnAt lo zs w' v ls := by
  obtain ⟨cs, h1, h2, h3⟩ := h
  refine ⟨cs, World.ownsRow.kept h1 hg ?_, h2, fun j hj => ?_⟩
  · cases hv : v.ownBlock with
    | none => exact .inl rfl
    | some b => exact .inr fun e => h2 b hv (hr b e.symm)
  · obtain ⟨Aj, cj, g1, g2, g3, g4⟩ := h3 j hj
    exact ⟨Aj, cj, g1, g2, g3.kept hg (fun hl g off s e e2 => (g4 hl g off s e).1 (hr g e2)), g4⟩
theorem GnAt.below {lo : Nat} {zs : Nat → Prop} {w w' : World} {v : Value} {ls : List (List Int)} (h : GnAt lo zs w v ls) (hb : Below w.heap.size w w') : GnAt lo zs w' v ls := h.kept (gB hb none) (fun g e => by cases e)
theorem GnAt.other {lo : Nat} {zs zs' : Nat → Prop} {w : World} {v : Value} {ls : List (List Int)} (h : GnAt lo zs w v ls) (hz : ∀ b, zs' b → zs b ∨ w.heap.size ≤ b) : GnAt lo zs' w v ls := by
  have ho := h.own
  obtain ⟨cs, h1, h2, h3⟩ := h
  refine ⟨cs, h1, fun b hb e => ?_, fun j hj => ?_⟩
  · have := ho b hb
    rcases hz b e with e2 | e2
    · exact h2 b hb e2
    · omega
  · obtain ⟨Aj, cj, g1, g2, g3, g4⟩ := h3 j hj
    refine ⟨Aj, cj, g1, g2, g3, fun hl g off s e => ⟨fun e2 => ?_, (g4 hl g off s e).2⟩⟩
    rcases hz g e2 with e3 | e3
    · exact (g4 hl g off s e).1 e3
    · have := g3.first hl e
      omega
theorem GnAt.shape {lo : Nat} {zs : Nat → Prop} {w : World} {v : Value} {ls : List (List Int)} (h : GnAt lo zs w v ls) : ∃ A c, v = .slice A ls.length c ∧ ls.length ≤ c ∧ (A = none ∨ ∃ g, A = some ⟨g, 0, none⟩) := by
  obtain ⟨cs, h1, -⟩ := h
  rcases h1.2 with ⟨rfl, h⟩ | ⟨g, cap, cur, rfl, _, _, h3, _⟩
  · exact ⟨none, 0, by rw [h], by omega, .inl rfl⟩
  · exact ⟨_, cap, rfl, h3, .inr ⟨g, rfl⟩⟩
/-- A row read. -/
theorem GnAt.at_ {lo : Nat} {zs : Nat → Prop} {w : World} {A : Option Addr} {n c : Nat} {ls : List (List Int)} (h : GnAt lo zs w (.slice A n c) ls) {j : Nat} (hj : j < ls.length) :
    ∃ g Aj cj, A = some ⟨g, 0, none⟩ ∧ g < w.heap.size ∧ w.cell? ⟨g, j, none⟩ = some (.slice Aj (ls.getD j []).length cj) ∧ (ls.getD j []).length ≤ cj ∧ IntsAt w Aj (ls.getD j []) ∧ (0 < (ls.getD j []).length → ∀ g2 off s, Aj = some ⟨g2, off, s⟩ → ¬ zs g2) := by
  have ho := h.own
  obtain ⟨cs, h1, h2, h3⟩ := h
  obtain ⟨Aj, cj, g1, g2, g3, g4⟩ := h3 j hj
  rcases h1.2 with ⟨e, h⟩ | ⟨g, cap, cur, e, _, _, _, _⟩
  · omega
  · injection e with e1 e2 e3
    subst e1 e2 e3
    refine ⟨g, Aj, cj, rfl, (ho g rfl).2.1, ?_, g2, g3, fun hl g2 off s e => (g4 hl g2 off s e).1⟩
    rw [World.ownsRow.cellAt h1 j (show j < ls.length * 1 by omega)]
    exact g1
theorem GnAt.lat {lo : Nat} {zs : Nat → Prop} {w : World} {A : Option Addr} {n c : Nat} {ls : List (List Int)} (h : GnAt lo zs w (.slice A n c) ls) : LAt w A ls := fun i hi => by
  obtain ⟨g, Aj, cj, e, h1, h2, h3, h4, -⟩ := h.at_ hi
  exact ⟨g, 0, Aj, cj, e, h1, h3, by rw [Nat.zero_add]; exact h2, h4⟩
theorem append_gn {w : World} {ops : Array Oper} {rest : List Oper} {o : Oper} {a : Act} {Q : Exit → Act → World → Prop} (hgd : o.guard = none) (s x : Operand)
    (hop : o.op = Op.call { callee := Callee.builtin Builtin.append, args := #[s, x], argTypes := #[121, 121] })
    (lo : Nat) (zs : Nat → Prop) (v : Value) (ls : List (List Int)) (ys : List Int) (Ay : Option Addr) (cy : Nat) (hs : a.eval s = v) (hown : GnAt lo zs w v ls) (hz : ∀ b, zs b → b < w.heap.size) (g : Nat) (hx : a.eval x = .slice (some ⟨g, 0, none⟩) 1 1)
    (hcell : w.cell? ⟨g, 0, none⟩ = some (.slice Ay ys.length cy)) (hcy : ys.length ≤ cy) (hy : IntsAt w Ay ys) (hyz : 0 < ys.length → ∀ g off s, Ay = some ⟨g, off, s⟩ → ¬ zs g ∧ v.ownBlock ≠ some g) (hl : ls.length ≤ 1048576) (hB : lo ≤ w.heap.size)
    (h : ∀ A' c' w', GnAt lo zs w' (.slice A' (ls.length + 1) c') (ls ++ [ys]) → w.grownBy w' v.ownBlock → ((Value.slice A' (ls.length + 1) c').ownBlock = v.ownBlock ∨ (Value.slice A' (ls.length + 1) c').ownBlock = some w.heap.size) → wpList Try.prog ops Q rest (a.put o.dst (.slice A' (ls.length + 1) c')) w') : wpList Try.prog ops Q (o :: rest) a w := by
  obtain ⟨i0, hi, hz0, hz1, hz2⟩ := info_parts rowInfo
  have ho := hown.own
  obtain ⟨cs, h1, h2, h3⟩ := hown
  have hcl : cs.length = ls.length := by simpa using h1.1
  refine wpList_append_own_at _ hgd s x 121 hop lo 75 i0 (.slice none 0 0) 1 24 Try.underlying121 hi hz0 hz1 hz2 rfl (by decide) v ls.length cs hs h1 ⟨g, 0, none⟩ 1 1 [.slice Ay ys.length cy] hx rfl
    (by intro j u2 hj; match j, hj with
        | 0, hj => simp at hj; subst hj; simpa [Addr.add] using hcell)
    (by intro u2 hu2; simp at hu2; subst hu2; rfl) (by unfold maxLen; omega) (by omega) hB ?_
  intro v' w' hown' hgrow _ hat
  obtain ⟨A', c', hv'⟩ : ∃ A' c', v' = .slice A' (ls.length + 1) c' := by
    rcases hown'.2 with ⟨e, h⟩ | ⟨g, cap, cur, rfl, _⟩
    · omega
    · exact ⟨_, _, rfl⟩
  subst hv'
  refine h A' c' w' ⟨cs ++ [.slice Ay ys.length cy], by simpa using hown', fun b hb e => ?_, fun j hj => ?_⟩ hgrow hat
  · rcases hat with e2 | e2
    · exact h2 b (e2 ▸ hb) e
    · rw [e2] at hb
      injection hb with hb
      have := hz b e
      omega
  · have hnew : ∀ g2, g2 < w.heap.size → v.ownBlock ≠ some g2 → (Value.slice A' (ls.length + 1) c').ownBlock ≠ some g2 := fun g2 hg2 hne e => by
      rcases hat with e2 | e2
      · exact hne (e2 ▸ e)
      · rw [e2] at e
        injection e with e
        omega
    rw [List.length_append, List.length_singleton] at hj
    by_cases e : j = ls.length
    · subst e
      refine ⟨Ay, cy, ?_, ?_, ?_, ?_⟩
      · rw [List.getElem?_append_right (by omega), hcl, Nat.sub_self, getDlastI]
        rfl
      · rw [getDlastI]; exact hcy
      · rw [getDlastI]; exact hy.kept hgrow (fun hl2 g2 off s2 e2 => (hyz hl2 g2 off s2 e2).2)
      · rw [getDlastI]
        exact fun hl2 g2 off s2 e2 => ⟨(hyz hl2 g2 off s2 e2).1, hnew g2 (hy.first hl2 e2) (hyz hl2 g2 off s2 e2).2⟩
    · obtain ⟨Aj, cj, g1, g2, g3, g4⟩ := h3 j (by omega)
      refine ⟨Aj, cj, ?_, ?_, ?_, ?_⟩
      · rw [List.getElem?_append_left (by omega), getDsnocI _ _ _ (by omega)]
        exact g1
      · rw [getDsnocI _ _ _ (by omega)]; exact g2
      · rw [getDsnocI _ _ _ (by omega)]; exact g3.kept hgrow (fun hl2 g5 off s2 e2 => (g4 hl2 g5 off s2 e2).2)
      · rw [getDsnocI _ _ _ (by omega)]
        exact fun hl2 g5 off s2 e2 => ⟨(g4 hl2 g5 off s2 e2).1, hnew g5 (g3.first hl2 e2) (g4 hl2 g5 off s2 e2).2⟩
/-- Block b is a map of the call's own from the strings K to their places. -/
def PlcAt (w : World) (b n : Nat) (K : List ByteArray) : Prop :=
  ∃ D : DataW Unit, w.ownsMap Try.prog 9 (plainElem Try.prog 3) b n D ∧ Maps.IsMap D ∧ ∀ (i : Nat) (z : DataW Unit), i < K.length → D.atKey (.string (K.getD i ⟨#[]⟩).data.toList) z = .lit (.int .i64 (i : Int))
theorem PlcAt.made (w : World) : PlcAt (w.alloc (.map #[] 0)) w.heap.size 0 [] :=
  ⟨.map [], World.ownsMap_made _ _ _ _, ⟨[], rfl⟩, fun i z h => by simp at h⟩
theorem PlcAt.lt {w : World} {b n : Nat} {K : List ByteArray} (h : PlcAt w b n K) : b < w.heap.size := by
  obtain ⟨D, h1, -⟩ := h
  exact h1.lt
theorem PlcAt.map {w : World} {b n : Nat} {K : List ByteArray} (h : PlcAt w b n K) : ∃ es c, w.heap[b]? = some (.map es c) := by
  obtain ⟨D, ⟨es, c, h1, -⟩, -⟩ := h
  exact ⟨es, c, h1⟩
theorem PlcAt.kept {w w' : World} {b n : Nat} {K : List ByteArray} {row : Option Nat} (h : PlcAt w b n K) (hg : w.grownBy w' row) (hne : some b ≠ row) : PlcAt w' b n K := by
  obtain ⟨D, h1, h2⟩ := h
  exact ⟨D, h1.kept hg hne, h2⟩
theorem PlcAt.below {w w' : World} {b n : Nat} {K : List ByteArray} (h : PlcAt w b n K) (hb : Below w.heap.size w w') : PlcAt w' b n K := h.kept (gB hb none) (by simp)
theorem PlcAt.ne {w : World} {b n g : Nat} {K : List ByteArray} {cs : Array Value} {T : TypeId} {m : Nat × Nat} (h : PlcAt w b n K) (hg : w.heap[g]? = some (.cells cs T m)) : b ≠ g := by
  intro e
  obtain ⟨es, c, h1⟩ := h.map
  rw [e, hg] at h1
  cases h1
set_option maxRecDepth 100000 in
theorem PlcAt.look {w : World} {b n : Nat} {K : List ByteArray} (h : PlcAt w b n K) {i : Nat} (hi : i < K.length) (s : ByteArray) (hk : K.getD i ⟨#[]⟩ = s) (hs : s.size ≤ maxLen) :
    (Instr.lookup 119 (.map (some b)) (.string s) false).run Try.prog w = .ok (.int .i64 (i : Int)) w := by
  obtain ⟨D, h1, h2, h3⟩ := h
  have hz : (zeroValue 3).run Try.prog w = .ok (.int .i64 0) w := by kernel_rfl
  obtain ⟨v, ps, hrun, hv⟩ := h1.lookup keyedS Try.underlying119 hz (plainElem_int Try.underlying3 (by decide)) (WideMaps.keyOf_string_mk Try.underlying9 hs)
  rw [hrun]
  rw [← hk, h3 i _ hi] at hv
  have e : v = .int .i64 (i : Int) := by
    obtain ⟨c, rfl, hc, -⟩ := plainElem_int_inv Try.underlying3 hv
    simp at hc
    rw [hc.1]
  rw [e]
theorem PlcAt.put {w : World} {b n : Nat} {K : List ByteArray} (h : PlcAt w b n K) (s : ByteArray) (hs : s.size ≤ maxLen) (hn : n < maxLen) (hnew : s ∉ K) (hK : K.length ≤ 1048576) :
    ∃ w', (Instr.mapUpdate 119 (.map (some b)) (.string s) (.int .i64 (K.length : Int))).run Try.prog w = .ok () w' ∧ PlcAt w' b (n + 1) (K ++ [s]) ∧ w.grownBy w' (some b) := by
  obtain ⟨D, h1, h2, h3⟩ := h
  have hwf : (Lit.int .i64 (K.length : Int)).wf = true := by
    unfold Lit.wf
    rw [Bool.and_eq_true]
    have e1 : IntKind.i64.min = -9223372036854775808 := rfl
    have e2 : IntKind.i64.max = 9223372036854775807 := rfl
    rw [e1, e2]
    exact ⟨decide_eq_true (by omega), decide_eq_true (by omega)⟩
  obtain ⟨w', r1, r2, r3⟩ := h1.update keyedS Try.underlying119 hn (WideMaps.keyOf_string_mk Try.underlying9 hs) (plainElem_int Try.underlying3 hwf)
  refine ⟨w', r1, ⟨_, r2, r2.isMap, fun i z hi => ?_⟩, r3⟩
  rw [List.length_append, List.length_singleton] at hi
  by_cases e : i = K.length
  · subst e
    have : (K ++ [s]).getD K.length ⟨#[]⟩ = s := by simp [List.getD_eq_getElem?_getD]
    rw [this, Maps.atKey_put_same h2 (by unfold WideAt.IsKeyLit; trivial)]
  · have hi2 : i < K.length := by omega
    have hg : (K ++ [s]).getD i ⟨#[]⟩ = K.getD i ⟨#[]⟩ := by rw [List.getD_eq_getElem?_getD, List.getElem?_append_left hi2, ← List.getD_eq_getElem?_getD]
    have hne : (Lit.string (K.getD i ⟨#[]⟩).data.toList) ≠ .string s.data.toList := fun e2 => hnew (by
      have e3 : K.getD i ⟨#[]⟩ = s := listEq.1 (by injection e2)
      rw [← e3, List.getD_eq_getElem?_getD, List.getElem?_eq_getElem hi2]
      exact List.getElem_mem hi2)
    rw [hg, Maps.atKey_put_other hne, h3 i z hi2]
theorem wpList_place {w : World} {ops : Array Oper} {rest : List Oper} {o : Oper} {a : Act} {Q : Exit → Act → World → Prop}
    (hg : o.guard = none) (m x : Operand) (hop : o.op = Op.lookup 119 m x false) (b n : Nat) (K : List ByteArray) (s : ByteArray) (i : Nat) (hm : a.eval m = .map (some b)) (hx : a.eval x = .string s) (h : PlcAt w b n K) (hi : i < K.length) (hk : K.getD i ⟨#[]⟩ = s) (hs : s.size ≤ maxLen)
    (hK : wpList Try.prog ops Q rest (a.put o.dst (.int .i64 (i : Int))) w) : wpList Try.prog ops Q (o :: rest) a w := by
  refine wpList_plain hg fun K' hK' => ?_
  have hrun := h.look hi s hk hs
  unfold Oper.wp
  simp [execOp, hop, hm, hx, hrun, Result.andThen]
  exact hK' _ _ hK
theorem wpList_putplace {w : World} {ops : Array Oper} {rest : List Oper} {o : Oper} {a : Act} {Q : Exit → Act → World → Prop}
    (hg : o.guard = none) (m x y : Operand) (hop : o.op = Op.mapUpdate 119 m x y) (b n : Nat) (K : List ByteArray) (s : ByteArray) (k : Int) (hm : a.eval m = .map (some b)) (hx : a.eval x = .string s) (hy : a.eval y = .int .i64 k) (h : PlcAt w b n K) (hs : s.size ≤ maxLen) (hn : n < maxLen) (hk : k = (K.length : Int)) (hnew : s ∉ K) (hK2 : K.length ≤ 1048576)
    (hK : ∀ w', PlcAt w' b (n + 1) (K ++ [s]) → w.grownBy w' (some b) → wpList Try.prog ops Q rest (a.put o.dst undef) w') : wpList Try.prog ops Q (o :: rest) a w := by
  refine wpList_plain hg fun K' hK' => ?_
  subst hk
  obtain ⟨w', hrun, h1, h2⟩ := h.put s hs hn hnew hK2
  unfold Oper.wp
  simp [execOp, hop, hm, hx, hy, hrun, Result.andThen]
  exact hK' _ _ (hK w' h1 h2)
end
section
open Go.RowKit Grp

def keysL (ls : List (List Int)) : List ByteArray := ls.map strOfNums
theorem keysL_len (ls : List (List Int)) : (keysL ls).length = ls.length := by simp [keysL]
theorem keysL_at {ls : List (List Int)} {k : Nat} (hk : k < ls.length) : (keysL ls).getD k ⟨#[]⟩ = strOfNums (ls.getD k []) := by simp [keysL, List.getD_eq_getElem?_getD, hk]
theorem keysL_more {ls : List (List Int)} {k : Nat} (hk : k < ls.length) : keysL (ls.take (k + 1)) = keysL (ls.take k) ++ [strOfNums (ls.getD k [])] := by
  rw [take_snocL _ _ hk]
  simp [keysL]
/-- All rows of neighbours. -/
def nxL (mvs ls : List (List Int)) (k : Nat) : List (List Int) := (List.range k).map fun i => natI (rowN mvs ls i)
theorem nxL_len (mvs ls : List (List Int)) (k : Nat) : (nxL mvs ls k).length = k := by simp [nxL]
theorem nxL_at {mvs ls : List (List Int)} {k i : Nat} (hi : i < k) : (nxL mvs ls k).getD i [] = natI (rowN mvs ls i) := by simp [nxL, List.getD_eq_getElem?_getD, hi]
theorem nxL_more (mvs ls : List (List Int)) (k : Nat) : nxL mvs ls (k + 1) = nxL mvs ls k ++ [natI (rowN mvs ls k)] := by simp [nxL, List.range_succ]
theorem TabR.key_new {p : Pz} {trk : List Int} {r : Bs} {N : Nat} {res : List Int} (h : TabR p trk r N res) {k : Nat} (hk : k < r.ls.length) : strOfNums (r.ls.getD k []) ∉ keysL (r.ls.take k) := by
  intro hm
  obtain ⟨x, hx, e⟩ := List.mem_map.1 hm
  obtain ⟨j, hj, rfl⟩ := List.getElem_of_mem hx
  rw [List.length_take] at hj
  have hjn : j < r.ls.length := by omega
  rw [List.getElem_take] at e
  have e1 : r.ls[j] = r.ls.getD j [] := by rw [List.getD_eq_getElem?_getD, List.getElem?_eq_getElem hjn]; rfl
  rw [e1] at e
  have h256 : N ≤ 256 := by have := h.g.le; omega
  have e2 := strOf_inj ((h.rows j hjn).byt h256) ((h.rows k hk).byt h256) e
  have e3 := idx_uniq (tbl_nodup h.g.bld h.s) hjn e2
  have e4 := idx_uniq (tbl_nodup h.g.bld h.s) hk rfl
  omega
def DsPost (mvs ls : List (List Int)) (Ar : Option Addr) (nr cr : Nat) (w : World) (e : Ending) (w' : World) : Prop := ∃ G An cn, e = .returned (.pointer (some ⟨G, 0, none⟩)) ∧ w'.heap[G]? = some (.cells #[.slice An ls.length cn, .slice Ar nr cr] 123 (0, 0)) ∧ w.heap.size ≤ G ∧ LAt w' An (nxL mvs ls ls.length) ∧ Below w.heap.size w w'
theorem rowN_take {mvs ls : List (List Int)} {k j : Nat} (hj : j < mvs.length) : natI ((rowN mvs ls k).take (j + 1)) = natI ((rowN mvs ls k).take j) ++ [((nbI mvs ls k j : Nat) : Int)] := by
  have h1 : j < (rowN mvs ls k).length := by rw [rowN_len]; exact hj
  rw [List.take_succ_eq_append_getElem h1]
  have h2 : (rowN mvs ls k)[j] = nbI mvs ls k j := by
    have := rowN_at (mvs := mvs) (ls := ls) (i := k) hj
    rw [List.getD_eq_getElem?_getD, List.getElem?_eq_getElem h1] at this
    exact this
  rw [h2]
  simp [natI]
theorem grownPastN {w w1 w2 : World} {row : Option Nat} (h : w.grownBy w1 row) (hb : Below w.heap.size w1 w2) : w.grownBy w2 row := ⟨hb.os.trans h.os, hb.tape.trans h.tape, hb.output.trans h.output, Nat.le_trans h.size hb.size, fun k hk hne => (hb.block k hk).trans (h.block k hk hne)⟩
set_option maxRecDepth 100000 in
set_option maxHeartbeats 8000000 in
theorem implNewD (A : Option Addr) (c : Nat) (p : Pz) (A1 A2 A3 Ar : Option Addr) (n1 c1 c2 n3 c3 nr cr N : Nat) (trk : List Int) (r : Bs) (res : List Int) (w : World) (h : PzAt w A p) (h2 : LAt w A2 r.ls) (hT : TabR p trk r N res) :
    Calls Try.prog 53 #[.agg #[.int .i64 p.pts, .string p.names, .slice A p.moves.length c], .agg #[.slice A1 n1 c1, .slice A2 r.ls.length c2, .slice A3 n3 c3], .slice Ar nr cr] w (DsPost (mvsOf p.moves) r.ls Ar nr cr w) := by
  obtain ⟨w0, hw0⟩ : ∃ w0, ((w.alloc (.cells #[.int .i64 p.pts, .string p.names, .slice A p.moves.length c] 29)).alloc (.cells #[.slice A1 n1 c1, .slice A2 r.ls.length c2, .slice A3 n3 c3] 34)).alloc (.map #[] 0) = w0 := ⟨_, rfl⟩
  have hb0 : Below w.heap.size w w0 := by rw [← hw0]; exact (by repeat (first | exact Below.refl _ _ | assumption | refine Below.setCell ?_ (by first | omega | (simp <;> omega)) _ | refine Below.alloc ?_ (by first | omega | (simp <;> omega)) _ | refine Below.drew ?_))
  have hz0 : w0.heap.size = w.heap.size + 3 := by rw [← hw0]; simp
  have R0 : Hid (w0.heap[w.heap.size]? = some (.cells #[.int .i64 p.pts, .string p.names, .slice A p.moves.length c] 29 (0, 0))) := by rw [← hw0]; exact alloc3_0 _ _ _ _
  have R1 : Hid (w0.heap[w.heap.size + 1]? = some (.cells #[.slice A1 n1 c1, .slice A2 r.ls.length c2, .slice A3 n3 c3] 34 (0, 0))) := by rw [← hw0]; exact alloc3_1 _ _ _ _
  have HM0 : Hid (PlcAt w0 (w.heap.size + 1 + 1) 0 []) := by
    rw [← hw0]
    have := PlcAt.made ((w.alloc (.cells #[.int .i64 p.pts, .string p.names, .slice A p.moves.length c] 29)).alloc (.cells #[.slice A1 n1 c1, .slice A2 r.ls.length c2, .slice A3 n3 c3] 34))
    unfold Hid
    simpa using this
  have HP := Lib.hid h
  have H2 := Lib.hid h2
  have HTR := Lib.hid hT
  have hn3 := hT.len
  obtain ⟨n, hn⟩ : ∃ n, r.ls.length = n := ⟨_, rfl⟩
  obtain ⟨m, hmm⟩ : ∃ m, p.moves.length = m := ⟨_, rfl⟩
  rw [hn] at R1 hn3 ⊢
  rw [hmm] at R0 ⊢
  rw [hn, hmm] at hw0
  have HN := Lib.hid hn
  have HM := Lib.hid hmm
  have HB0 := Lib.hid hb0
  have HW0 := Lib.hid hw0
  have HZ0 := Lib.hid hz0
  have hmk := @run_makeMap Try.prog
  obtain ⟨t0, t1, t2, -, tl⟩ := row3 R1.out
  clear h h2 hT hn hmm hb0 hw0
  go_enter Try.func53, Try.ntmps53
  go_wp2_with fail
  clear hmk t0 t1 t2 tl
  rw [HW0.out]
  obtain ⟨M, hM⟩ : ∃ M, w.heap.size + 1 + 1 = M := ⟨_, rfl⟩
  rw [hM] at HM0 ⊢
  have hMw : w.heap.size + 2 = M := by omega
  have HME := Lib.hid hMw
  have hMw2 : w.heap.size < M := by omega
  have hMw3 : w.heap.size + 1 < M := by omega
  have hMz : M < w0.heap.size := by omega
  clear hM hMw HW0 hz0
  -- blocks above the map's only, and the map
  go_loopw [20] (fun v wr => ∃ k : Nat, k ≤ n ∧ v = .int .i64 (k : Int) ∧ Hid (PlcAt wr M k (keysL (r.ls.take k))) ∧ Hid (w0.grownBy wr (some M))) (fun v _ => n - (intOf v).toNat)
  case atStart => exact ⟨0, Nat.zero_le _, rfl, HM0.out, gB (Below.refl _ _) (some M)⟩
  case round =>
    obtain ⟨k, hk, rfl, HMK, HO⟩ := hrel
    have hzo := HO.out.size
    have HBW : Hid (Below w.heap.size w wr) := by
      have hO := HO.out
      have hB := HB0.out
      exact ⟨hO.os.trans hB.os, hO.tape.trans hB.tape, hO.output.trans hB.output, Nat.le_trans hB.size hO.size, fun b hb => (hO.block b (Nat.lt_of_lt_of_le hb hB.size) (fun e => by injection e with e; omega)).trans (hB.block b hb)⟩
    have RPk := Lib.hid (rowR HO.out R0.out (fun e => by injection e with e; omega))
    have RTk := Lib.hid (rowR HO.out R1.out (fun e => by injection e with e; omega))
    by_cases hlt : k < n
    · obtain ⟨b2, o2, Ap, cp, rfl, hb2, hcp, hc2, hIP⟩ := (H2.out.below HBW.out) k (by rw [HN.out]; exact hlt)
      obtain ⟨pat, hpat⟩ : ∃ pat, r.ls.getD k [] = pat := ⟨_, rfl⟩
      have hpo := HTR.out.rows k (by rw [HN.out]; exact hlt)
      have hnew := HTR.out.key_new (k := k) (by rw [HN.out]; exact hlt)
      have hkm := keysL_more (ls := r.ls) (k := k) (by rw [HN.out]; exact hlt)
      rw [hpat] at hpo hcp hc2 hIP hnew hkm
      have h20 := HTR.out.g.len
      have hplen := hpo.1
      have hkl : (keysL (r.ls.take k)).length = k := by rw [keysL_len, List.length_take, HN.out]; omega
      have hby := hpo.byt (by have := HTR.out.g.le; omega)
      have hks : (strOfNums pat).size ≤ maxLen := by rw [strOfNums_size]; unfold maxLen; omega
      obtain ⟨K, hK⟩ : ∃ K, keysL (r.ls.take k) = K := ⟨_, rfl⟩
      rw [hK] at hnew hkm hkl HMK
      obtain ⟨key, hkey⟩ : ∃ key, strOfNums pat = key := ⟨_, rfl⟩
      have hcall := keyOf Ap cp pat wr hIP (by omega) hby
      obtain ⟨lp, hlp⟩ : ∃ lp, pat.length = lp := ⟨_, rfl⟩
      rw [hlp] at hcall hc2
      rw [hkey] at hcall hnew hkm hks
      have HCALL := Lib.hid hcall
      have HNEW := Lib.hid hnew
      have HKM := Lib.hid hkm
      have HKL := Lib.hid hkl
      have k0 : (0 : Int) ≤ (k : Int) := by omega
      have k1 : (k : Int) < (n : Int) := by omega
      clear hpo hcp hIP hnew hkm hkl hby hK hkey hcall hplen hlp hpat
      go_wp2_with fail
      refine HCALL.out.mono ?_
      rintro e w5 ⟨rfl, hb5⟩
      have HM5 := Lib.hid (HMK.out.below hb5)
      have HO5 := Lib.hid (HO.out.trans (gB hb5 (some M)))
      have hkn : k < maxLen := by unfold maxLen; omega
      clear hb5 hc2
      go_wp2_with (first | (at_mapUpdate; go_loud (refine wpList_putplace rfl (.tmp 25) (.tmp 27) (.tmp 28) rfl M k K key (k : Int) rfl rfl rfl HM5.out hks hkn (by rw [HKL.out]) HNEW.out (by rw [HKL.out]; omega) ?_); intro w6 hM6 hg6; have HM6 := Lib.hid hM6; have HO6 := Lib.hid (HO5.out.trans hg6); clear hM6 hg6))
      go_roundw
      case rel => exact ⟨k + 1, by omega, by go_num, by rw [HKM.out]; exact HM6.out, HO6.out⟩
      case measure => simp [intOf]; omega
    · obtain rfl : n = k := by omega
      have k1 : ¬ (n : Int) < (n : Int) := by omega
      rw [List.take_of_length_le (by rw [HN.out]; omega)] at HMK
      obtain ⟨t0, t1, t2, -, tl⟩ := row3 RTk.out
      obtain ⟨wS, hwS⟩ : ∃ wS, wr.alloc (.cells #[.slice none 0 0, .slice Ar nr cr] 123) = wS := ⟨_, rfl⟩
      have hbS : Below wr.heap.size wr wS := by rw [← hwS]; exact (by repeat (first | exact Below.refl _ _ | assumption | refine Below.setCell ?_ (by first | omega | (simp <;> omega)) _ | refine Below.alloc ?_ (by first | omega | (simp <;> omega)) _ | refine Below.drew ?_))
      have RGS : Hid (wS.heap[wr.heap.size]? = some (.cells #[.slice none 0 0, .slice Ar nr cr] 123 (0, 0))) := by rw [← hwS]; exact heap_alloc_new _ _
      have RPS := Lib.hid (rowB hbS RPk.out)
      have RTS := Lib.hid (rowB hbS RTk.out)
      have HMS := Lib.hid (HMK.out.below hbS)
      have HBS := Lib.hid (belowStep hbS HBW.out)
      have HWS := Lib.hid hwS
      have hGz := row_lt RGS.out
      have hMG : M < wr.heap.size := HMK.out.lt
      have hwG : w.heap.size ≤ wr.heap.size := HBW.out.size
      clear hwS hbS
      go_wp2_with fail
      rw [HWS.out]
      obtain ⟨G, hG⟩ : ∃ G, wr.heap.size = G := ⟨_, rfl⟩
      rw [hG] at RGS hGz hMG hwG ⊢
      obtain ⟨lo, hlo⟩ : ∃ lo, wS.heap.size = lo := ⟨_, rfl⟩
      rw [hlo] at hGz
      have HLO := Lib.hid hlo
      clear hG hlo HWS t0 t1 t2 tl RPk RTk HMK HBW HO hzo hk hlt HM0 R0 R1
      go_loopw [36] (fun v wq => ∃ (k : Nat) (An : Option Addr) (cn : Nat), k ≤ n ∧ v = .int .i64 (k : Int) ∧ Hid (wq.heap[G]? = some (.cells #[.slice An k cn, .slice Ar nr cr] 123 (0, 0))) ∧ Hid (GnAt lo (fun b => b < lo) wq (.slice An k cn) (nxL (mvsOf p.moves) r.ls k)) ∧ Hid (wS.grownBy wq (some G))) (fun v _ => n - (intOf v).toNat)
      case atStart => exact ⟨0, none, 0, Nat.zero_le _, rfl, RGS.out, GnAt.nil _ _ _, gB (Below.refl _ _) (some G)⟩
      case round =>
        obtain ⟨k, An, cn, hk, rfl, HRG, HGN, HGR⟩ := hrel
        generalize wr = wq at *
        clear RGS
        have hzq : lo ≤ wq.heap.size := by have := HGR.out.size; have := HLO.out; omega
        have HBq : Hid (Below w.heap.size w wq) := HBS.out.grown HGR.out HBS.out.size (fun b e => by injection e with e; omega)
        have RPq := Lib.hid (rowR HGR.out RPS.out (fun e => by injection e with e; omega))
        have RTq := Lib.hid (rowR HGR.out RTS.out (fun e => by injection e with e; omega))
        have HMq := Lib.hid (HMS.out.kept HGR.out (fun e => by injection e with e; omega))
        by_cases hlt : k < n
        · obtain ⟨b2, o2, Ap, cp, rfl, hb2, hcp, hc2, hIP⟩ := H2.out k (by rw [HN.out]; exact hlt)
          obtain ⟨pat, hpat⟩ : ∃ pat, r.ls.getD k [] = pat := ⟨_, rfl⟩
          have hpo := HTR.out.rows k (by rw [HN.out]; exact hlt)
          rw [hpat] at hpo hcp hc2 hIP
          have HPAT := Lib.hid hpat
          have HPO := Lib.hid hpo
          have HIP := Lib.hid hIP
          obtain ⟨L, hL⟩ : ∃ L, trk.length = L := ⟨_, rfl⟩
          rw [hpo.1, hL] at hcp hc2
          rw [hL] at HPO
          have HLL := Lib.hid hL
          have h20 : L ≤ 20 := by rw [← hL]; exact HTR.out.g.len
          have hc2q := (HBq.out.cell (p := ⟨b2, o2 + k, none⟩) hb2).trans hc2
          have k0 : (0 : Int) ≤ (k : Int) := by omega
          have k1 : (k : Int) < (n : Int) := by omega
          obtain ⟨p0, p1, p2, -, pl⟩ := row3 RPq.out
          have hm8 : m ≤ 8 := by rw [← HM.out]; exact HTR.out.g.m8
          have hlc := implLetters m wq (by omega)
          have HLC := Lib.hid hlc
          clear hpo hpat hIP hL hc2 hlc
          go_wp2_with fail
          refine HLC.out.mono ?_
          rintro e wl ⟨v7, rfl, hF7, hb7⟩
          obtain ⟨A7, c7, hc7, rfl, hI7⟩ := hF7.capped
          rw [letsOf_len] at hc7 ⊢
          have HI7 := Lib.hid hI7
          have HBl := Lib.hid hb7
          have hzl := hb7.size
          clear hF7 hI7 hb7 p0 p1 p2 pl hc2q HLC
          have HF0 : Hid (FreshW wl.heap.size wl (.slice none 0 0) (natI ((rowN (mvsOf p.moves) r.ls k).take 0))) := FreshW.nil _ _
          go_wp2_with fail
          go_loopw [13, 45] (fun v jv wx => ∃ j : Nat, j ≤ 2 * m ∧ jv = .int .i64 (j : Int) ∧ Hid (FreshW wl.heap.size wx v (natI ((rowN (mvsOf p.moves) r.ls k).take j))) ∧ Hid (Below wl.heap.size wl wx)) (fun _ jv _ => 2 * m - (intOf jv).toNat)
          case atStart => exact ⟨0, Nat.zero_le _, rfl, HF0.out, Below.refl _ _⟩
          case round =>
            obtain ⟨j, hj, rfl, HF, HB⟩ := hrel
            clear HF0
            have HBwx := Lib.hid (belowStep (belowStep HB.out HBl.out) HBq.out)
            have hzx := HB.out.size
            by_cases hjl : j < 2 * m
            · have hmlen : (mvsOf p.moves).length = 2 * m := by rw [mvsOf_len, HM.out]
              obtain ⟨b7, o7, rfl, hb7, hc7j⟩ := (HI7.out.below HB.out) j (by rw [letsOf_len]; exact hjl)
              obtain ⟨y, hy⟩ : ∃ y, (letsOf m).getD j 0 = y := ⟨_, rfl⟩
              rw [hy] at hc7j
              obtain ⟨mv, hmv⟩ : ∃ mv, (mvsOf p.moves).getD j [] = mv := ⟨_, rfl⟩
              have hmo := HTR.out.g.mvs.all j (by rw [hmlen]; exact hjl)
              have hcall := implLetterAt A c N p.moves j w wr HP.out.at_ HBwx.out (by rw [HM.out]; exact hjl) (by rw [HM.out]; omega) HTR.out.g.mvs (by have := HTR.out.g.le; omega)
              rw [HM.out, hy, hmv] at hcall
              rw [hmv] at hmo
              unfold MovePost at hcall
              rw [hmo.1] at hcall
              obtain ⟨x, hx⟩ : ∃ x, pickI mv pat = x := ⟨_, rfl⟩
              have hxo := hmo.pick HPO.out
              rw [hx] at hxo
              obtain ⟨hnb1, hnb2⟩ := HTR.out.nb (i := k) (j := j) (by rw [HN.out]; exact hlt) (by rw [hmlen]; exact hjl)
              have hrt := rowN_take (mvs := mvsOf p.moves) (ls := r.ls) (k := k) (j := j) (by rw [hmlen]; exact hjl)
              rw [hmv, HPAT.out, hx] at hnb2
              obtain ⟨nb, hnb⟩ : ∃ nb, nbI (mvsOf p.moves) r.ls k j = nb := ⟨_, rfl⟩
              rw [hnb] at hnb1 hnb2 hrt
              have hkk : nb < (keysL r.ls).length := by rw [keysL_len]; exact hnb1
              have hkv := keysL_at hnb1
              rw [hnb2] at hkv
              obtain ⟨key, hkey⟩ : ∃ key, strOfNums x = key := ⟨_, rfl⟩
              have hks : key.size ≤ maxLen := by rw [← hkey, strOfNums_size, hxo.1]; unfold maxLen; omega
              rw [hkey] at hkv
              obtain ⟨K, hK⟩ : ∃ K, keysL r.ls = K := ⟨_, rfl⟩
              have HMx : Hid (PlcAt wr M n K) := by rw [← hK]; exact (HMq.out.below HBl.out).below HB.out
              rw [hK] at hkk hkv
              obtain ⟨ys, hys⟩ : ∃ ys, natI ((rowN (mvsOf p.moves) r.ls k).take j) = ys := ⟨_, rfl⟩
              have hyl : ys.length ≤ 1048576 := by rw [← hys, natI_len, List.length_take, rowN_len, hmlen]; omega
              rw [hys] at HF hrt
              have HRT := Lib.hid hrt
              have HCALL := Lib.hid hcall
              have HMO := Lib.hid hmo
              have HXO := Lib.hid hxo
              have HX := Lib.hid hx
              have HKEY := Lib.hid hkey
              have HKV := Lib.hid hkv
              have j0 : (0 : Int) ≤ (j : Int) := by omega
              have j1 : (j : Int) < 2 * (m : Int) := by omega
              obtain ⟨p0, p1, p2, -, pl⟩ := row3 (rowB HB.out (rowB HBl.out RPq.out))
              clear hy hmv hmo hcall hx hxo hnb1 hnb2 hrt hkey hkv hK hys hmlen hnb
              go_wp2_with fail
              refine HCALL.out.mono ?_
              rintro e w5 ⟨Ay, cy, rfl, hcy, hIy, -, hb5⟩
              have HB5 := Lib.hid (belowStep hb5 HB.out)
              have HF5 := Lib.hid (HF.out.below hb5)
              have HM5 := Lib.hid (HMx.out.below hb5)
              have hpk := implPicked Ay Ap cy cp N L mv pat w5 hIy (HIP.out.below (belowStep hb5 HBwx.out)) HMO.out HPO.out (by omega)
              rw [HX.out] at hpk
              have HPK := Lib.hid hpk
              clear hIy hb5 hpk p0 p1 p2 pl hc7j
              go_wp2_with fail
              refine HPK.out.mono ?_
              rintro e w6 ⟨v6, rfl, hF6, hb6⟩
              obtain ⟨A6, c6, -, rfl, hI6⟩ := hF6.capped
              have hke := keyOf A6 c6 x w6 hI6 (by have := HXO.out.1; omega) (HXO.out.byt (by have := HTR.out.g.le; omega))
              rw [HKEY.out] at hke
              have HKE := Lib.hid hke
              have HB6 := Lib.hid (belowStep hb6 HB5.out)
              have HF7 := Lib.hid (HF5.out.below hb6)
              have HM6 := Lib.hid (HM5.out.below hb6)
              clear hF6 hI6 hb6 hke
              go_wp2_with fail
              refine HKE.out.mono ?_
              rintro e w8 ⟨rfl, hb8⟩
              have HB8 := Lib.hid (belowStep hb8 HB6.out)
              have HF8 := Lib.hid (HF7.out.below hb8)
              have HM8 := Lib.hid (HM6.out.below hb8)
              clear hb8
              go_wp2_with (first
                | (at_lookup; refine wpList_place rfl (.tmp 50) (.tmp 57) rfl M n K key nb rfl rfl HM8.out hkk HKV.out hks ?_)
                | (at_builtin; refine append_word rfl (.tmp 49) (.tmp 59) rfl wl.heap.size _ ys (nb : Int) rfl (HF8.out.below (by repeat (first | exact Below.refl _ _ | assumption | refine Below.setCell ?_ (by first | omega | (simp <;> omega)) _ | refine Below.alloc ?_ (by first | omega | (simp <;> omega)) _ | refine Below.drew ?_))) w8.heap.size rfl (by simp) hyl (by have := HB8.out.size; simp; omega) ?_; intro v9 w9 hF9 hg9 hb9))
              have HB9 : Hid (Below wl.heap.size wl w9) := (HB8.out.alloc (by have := HB8.out.size; omega) _).trans hb9
              go_roundw
              case rel => exact ⟨j + 1, by omega, by go_num, by rw [HRT.out]; exact hF9, HB9.out⟩
              case measure => simp [intOf]; omega
            · obtain rfl : j = 2 * m := by omega
              rw [List.take_of_length_le (by rw [rowN_len, mvsOf_len, HM.out]; omega)] at HF
              obtain ⟨Av, cv, rfl, hcv, hAv⟩ := HF.out.shape
              obtain ⟨row, hrow⟩ : ∃ row, natI (rowN (mvsOf p.moves) r.ls k) = row := ⟨_, rfl⟩
              obtain ⟨qs, hqs⟩ : ∃ qs, nxL (mvsOf p.moves) r.ls k = qs := ⟨_, rfl⟩
              have hql : qs.length = k := by rw [← hqs, nxL_len]
              have hnx := nxL_more (mvsOf p.moves) r.ls k
              rw [hqs, hrow] at hnx
              rw [hrow] at HF hcv ⊢
              rw [hqs] at HGN
              have HQL := Lib.hid hql
              have HNX := Lib.hid hnx
              have hq1 : qs.length ≤ 1048576 := by omega
              have RGx := Lib.hid (rowB HB.out (rowB HBl.out HRG.out))
              have HGx := Lib.hid ((HGN.out.below HBl.out).below HB.out)
              have HIr := Lib.hid HF.out.intsAt
              have HOWN := Lib.hid HF.out.own
              have HGO := Lib.hid HGN.out.own
              have HYZ : Hid (0 < row.length → ∀ g off s, Av = some ⟨g, off, s⟩ → ¬ g < lo ∧ (Value.slice An k cn).ownBlock ≠ some g) := fun _ g off s e => by
                have h1 := HOWN.out g (by rw [e]; rfl)
                exact ⟨fun h => by omega, fun e2 => by have := HGO.out g e2; omega⟩
              have g0 := cell_of_row wr G 0 _ _ (0, 0) RGx.out
              have gF : ∀ q, wr.frozen? ⟨G, q, none⟩ = false := fun _ => row_free RGx.out
              have gl := row_lt RGx.out
              obtain ⟨lr, hlr⟩ : ∃ lr, row.length = lr := ⟨_, rfl⟩
              rw [hlr] at hcv ⊢
              have HLR := Lib.hid hlr
              clear hrow hqs hql hnx hlr
              go_wp2_with (first | (at_builtin; refine append_gn rfl (.tmp 66) (.tmp 68) rfl lo (fun b => b < lo) (.slice An k cn) qs row Av cv rfl (HGx.out.below (by exact (Below.refl _ _).alloc (Nat.le_refl _) _)) (fun b hb => by simp; omega) wr.heap.size rfl (by rw [HLR.out]; simp) (by rw [HLR.out]; exact hcv) (HIr.out.below (by exact (Below.refl _ _).alloc (Nat.le_refl _) _)) HYZ.out hq1 (by simp; omega) ?_; intro A9 c9 w9 hG9 hg9 hat9; rw [HQL.out] at hG9 hat9 ⊢; have RG9 := Lib.hid (rowR hg9 (rowB (by exact (Below.refl _ _).alloc (Nat.le_refl _) _) RGx.out) (fun e => by have := HGO.out G e; omega)); have f0 := cell_of_row w9 G 0 _ _ (0, 0) RG9.out; have fF : (∀ q, w9.frozen? ⟨G, q, none⟩ = false) := (fun _ => row_free RG9.out); have fl := row_lt RG9.out))
              have hB9 : Below lo wq w9 := (((HBl.out.mono hzq).trans (HB.out.mono (by omega))).alloc (by omega) _).grown hg9 (by simp; omega) (fun b hb => (HGO.out b hb).1)
              rw [← HLO.out] at hB9
              have HGR9 := Lib.hid ((grownPastN HGR.out hB9).trans (setGrown w9 G 0 (.slice A9 (k + 1) c9)))
              have HG9 := Lib.hid (GnAt.kept hG9 (setGrown w9 G 0 (.slice A9 (k + 1) c9)) (fun q e => by injection e with e; omega))
              rw [← HNX.out] at HG9
              go_roundw
              case rel => exact ⟨k + 1, A9, c9, by omega, by go_num, rowSet (p := 0) _ RG9.out, HG9.out, HGR9.out⟩
              case measure => simp [intOf]; omega
        · obtain rfl : n = k := by omega
          have k1' : ¬ (n : Int) < (n : Int) := by omega
          go_wp2_with fail
          go_ret
          exact ⟨G, An, cn, rfl, by rw [HN.out]; exact HRG.out, hwG, by rw [HN.out]; exact HGN.out.lat, HBq.out⟩
end
section
open Go.RowKit Grp

theorem lenRows (A : Option Addr) (n c : Nat) (w : World) : Calls Try.prog 90 #[.slice A n c] w fun e w' => e = .returned (.int .i64 (n : Int)) ∧ w = w' := by
  go_enter Try.func90, Try.ntmps90
  go_wp2_with fail
  go_ret
  exact ⟨rfl, rfl⟩
set_option maxRecDepth 100000 in
set_option maxHeartbeats 1000000 in
theorem fromClo (k Gd Gw G : Nat) (Ar : Option Addr) (nr cr : Nat) (res : List Int) (want : Int) (w : World) (hd : w.cell? ⟨Gd, 0, none⟩ = some (.pointer (some ⟨G, 0, none⟩))) (hr : w.cell? ⟨G, 1, none⟩ = some (.slice Ar nr cr)) (hw : w.cell? ⟨Gw, 0, none⟩ = some (.int .i64 want)) (hi : IntsAt w Ar res) (hn : res.length = nr) (hk : k < nr) :
    Calls Try.prog 92 #[.int .i64 (k : Int), .pointer (some ⟨Gd, 0, none⟩), .pointer (some ⟨Gw, 0, none⟩)] w (Quiet (.bool (decide (res.getD k 0 = want))) w) := by
  obtain ⟨b, off, rfl, hb, hc⟩ := hi k (by omega)
  obtain ⟨x, hx⟩ : ∃ x, res.getD k 0 = x := ⟨_, rfl⟩
  rw [hx] at hc ⊢
  have k0 : (0 : Int) ≤ (k : Int) := by omega
  have k1 : (k : Int) < (nr : Int) := by omega
  have hdec : (x == want) = decide (x = want) := by
    by_cases e : x = want
    · rw [decide_eq_true e]; simpa using e
    · rw [decide_eq_false e]; simpa using e
  obtain ⟨bb, hbb⟩ : ∃ bb, (x == want) = bb := ⟨_, rfl⟩
  rw [← hdec, hbb]
  clear hn hx hdec hi
  go_enter Try.func92, Try.ntmps92
  go_wp2_with fail
  go_quiet (fail)
  go_wp2_with fail
  go_ret
  exact ⟨rfl, _, rfl⟩
def IdxN (m : Nat) (f : Nat → Bool) (w : World) (e : Ending) (w' : World) : Prop := ∃ z : Int, e = .returned (.int .i64 z) ∧ ((z = -1 ∧ ∀ j, j < m → f j = false) ∨ ∃ j : Nat, z = (j : Int) ∧ j < m ∧ f j = true ∧ ∀ u, u < j → f u = false) ∧ Below w.heap.size w w'
set_option maxRecDepth 100000 in
set_option maxHeartbeats 4000000 in
theorem idxFrom (A : Option Addr) (c m Gd Gw G : Nat) (Ar : Option Addr) (nr cr : Nat) (res : List Int) (row : List Nat) (want : Int) (w : World) (hd : w.cell? ⟨Gd, 0, none⟩ = some (.pointer (some ⟨G, 0, none⟩))) (hr : w.cell? ⟨G, 1, none⟩ = some (.slice Ar nr cr)) (hw : w.cell? ⟨Gw, 0, none⟩ = some (.int .i64 want)) (hi : IntsAt w Ar res) (hn : res.length = nr) (hA : IntsAt w A (natI row)) (hm : row.length = m) (hm1 : m ≤ 1048576) (hb : ∀ j, j < m → row.getD j 0 < nr) (hgd : Gd < w.heap.size) (hg : G < w.heap.size) (hgw : Gw < w.heap.size) :
    Calls Try.prog 91 #[.slice A m c, .func (.func 92) #[] #[.pointer (some ⟨Gd, 0, none⟩), .pointer (some ⟨Gw, 0, none⟩)]] w (IdxN m (fun j => decide (res.getD (row.getD j 0) 0 = want)) w) := by
  have HI := Lib.hid hi
  have HA := Lib.hid hA
  have HM := Lib.hid hm
  have HN := Lib.hid hn
  have HB2 := Lib.hid hb
  have HD := Lib.hid hd
  have HR := Lib.hid hr
  have HW := Lib.hid hw
  clear hi hA hm hn hb hd hr hw
  go_enter Try.func91, Try.ntmps91
  go_wp2_with fail
  go_loopw [5, 8] (fun i j wr => ∃ k : Nat, k ≤ m ∧ j = .int .i64 k ∧ Hid (∀ u, u < k → decide (res.getD (row.getD u 0) 0 = want) = false) ∧ Hid (Below w.heap.size w wr)) (fun _ j _ => m - (intOf j).toNat)
  case atStart => exact ⟨0, Nat.zero_le _, rfl, fun u hu => absurd hu (Nat.not_lt_zero _), Below.refl _ _⟩
  case round =>
    obtain ⟨k, hk, rfl, HNO, HB⟩ := hrel
    by_cases hlt : k < m
    · obtain ⟨b, off, rfl, h1, h2⟩ := (HA.out.below HB.out) k (by rw [natI_len, HM.out]; exact hlt)
      rw [natI_getD] at h2
      unfold app at h2
      obtain ⟨x, hx⟩ : ∃ x, row.getD k 0 = x := ⟨_, rfl⟩
      rw [hx] at h2
      have hxn := HB2.out k hlt
      rw [hx] at hxn
      have q0 : (0 : Int) ≤ (k : Int) := by omega
      have q1 : (k : Int) < (m : Int) := by omega
      have hcl := fromClo x Gd Gw G Ar nr cr res want wr ((HB.out.cell (p := ⟨Gd, 0, none⟩) hgd).trans HD.out) ((HB.out.cell (p := ⟨G, 1, none⟩) hg).trans HR.out) ((HB.out.cell (p := ⟨Gw, 0, none⟩) hgw).trans HW.out) (HI.out.below HB.out) HN.out hxn
      obtain ⟨bb, hbb⟩ : ∃ bb, decide (res.getD x 0 = want) = bb := ⟨_, rfl⟩
      rw [hbb] at hcl
      have HCL := Lib.hid hcl
      have HBB : Hid (decide (res.getD (row.getD k 0) 0 = want) = bb) := by unfold Hid; rw [hx]; exact hbb
      clear hcl hbb hx
      cases bb with
      | true =>
        go_wp2_with (first | (go_at_call 92; refine HCL.out.mono ?_; rintro e w1 ⟨rfl, nq1, rfl⟩))
        go_ret
        exact ⟨k, rfl, .inr ⟨k, rfl, hlt, HBB.out, HNO.out⟩, belowDrewN HB.out _⟩
      | false =>
        go_wp2_with (first | (go_at_call 92; refine HCL.out.mono ?_; rintro e w1 ⟨rfl, nq1, rfl⟩))
        go_roundw
        case rel =>
          refine ⟨k + 1, by omega, by go_num, fun u hu => ?_, belowDrewN HB.out _⟩
          rcases Nat.lt_or_ge u k with h | h
          · exact HNO.out u h
          · obtain rfl : u = k := by omega
            exact HBB.out
        case measure => simp [intOf]; omega
    · obtain rfl : k = m := by omega
      go_wp2
      go_ret
      exact ⟨-1, rfl, .inl ⟨rfl, HNO.out⟩, HB.out⟩
/-- The descents in memory. -/
structure DsAt (w : World) (G : Nat) (mvs ls : List (List Int)) (Ar : Option Addr) (nr cr : Nat) (An : Option Addr) (cn : Nat) : Prop where
  row : w.heap[G]? = some (.cells #[.slice An ls.length cn, .slice Ar nr cr] 123 (0, 0))
  nx : LAt w An (nxL mvs ls ls.length)
theorem DsAt.below {w w' : World} {G : Nat} {mvs ls : List (List Int)} {Ar : Option Addr} {nr cr : Nat} {An : Option Addr} {cn : Nat} (h : DsAt w G mvs ls Ar nr cr An cn) (hb : Below w.heap.size w w') : DsAt w' G mvs ls Ar nr cr An cn := ⟨rowB hb h.row, h.nx.below hb⟩
def FrPost (D : Option Nat) (w : World) (e : Ending) (w' : World) : Prop := ∃ z : Int, e = .returned (.tuple #[.int .i64 z, .bool D.isSome]) ∧ (∀ d, D = some d → z = (d : Int)) ∧ Below w.heap.size w w'
set_option maxRecDepth 100000 in
set_option maxHeartbeats 8000000 in
theorem implFrom (G : Nat) (p : Pz) (Ar An : Option Addr) (cr cn N : Nat) (trk : List Int) (r : Bs) (res : List Int) (i0 : Nat) (w : World) (hds : DsAt w G (mvsOf p.moves) r.ls Ar r.ls.length cr An cn) (hr : IntsAt w Ar res) (hT : TabR p trk r N res) (hi0 : i0 < r.ls.length) :
    Calls Try.prog 54 #[.pointer (some ⟨G, 0, none⟩), .int .i64 (i0 : Int)] w (FrPost (distR (mvsOf p.moves) r.ls res i0) w) := by
  obtain ⟨w0, hw0⟩ : ∃ w0, w.alloc (.cells #[.pointer (some ⟨G, 0, none⟩)] 85) = w0 := ⟨_, rfl⟩
  have hb0 : Below w.heap.size w w0 := by rw [← hw0]; exact (by repeat (first | exact Below.refl _ _ | assumption | refine Below.setCell ?_ (by first | omega | (simp <;> omega)) _ | refine Below.alloc ?_ (by first | omega | (simp <;> omega)) _ | refine Below.drew ?_))
  have R0 : Hid (w0.heap[w.heap.size]? = some (.cells #[.pointer (some ⟨G, 0, none⟩)] 85 (0, 0))) := by rw [← hw0]; exact heap_alloc_new _ _
  have HRS := Lib.hid (hr.below hb0)
  have HTR := Lib.hid hT
  have hn3 := hT.len
  have hrow := rowB hb0 hds.row
  have HNX := Lib.hid (hds.nx.below hb0)
  have hGw := row_lt hds.row
  obtain ⟨n, hn⟩ : ∃ n, r.ls.length = n := ⟨_, rfl⟩
  rw [hn] at hrow hi0 hn3
  have RG0 := Lib.hid hrow
  have HN := Lib.hid hn
  obtain ⟨D, hD⟩ : ∃ D, distR (mvsOf p.moves) r.ls res i0 = D := ⟨_, rfl⟩
  rw [hD]
  have HD : Hid (walkR (mvsOf p.moves) r.ls res n i0 0 = D) := by unfold Hid; rw [← hD, ← hn]; rfl
  have HB0 := Lib.hid hb0
  have HW0 := Lib.hid hw0
  obtain ⟨m, hmm⟩ : ∃ m, (mvsOf p.moves).length = m := ⟨_, rfl⟩
  have HM := Lib.hid hmm
  have hm16 : m ≤ 16 := by rw [← hmm, mvsOf_len]; have := hT.g.m8; omega
  clear hds hr hT hrow hn hD hb0 hw0 hmm
  go_enter Try.func54, Try.ntmps54
  go_wp2_with fail
  rw [HW0.out]
  go_loopw [1, 6] (fun iv mv wr => ∃ (i q : Nat), iv = .int .i64 (i : Int) ∧ mv = .int .i64 (q : Int) ∧ i < n ∧ q ≤ n ∧ Hid (walkR (mvsOf p.moves) r.ls res (n - q) i q = D) ∧ Hid (Below w0.heap.size w0 wr)) (fun _ mv _ => n - (intOf mv).toNat)
  case atStart => exact ⟨i0, 0, rfl, rfl, hi0, Nat.zero_le _, HD.out, Below.refl _ _⟩
  case round =>
    obtain ⟨i, q, rfl, rfl, hi, hq, HWK, HB⟩ := hrel
    have RB := Lib.hid (rowB HB.out R0.out)
    have RG := Lib.hid (rowB HB.out RG0.out)
    have HBW := Lib.hid (belowStep HB.out HB0.out)
    have c0 := cell_of_row wr w.heap.size 0 _ _ (0, 0) RB.out
    have g0 := cell_of_row wr G 0 _ _ (0, 0) RG.out
    have g1 := cell_of_row wr G 1 _ _ (0, 0) RG.out
    have cl := row_lt RB.out
    have gl := row_lt RG.out
    by_cases hz : i = 0
    · subst hz
      have HDD : Hid (D = some q) := by unfold Hid; rw [← HWK.out, desc_zero]
      go_wp2_with (first | (go_at_call 90; refine (lenRows _ _ _ _).mono ?_; rintro e w' ⟨rfl, rfl⟩))
      go_ret2
      exact ⟨(q : Int), by rw [HDD.out]; rfl, (fun d hd => by rw [HDD.out] at hd; injection hd with hd; omega), HBW.out⟩
    have hz2 : ((i : Int) == 0) = false := by simpa using hz
    have hz3 : ((i : Int) != 0) = true := by simp; omega
    by_cases hqn : q < n
    rotate_left
    · obtain rfl : n = q := by omega
      have hx : ¬ (n : Int) < (n : Int) := by omega
      have HNO : Hid (D = none) := by unfold Hid; rw [← HWK.out, Nat.sub_self, desc_out hz]
      go_wp2_with (first | (go_at_call 90; refine (lenRows _ _ _ _).mono ?_; rintro e w' ⟨rfl, rfl⟩))
      go_ret2
      exact ⟨(n : Int), by rw [HNO.out]; rfl, (fun d hd => by rw [HNO.out] at hd; cases hd), HBW.out⟩
    have hqi : (q : Int) < (n : Int) := by omega
    obtain ⟨br, orr, rfl, hbr, hci⟩ := (HRS.out.below HB.out) i (by rw [HTR.out.rl, HN.out]; exact hi)
    obtain ⟨rb, hrb⟩ : ∃ rb, res.getD i 0 = rb := ⟨_, rfl⟩
    have hbd := HTR.out.rb i (by rw [HTR.out.rl, HN.out]; exact hi)
    rw [hrb] at hci hbd
    obtain ⟨want, hwant⟩ : ∃ want, (rb + 2) % 3 = want := ⟨_, rfl⟩
    have hw2 : IntKind.i64.wrap (rb + 2) = rb + 2 := IntWalk.i64_in _ (by omega)
    have ht3 : (rb + 2).tmod 3 = (rb + 2) % 3 := IntWalk.rem_in _ _ (by omega)
    have HRB := Lib.hid hrb
    obtain ⟨bx, ox, Aw, cw, rfl, hbx, hcw, hcx, hIW⟩ := (HNX.out.below HB.out) i (by rw [nxL_len, HN.out]; exact hi)
    rw [nxL_at (by rw [HN.out]; exact hi)] at hcw hcx hIW
    rw [natI_len, rowN_len, HM.out] at hcw hcx
    have i0' : (0 : Int) ≤ (i : Int) := by omega
    have i1' : (i : Int) < (n : Int) := by omega
    have HIW := Lib.hid hIW
    clear hrb hIW
    obtain ⟨wa, hwa⟩ : ∃ wa, wr.alloc (.cells #[.int .i64 want] 2) = wa := ⟨_, rfl⟩
    have hba : Below wr.heap.size wr wa := by rw [← hwa]; exact (by repeat (first | exact Below.refl _ _ | assumption | refine Below.setCell ?_ (by first | omega | (simp <;> omega)) _ | refine Below.alloc ?_ (by first | omega | (simp <;> omega)) _ | refine Below.drew ?_))
    have hwx : wa.heap[wr.heap.size]? = some (.cells #[.int .i64 want] 2 (0, 0)) := by rw [← hwa]; exact heap_alloc_new _ _
    have RBa := rowB hba RB.out
    have RGa := rowB hba RG.out
    have d0 := cell_of_row wa w.heap.size 0 _ _ (0, 0) RBa
    have f0 := cell_of_row wa G 0 _ _ (0, 0) RGa
    have f1 := cell_of_row wa G 1 _ _ (0, 0) RGa
    have v0 := cell_of_row wa wr.heap.size 0 _ _ (0, 0) hwx
    have hcxa := (hba.cell (p := ⟨bx, ox + i, none⟩) hbx).trans hcx
    have HBa := Lib.hid (belowStep hba HB.out)
    have hidx := idxFrom Aw cw m w.heap.size wr.heap.size G (some ⟨br, orr, none⟩) n cr res (rowN (mvsOf p.moves) r.ls i) want wa d0 f1 v0 (HRS.out.below HBa.out) (by rw [HTR.out.rl, HN.out]) (HIW.out.below hba) (by rw [rowN_len, HM.out]) (by omega) (fun j hj => by
      rw [rowN_at (by rw [HM.out]; exact hj)]
      have := (HTR.out.nb (i := i) (j := j) (by rw [HN.out]; exact hi) (by rw [HM.out]; exact hj)).1
      rwa [HN.out] at this) (row_lt RBa) (row_lt RGa) (row_lt hwx)
    have HIDX := Lib.hid hidx
    have HWANT := Lib.hid hwant
    clear hba hwx RBa RGa v0 hidx
    go_wp2_with (first | (go_at_call 90; refine (lenRows _ _ _ _).mono ?_; rintro e w' ⟨rfl, rfl⟩))
    refine HIDX.out.mono ?_
    rintro e w5 ⟨z, rfl, hcase, hb5⟩
    have HB5 := Lib.hid (belowStep hb5 HBa.out)
    have RB5 := Lib.hid (rowB HB5.out R0.out)
    have RG5 := Lib.hid (rowB HB5.out RG0.out)
    have HBW5 := Lib.hid (belowStep HB5.out HB0.out)
    have hcx5 := (hb5.cell (p := ⟨bx, ox + i, none⟩) (World.block_lt_of_cell? _ _ hcxa)).trans hcxa
    have hfit : ∀ j, j < m → decide (res.getD ((rowN (mvsOf p.moves) r.ls i).getD j 0) 0 = want) = fitR res i (nbI (mvsOf p.moves) r.ls i j) := fun j hj => by
      rw [rowN_at (by rw [HM.out]; exact hj)]
      unfold fitR
      rw [HRB.out, HWANT.out]
    have HFIT := Lib.hid hfit
    have HIW5 := Lib.hid ((HIW.out.below (belowStep (by rw [← hwa]; exact (by repeat (first | exact Below.refl _ _ | assumption | refine Below.setCell ?_ (by first | omega | (simp <;> omega)) _ | refine Below.alloc ?_ (by first | omega | (simp <;> omega)) _ | refine Below.drew ?_))) (Below.refl wr.heap.size wr))).below hb5)
    clear hfit hwa c0 g0 g1 cl gl hcx hcxa d0 f0 f1 hb5 HIDX
    have c0 := cell_of_row w5 w.heap.size 0 _ _ (0, 0) RB5.out
    have g0 := cell_of_row w5 G 0 _ _ (0, 0) RG5.out
    rcases hcase with ⟨rfl, hno⟩ | ⟨j, rfl, hjm, hyes, hbef⟩
    · have HNO : Hid (D = none) := by
        unfold Hid
        rw [← HWK.out]
        refine desc_stop hz (step_none fun u hu => ?_)
        rw [HM.out] at hu
        rw [← HFIT.out u hu]
        exact hno u hu
      clear hno
      go_wp2_with fail
      go_ret2
      exact ⟨0, by rw [HNO.out]; rfl, (fun d hd => by rw [HNO.out] at hd; cases hd), HBW5.out⟩
    · obtain ⟨hnb, -⟩ := HTR.out.nb (i := i) (j := j) (by rw [HN.out]; exact hi) (by rw [HM.out]; exact hjm)
      rw [HN.out] at hnb
      have HST := Lib.hid (step_some (mvs := mvsOf p.moves) (ls := r.ls) (res := res) (i := i) (j := j) (by rw [HM.out]; exact hjm) (fun u hu => by rw [← HFIT.out u (by omega)]; exact hbef u hu) (by rw [← HFIT.out j hjm]; exact hyes))
      obtain ⟨bw, ow, rfl, hbw, hcj⟩ := HIW5.out j (by rw [natI_len, rowN_len, HM.out]; exact hjm)
      rw [natI_getD] at hcj
      unfold app at hcj
      rw [rowN_at (by rw [HM.out]; exact hjm)] at hcj
      obtain ⟨nb, hnbe⟩ : ∃ nb, nbI (mvsOf p.moves) r.ls i j = nb := ⟨_, rfl⟩
      rw [hnbe] at hcj hnb HST
      have HWN : Hid (walkR (mvsOf p.moves) r.ls res (n - (q + 1)) nb (q + 1) = D) := by
        unfold Hid
        have hwk := HWK.out
        rw [show n - q = (n - (q + 1)) + 1 from by omega, desc_next hz HST.out] at hwk
        exact hwk
      have j0' : (0 : Int) ≤ (j : Int) := by omega
      have j1' : (j : Int) < (m : Int) := by omega
      have hjn : ¬ (j : Int) < 0 := by omega
      clear hyes hbef hnbe
      go_wp2_with fail
      go_roundw
      case rel => exact ⟨nb, q + 1, rfl, by go_num, hnb, by omega, HWN.out, HB5.out⟩
      case measure => simp [intOf]; omega
end
end Go.Proofs.Ytfhdnanbhigpmaa
