/- A job taken up again, impl; whether it is valid. Conditions: as each contract says. -/
import Derived.Test.YtfhdnanbhigpmaaIl
import Derived.Test.YtfhdnanbhigpmaaJk
namespace Go.Proofs.Ytfhdnanbhigpmaa
open Go.RowKit Grp

theorem ch_size {mvs : List (List Int)} {trk : List Int} (i : Nat) : ∀ j, (chF mvs trk i).2.size ≤ (chF mvs trk (i + j)).2.size := by
  intro j
  induction j with
  | zero => exact Nat.le_refl _
  | succ j ih =>
    have e : (chF mvs trk (i + (j + 1))).2 = (chF mvs trk (i + j)).2 ++ fullS (i + j) (addedB mvs (chF mvs trk (i + j)).1.ls (i + j)) := rfl
    rw [e, ByteArray.size_append]
    omega
theorem strEqB (a b : ByteArray) : (a.toList == b.toList) = decide (a = b) := by
  rw [Bool.eq_iff_iff]
  simp only [beq_iff_eq, decide_eq_true_eq]
  constructor
  · intro h
    rw [ByteArray.toList_eq, ByteArray.toList_eq] at h
    exact ByteArray.ext (Array.toList_inj.1 h)
  · intro h; rw [h]
structure ValidF (p : Pz) (t : Tb) (nx : Int) (lg : ByteArray) (sy : Int) : Prop where
  vlg : lg.size ≤ 60000
  vnx : 0 ≤ nx
  vs0 : 0 ≤ sy
  vs1 : sy ≤ lg.size
  vbld : buildQ p t.trk = true
  vok : chOk (mvsOf p.moves) t.trk nx.toNat
  vlog : (chF (mvsOf p.moves) t.trk nx.toNat).2 = lg
  vls : (chF (mvsOf p.moves) t.trk nx.toNat).1.ls = t.pats
  vds : (chF (mvsOf p.moves) t.trk nx.toNat).1.ds = t.dist
open Classical in
noncomputable def validF (p : Pz) (t : Tb) (nx : Int) (lg : ByteArray) (sy : Int) : Bool := decide (ValidF p t nx lg sy)
open Classical in
theorem validF_no {p : Pz} {t : Tb} {nx : Int} {lg : ByteArray} {sy : Int} (h : ¬ ValidF p t nx lg sy) : validF p t nx lg sy = false := by unfold validF; exact decide_eq_false h
open Classical in
theorem validF_yes {p : Pz} {t : Tb} {nx : Int} {lg : ByteArray} {sy : Int} (h : ValidF p t nx lg sy) : validF p t nx lg sy = true := by unfold validF; exact decide_eq_true h
open Classical in
theorem validF_iff {p : Pz} {t : Tb} {nx : Int} {lg : ByteArray} {sy : Int} : validF p t nx lg sy = true ↔ ValidF p t nx lg sy := by unfold validF; exact decide_eq_true_iff
theorem bld_bfs {p : Pz} {trk : List Int} (h : buildQ p trk = true) : ∃ N : Nat, N ≤ 20 ∧ p.moves.length ≤ 8 ∧ (∀ i, i < (mvsOf p.moves).length → PtsOk N N ((mvsOf p.moves).getD i [])) ∧ trk.length ≤ 20 ∧ 0 < trk.length ∧ ∀ i, chOk (mvsOf p.moves) trk i → BsOk N trk.length (chF (mvsOf p.moves) trk i).1 ∧ i ≤ (chF (mvsOf p.moves) trk i).1.ls.length := by
  have h2 := h
  unfold buildQ at h2
  rw [Bool.and_eq_true] at h2
  obtain ⟨N, hN, hN20, hmv, hm8, hpt, hne⟩ := trk_parts h2.1
  obtain ⟨r, hr⟩ := Option.isSome_iff_exists.1 h2.2
  have hl : trk.length ≤ 20 := by
    unfold trkQ at h2
    rw [Bool.and_eq_true] at h2
    obtain ⟨g1, g2⟩ := ptQ_iff.1 h2.1.2
    have hp := pz_pts h2.1.1
    have g3 : ∀ j, j < trk.length → (j : Int) ≤ trk.getD j 0 := by
      intro j
      induction j with
      | zero => intro hj; have := g2 0 hj; omega
      | succ j ih =>
        intro hj
        have h1 := ih (by omega)
        have h2 := (g2 (j + 1) hj).2.2 (by omega)
        rw [Nat.add_sub_cancel] at h2
        omega
    have g4 := g3 (trk.length - 1) (by omega)
    have g5 := g2 (trk.length - 1) (by omega)
    omega
  exact ⟨N, hN20, hm8, hmv.all, hl, hne, fun i hi => ⟨(ch_bfs hmv.all hpt hr i hi).1, (ch_bfs hmv.all hpt hr i hi).2.2⟩⟩
theorem FlAt.setSyn {lo f bm : Nat} {w : World} {vt vl vd vm : Value} {trk : List Int} {mvs ls : List (List Int)} {ds : List Int} {next : Int} {log : ByteArray} {syn : Int} {n : Nat} {K : List ByteArray} (h : FlAt lo f bm w vt vl vd vm trk mvs ls ds next log syn n K) (sy : Int) : FlAt lo f bm (w.setCell ⟨f, 5, none⟩ (.int .i64 sy)) vt vl vd vm trk mvs ls ds next log sy n K :=
  ⟨rowSet _ h.row, h.st.cell (g := f) (.inl rfl) (setGrown _ _ _ _), h.trk.row (setGrown w f 5 _) (fun b hb e => by injection e with e; exact h.nef (e ▸ hb)), h.nef, h.lof, h.own.kept h.st.lists (setGrown w f 5 _) (fun g e => by injection e with e; exact .inl (.inl e.symm))⟩
/-- What resume hands back. -/
def ResPost (p : Pz) (t : Tb) (nx : Int) (lg : ByteArray) (sy : Int) (w : World) (e : Ending) (w' : World) : Prop :=
  (∃ f, e = .returned (.tuple #[f, .bool (validF p t nx lg sy)]) ∧ (validF p t nx lg sy = true → ∃ lo g bm vt vm, f = .pointer (some ⟨g, 0, none⟩) ∧ w.heap.size ≤ lo ∧ lo ≤ bm ∧ FsAt lo g bm vt vm t.trk (mvsOf p.moves) sy w' (chF (mvsOf p.moves) t.trk nx.toNat).1 nx.toNat lg)) ∧ Below w.heap.size w w'
set_option maxRecDepth 100000 in
set_option maxHeartbeats 8000000 in
theorem implResume (A : Option Addr) (c : Nat) (p : Pz) (A1 A2 A3 : Option Addr) (c1 c2 c3 : Nat) (t : Tb) (nx : Int) (lg : ByteArray) (sy : Int) (w : World) (h : PzAt w A p) (h1 : IntsAt w A1 t.trk) (h2 : LAt w A2 t.pats) (h3 : IntsAt w A3 t.dist) (hs : ShortT t) (hnx : -9223372036854775808 ≤ nx ∧ nx ≤ 9223372036854775807) (hlg : lg.size ≤ 1048576) :
    Calls Try.prog 64 #[.agg #[.int .i64 p.pts, .string p.names, .slice A p.moves.length c], jobV A1 A2 A3 c1 c2 c3 t nx lg sy] w (ResPost p t nx lg sy w) := by
  have HP := Lib.hid h
  have H1 := Lib.hid h1
  have H2 := Lib.hid h2
  have H3 := Lib.hid h3
  have HS := Lib.hid hs
  have hs1 := hs.trk
  clear h h1 h2 h3 hs
  obtain ⟨xs, ls, ys⟩ := t
  unfold jobV
  dsimp only at *
  obtain ⟨w0, hw0⟩ : ∃ w0, (w.alloc (.cells #[.int .i64 p.pts, .string p.names, .slice A p.moves.length c] 29)).alloc (.cells #[.slice A1 xs.length c1, .slice A2 ls.length c2, .slice A3 ys.length c3, .int .i64 nx, .string lg, .int .i64 sy] 45) = w0 := ⟨_, rfl⟩
  have hb0 : Below w.heap.size w w0 := by rw [← hw0]; exact (by repeat (first | exact Below.refl _ _ | assumption | refine Below.setCell ?_ (by first | omega | (simp <;> omega)) _ | refine Below.alloc ?_ (by first | omega | (simp <;> omega)) _ | refine Below.drew ?_))
  have R0 : Hid (w0.heap[w.heap.size]? = some (.cells #[.int .i64 p.pts, .string p.names, .slice A p.moves.length c] 29 (0, 0))) := by rw [← hw0]; exact alloc2_0 _ _ _
  have R1 : Hid (w0.heap[w.heap.size + 1]? = some (.cells #[.slice A1 xs.length c1, .slice A2 ls.length c2, .slice A3 ys.length c3, .int .i64 nx, .string lg, .int .i64 sy] 45 (0, 0))) := by rw [← hw0]; exact alloc2_1 _ _ _
  obtain ⟨p0, p1, p2, -, -⟩ := row3 R0.out
  obtain ⟨j0, j1, j2, j3, j4, j5, -, jl⟩ := row6 R1.out
  have HB0 := Lib.hid hb0
  obtain ⟨V, hV⟩ : ∃ V, validF p ⟨xs, ls, ys⟩ nx lg sy = V := ⟨_, rfl⟩
  have HV := Lib.hid hV
  clear hV hb0
  by_cases k1 : (60000 : Int) < (lg.size : Int)
  · have HF : Hid (V = false) := by unfold Hid; rw [← HV.out]; exact validF_no (fun q => by have := q.vlg; omega)
    go_enter Try.func64, Try.ntmps64
    go_wp2_with fail
    go_ret2
    exact ⟨⟨_, by rw [HV.out, HF.out]; rfl, fun e => by rw [HV.out, HF.out] at e; cases e⟩, HB0.out⟩
  by_cases k2 : inR nx 0 3000 = true
  rotate_left
  · have k2' : inR nx 0 3000 = false := (Bool.not_eq_true _).mp k2
    have HF : Hid (V = false) := by
      unfold Hid; rw [← HV.out]
      refine validF_no (fun q => k2 (inR_iff.2 ⟨q.vnx, ?_⟩))
      obtain ⟨N, -, -, -, -, -, g⟩ := bld_bfs q.vbld
      obtain ⟨g1, g2⟩ := g _ q.vok
      have := g1.cap
      have := q.vnx
      omega
    clear k2
    go_enter Try.func64, Try.ntmps64
    go_wp2_with fail
    refine (within_any _ _ _ _).mono ?_
    rintro e w1 ⟨rfl, rfl⟩
    rw [k2']
    go_wp2_with fail
    go_ret2
    exact ⟨⟨_, by rw [HV.out, HF.out]; rfl, fun e => by rw [HV.out, HF.out] at e; cases e⟩, HB0.out⟩
  by_cases k3 : inR sy 0 (lg.size : Int) = true
  rotate_left
  · have k3' : inR sy 0 (lg.size : Int) = false := (Bool.not_eq_true _).mp k3
    have HF : Hid (V = false) := by unfold Hid; rw [← HV.out]; exact validF_no (fun q => k3 (inR_iff.2 ⟨q.vs0, q.vs1⟩))
    clear k3
    go_enter Try.func64, Try.ntmps64
    go_wp2_with fail
    refine (within_any _ _ _ _).mono ?_
    rintro e w1 ⟨rfl, rfl⟩
    rw [k2]
    go_wp2_with fail
    refine (within_any _ _ _ _).mono ?_
    rintro e w1 ⟨rfl, rfl⟩
    rw [k3']
    go_wp2_with fail
    go_ret2
    exact ⟨⟨_, by rw [HV.out, HF.out]; rfl, fun e => by rw [HV.out, HF.out] at e; cases e⟩, HB0.out⟩
  obtain ⟨n, hn⟩ : ∃ n : Nat, nx = (n : Int) := ⟨nx.toNat, by have := inR_iff.1 k2; omega⟩
  subst hn
  have hn3 : n ≤ 3000 := by have := inR_iff.1 k2; omega
  have hsy := inR_iff.1 k3
  have hlg6 : lg.size ≤ 60000 := by omega
  have HVI : Hid (∀ q : ValidF p ⟨xs, ls, ys⟩ (n : Int) lg sy, chOk (mvsOf p.moves) xs n ∧ (chF (mvsOf p.moves) xs n).2 = lg ∧ (chF (mvsOf p.moves) xs n).1.ls = ls ∧ (chF (mvsOf p.moves) xs n).1.ds = ys) := fun q => by
    have h1 := q.vok
    have h2 := q.vlog
    have h3 := q.vls
    have h4 := q.vds
    rw [Int.toNat_natCast] at h1 h2 h3 h4
    exact ⟨h1, h2, h3, h4⟩
  go_enter Try.func64, Try.ntmps64
  go_wp2_with fail
  refine (within_any _ _ _ _).mono ?_
  rintro e w1 ⟨rfl, rfl⟩
  rw [k2]
  go_wp2_with fail
  refine (within_any _ _ _ _).mono ?_
  rintro e w1 ⟨rfl, rfl⟩
  rw [k3]
  go_wp2_with fail
  clear hw0
  refine (implStart A c p A1 c1 xs w0 (HP.out.below HB0.out) (H1.out.below HB0.out) hs1).mono ?_
  intro e w2 hpost
  by_cases hq : buildQ p xs = true
  rotate_left
  · rw [if_neg hq] at hpost
    obtain ⟨rfl, hb2⟩ := hpost
    have HF : Hid (V = false) := by unfold Hid; rw [← HV.out]; exact validF_no (fun q => hq q.vbld)
    have HB2 := Lib.hid (belowStep hb2 HB0.out)
    clear hq hb2
    go_wp2_with fail
    go_ret2
    exact ⟨⟨_, by rw [HV.out, HF.out]; rfl, fun e => by rw [HV.out, HF.out] at e; cases e⟩, HB2.out⟩
  rw [if_pos hq] at hpost
  obtain ⟨lo, f, bm, At, ct, Al, Ad, vm, m1, m2, hi, hlo, hlbm, rfl, hFL, -, -, hb2⟩ := hpost
  obtain ⟨N, hN, hm8, hmv, hx20, hx0, hch⟩ := bld_bfs hq
  have HCH := Lib.hid hch
  have HMV := Lib.hid hmv
  have hml : (mvsOf p.moves).length ≤ 100 := by rw [mvsOf_len]; omega
  have HBLD := Lib.hid hq
  have HF0 : Hid (FsAt lo f bm (.slice At xs.length ct) vm xs (mvsOf p.moves) 0 w2 (chF (mvsOf p.moves) xs 0).1 0 (chF (mvsOf p.moves) xs 0).2) := by
    refine ⟨_, _, [strOfNums xs], hFL, fun s => ?_⟩
    rw [List.mem_singleton]
    exact ⟨fun e => ⟨xs, by simp [chF], e.symm⟩, fun ⟨x, h1, h2⟩ => by rw [← h2]; rw [show x = xs from by simpa [chF] using h1]⟩
  have HB2 := Lib.hid hb2
  have hloz : w.heap.size + 1 < lo := by omega
  have HHW : Hid (∀ wx, Below lo w2 wx → Below w.heap.size w wx) := fun wx hb => (belowStep HB2.out HB0.out).trans (hb.mono (by omega))
  have HJ2 := Lib.hid (rowB HB2.out R1.out)
  clear hch hmv hq hFL hb2 j0 j1 j2 j3 j4 j5 p0 p1 p2 k1 k2 k3
  go_wp2_with fail
  go_loopw [] (fun wr => ∃ i : Nat, i ≤ n ∧ FsAt lo f bm (.slice At xs.length ct) vm xs (mvsOf p.moves) 0 wr (chF (mvsOf p.moves) xs i).1 i (chF (mvsOf p.moves) xs i).2 ∧ Hid (chOk (mvsOf p.moves) xs i) ∧ (chF (mvsOf p.moves) xs i).2.size ≤ 60000 ∧ Below lo w2 wr) (fun wr => n - (intOf ((wr.cell? ⟨f, 3, none⟩).getD undef)).toNat)
  case atStart => exact ⟨0, Nat.zero_le _, HF0.out, fun j hj => by omega, Nat.zero_le _, Below.refl _ _⟩
  case round =>
    obtain ⟨i, hi, hF, HOKI, hsz, hB⟩ := hrel
    have HF := Lib.hid hF
    obtain ⟨vl, vd, K, hFl, hKO⟩ := hF
    have f3 : wr.cell? ⟨f, 3, none⟩ = some (.int .i64 (i : Int)) := cell_of_row wr f 3 _ _ (0, 0) hFl.row
    have hfl := row_lt hFl.row
    have hlf := hFl.lof
    have RJ := Lib.hid ((hB.block (w.heap.size + 1) hloz).trans HJ2.out)
    obtain ⟨-, -, -, j3, -, -, -, -⟩ := row6 RJ.out
    have HFL := Lib.hid hFl
    have HKK0 := Lib.hid hKO
    have HB := Lib.hid hB
    have hzB := hB.size
    clear hFl hKO HF0 hB
    obtain ⟨s, hs⟩ : ∃ s, (chF (mvsOf p.moves) xs i).1 = s := ⟨_, rfl⟩
    obtain ⟨lgi, hlgi⟩ : ∃ lgi, (chF (mvsOf p.moves) xs i).2 = lgi := ⟨_, rfl⟩
    rw [hs, hlgi] at HF HFL
    rw [hs] at HKK0
    have HKK := HKK0
    rw [hlgi] at hsz
    have HSS := Lib.hid hs
    have HLI := Lib.hid hlgi
    clear hs hlgi
    by_cases hlt : i < n
    · have q0 : (i : Int) < (n : Int) := by omega
      go_wp2_with fail
      go_quiet (fail)
      go_wp2_with fail
      have hb3 : Below wr.heap.size wr (wr.drewN nq) := belowDrewN (Below.refl _ _) nq
      have HC := HCH.out i HOKI.out
      rw [HSS.out] at HC
      have hstep := implStep lo f bm (.slice At xs.length ct) vm xs (mvsOf p.moves) 0 s i lgi N xs.length (wr.drewN nq) (HF.out.below hb3) HC.1 HMV.out hml HC.2 (by omega) (by omega) hlbm hsz
      refine hstep.mono ?_
      rintro e w4 ⟨b, rfl, hb, hyes, hno, hb4⟩
      have HB4 : Hid (Below lo w2 w4) := (HB.out.trans (hb3.mono (by omega))).trans hb4
      have e1 : (chF (mvsOf p.moves) xs (i + 1)).1 = nextB (mvsOf p.moves) s i := by rw [← HSS.out]; rfl
      have e2 : (chF (mvsOf p.moves) xs (i + 1)).2 = lgi ++ fullS i (addedB (mvsOf p.moves) s.ls i) := by rw [← HSS.out, ← HLI.out]; rfl
      have HE1 := Lib.hid e1
      have HE2 := Lib.hid e2
      have HBB := Lib.hid hb
      have HYES := Lib.hid hyes
      clear hstep hb3 hb4 e1 e2 hb hyes hno HC
      cases b with
      | true =>
        obtain ⟨g1, g2⟩ := HBB.out.1 (by first | exact trivial | rfl)
        have hN := HYES.out (by first | exact trivial | rfl)
        have m3 : w4.cell? ⟨f, 3, none⟩ = some (.int .i64 ((i + 1 : Nat) : Int)) := by
          obtain ⟨vl4, vd4, K4, h4, -⟩ := hN
          exact cell_of_row w4 f 3 _ _ (0, 0) h4.row
        have HN := Lib.hid hN
        have G1 := Lib.hid g1
        have G2 := Lib.hid g2
        clear hN g1 g2
        go_wp2_with fail
        go_roundw
        case rel =>
          refine ⟨i + 1, by omega, by rw [HE1.out, HE2.out]; exact HN.out, fun j hj => ?_, by rw [HE2.out, ByteArray.size_append]; exact G2.out, HB4.out⟩
          by_cases ej : j = i
          · rw [ej, HSS.out]; exact G1.out
          · exact HOKI.out j (by omega)
        case measure => rw [m3, f3]; simp [intOf]; omega
      | false =>
        have HF : Hid (V = false) := by
          unfold Hid; rw [← HV.out]
          refine validF_no (fun q => ?_)
          obtain ⟨g1, g2, -, -⟩ := HVI.out q
          have g3 := g1 i hlt
          rw [HSS.out] at g3
          have g4 := ch_size (mvs := mvsOf p.moves) (trk := xs) (i + 1) (n - (i + 1))
          rw [show i + 1 + (n - (i + 1)) = n from by omega, g2, HE2.out, ByteArray.size_append] at g4
          have := HBB.out.2 ⟨g3, by omega⟩
          first | exact this | cases this
        go_wp2_with fail
        go_ret2
        exact ⟨⟨_, by rw [HV.out, HF.out]; rfl, fun e => by rw [HV.out, HF.out] at e; cases e⟩, HHW.out _ HB4.out⟩
    · obtain rfl : i = n := by omega
      have q0 : ¬ (i : Int) < (i : Int) := by omega
      go_wp2_with fail
      go_quiet (fail)
      obtain ⟨w5, hw5⟩ : ∃ w5, wr.drewN nq = w5 := ⟨_, rfl⟩
      have hb5 : Below wr.heap.size wr w5 := by rw [← hw5]; exact belowDrewN (Below.refl _ _) _
      rw [hw5]
      have HFL5 := Lib.hid (HFL.out.below hb5)
      have RJ5 := Lib.hid (rowB hb5 RJ.out)
      have HB5 : Hid (Below lo w2 w5) := HB.out.trans (hb5.mono (by omega))
      obtain ⟨Al5, cl5, hvl, hcl5, -⟩ := HFL5.out.st.lists.shape
      obtain ⟨Ad5, cd5, hcd5, hvd, -⟩ := HFL5.out.st.deps.capped
      subst hvl hvd
      have ff5 : ∀ p, w5.frozen? ⟨f, p, none⟩ = false := fun p => row_free HFL5.out.row
      have f55 : w5.cell? ⟨f, 5, none⟩ = some (.int .i64 0) := cell_of_row w5 f 5 _ _ (0, 0) HFL5.out.row
      clear j3
      obtain ⟨-, -, -, -, -, j5, -, -⟩ := row6 RJ5.out
      clear hw5 hb5 f3
      go_wp2_with fail
      obtain ⟨w6, hw6⟩ : ∃ w6, w5.setCell ⟨f, 5, none⟩ (.int .i64 sy) = w6 := ⟨_, rfl⟩
      rw [hw6]
      have HFL6 : Hid (FlAt lo f bm w6 (.slice At xs.length ct) (.slice Al5 s.ls.length cl5) (.slice Ad5 s.ds.length cd5) vm xs (mvsOf p.moves) s.ls s.ds (i : Int) lgi sy s.ls.length K) := by rw [← hw6]; exact HFL5.out.setSyn sy
      have RJ6 : Hid (w6.heap[w.heap.size + 1]? = some (.cells #[.slice A1 xs.length c1, .slice A2 ls.length c2, .slice A3 ys.length c3, .int .i64 (i : Int), .string lg, .int .i64 sy] 45 (0, 0))) := by rw [← hw6]; exact rowS RJ5.out (by simp; omega)
      have HB6 : Hid (Below lo w2 w6) := by rw [← hw6]; exact HB5.out.setCell (by simpa using hlf) _
      clear hw6 ff5 f55 j5
      have f0 : w6.cell? ⟨f, 0, none⟩ = some (.slice At xs.length ct) := cell_of_row w6 f 0 _ _ (0, 0) HFL6.out.row
      have f1 : w6.cell? ⟨f, 1, none⟩ = some (.slice Al5 s.ls.length cl5) := cell_of_row w6 f 1 _ _ (0, 0) HFL6.out.row
      have f2 : w6.cell? ⟨f, 2, none⟩ = some (.slice Ad5 s.ds.length cd5) := cell_of_row w6 f 2 _ _ (0, 0) HFL6.out.row
      have f4 : w6.cell? ⟨f, 4, none⟩ = some (.string lgi) := cell_of_row w6 f 4 _ _ (0, 0) HFL6.out.row
      obtain ⟨j0, j1, j2, -, j4, -, -, jl6⟩ := row6 RJ6.out
      have hfl6 := row_lt HFL6.out.row
      by_cases hq : lgi = lg
      · subst hq
        have HC := HCH.out i HOKI.out
        rw [HSS.out] at HC
        have hcap := HC.1.cap
        have hST : ShortT ⟨xs, s.ls, s.ds⟩ := ⟨hs1, by dsimp only; omega, fun j hj => by dsimp only at hj ⊢; have := (HC.1.rows j hj).1; omega, by dsimp only; rw [HC.1.len]; omega⟩
        have HST := Lib.hid hST
        have HT6 := Lib.hid HFL6.out.trk.intsAt
        have HL6 := Lib.hid HFL6.out.st.lists.lat
        have HD6 := Lib.hid HFL6.out.st.deps.intsAt
        have HBW6 := Lib.hid (HHW.out _ HB6.out)
        have HX6 := Lib.hid (H1.out.below HBW6.out)
        have HY6 := Lib.hid (H2.out.below HBW6.out)
        have HZ6 := Lib.hid (H3.out.below HBW6.out)
        obtain ⟨bq, hbq⟩ : ∃ bq, eqT ⟨xs, s.ls, s.ds⟩ ⟨xs, ls, ys⟩ = bq := ⟨_, rfl⟩
        have hVB : V = bq := by
          rw [← HV.out, ← hbq, Bool.eq_iff_iff]
          unfold eqT
          dsimp only
          rw [Bool.and_eq_true, Bool.and_eq_true, decide_eq_true_iff, decide_eq_true_iff, decide_eq_true_iff]
          constructor
          · intro h1
            have h2 := HVI.out (validF_iff.1 h1)
            rw [HSS.out] at h2
            exact ⟨rfl, h2.2.2.1, h2.2.2.2⟩
          · rintro ⟨-, g1, g2⟩
            refine validF_yes ⟨hlg6, by omega, hsy.1, hsy.2, HBLD.out, ?_, ?_, ?_, ?_⟩
            · rw [Int.toNat_natCast]; exact HOKI.out
            · rw [Int.toNat_natCast]; exact HLI.out
            · rw [Int.toNat_natCast, HSS.out]; exact g1
            · rw [Int.toNat_natCast, HSS.out]; exact g2
        have HVB := Lib.hid hVB
        have HSM := Lib.hid (fun wx k1 k2 k3 k4 k5 k6 => implSameT At Al5 Ad5 A1 A2 A3 ct cl5 cd5 c1 c2 c3 ⟨xs, s.ls, s.ds⟩ ⟨xs, ls, ys⟩ wx k1 k2 k3 k4 k5 k6 HST.out)
        rw [hbq] at HSM
        dsimp only at HSM
        clear hST HC hbq hVB
        go_region_held3 (fun w' => w'.cell? ⟨f, 0, none⟩ = some (.slice At xs.length ct) ∧ w'.cell? ⟨f, 1, none⟩ = some (.slice Al5 s.ls.length cl5) ∧ w'.cell? ⟨f, 2, none⟩ = some (.slice Ad5 s.ds.length cd5) ∧ w'.cell? ⟨f, 4, none⟩ = some (.string lgi) ∧ w'.cell? ⟨w.heap.size + 1, 0, none⟩ = some (.slice A1 xs.length c1) ∧ w'.cell? ⟨w.heap.size + 1, 1, none⟩ = some (.slice A2 ls.length c2) ∧ w'.cell? ⟨w.heap.size + 1, 2, none⟩ = some (.slice A3 ys.length c3) ∧ w'.cell? ⟨w.heap.size + 1, 4, none⟩ = some (.string lgi)) (first | go_keep | exact ⟨e0, e1, e2, e3, e4, e5, e6, e7⟩) ((go_at_call 96; refine (HSM.out _ (by exact HT6.out) (by exact HL6.out) (by exact HD6.out) (by exact HX6.out) (by exact HY6.out) (by exact HZ6.out)).mono ?_; rintro e w7 ⟨rfl, hb7⟩; have B7 : Below w6.heap.size w6 w7 := ⟨hb7.os, hb7.tape, hb7.output, hb7.size, hb7.block⟩; have e0 := (B7.cell (p := ⟨f, 0, none⟩) hfl6).trans f0; have e1 := (B7.cell (p := ⟨f, 1, none⟩) hfl6).trans f1; have e2 := (B7.cell (p := ⟨f, 2, none⟩) hfl6).trans f2; have e3 := (B7.cell (p := ⟨f, 4, none⟩) hfl6).trans f4; have e4 := (B7.cell (p := ⟨w.heap.size + 1, 0, none⟩) jl6).trans j0; have e5 := (B7.cell (p := ⟨w.heap.size + 1, 1, none⟩) jl6).trans j1; have e6 := (B7.cell (p := ⟨w.heap.size + 1, 2, none⟩) jl6).trans j2; have e7 := (B7.cell (p := ⟨w.heap.size + 1, 4, none⟩) jl6).trans j4))
        go_wp2_with fail
        go_ret2
        refine ⟨⟨.pointer (some ⟨f, 0, none⟩), by rw [HV.out, HVB.out]; rfl, fun _ => ⟨lo, f, bm, .slice At xs.length ct, vm, rfl, by omega, hlbm, ?_⟩⟩, belowStep B7 HBW6.out⟩
        have hfin : FsAt lo f bm (.slice At xs.length ct) vm xs (mvsOf p.moves) sy w7 s i lgi := FsAt.below ⟨_, _, K, HFL6.out, HKK.out⟩ B7
        rw [Int.toNat_natCast, HSS.out]
        exact hfin
      · have HF : Hid (V = false) := by
          unfold Hid; rw [← HV.out]
          refine validF_no (fun q => hq ?_)
          have h2 := HVI.out q
          rw [← HLI.out]; exact h2.2.1
        have hstr : (lgi.toList == lg.toList) = false := by rw [strEqB, decide_eq_false hq]
        have HBW6 := Lib.hid (HHW.out _ HB6.out)
        clear hq
        go_quiet (fail)
        go_wp2_with fail
        go_ret2
        exact ⟨⟨_, by rw [HV.out, HF.out]; rfl, fun e => by rw [HV.out, HF.out] at e; cases e⟩, belowDrewN HBW6.out _⟩
set_option maxRecDepth 100000 in
set_option maxHeartbeats 4000000 in
theorem implValid (A : Option Addr) (c : Nat) (p : Pz) (A1 A2 A3 : Option Addr) (c1 c2 c3 : Nat) (t : Tb) (nx : Int) (lg : ByteArray) (sy : Int) (w : World) (h : PzAt w A p) (h1 : IntsAt w A1 t.trk) (h2 : LAt w A2 t.pats) (h3 : IntsAt w A3 t.dist) (hs : ShortT t) (hnx : -9223372036854775808 ≤ nx ∧ nx ≤ 9223372036854775807) (hlg : lg.size ≤ 1048576) :
    Calls Try.prog 43 #[.agg #[.int .i64 p.pts, .string p.names, .slice A p.moves.length c], jobV A1 A2 A3 c1 c2 c3 t nx lg sy] w (ReadsBool (validF p t nx lg sy) w) := by
  obtain ⟨w0, hw0⟩ : ∃ w0, (w.alloc (.cells #[.int .i64 p.pts, .string p.names, .slice A p.moves.length c] 29)).alloc (.cells #[.slice A1 t.trk.length c1, .slice A2 t.pats.length c2, .slice A3 t.dist.length c3, .int .i64 nx, .string lg, .int .i64 sy] 45) = w0 := ⟨_, rfl⟩
  have hb0 : Below w.heap.size w w0 := by rw [← hw0]; exact (by repeat (first | exact Below.refl _ _ | assumption | refine Below.setCell ?_ (by first | omega | (simp <;> omega)) _ | refine Below.alloc ?_ (by first | omega | (simp <;> omega)) _ | refine Below.drew ?_))
  have R0 : Hid (w0.heap[w.heap.size]? = some (.cells #[.int .i64 p.pts, .string p.names, .slice A p.moves.length c] 29 (0, 0))) := by rw [← hw0]; exact alloc2_0 _ _ _
  have R1 : Hid (w0.heap[w.heap.size + 1]? = some (.cells #[.slice A1 t.trk.length c1, .slice A2 t.pats.length c2, .slice A3 t.dist.length c3, .int .i64 nx, .string lg, .int .i64 sy] 45 (0, 0))) := by rw [← hw0]; exact alloc2_1 _ _ _
  obtain ⟨p0, p1, p2, -, -⟩ := row3 R0.out
  obtain ⟨j0, j1, j2, j3, j4, j5, -, jl⟩ := row6 R1.out
  have HB0 := Lib.hid hb0
  have HR := Lib.hid (implResume A c p A1 A2 A3 c1 c2 c3 t nx lg sy w0 (h.below hb0) (h1.below hb0) (h2.below hb0) (h3.below hb0) hs hnx hlg)
  obtain ⟨V, hV⟩ : ∃ V, validF p t nx lg sy = V := ⟨_, rfl⟩
  rw [hV]
  unfold ResPost at HR
  simp only [hV] at HR
  unfold jobV at *
  clear h h1 h2 h3 hs hV hb0
  go_enter Try.func43, Try.ntmps43
  go_wp2_with fail
  clear hw0
  refine HR.out.mono ?_
  rintro e w1 ⟨⟨f, rfl, -⟩, hb1⟩
  have HB1 := Lib.hid (belowStep hb1 HB0.out)
  clear hb1 HR
  go_wp2_with fail
  go_ret
  exact ⟨rfl, HB1.out⟩
end Go.Proofs.Ytfhdnanbhigpmaa
