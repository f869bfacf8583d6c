/- The expansion of a job's next entry, spec. Conditions: the puzzle and the table are those of a chain. -/
import Derived.Test.YtfhdnanbhigpmaaXa
import Derived.Deep.CutRange
namespace Go.Proofs.Ytfhdnanbhigpmaa
open Go.RowKit Grp

theorem alloc3_2 (w : World) (a b c : Obj) : (((w.alloc a).alloc b).alloc c).heap[w.heap.size + 2]? = some c := by
  have := heap_alloc_new ((w.alloc a).alloc b) c
  simpa using this
theorem ckTo_bdE (l : List UInt8) : 0 ≤ (ckTo l).1 ∧ (ckTo l).1 ≤ 65521 ∧ 0 ≤ (ckTo l).2 ∧ (ckTo l).2 ≤ 65521 := by
  unfold ckTo
  have : ∀ (l : List UInt8) (p : Int × Int), 0 ≤ p.1 → p.1 ≤ 65521 → 0 ≤ p.2 → p.2 ≤ 65521 → 0 ≤ (l.foldl ckStep p).1 ∧ (l.foldl ckStep p).1 ≤ 65521 ∧ 0 ≤ (l.foldl ckStep p).2 ∧ (l.foldl ckStep p).2 ≤ 65521 := by
    intro l
    induction l with
    | nil => intro p a b c d; exact ⟨a, b, c, d⟩
    | cons x l ih =>
      intro p a b c d
      rw [List.foldl_cons]
      refine ih _ ?_ ?_ ?_ ?_ <;> simp only [ckStep] <;> omega
  exact this l (1, 0) (by decide) (by decide) (by decide) (by decide)
theorem ck_bdE (l : List UInt8) : 0 ≤ cksum l ∧ cksum l ≤ 9223372036854775807 := by
  have := ckTo_bdE l
  unfold cksum
  omega
set_option maxRecDepth 100000 in
set_option maxHeartbeats 8000000 in
theorem specExpand (A : Option Addr) (c : Nat) (p : Pz) (A1 A2 A3 : Option Addr) (c1 c2 c3 N L : Nat) (trk : List Int) (s : Bs) (k : Nat) (lg : ByteArray) (sy : Int) (w : World) (h : PzAt w A p) (h1 : IntsAt w A1 trk) (h2 : LAt w A2 s.ls) (h3 : IntsAt w A3 s.ds) (hg : ChG p trk N) (hL : trk.length = L) (hok : BsOk N L s) (hdi : RowsDi L s.ls) (hk : k < s.ls.length) (hlg : lg.size ≤ 1000000) :
    Calls Try.prog 72 #[.agg #[.int .i64 p.pts, .string p.names, .slice A p.moves.length c], jobV A1 A2 A3 c1 c2 c3 ⟨trk, s.ls, s.ds⟩ (k : Int) lg sy] w fun e w' => ∃ v1 v2 v3, e = .returned (.agg #[v1, v2, v3, .int .i64 ((k + 1 : Nat) : Int), .string (lg ++ fullS k (addedB (mvsOf p.moves) s.ls k)), .int .i64 sy]) ∧ CpTb w.heap.size ⟨trk, (nextB (mvsOf p.moves) s k).ls, (nextB (mvsOf p.moves) s k).ds⟩ v1 v2 v3 w' ∧ Below w.heap.size w w' := by
  obtain ⟨m, hm⟩ : ∃ m, p.moves.length = m := ⟨_, rfl⟩
  obtain ⟨w0, hw0⟩ : ∃ w0, ((w.alloc (.cells #[.int .i64 p.pts, .string p.names, .slice A m c] 29)).alloc (.cells #[.slice A1 L c1, .slice A2 s.ls.length c2, .slice A3 s.ls.length c3, .int .i64 (k : Int), .string lg, .int .i64 sy] 45)).alloc (.cells #[.slice none 0 0, .slice none 0 0, .slice none 0 0, .int .i64 0, .string ⟨#[]⟩, .int .i64 0] 45) = w0 := ⟨_, rfl⟩
  have hb0 : Below w.heap.size w w0 := by rw [← hw0]; exact (by repeat (first | exact Below.refl _ _ | assumption | refine Below.setCell ?_ (by first | omega | (simp <;> omega)) _ | refine Below.alloc ?_ (by first | omega | (simp <;> omega)) _ | refine Below.drew ?_))
  have R0 : Hid (w0.heap[w.heap.size]? = some (.cells #[.int .i64 p.pts, .string p.names, .slice A m c] 29 (0, 0))) := by rw [← hw0]; exact alloc3_0 _ _ _ _
  have R1 : Hid (w0.heap[w.heap.size + 1]? = some (.cells #[.slice A1 L c1, .slice A2 s.ls.length c2, .slice A3 s.ls.length c3, .int .i64 (k : Int), .string lg, .int .i64 sy] 45 (0, 0))) := by rw [← hw0]; exact alloc3_1 _ _ _ _
  have R2 : Hid (w0.heap[w.heap.size + 2]? = some (.cells #[.slice none 0 0, .slice none 0 0, .slice none 0 0, .int .i64 0, .string ⟨#[]⟩, .int .i64 0] 45 (0, 0))) := by rw [← hw0]; exact alloc3_2 _ _ _ _
  have hst : ShortT ⟨trk, s.ls, s.ds⟩ := ⟨by dsimp only; have := hg.len; omega, by dsimp only; have := hok.cap; omega, fun j hj => by dsimp only at hj ⊢; have := (hok.rows j hj).1; have := hg.len; omega, by dsimp only; rw [hok.len]; have := hok.cap; omega⟩
  have HCJ := Lib.hid (specCopyJ A1 A2 A3 c1 c2 c3 ⟨trk, s.ls, s.ds⟩ (k : Int) lg sy w0 (h1.below hb0) (h2.below hb0) (h3.below hb0) hst)
  have HP := Lib.hid h
  have H1 := Lib.hid h1
  have H2 := Lib.hid h2
  have H3 := Lib.hid h3
  have HG := Lib.hid hg
  have HOK := Lib.hid hok
  have HDI := Lib.hid hdi
  have HB0 := Lib.hid hb0
  have HW0 := Lib.hid hw0
  have HM := Lib.hid hm
  have HLL := Lib.hid hL
  have hdl := hok.len
  have hcap := hok.cap
  have hs0 : (w.alloc (.cells #[.int .i64 p.pts, .string p.names, .slice A m c] 29)).heap.size = w.heap.size + 1 := by simp
  unfold jobV at HCJ ⊢
  dsimp only at HCJ ⊢
  rw [hm, hL, hdl]
  rw [hL, hdl] at HCJ
  clear h h1 h2 h3 hg hok hdi hb0 hw0 hst hm hL
  go_enter Try.func72, Try.ntmps72
  go_wp2_with fail
  rw [HW0.out]
  refine HCJ.out.mono ?_
  rintro e w1 ⟨v1, v2, v3, rfl, hCP, hb1⟩
  obtain ⟨B1, d1, -, rfl, -⟩ := hCP.1.capped
  obtain ⟨B2, d2, rfl, hd2, -⟩ := GrAt.shape hCP.2.1
  obtain ⟨B3, d3, hd3, rfl, -⟩ := hCP.2.2.1.capped
  dsimp only at hCP hd2 hd3 ⊢
  rw [HLL.out, hdl] at hCP ⊢
  rw [hdl] at hd3
  have HCP := Lib.hid hCP
  have HB1 := Lib.hid hb1
  have r0 := rowB hb1 R0.out
  have r1 := rowB hb1 R1.out
  have r2 := rowB hb1 R2.out
  obtain ⟨p0, p1, p2, -, pl⟩ := row3 r0
  obtain ⟨j0, j1, j2, j3, j4, j5, -, jl⟩ := row6 r1
  obtain ⟨o0, o1, o2, o3, o4, o5, oF, ol⟩ := row6 r2
  obtain ⟨b2, of2, Ap, cp, hA2, hb2, hcp, hc2, hIp⟩ := H2.out k hk
  have hL2 := (HOK.out.rows k hk).1
  rw [hL2] at hcp hc2
  subst hA2
  obtain ⟨b3, of3, hA3, hb3', hc3⟩ := H3.out k (by rw [hdl]; exact hk)
  subst hA3
  have HD3 : Hid (w.cell? ⟨b3, of3 + k, none⟩ = some (.int .i64 (s.ds.getD k 0))) := hc3
  have HD3L : Hid (b3 < w.heap.size) := hb3'
  clear hc3 hb3'
  have hcp1 := (HB0.out.cell (p := ⟨b2, of2 + k, none⟩) hb2).trans hc2
  have hcp2 := (HB1.out.cell (p := ⟨b2, of2 + k, none⟩) (by have := HB0.out.size; simp only; omega)).trans hcp1
  have q0 : (0 : Int) ≤ (k : Int) := by omega
  have q1 : (k : Int) < (s.ls.length : Int) := by omega
  have HIP := Lib.hid hIp
  obtain ⟨w2, hw2⟩ : ∃ w2, w1.alloc (.cells #[.slice B1 L d1, .slice B2 s.ls.length d2, .slice B3 s.ls.length d3, .int .i64 (k : Int), .string lg, .int .i64 sy] 45) = w2 := ⟨_, rfl⟩
  have hb2w : Below w1.heap.size w1 w2 := by rw [← hw2]; exact (by repeat (first | exact Below.refl _ _ | assumption | refine Below.setCell ?_ (by first | omega | (simp <;> omega)) _ | refine Below.alloc ?_ (by first | omega | (simp <;> omega)) _ | refine Below.drew ?_))
  have hcp3 : (w1.alloc (.cells #[.slice B1 L d1, .slice B2 s.ls.length d2, .slice B3 s.ls.length d3, .int .i64 (k : Int), .string lg, .int .i64 sy] 45)).cell? ⟨b2, of2 + k, none⟩ = some (.slice Ap L cp) := by rw [hw2]; exact (hb2w.cell (p := ⟨b2, of2 + k, none⟩) (by have := HB0.out.size; have := HB1.out.size; simp only; omega)).trans hcp2
  have RO2 : Hid (w2.heap[w1.heap.size]? = some (.cells #[.slice B1 L d1, .slice B2 s.ls.length d2, .slice B3 s.ls.length d3, .int .i64 (k : Int), .string lg, .int .i64 sy] 45 (0, 0))) := by rw [← hw2]; exact heap_alloc_new _ _
  have HW2 := Lib.hid hw2
  have HB2 := Lib.hid hb2w
  clear hCP hb1 hIp hc2 hcp1 HCJ hw2 hb2w
  go_wp2_with fail
  rw [HW2.out]
  have hpz : pzQ p = true := by
    have := HG.out.trq
    unfold trkQ at this
    rw [Bool.and_eq_true] at this
    exact this.1
  have HBW2 : Hid (Below w.heap.size w w2) := (HB0.out.trans (HB1.out.mono (by have := HB0.out.size; omega))).trans (HB2.out.mono (by have := HB0.out.size; have := HB1.out.size; omega))
  have hcl := specLettersP A c p w2 (HP.out.below HBW2.out) hpz (by have := HG.out.m8; omega)
  rw [HM.out] at hcl
  refine hcl.mono ?_
  rintro e w3 ⟨v3, rfl, hF3, hb3⟩
  obtain ⟨A7, c7, hc7, rfl, hI7⟩ := hF3.capped
  rw [letsOf_len] at hc7 hF3 ⊢
  have HF3 := Lib.hid hF3
  have HB3 := Lib.hid hb3
  obtain ⟨w4, hw4⟩ : ∃ w4, w3.alloc (.cells #[] 31) = w4 := ⟨_, rfl⟩
  have hb4 : Below w3.heap.size w3 w4 := by rw [← hw4]; exact (by repeat (first | exact Below.refl _ _ | assumption | refine Below.setCell ?_ (by first | omega | (simp <;> omega)) _ | refine Below.alloc ?_ (by first | omega | (simp <;> omega)) _ | refine Below.drew ?_))
  have hG4 : w4.ownsRow w0.heap.size 31 1 (.slice (some ⟨w3.heap.size, 0, none⟩) 0 0) 0 [] := by
    rw [← hw4]
    exact World.ownsRow_made w3 #[] 0 (by have := HB1.out.size; have := HB2.out.size; have := HB3.out.size; omega) (by unfold maxLen; omega) rfl
  have HG4 := Lib.hid hG4
  have HB4 := Lib.hid hb4
  have HI7 := Lib.hid hI7
  have HW4 := Lib.hid hw4
  clear hcl hF3 hb3 hI7 hG4 hb4 hw4 p0 p1 p2 j0 j1 j2 j3 j4 j5 o0 o1 o2 o3 o4 o5 hcp2 hcp3 jl ol pl oF
  go_wp2_with fail
  rw [HW4.out]
  obtain ⟨lo, hlo⟩ : ∃ lo, w0.heap.size = lo := ⟨_, rfl⟩
  obtain ⟨HO, hHO⟩ : ∃ HO, w1.heap.size = HO := ⟨_, rfl⟩
  obtain ⟨Z, hZ⟩ : ∃ Z : Nat → Prop, Z = fun b => b < lo ∨ (Value.slice B1 L d1).ownBlock = some b ∨ b = HO ∨ (Value.slice A7 (2 * m) c7).ownBlock = some b := ⟨_, rfl⟩
  obtain ⟨dd, hdd⟩ : ∃ dd, depOf k s = dd := ⟨_, rfl⟩
  have hz1 := HB1.out.size
  have hz2 := HB2.out.size
  have hz3 := HB3.out.size
  have hz4 := HB4.out.size
  have ho2 := row_lt RO2.out
  have hw3l : w3.heap.size < w4.heap.size := by rw [← HW4.out]; simp
  have hA7 : ∀ b, (Value.slice A7 (2 * m) c7).ownBlock = some b → w2.heap.size ≤ b ∧ b < w3.heap.size := fun b hb => World.ownsRow.lt HF3.out b hb
  have hB1w : ∀ b, (Value.slice B1 L d1).ownBlock = some b → w0.heap.size ≤ b ∧ b < w1.heap.size := fun b hb => World.ownsRow.lt HCP.out.1 b hb
  have hB3w : ∀ b, (Value.slice B3 s.ls.length d3).ownBlock = some b → w0.heap.size ≤ b ∧ b < w1.heap.size := fun b hb => World.ownsRow.lt HCP.out.2.2.1 b hb
  have hB2w : ∀ b, (Value.slice B2 s.ls.length d2).ownBlock = some b → w0.heap.size ≤ b ∧ b < w1.heap.size := fun b hb => ⟨(HCP.out.2.1.own b hb).1, (HCP.out.2.1.own b hb).2.1⟩
  rw [hlo] at hB1w hB2w hB3w hz1 HG4
  rw [hHO] at ho2 hz2 RO2 hB1w hB2w hB3w hz1
  have hB14 : Below w1.heap.size w1 w4 := (HB2.out.trans (HB3.out.mono (by omega))).trans (HB4.out.mono (by omega))
  have hZlt : ∀ b, Z b → b < w3.heap.size := fun b hb => by
    rw [hZ] at hb
    rcases hb with e | e | e | e
    · omega
    · have := hB1w b e; omega
    · omega
    · have := hA7 b e; omega
  have HR0 : Hid (XRel lo HO L Z w0 w4 B1 d1 (.slice B2 s.ls.length d2) (.slice B3 s.ls.length d3) (.slice (some ⟨w3.heap.size, 0, none⟩) 0 0) trk k lg sy (s.ls ++ []) (s.ds ++ List.replicate ([] : List (List Int)).length dd) []) := by
    have hcp := HCP.out
    rw [hlo] at hcp
    refine ⟨⟨?_, ?_, ?_, ?_, ?_⟩, rowB (HB3.out.trans (HB4.out.mono (by omega))) RO2.out, hcp.1.below hB14, ?_, ?_, ?_, ?_, ?_, ?_⟩
    · rw [List.append_nil]
      refine (hcp.2.1.other (fun b hb => ?_)).below hB14
      rw [hZ] at hb
      rcases hb with (e | e | e | e) | e | e
      · exact .inl (.inl e)
      · exact .inl (.inr (.inl e))
      · exact .inr (by omega)
      · have := hA7 b e; exact .inr (by omega)
      · exact .inl (.inr (.inr e))
      · injection e with e; simp only at e; exact .inr (by omega)
    · have := hcp.2.2.1.below hB14
      simpa using this
    · refine ⟨[], HG4.out, fun b hb h => ?_, fun j hj => by simp at hj⟩
      injection hb with hb
      simp only at hb
      rcases h with e | e | e
      · have := hZlt b e; omega
      · have := hB3w b e; omega
      · have := hB2w b e; omega
    · intro b hb; have := hZlt b hb; omega
    · intro b hb hz
      rw [hZ] at hz
      have h1 := hB3w b hb
      rcases hz with e | e | e | e
      · omega
      · exact hcp.2.2.2 b e hb
      · omega
      · have := hA7 b e; omega
    · rw [← hlo]; exact HB1.out.trans (hB14.mono (by omega))
    · rw [hZ]; exact .inr (.inr (.inl rfl))
    · intro b hb; rw [hZ]; exact .inr (.inl hb)
    · intro b hb; have := hB1w b hb; omega
    · omega
    · omega
  have HZ := Lib.hid hZ
  rw [hHO]
  clear hZ
  go_loopw [8, 9] (fun va i wr => ∃ (j : Nat) (acc : List (List Int)) (vl vd : Value), j ≤ 2 * m ∧ i = .int .i64 j ∧ acc.length ≤ j ∧ Hid (RowsOk N L acc) ∧ XRel lo HO L Z w0 wr B1 d1 vl vd va trk k lg sy (s.ls ++ acc) (s.ds ++ List.replicate acc.length dd) acc ∧ Hid (addTo s.ls (s.ls.getD k []) ((mvsOf p.moves).drop j) acc = addedB (mvsOf p.moves) s.ls k) ∧ IntsAt wr A7 (letsOf m)) (fun _ i _ => 2 * m - (intOf i).toNat)
  case atStart => exact ⟨0, [], _, _, Nat.zero_le _, rfl, Nat.le_refl _, fun i hi => by simp at hi, HR0.out, rfl, HI7.out.below HB4.out⟩
  case round =>
    obtain ⟨j, acc, vl, vd, hj, rfl, hacc, HRO, hR, HAD, hI7⟩ := hrel
    clear HR0
    have hBW : Below w.heap.size w wr := HB0.out.trans (hR.bel.mono (by have := HB0.out.size; omega))
    have hlw : w.heap.size + 2 < lo := by have := row_lt R2.out; omega
    have r0 := (hR.bel.block w.heap.size (by omega)).trans R0.out
    have r1 := (hR.bel.block (w.heap.size + 1) (by omega)).trans R1.out
    obtain ⟨p0, p1, p2, -, pl⟩ := row3 r0
    obtain ⟨j0, j1, j2, j3, j4, j5, -, jl⟩ := row6 r1
    obtain ⟨o0, o1, o2, o3, o4, o5, oF, ol⟩ := row6 hR.row
    have HR := Lib.hid hR
    have HI := Lib.hid hI7
    have HBW := Lib.hid hBW
    obtain ⟨Al, cl, rfl, hcl, -⟩ := hR.st.lists.shape
    obtain ⟨Ad, cd, hcd, rfl, -⟩ := hR.st.deps.capped
    obtain ⟨Aa, ca, rfl, hca, -⟩ := hR.st.adds.shape
    clear hR hI7 hBW
    by_cases hlt : j < 2 * m
    · have q2 : (0 : Int) ≤ (j : Int) := by omega
      have q3 : (j : Int) < 2 * (m : Int) := by omega
      obtain ⟨b7, o7, rfl, hb7, hc7j⟩ := HI.out j (by rw [letsOf_len]; exact hlt)
      have HZ7 : Hid (Z b7 ∧ b7 ≠ HO) := ⟨by rw [HZ.out]; exact .inr (.inr (.inr rfl)), by have := (hA7 b7 rfl).1; omega⟩
      obtain ⟨y, hy⟩ : ∃ y, (letsOf m).getD j 0 = y := ⟨_, rfl⟩
      rw [hy] at hc7j
      obtain ⟨pat, hpat⟩ : ∃ pat, s.ls.getD k [] = pat := ⟨_, rfl⟩
      obtain ⟨x, hx⟩ : ∃ x, pickI ((mvsOf p.moves).getD j []) pat = x := ⟨_, rfl⟩
      have hpo := HOK.out.rows k hk
      have hdp := HDI.out k hk
      rw [hpat] at hpo hdp
      have hmlen : (mvsOf p.moves).length = 2 * m := by rw [mvsOf_len, HM.out]
      have HPX : Hid (PtsOk N L x) := by unfold Hid; rw [← hx]; exact (HG.out.mvs.all j (by rw [hmlen]; exact hlt)).pick hpo
      have HAFT : Hid (∀ wx A3 c3, Below wr.heap.size wr wx → IntsAt wx A3 [y] → Calls Try.prog 102 #[.agg #[.int .i64 p.pts, .string p.names, .slice A m c], .slice A1 L c1, .slice Ap L cp, .slice A3 1 c3] wx fun e w' => ∃ v, e = .returned (.tuple #[v, .bool true]) ∧ Fresh wx.heap.size w' v x ∧ Below wx.heap.size wx w') := fun wx A3 c3 hb q => by
        have hbx := belowStep hb HBW.out
        have hdq := Dist.diQ hpo hdp
        rw [← HG.out.pts] at hdq
        have := specAfter A A1 Ap A3 c c1 cp c3 N L p trk pat j y wx (HP.out.below hbx) (H1.out.below hbx) (by rw [← hpat]; exact HIP.out.below hbx) q (by have := HG.out.len; omega) hcp hpo (by have := HG.out.len; have := HLL.out; omega) (by rw [HM.out]; exact hlt) HG.out.m8 HG.out.mvs HG.out.le HG.out.one (by rw [HM.out]; exact hy) HG.out.trq (by rw [HLL.out]; exact hdq)
        rw [HM.out, HLL.out, hx] at this
        exact this
      have hm8 : m ≤ 8 := by rw [← HM.out]; exact HG.out.m8
      have hne7 : ¬ c7 = j := by omega
      have q4 : (0 : Int) ≤ (j : Int) + 1 := by omega
      have q5 : (j : Int) + 1 ≤ (c7 : Int) := by omega
      have q6 : (j : Int) ≤ (j : Int) + 1 := by omega
      have hwj : IntKind.i64.wrap ((j : Int) + 1) = (j : Int) + 1 := IntWalk.i64_in _ (by omega)
      have HY : Hid (∀ wx, Below wr.heap.size wr wx → IntsAt wx (some ⟨b7, o7 + j, none⟩) [y]) := fun wx hb i hi => by
        obtain rfl : i = 0 := by simpa using hi
        exact ⟨b7, o7 + j, rfl, Nat.lt_of_lt_of_le hb7 hb.size, (hb.cell (p := ⟨b7, o7 + j, none⟩) hb7).trans hc7j⟩
      have HPAT := Lib.hid hpat
      have HXX := Lib.hid hx
      clear hpo hdp hpat hx hy
      go_wp2_with fail
      go_region_held3 (fun w' => w'.cell? ⟨w.heap.size, 0, none⟩ = some (.int .i64 p.pts) ∧ w'.cell? ⟨w.heap.size, 1, none⟩ = some (.string p.names) ∧ w'.cell? ⟨w.heap.size, 2, none⟩ = some (.slice A m c) ∧ w'.cell? ⟨w.heap.size + 1, 0, none⟩ = some (.slice A1 L c1)) (first | go_keep | exact ⟨e0, e1, e2, e3⟩) ((go_at_call 102; go_loud (refine (HAFT.out _ (some ⟨b7, o7 + j, none⟩) _ (by exact (Below.refl _ _).drew) (by exact HY.out _ (by exact (Below.refl _ _).drew))).mono ?_); rintro e w5 ⟨v5, rfl, hF5, hb5⟩; have B5 : Below wr.heap.size wr w5 := ⟨hb5.os, hb5.tape, hb5.output, hb5.size, hb5.block⟩; have e0 := (B5.cell (p := ⟨w.heap.size, 0, none⟩) pl).trans p0; have e1 := (B5.cell (p := ⟨w.heap.size, 1, none⟩) pl).trans p1; have e2 := (B5.cell (p := ⟨w.heap.size, 2, none⟩) pl).trans p2; have e3 := (B5.cell (p := ⟨w.heap.size + 1, 0, none⟩) jl).trans j0))
      obtain ⟨A5, c5, hc5, rfl, hI5⟩ := hF5.capped
      rw [HPX.out.1] at hc5 hF5 ⊢
      have HNEW : Hid (∀ g off s', A5 = some ⟨g, off, s'⟩ → wr.heap.size ≤ g) := fun g off s' e => (World.ownsRow.lt hF5 g (by rw [e]; rfl)).1
      obtain ⟨lj, hlj⟩ : ∃ lj, s.ls ++ acc = lj := ⟨_, rfl⟩
      obtain ⟨n, hn⟩ : ∃ n, lj.length = n := ⟨_, rfl⟩
      have hnl : n = s.ls.length + acc.length := by rw [← hn, ← hlj, List.length_append]
      have hnd : (s.ds ++ List.replicate acc.length dd).length = n := by rw [List.length_append, List.length_replicate, hnl, hdl]
      have hnb : n ≤ 3016 := by omega
      rw [hlj] at o1 hcl HR
      rw [hn] at o1 hcl HR
      rw [hnd] at o2 hcd HR
      have HLJ := Lib.hid hlj
      have HN := Lib.hid hn
      have HNL := Lib.hid hnl
      have HND := Lib.hid hnd
      have hR5 := XRel.below HR.out B5
      have hst5 := hR5.st
      try rw [hlj] at hst5
      have HR5 := Lib.hid hR5
      have HI5 := Lib.hid hI5
      have HB5 := Lib.hid B5
      have hROW : RowsOk N L lj := by
        rw [← hlj]
        intro i hi
        rw [List.length_append] at hi
        rw [List.getD_eq_getElem?_getD]
        by_cases e : i < s.ls.length
        · rw [List.getElem?_append_left e, ← List.getD_eq_getElem?_getD]; exact HOK.out.rows i e
        · rw [List.getElem?_append_right (by omega), ← List.getD_eq_getElem?_getD]; exact HRO.out _ (by omega)
      have hidx := specIdx Al A5 cl c5 n L lj x w5 (hst5.lists.lat) hI5 hn (by omega) (fun i hi => by have := (hROW i hi).1; have := HG.out.len; have := HLL.out; omega) HPX.out.1
      have HIDX := Lib.hid hidx
      clear o0 o1 o2 o3 o4 o5 oF p0 p1 p2 j0 j1 j2 j3 j4 j5 e0 e1 e2 e3 hst5 hR5 hI5 hF5 hb5 hidx hlj hn hnd hROW hnl
      obtain ⟨o0, o1, o2, o3, o4, o5, oF, ol⟩ := row6 HR5.out.row
      go_wp2_with fail
      refine HIDX.out.mono ?_
      rintro e w6 ⟨r, rfl, hr, -, hb6⟩
      have HR6 := Lib.hid (XRel.below HR5.out hb6)
      have HI6 := Lib.hid (HI5.out.below hb6)
      have HB6 := Lib.hid (belowStep hb6 HB5.out)
      have HIJ6 := Lib.hid ((HI.out.below HB5.out).below hb6)
      have hz6 := HB6.out.size
      have HXE : Hid (pickI ((mvsOf p.moves).getD j []) (s.ls.getD k []) = x) := by unfold Hid; rw [HPAT.out, HXX.out]
      obtain ⟨bq, hbq⟩ : ∃ bq, inL lj x = bq := ⟨_, rfl⟩
      rw [hbq] at hr
      have HBQ : Hid (inL (s.ls ++ acc) (pickI ((mvsOf p.moves).getD j []) (s.ls.getD k [])) = bq) := by unfold Hid; rw [HXE.out, HLJ.out]; exact hbq
      clear o0 o1 o2 o3 o4 o5 oF hb6 hbq ol
      obtain ⟨o0, o1, o2, o3, o4, o5, oF, ol⟩ := row6 HR6.out.row
      cases bq with
      | true =>
        have hr0 : ¬ r < 0 := by have := of_decide_eq_true hr; omega
        have HN1 : Hid (addTo s.ls (s.ls.getD k []) ((mvsOf p.moves).drop (j + 1)) acc = addedB (mvsOf p.moves) s.ls k) := by unfold Hid; rw [← HAD.out]; exact (addTo_old (by rw [mvsOf_len, HM.out]; exact hlt) HBQ.out).symm
        go_wp2_with fail
        go_roundw
        case rel =>
          refine ⟨j + 1, acc, _, _, by omega, by go_num, by omega, HRO, by rw [HLJ.out]; exact HR6.out, HN1, HIJ6.out⟩
        case measure => simp [intOf]; omega
      | false =>
        have hr0 : r < 0 := by have := of_decide_eq_false hr; omega
        have HOW := Lib.hid HR.out.st.own
        have HZL := Lib.hid HR.out.st.zlt
        have HHZ : Hid (HO < wr.heap.size) := row_lt HR.out.row
        have HNL2 : Hid (lj.length ≤ 1048576) := by unfold Hid; rw [HN.out]; omega
        have HG6 := Lib.hid HR6.out.st.lists
        have HLO6 : Hid (lo ≤ w6.heap.size) := by unfold Hid; have := HR6.out.bel.size; omega
        have HZB : Hid (∀ b, (Z b ∨ (Value.slice Ad n cd).ownBlock = some b ∨ (Value.slice Aa acc.length ca).ownBlock = some b) → b < wr.heap.size) := fun b hb => by
          rcases hb with e | e | e
          · exact HZL.out b e
          · exact (HOW.out.2.1 b e).1
          · exact (HOW.out.2.2 b e).1
        have HYZ : Hid (0 < x.length → ∀ g off s', A5 = some ⟨g, off, s'⟩ → ¬ (Z g ∨ (Value.slice Ad n cd).ownBlock = some g ∨ (Value.slice Aa acc.length ca).ownBlock = some g) ∧ (Value.slice Al n cl).ownBlock ≠ some g) := fun h0 g off s' e =>
          ⟨fun h1 => by have := HZB.out g h1; have := HNEW.out g off s' e; omega, fun e2 => by have := (HOW.out.1 g e2).1; have := HNEW.out g off s' e; omega⟩
        have HZO : Hid (Z HO) := HR6.out.zho
        have hdj1 : (s.ds ++ List.replicate acc.length dd).length ≤ 1048576 := by rw [HND.out]; omega
        obtain ⟨dj, hdj⟩ : ∃ dj, s.ds ++ List.replicate acc.length dd = dj := ⟨_, rfl⟩
        obtain ⟨dk, hdk⟩ : ∃ dk, s.ds.getD k 0 = dk := ⟨_, rfl⟩
        have hdp := HOK.out.depth hk
        unfold depOf at hdd hdp
        rw [hdk] at hdd hdp
        have hwd : IntKind.i64.wrap (dk + 1) = dd := by rw [hdd]; exact IntWalk.i64_in _ (by omega)
        have HDD := Lib.hid hdd
        have HDK := Lib.hid hdk
        have HDJ := Lib.hid hdj
        rw [hdj] at HR6 hdj1
        have HN3 : Hid (dj.length = n) := by unfold Hid; rw [← hdj]; exact HND.out
        have HAF : Hid (∀ g off s', A5 = some ⟨g, off, s'⟩ → 0 < x.length → g < w6.heap.size) := fun g off s' e h0 => HI6.out.first h0 e
        clear hdd hdp hdk hdj
        go_upto_region 11 with (first | (at_builtin; refine append_gr rfl (.tmp 53) (.tmp 55) rfl lo (fun b => Z b ∨ (Value.slice Ad n cd).ownBlock = some b ∨ (Value.slice Aa acc.length ca).ownBlock = some b) (.slice Al n cl) lj x A5 c5 rfl (HG6.out.below (by exact (by repeat (first | exact Below.refl _ _ | assumption | refine Below.setCell ?_ (by first | omega | (simp <;> omega)) _ | refine Below.alloc ?_ (by first | omega | (simp <;> omega)) _ | refine Below.drew ?_)))) (fun b hb => by have := HZB.out b hb; simp; omega) w6.heap.size rfl (by rw [HPX.out.1]; simp) (by rw [HPX.out.1]; exact hc5) (HI6.out.below (by exact (by repeat (first | exact Below.refl _ _ | assumption | refine Below.setCell ?_ (by first | omega | (simp <;> omega)) _ | refine Below.alloc ?_ (by first | omega | (simp <;> omega)) _ | refine Below.drew ?_)))) HYZ.out HNL2.out (by have := HLO6.out; simp; omega) ?_; intro A10 c10 w10 hG10 hg10 hat10; rw [HN.out] at hG10 hat10 ⊢; have HP10 := Lib.hid (XRel.pushList (XRel.below HR6.out (by exact (by repeat (first | exact Below.refl _ _ | assumption | refine Below.setCell ?_ (by first | omega | (simp <;> omega)) _ | refine Below.alloc ?_ (by first | omega | (simp <;> omega)) _ | refine Below.drew ?_)))) hG10 hg10 hat10); have HK10 : Hid (∀ b, b < w6.heap.size → (Value.slice Al n cl).ownBlock ≠ some b → w10.heap[b]? = w6.heap[b]?) := (fun b hb e => (hg10.block b (by simp; omega) (fun e2 => e e2.symm)).trans (Below.block (B := w6.heap.size) (w := w6) (by exact (by repeat (first | exact Below.refl _ _ | assumption | refine Below.setCell ?_ (by first | omega | (simp <;> omega)) _ | refine Below.alloc ?_ (by first | omega | (simp <;> omega)) _ | refine Below.drew ?_))) b hb)); have HGR10 := Lib.hid hg10; have HAT10 := Lib.hid hat10; have hrow10 := rowR hg10 (rowB (by exact (by repeat (first | exact Below.refl _ _ | assumption | refine Below.setCell ?_ (by first | omega | (simp <;> omega)) _ | refine Below.alloc ?_ (by first | omega | (simp <;> omega)) _ | refine Below.drew ?_))) HR6.out.row) (fun e => (HOW.out.1 HO e).2 HZO.out); have f10 := cell_of_row w10 HO 1 _ _ (0, 0) hrow10; have f10f : ∀ p, w10.frozen? ⟨HO, p, none⟩ = false := (fun p => row_free hrow10); have hz10 : w6.heap.size + 1 ≤ w10.heap.size := (by have := hg10.size; simpa using this); clear hG10 hg10 hat10 hrow10 o0 o1 o2 o3 o4 o5 oF; obtain ⟨w11, hw11⟩ : ∃ w11, w10.setCell ⟨HO, 1, none⟩ (.slice A10 (n + 1) c10) = w11 := ⟨_, rfl⟩; have HR11 : Hid (XRel lo HO L Z w0 w11 B1 d1 (.slice A10 (n + 1) c10) (.slice Ad n cd) (.slice Aa acc.length ca) trk k lg sy (lj ++ [x]) dj acc) := (by rw [← hw11]; exact HP10.out); have HGR11 : Hid (w10.grownBy w11 (some HO)) := (by rw [← hw11]; exact setGrown _ _ _ _); have hz11 : w10.heap.size ≤ w11.heap.size := (by rw [← hw11]; simp)))
        have HBW11 : Hid (Below w.heap.size w w11) := HB0.out.trans (HR11.out.bel.mono (by omega))
        go_cut [] from 25 to 77 (fun wx => ∃ (A12 : Option Addr) (c12 : Nat), XRel lo HO L Z w0 wx B1 d1 (.slice A10 (n + 1) c10) (.slice A12 (n + 1) c12) (.slice Aa acc.length ca) trk k lg sy (lj ++ [x]) (dj ++ [dd]) acc ∧ (∀ b, (Value.slice A12 (n + 1) c12).ownBlock = some b → (Value.slice Ad n cd).ownBlock = some b ∨ w11.heap.size ≤ b) ∧ (∀ b, b < w6.heap.size → (Value.slice Al n cl).ownBlock ≠ some b → (Value.slice Ad n cd).ownBlock ≠ some b → b ≠ HO → wx.heap[b]? = w6.heap[b]?) ∧ w11.heap.size + 1 ≤ wx.heap.size)
        case first =>
          obtain ⟨o0, o1, o2, o3, o4, o5, oF, ol⟩ := row6 HR11.out.row
          obtain ⟨j0, j1, j2, j3, j4, j5, -, jl⟩ := row6 ((HR11.out.bel.block (w.heap.size + 1) (by omega)).trans R1.out)
          have hdc : w11.cell? ⟨b3, of3 + k, none⟩ = some (.int .i64 dk) := by rw [HBW11.out.cell (p := ⟨b3, of3 + k, none⟩) HD3L.out, HD3.out, HDK.out]
          have hb3l : b3 < w11.heap.size := by have := HD3L.out; have := HBW11.out.size; omega
          have jn1 := World.new_ne _ _ o2
          have jn2 := World.new_ne _ _ j2
          have jn3 := World.new_ne _ _ hdc
          have jn4 := World.new_ne _ _ j3
          have jl1 := World.block_lt_of_cell? _ _ o2
          have jl2 := World.block_lt_of_cell? _ _ j2
          have jl3 := World.block_lt_of_cell? _ _ hdc
          dsimp only at jn1 jn2 jn3 jn4 jl1 jl2 jl3
          go_region_law (first | (refine step_append_at (by rfl) _ _ (by rfl) lo (.slice Ad n cd) dj dd (by rfl) (by exact (HR11.out.st.deps).below (by exact (by repeat (first | exact Below.refl _ _ | assumption | refine Below.setCell ?_ (by first | omega | (simp <;> omega)) _ | refine Below.alloc ?_ (by first | omega | (simp <;> omega)) _ | refine Below.drew ?_)))) w11.heap.size (by rfl) (by simp) hdj1 (by simp; omega) ?_; intro A12 c12 w12 hF12 hg12 hat12; rw [HN3.out] at hF12 hat12 ⊢; have HK12 : Hid (∀ b, b < w11.heap.size → (Value.slice Ad n cd).ownBlock ≠ some b → w12.heap[b]? = w11.heap[b]?) := (fun b hb e => (hg12.block b (by simp; omega) (fun e2 => e e2.symm)).trans (Below.block (B := w11.heap.size) (w := w11) (by exact (by repeat (first | exact Below.refl _ _ | assumption | refine Below.setCell ?_ (by first | omega | (simp <;> omega)) _ | refine Below.alloc ?_ (by first | omega | (simp <;> omega)) _ | refine Below.drew ?_))) b hb)); have HP12 := Lib.hid (XRel.pushDep (XRel.below HR11.out (by exact (by repeat (first | exact Below.refl _ _ | assumption | refine Below.setCell ?_ (by first | omega | (simp <;> omega)) _ | refine Below.alloc ?_ (by first | omega | (simp <;> omega)) _ | refine Below.drew ?_)))) hF12 hg12 hat12); have HGR12 := Lib.hid hg12; have HAT12 := Lib.hid hat12; have hrow12 := rowR hg12 (rowB (by exact (by repeat (first | exact Below.refl _ _ | assumption | refine Below.setCell ?_ (by first | omega | (simp <;> omega)) _ | refine Below.alloc ?_ (by first | omega | (simp <;> omega)) _ | refine Below.drew ?_))) HR11.out.row) (fun e => HR11.out.st.zdep HO e HZO.out); have m2 := cell_of_row w12 HO 2 _ _ (0, 0) hrow12; have mf : w12.frozen? ⟨HO, 2, none⟩ = false := row_free hrow12; have hz12 : w11.heap.size + 1 ≤ w12.heap.size := (by have := hg12.size; simpa using this); clear hF12 hg12 hat12 hrow12))
          all_goals
            have HFIN : Hid (XRel lo HO L Z w0 (w12.setCell ⟨HO, 2, none⟩ (.slice A12 (n + 1) c12)) B1 d1 (.slice A10 (n + 1) c10) (.slice A12 (n + 1) c12) (.slice Aa acc.length ca) trk k lg sy (lj ++ [x]) (dj ++ [dd]) acc) := HP12
            have HKP : Hid (∀ b, b < w6.heap.size → (Value.slice Al n cl).ownBlock ≠ some b → (Value.slice Ad n cd).ownBlock ≠ some b → b ≠ HO → (w12.setCell ⟨HO, 2, none⟩ (.slice A12 (n + 1) c12)).heap[b]? = w6.heap[b]?) := fun b hb e1 e2 e3 => by
              rw [heap_setCell_other _ _ b _ (by simpa using e3), HK12.out b (by omega) e2, HGR11.out.block b (by omega) (fun e => by injection e with e; exact e3 e), HK10.out b hb e1]
            have HAT : Hid (∀ b, (Value.slice A12 (n + 1) c12).ownBlock = some b → (Value.slice Ad n cd).ownBlock = some b ∨ w11.heap.size ≤ b) := fun b hb => by
              rcases HAT12.out with e | e
              · exact .inl (e ▸ hb)
              · rw [e] at hb; injection hb with hb; (try simp at hb); exact .inr (by omega)
            have HZS : Hid (w11.heap.size + 1 ≤ (w12.setCell ⟨HO, 2, none⟩ (.slice A12 (n + 1) c12)).heap.size) := by unfold Hid; simpa using hz12
            clear m2 mf o0 o1 o2 o3 o4 o5 oF ol j0 j1 j2 j3 j4 j5 jl hdc jn1 jn2 jn3 jn4 jl1 jl2 jl3 HK12 HAT12 HGR12
            go_wp2_with fail
            go_meet
            exact ⟨A12, c12, HFIN.out, HAT.out, HKP.out, HZS.out⟩
        case rest =>
          obtain ⟨A12, c12, hR13, hat12, hkp, hz12⟩ := hcut
          have HR13 := Lib.hid hR13
          have HCUT2 := Lib.hid hat12
          have HKP := Lib.hid hkp
          have hz13 : w11.heap.size + 1 ≤ wc.heap.size := hz12
          clear hR13 hat12 hkp hw11 f10 f10f
          have HG5 : Hid (∀ g off s', A5 = some ⟨g, off, s'⟩ → 0 < x.length → wr.heap.size ≤ g ∧ g < w6.heap.size) := fun g off s' e h0 => ⟨HNEW.out g off s' e, HAF.out g off s' e h0⟩
          have HI13 : Hid (IntsAt wc A5 x) := HI6.out.keep (by omega) (fun h0 g off s' e => by
            have h1 := HG5.out g off s' e h0
            exact HKP.out g h1.2 (fun e2 => by have := (HOW.out.1 g e2).1; omega) (fun e2 => by have := (HOW.out.2.1 g e2).1; omega) (by have := HHZ.out; omega))
          have HL13 : Hid (IntsAt wc (some ⟨b7, o7, none⟩) (letsOf m)) := HIJ6.out.keep (by omega) (fun h0 g off s' e => by
            injection e with e
            injection e with e
            subst e
            have h1 := HR6.out.st.leaves HZ7.out.1
            exact HKP.out _ (by omega) h1.1 h1.2.1 HZ7.out.2)
          have HZB3 : Hid (∀ b, (Z b ∨ (Value.slice A12 (n + 1) c12).ownBlock = some b ∨ (Value.slice A10 (n + 1) c10).ownBlock = some b) → b < wc.heap.size) := fun b hb => by
            have hw := HR13.out.st.own
            rcases hb with e | e | e
            · exact HR13.out.st.zlt b e
            · exact (hw.2.1 b e).1
            · exact (hw.1 b e).1
          have HYZ3 : Hid (0 < x.length → ∀ g off s', A5 = some ⟨g, off, s'⟩ → ¬ (Z g ∨ (Value.slice A12 (n + 1) c12).ownBlock = some g ∨ (Value.slice A10 (n + 1) c10).ownBlock = some g) ∧ (Value.slice Aa acc.length ca).ownBlock ≠ some g) := fun h0 g off s' e => by
            have h1 := HG5.out g off s' e h0
            refine ⟨fun h2 => ?_, fun e2 => by have := (HOW.out.2.2 g e2).1; omega⟩
            rcases h2 with e2 | e2 | e2
            · have := HZL.out g e2; omega
            · rcases HCUT2.out g e2 with e3 | e3
              · have := (HOW.out.2.1 g e3).1; omega
              · omega
            · rcases HAT10.out with e3 | e3
              · rw [e3] at e2; have := (HOW.out.1 g e2).1; omega
              · rw [e3] at e2; injection e2 with e2; simp at e2; omega
          have HLO13 : Hid (lo ≤ wc.heap.size) := by have := HLO6.out; unfold Hid; omega
          have hal : acc.length ≤ 1048576 := by omega
          have HN2 : Hid (addTo s.ls (s.ls.getD k []) ((mvsOf p.moves).drop (j + 1)) (acc ++ [x]) = addedB (mvsOf p.moves) s.ls k) := by
            unfold Hid; rw [← HAD.out]
            have := addTo_new (ls := s.ls) (pat := s.ls.getD k []) (mvs := mvsOf p.moves) (acc := acc) (i := j) (by rw [mvsOf_len, HM.out]; exact hlt) HBQ.out
            rw [HXE.out] at this
            exact this.symm
          go_wp2_with (first | (at_builtin; refine append_gr rfl (.tmp 74) (.tmp 76) rfl lo (fun b => Z b ∨ (Value.slice A12 (n + 1) c12).ownBlock = some b ∨ (Value.slice A10 (n + 1) c10).ownBlock = some b) (.slice Aa acc.length ca) acc x A5 c5 rfl (GrAt.below HR13.out.st.adds (by exact (by repeat (first | exact Below.refl _ _ | assumption | refine Below.setCell ?_ (by first | omega | (simp <;> omega)) _ | refine Below.alloc ?_ (by first | omega | (simp <;> omega)) _ | refine Below.drew ?_)))) (fun b hb => by have := HZB3.out b hb; simp; omega) wc.heap.size rfl (by rw [HPX.out.1]; simp) (by rw [HPX.out.1]; exact hc5) (HI13.out.below (by exact (by repeat (first | exact Below.refl _ _ | assumption | refine Below.setCell ?_ (by first | omega | (simp <;> omega)) _ | refine Below.alloc ?_ (by first | omega | (simp <;> omega)) _ | refine Below.drew ?_)))) HYZ3.out hal (by have := HLO13.out; simp; omega) ?_; intro A14 c14 w14 hG14 hg14 hat14; have HR14 := Lib.hid (XRel.pushAdd (XRel.below HR13.out (by exact (by repeat (first | exact Below.refl _ _ | assumption | refine Below.setCell ?_ (by first | omega | (simp <;> omega)) _ | refine Below.alloc ?_ (by first | omega | (simp <;> omega)) _ | refine Below.drew ?_)))) hG14 hg14 hat14); have HL14 : Hid (IntsAt w14 (some ⟨b7, o7, none⟩) (letsOf m)) := (IntsAt.kept (HL13.out.below (by exact (by repeat (first | exact Below.refl _ _ | assumption | refine Below.setCell ?_ (by first | omega | (simp <;> omega)) _ | refine Below.alloc ?_ (by first | omega | (simp <;> omega)) _ | refine Below.drew ?_)))) hg14 (fun h0 g off s' e => by injection e with e; injection e with e; subst e; exact (HR13.out.st.leaves HZ7.out.1).2.2)); clear hG14 hg14 hat14))
          go_roundw
          case rel =>
            refine ⟨j + 1, acc ++ [x], .slice A10 (n + 1) c10, .slice A12 (n + 1) c12, by omega, by go_num, by simp; omega, RowsOk.snoc HRO.out HPX.out, ?_, HN2, HL14.out⟩
            rw [← List.append_assoc, HLJ.out, List.length_append, List.length_singleton, List.replicate_succ', ← List.append_assoc, HDJ.out]
            simpa using HR14.out
          case measure => simp [intOf]; omega
    · obtain rfl : j = 2 * m := by omega
      have hre := HAD.out
      rw [addTo_end (by rw [mvsOf_len, HM.out]; exact Nat.le_refl _)] at hre
      have HRE := Lib.hid hre
      have q3 : ¬ ((2 * m : Nat) : Int) < 2 * (m : Int) := by omega
      have hm8 : m ≤ 8 := by rw [← HM.out]; exact HG.out.m8
      have hLn := HG.out.len
      have hNn := HG.out.le
      have hrec := specRecord Aa ca acc.length k N L acc wr (HR.out.st.adds.lat) rfl (by omega) (by omega) HRO.out (by omega) (by rw [← HLL.out]; omega)
      obtain ⟨rc, hrc⟩ : ∃ rc, recS k acc = rc := ⟨_, rfl⟩
      obtain ⟨ck, hck⟩ : ∃ ck, cksum rc.data.toList = ck := ⟨_, rfl⟩
      obtain ⟨s4, hs4⟩ : ∃ s4, strOfNums (bytesBy (numAt ck 4) 4) = s4 := ⟨_, rfl⟩
      have z4 : s4.size = 4 := by rw [← hs4, strOfNums_size, num4]; rfl
      have HFULL : Hid (fullS k acc = rc ++ s4) := by unfold Hid fullS; rw [hrc, hck, hs4]
      have zr : rc.size ≤ 100000 := by
        have h1 := full_size k HRO.out
        rw [HFULL.out, ByteArray.size_append] at h1
        have h2 : acc.length * L ≤ 16 * 20 := Nat.mul_le_mul (by omega) (by rw [← HLL.out]; omega)
        omega
      have k0 := (ck_bdE rc.data.toList).1
      have k1 := (ck_bdE rc.data.toList).2
      rw [hck] at k0 k1
      have HSM : Hid (∀ wx, Calls Try.prog 106 #[.string rc] wx fun e w' => e = .returned (.int .i64 ck) ∧ wx = w') := by unfold Hid; rw [← hck]; exact fun wx => specSum rc wx (by omega)
      have HN4 : Hid (∀ wx, Calls Try.prog 105 #[.int .i64 ck] wx fun e w' => e = .returned (.string s4) ∧ Below wx.heap.size wx w') := by unfold Hid; rw [← hs4]; exact fun wx => number4 ck wx k0 k1
      rw [hrc] at hrec
      have y1 : ¬ 9223372036854775807 < lg.size + rc.size := by omega
      have y2 : ¬ 9223372036854775807 < lg.size + rc.size + s4.size := by omega
      have y2' : ¬ 9223372036854775807 < (lg ++ rc).size + s4.size := by rw [ByteArray.size_append]; omega
      obtain ⟨K, hK⟩ : ∃ K : Int, ((k + 1 : Nat) : Int) = K := ⟨_, rfl⟩
      have hwk : IntKind.i64.wrap ((k : Int) + 1) = K := (IntWalk.i64_in _ (by omega)).trans (by omega)
      have HK := Lib.hid hK
      clear hK
      have HREC := Lib.hid hrec
      clear hrec hrc hck hs4 k0 k1 hre z4
      go_wp2_with fail
      refine HREC.out.mono ?_
      rintro e w5 ⟨rfl, hb5⟩
      have hR5 := XRel.below HR.out hb5
      have HB5 := Lib.hid (belowStep hb5 HBW.out)
      obtain ⟨lj, hlj⟩ : ∃ lj, s.ls ++ acc = lj := ⟨_, rfl⟩
      obtain ⟨dj, hdj⟩ : ∃ dj, s.ds ++ List.replicate acc.length dd = dj := ⟨_, rfl⟩
      obtain ⟨n, hn⟩ : ∃ n, lj.length = n := ⟨_, rfl⟩
      have hnd : dj.length = n := by rw [← hn, ← hdj, ← hlj, List.length_append, List.length_append, List.length_replicate, hdl]
      rw [hlj, hdj, hn, hnd] at hR5
      have HR5 := Lib.hid hR5
      have HLJ := Lib.hid hlj
      have HDJ := Lib.hid hdj
      have HN := Lib.hid hn
      have HND := Lib.hid hnd
      clear hlj hdj hn hnd
      clear hR5 hb5 o0 o1 o2 o3 o4 o5 oF ol j0 j1 j2 j3 j4 j5 jl p0 p1 p2 pl r0 r1
      obtain ⟨o0, o1, o2, o3, o4, o5, oF, ol⟩ := row6 HR5.out.row
      have jn4 := World.new_ne _ _ o4
      dsimp only at jn4
      go_wp2_with fail
      go_region_law (first
        | (go_simp; go_at_call 106; refine (HSM.out _).mono ?_; rintro e w6 ⟨rfl, rfl⟩)
        | (go_simp; go_at_call 105; refine (HN4.out _).mono ?_; rintro e w7 ⟨rfl, hb7⟩; have B7 : Below w5.heap.size w5 w7 := belowStep hb7 (by exact (by repeat (first | exact Below.refl _ _ | assumption | refine Below.setCell ?_ (by first | omega | (simp <;> omega)) _ | refine Below.alloc ?_ (by first | omega | (simp <;> omega)) _ | refine Below.drew ?_))); have g4 := (B7.cell (p := ⟨HO, 4, none⟩) ol).trans o4; have g4f : w7.frozen? ⟨HO, 4, none⟩ = false := row_free (rowB B7 HR5.out.row)))
      all_goals
        obtain ⟨w8, hw8⟩ : ∃ w8, w7.setCell ⟨HO, 4, none⟩ (.string (lg ++ rc ++ s4)) = w8 := ⟨_, rfl⟩
        have HW8 := Lib.hid hw8
        have HR7 := Lib.hid (XRel.below HR5.out B7)
        have HRO8 : Hid (w8.heap[HO]? = some (.cells #[.slice B1 L d1, .slice Al n cl, .slice Ad n cd, .int .i64 (k : Int), .string (lg ++ rc ++ s4), .int .i64 sy] 45 (0, 0))) := by rw [← hw8]; exact rowSet _ HR7.out.row
        have HB8 : Hid (Below lo w0 w8) := by rw [← hw8]; exact HR7.out.bel.setCell HR7.out.lho _
        have HL8 : Hid (XlAt Z lo w8 (.slice Al n cl) (.slice Ad n cd) (.slice Aa acc.length ca) lj dj acc) := by rw [← hw8]; exact HR7.out.st.kept (setGrown _ _ _ _) HR7.out.zho
        have HT8 : Hid (Fresh lo w8 (.slice B1 L d1) trk) := by rw [← hw8]; exact HR7.out.trk.row (setGrown w7 HO 4 _) (fun b hb e => by injection e with e; exact HR7.out.hob b hb e.symm)
        rw [hw8]
        clear hw8 g4 g4f o0 o1 o2 o3 o4 o5 oF ol jn4 B7
        obtain ⟨o0, o1, o2, o3, o4, o5, oF, ol⟩ := row6 HRO8.out
        have hlw : w.heap.size + 2 < lo := by have := row_lt R2.out; omega
        obtain ⟨j0, j1, j2, j3, j4, j5, -, jl⟩ := row6 ((HB8.out.block (w.heap.size + 1) (by omega)).trans R1.out)
        have RR8 : w8.heap[w.heap.size + 1 + 1]? = some (.cells #[.slice none 0 0, .slice none 0 0, .slice none 0 0, .int .i64 0, .string ⟨#[]⟩, .int .i64 0] 45 (0, 0)) := (HB8.out.block (w.heap.size + 2) (by omega)).trans R2.out
        obtain ⟨q0', q1', q2', q3', q4', q5', qF, ql⟩ := row6 RR8
        have RR8 := Lib.hid RR8
        clear hlw
        go_wp2_with fail
        obtain ⟨w9, hw9⟩ : ∃ w9, w8.setCell ⟨HO, 3, none⟩ (.int .i64 K) = w9 := ⟨_, rfl⟩
        have hlw : w.heap.size + 1 + 1 < lo := by have := row_lt R2.out; omega
        have hne : w.heap.size + 1 + 1 ≠ HO := by have := HR7.out.lho; omega
        have RR9 : w9.heap[w.heap.size + 1 + 1]? = some (.cells #[.slice none 0 0, .slice none 0 0, .slice none 0 0, .int .i64 0, .string ⟨#[]⟩, .int .i64 0] 45 (0, 0)) := by rw [← hw9]; exact rowS (a := ⟨HO, 3, none⟩) RR8.out hne
        have HB9 : Hid (Below lo w0 w9) := by rw [← hw9]; exact HB8.out.setCell HR7.out.lho _
        have HL9 : Hid (XlAt Z lo w9 (.slice Al n cl) (.slice Ad n cd) (.slice Aa acc.length ca) lj dj acc) := by rw [← hw9]; exact HL8.out.kept (setGrown _ _ _ _) HR7.out.zho
        have HT9 : Hid (Fresh lo w9 (.slice B1 L d1) trk) := by rw [← hw9]; exact HT8.out.row (setGrown w8 HO 3 _) (fun b hb e => by injection e with e; exact HR7.out.hob b hb e.symm)
        obtain ⟨y0, y1, y2, y3, y4, y5, -, -⟩ := row6 (row6S RR9 (.slice B1 L d1) (.slice Al n cl) (.slice Ad n cd) (.int .i64 K) (.string (lg ++ rc ++ s4)) (.int .i64 sy))
        have hCP : CpTb lo ⟨trk, lj, dj⟩ (.slice B1 L d1) (.slice Al n cl) (.slice Ad n cd) w9 := ⟨HT9.out, HL9.out.lists.other (fun b hb => by
          rcases hb with e | e | e
          · exact .inl (.inl (by rw [HZ.out]; exact .inl e))
          · exact .inl (.inl (HR7.out.zb1 b e))
          · exact .inl (.inr (.inl e))), HL9.out.deps, fun b hb e => HL9.out.zdep b e (HR7.out.zb1 b hb)⟩
        have hCP2 := CpTb.less (lo' := w.heap.size) (CpTb.kept hCP (grown6 w9 (w.heap.size + 1 + 1) (.slice B1 L d1) (.slice Al n cl) (.slice Ad n cd) (.int .i64 K) (.string (lg ++ rc ++ s4)) (.int .i64 sy)) hlw) (by omega)
        have hBF := belSet6 (B := w.heap.size) (g := w.heap.size + 1 + 1) (HB0.out.trans (HB9.out.mono (by omega))) (by omega) (.slice B1 L d1) (.slice Al n cl) (.slice Ad n cd) (.int .i64 K) (.string (lg ++ rc ++ s4)) (.int .i64 sy)
        have heq : (nextB (mvsOf p.moves) s k) = ⟨lj, dj⟩ := by unfold nextB; rw [← HRE.out, hdd, HLJ.out, HDJ.out]
        rw [heq, HK.out, ← HRE.out, HFULL.out, ← ByteArray.append_assoc]
        subst hw9
        refine bodyPost_ret (v := .agg #[.slice B1 L d1, .slice Al n cl, .slice Ad n cd, .int .i64 K, .string (lg ++ rc ++ s4), .int .i64 sy]) (by simp [results, Try.results72, go_sem, y0, y1, y2, y3, y4, y5]) rfl ?_
        exact ⟨_, _, _, rfl, hCP2, hBF⟩
end Go.Proofs.Ytfhdnanbhigpmaa
