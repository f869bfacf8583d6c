/- Whether two tables, two jobs are the same, spec. Conditions: lengths as the contracts say. Whether a job is valid, spec. Conditions: lengths as the contract says. -/
import Derived.Test.YtfhdnanbhigpmaaRs
import Derived.Test.YtfhdnanbhigpmaaXp
namespace Go.Proofs.Ytfhdnanbhigpmaa
section
open Go.RowKit Grp

set_option maxRecDepth 100000 in
set_option maxHeartbeats 4000000 in
theorem specSameT (A1 A2 A3 B1 B2 B3 : Option Addr) (c1 c2 c3 d1 d2 d3 : Nat) (t u : Tb) (w : World) (h1 : IntsAt w A1 t.trk) (h2 : LAt w A2 t.pats) (h3 : IntsAt w A3 t.dist) (g1 : IntsAt w B1 u.trk) (g2 : LAt w B2 u.pats) (g3 : IntsAt w B3 u.dist) (hs : ShortT t) :
    Calls Try.prog 35 #[.agg #[.slice A1 t.trk.length c1, .slice A2 t.pats.length c2, .slice A3 t.dist.length c3], .agg #[.slice B1 u.trk.length d1, .slice B2 u.pats.length d2, .slice B3 u.dist.length d3]] w (ReadsBool (eqT t u) w) := by
  obtain ⟨xs, ls, ys⟩ := t
  obtain ⟨xs', ls', ys'⟩ := u
  obtain ⟨s1, s2, s3, s4⟩ := hs
  dsimp only at *
  have H1 := Lib.hid h1
  have H2 := Lib.hid h2
  have H3 := Lib.hid h3
  have G1 := Lib.hid g1
  have G2 := Lib.hid g2
  have G3 := Lib.hid g3
  have S3 := Lib.hid s3
  have HX := Lib.hid (fun wx k1 k2 => eqSg A1 B1 c1 d1 xs xs' wx k1 k2 s1)
  have HY := Lib.hid (fun wx k1 k2 => eqSg A3 B3 c3 d3 ys ys' wx k1 k2 s4)
  obtain ⟨b1, hb1⟩ : ∃ b1, decide (xs = xs') = b1 := ⟨_, rfl⟩
  obtain ⟨b3, hb3⟩ : ∃ b3, decide (ys = ys') = b3 := ⟨_, rfl⟩
  rw [hb1] at HX
  rw [hb3] at HY
  obtain ⟨R, hR⟩ : ∃ R, eqT ⟨xs, ls, ys⟩ ⟨xs', ls', ys'⟩ = R := ⟨_, rfl⟩
  have HRR : Hid (R = (b1 && (decide (ls = ls') && b3))) := by unfold Hid; rw [← hR]; unfold eqT; rw [hb1, hb3]
  rw [hR]
  obtain ⟨n1, hn1⟩ : ∃ n1, xs.length = n1 := ⟨_, rfl⟩
  obtain ⟨n2, hn2⟩ : ∃ n2, ls.length = n2 := ⟨_, rfl⟩
  obtain ⟨n3, hn3⟩ : ∃ n3, ys.length = n3 := ⟨_, rfl⟩
  obtain ⟨m1, hm1⟩ : ∃ m1, xs'.length = m1 := ⟨_, rfl⟩
  obtain ⟨m2, hm2⟩ : ∃ m2, ls'.length = m2 := ⟨_, rfl⟩
  obtain ⟨m3, hm3⟩ : ∃ m3, ys'.length = m3 := ⟨_, rfl⟩
  simp only [hn1, hn2, hn3, hm1, hm2, hm3] at HX HY ⊢
  rw [hn2] at s2
  have HN2 := Lib.hid hn2
  have HM2 := Lib.hid hm2
  clear h1 h2 h3 g1 g2 g3 s1 s3 s4 hb1 hb3 hR hn1 hn2 hn3 hm1 hm2 hm3
  obtain ⟨w0, hw0⟩ : ∃ w0, (w.alloc (.cells #[.slice A1 n1 c1, .slice A2 n2 c2, .slice A3 n3 c3] 34)).alloc (.cells #[.slice B1 m1 d1, .slice B2 m2 d2, .slice B3 m3 d3] 34) = w0 := ⟨_, rfl⟩
  have hb0 : Below w.heap.size w w0 := by rw [← hw0]; exact (by repeat (first | exact Below.refl _ _ | assumption | refine Below.setCell ?_ (by first | omega | (simp <;> omega)) _ | refine Below.alloc ?_ (by first | omega | (simp <;> omega)) _ | refine Below.drew ?_))
  have R0 : Hid (w0.heap[w.heap.size]? = some (.cells #[.slice A1 n1 c1, .slice A2 n2 c2, .slice A3 n3 c3] 34 (0, 0))) := by rw [← hw0]; exact alloc2_0 _ _ _
  have R1 : Hid (w0.heap[w.heap.size + 1]? = some (.cells #[.slice B1 m1 d1, .slice B2 m2 d2, .slice B3 m3 d3] 34 (0, 0))) := by rw [← hw0]; exact alloc2_1 _ _ _
  obtain ⟨p0, p1, p2, -, -⟩ := row3 R0.out
  obtain ⟨q0, q1, q2, -, -⟩ := row3 R1.out
  have HB0 := Lib.hid hb0
  clear hb0
  go_enter Try.func35, Try.ntmps35
  go_wp2_with fail
  clear hw0
  refine (HX.out w0 (H1.out.below HB0.out) (G1.out.below HB0.out)).mono ?_
  rintro e w1' ⟨rfl, nq, hw1⟩
  obtain ⟨w1, h1⟩ : ∃ w1, w1' = w1 := ⟨_, rfl⟩
  have hB1 : Below w0.heap.size w0 w1 := by rw [← h1, hw1]; exact belowDrewN (Below.refl _ _) _
  have r0 := rowB hB1 R0.out
  have r1 := rowB hB1 R1.out
  have HB1 := Lib.hid hB1
  have HBW1 := Lib.hid (belowStep hB1 HB0.out)
  rw [h1]
  clear h1 hw1 p0 p1 p2 q0 q1 q2 hB1
  obtain ⟨p0, p1, p2, -, -⟩ := row3 r0
  obtain ⟨q0, q1, q2, -, -⟩ := row3 r1
  clear r0 r1
  cases b1 with
  | false =>
    go_wp2_with fail
    go_ret
    exact ⟨ret_bool (by rw [HRR.out]; rfl), HBW1.out⟩
  | true =>
    go_wp2_with fail
    refine (HY.out w1 (H3.out.below HBW1.out) (G3.out.below HBW1.out)).mono ?_
    rintro e w2' ⟨rfl, nq2, hw2⟩
    obtain ⟨w2, h2⟩ : ∃ w2, w2' = w2 := ⟨_, rfl⟩
    have hB2 : Below w0.heap.size w0 w2 := by rw [← h2, hw2]; exact belowDrewN HB1.out _
    have r0 := rowB hB2 R0.out
    have r1 := rowB hB2 R1.out
    have HB2 := Lib.hid hB2
    have HBW2 := Lib.hid (belowStep hB2 HB0.out)
    rw [h2]
    clear h2 hw2 p0 p1 p2 q0 q1 q2 hB2
    obtain ⟨p0, p1, p2, -, -⟩ := row3 r0
    obtain ⟨q0, q1, q2, -, -⟩ := row3 r1
    clear r0 r1
    cases b3 with
    | false =>
      go_wp2_with fail
      go_ret
      exact ⟨ret_bool (by rw [HRR.out, Bool.and_false]; rfl), HBW2.out⟩
    | true =>
      by_cases hn : n2 = m2
      rotate_left
      · have hne : ((n2 : Int) == (m2 : Int)) = false := by rw [← Bool.not_eq_true, beq_iff_eq]; omega
        have hne2 : ¬ (n2 : Int) = (m2 : Int) := by omega
        have hF : Hid (false = R) := by
          unfold Hid; rw [HRR.out, decide_eq_false (fun e => hn (by rw [← HN2.out, ← HM2.out, e]))]; rfl
        clear hn
        go_wp2_with fail
        go_ret
        exact ⟨ret_bool hF.out, HBW2.out⟩
      subst hn
      go_wp2_with fail
      clear p0 p1 p2 q0 q1 q2
      go_loopw [5] (fun j wr => ∃ k : Nat, k ≤ n2 ∧ j = .int .i64 k ∧ Hid (∀ i, i < k → ls.getD i [] = ls'.getD i []) ∧ Below w0.heap.size w0 wr) (fun j _ => n2 - (intOf j).toNat)
      case atStart => exact ⟨0, Nat.zero_le _, rfl, fun i hi => by omega, HB2.out⟩
      case round =>
        obtain ⟨k, hk, rfl, HEQ, hB⟩ := hrel
        have r0 := rowB hB R0.out
        have r1 := rowB hB R1.out
        obtain ⟨p0, p1, p2, -, -⟩ := row3 r0
        obtain ⟨q0, q1, q2, -, -⟩ := row3 r1
        have HBW := Lib.hid (belowStep hB HB0.out)
        have HB := Lib.hid hB
        clear r0 r1 hB
        by_cases hlt : k < n2
        · obtain ⟨b, off, Ai, ci, rfl, h1, h2, h3, h4⟩ := (H2.out.below HBW.out) k (by rw [HN2.out]; exact hlt)
          obtain ⟨b', off', Bi, di, rfl, g1, g2, g3, g4⟩ := (G2.out.below HBW.out) k (by rw [HM2.out]; exact hlt)
          obtain ⟨x, hx⟩ : ∃ x, ls.getD k [] = x := ⟨_, rfl⟩
          obtain ⟨y, hy⟩ : ∃ y, ls'.getD k [] = y := ⟨_, rfl⟩
          rw [hx] at h2 h3 h4
          rw [hy] at g2 g3 g4
          have hxl : x.length ≤ 1048576 := by rw [← hx]; exact S3.out k (by rw [HN2.out]; exact hlt)
          have HIX := Lib.hid h4
          have HIY := Lib.hid g4
          obtain ⟨bq, hbq⟩ : ∃ bq, decide (x = y) = bq := ⟨_, rfl⟩
          obtain ⟨l1, hl1⟩ : ∃ l1, x.length = l1 := ⟨_, rfl⟩
          obtain ⟨l2, hl2⟩ : ∃ l2, y.length = l2 := ⟨_, rfl⟩
          have HCL : Hid (∀ wx, IntsAt wx Ai x → IntsAt wx Bi y → Calls Try.prog 68 #[.slice Ai l1 ci, .slice Bi l2 di] wx (Quiet (.bool bq) wx)) := fun wx k1 k2 => by
            have := eqSg Ai Bi ci di x y wx k1 k2 hxl
            rwa [hbq, hl1, hl2] at this
          rw [hl1] at h2 h3
          rw [hl2] at g2 g3
          have e0 : (0 : Int) ≤ (k : Int) := by omega
          have e1 : (k : Int) < (n2 : Int) := by omega
          have HBQ := Lib.hid hbq
          have HXX := Lib.hid hx
          have HYY := Lib.hid hy
          clear h4 g4 hx hy hxl hbq hl1 hl2
          go_wp2_with fail
          go_quiet ((go_at_call 68; exact quietDrew (HCL.out _ (by exact HIX.out.drewN _) (by exact HIY.out.drewN _))))
          cases bq with
          | true =>
            go_wp2_with fail
            go_roundw
            case rel =>
              refine ⟨k + 1, by omega, by go_num, fun i hi => ?_, belowDrewN HB.out _⟩
              by_cases e : i = k
              · rw [e, HXX.out, HYY.out]; exact of_decide_eq_true HBQ.out
              · exact HEQ.out i (by omega)
            case measure => simp [intOf]; omega
          | false =>
            have hF : Hid (false = R) := by
              unfold Hid; rw [HRR.out, decide_eq_false (fun e => of_decide_eq_false HBQ.out (by rw [← HXX.out, ← HYY.out, e]))]; rfl
            go_wp2_with fail
            go_ret
            exact ⟨ret_bool hF.out, belowDrewN HBW.out _⟩
        · obtain rfl : k = n2 := by omega
          have hT : Hid (true = R) := by
            unfold Hid; rw [HRR.out, decide_eq_true (lists_ext (by rw [HN2.out, HM2.out]) (by rw [HN2.out]; exact HEQ.out))]; rfl
          go_wp2_with fail
          go_ret
          exact ⟨ret_bool hT.out, HBW.out⟩
/-- One job is another, Synced left out. -/
noncomputable def eqJ (t u : Tb) (n1 n2 : Int) (l1 l2 : ByteArray) : Bool := decide (n1 = n2) && (decide (l1 = l2) && eqT t u)
set_option maxRecDepth 100000 in
set_option maxHeartbeats 4000000 in
theorem specSameJ (A1 A2 A3 B1 B2 B3 : Option Addr) (c1 c2 c3 d1 d2 d3 : Nat) (t u : Tb) (na nb : Int) (la lb : ByteArray) (sa sb : Int) (w : World) (h1 : IntsAt w A1 t.trk) (h2 : LAt w A2 t.pats) (h3 : IntsAt w A3 t.dist) (g1 : IntsAt w B1 u.trk) (g2 : LAt w B2 u.pats) (g3 : IntsAt w B3 u.dist) (hs : ShortT t) :
    Calls Try.prog 73 #[jobV A1 A2 A3 c1 c2 c3 t na la sa, jobV B1 B2 B3 d1 d2 d3 u nb lb sb] w (ReadsBool (eqJ t u na nb la lb) w) := by
  unfold jobV
  obtain ⟨w0, hw0⟩ : ∃ w0, (w.alloc (.cells #[.slice A1 t.trk.length c1, .slice A2 t.pats.length c2, .slice A3 t.dist.length c3, .int .i64 na, .string la, .int .i64 sa] 45)).alloc (.cells #[.slice B1 u.trk.length d1, .slice B2 u.pats.length d2, .slice B3 u.dist.length d3, .int .i64 nb, .string lb, .int .i64 sb] 45) = w0 := ⟨_, rfl⟩
  have hb0 : Below w.heap.size w w0 := by rw [← hw0]; exact (by repeat (first | exact Below.refl _ _ | assumption | refine Below.setCell ?_ (by first | omega | (simp <;> omega)) _ | refine Below.alloc ?_ (by first | omega | (simp <;> omega)) _ | refine Below.drew ?_))
  have R0 : Hid (w0.heap[w.heap.size]? = some (.cells #[.slice A1 t.trk.length c1, .slice A2 t.pats.length c2, .slice A3 t.dist.length c3, .int .i64 na, .string la, .int .i64 sa] 45 (0, 0))) := by rw [← hw0]; exact alloc2_0 _ _ _
  have R1 : Hid (w0.heap[w.heap.size + 1]? = some (.cells #[.slice B1 u.trk.length d1, .slice B2 u.pats.length d2, .slice B3 u.dist.length d3, .int .i64 nb, .string lb, .int .i64 sb] 45 (0, 0))) := by rw [← hw0]; exact alloc2_1 _ _ _
  obtain ⟨p0, p1, p2, p3, p4, p5, -, -⟩ := row6 R0.out
  obtain ⟨q0, q1, q2, q3, q4, q5, -, -⟩ := row6 R1.out
  obtain ⟨B, hB⟩ : ∃ B, eqT t u = B := ⟨_, rfl⟩
  obtain ⟨R, hR⟩ : ∃ R, eqJ t u na nb la lb = R := ⟨_, rfl⟩
  have HRR : Hid (R = (decide (na = nb) && (decide (la = lb) && B))) := by unfold Hid; rw [← hR, ← hB]; rfl
  have HC := Lib.hid (specSameT A1 A2 A3 B1 B2 B3 c1 c2 c3 d1 d2 d3 t u w0 (h1.below hb0) (h2.below hb0) (h3.below hb0) (g1.below hb0) (g2.below hb0) (g3.below hb0) hs)
  have HB0 := Lib.hid hb0
  rw [hB] at HC
  rw [hR]
  obtain ⟨n1, hn1⟩ : ∃ n1, t.trk.length = n1 := ⟨_, rfl⟩
  obtain ⟨n2, hn2⟩ : ∃ n2, t.pats.length = n2 := ⟨_, rfl⟩
  obtain ⟨n3, hn3⟩ : ∃ n3, t.dist.length = n3 := ⟨_, rfl⟩
  obtain ⟨m1, hm1⟩ : ∃ m1, u.trk.length = m1 := ⟨_, rfl⟩
  obtain ⟨m2, hm2⟩ : ∃ m2, u.pats.length = m2 := ⟨_, rfl⟩
  obtain ⟨m3, hm3⟩ : ∃ m3, u.dist.length = m3 := ⟨_, rfl⟩
  simp only [hn1, hn2, hn3, hm1, hm2, hm3] at HC hw0 p0 p1 p2 q0 q1 q2 ⊢
  clear h1 h2 h3 g1 g2 g3 hs hB hR hn1 hn2 hn3 hm1 hm2 hm3 hb0
  have hss := strEqB la lb
  by_cases k1 : na = nb
  rotate_left
  · have k1' : (na == nb) = false := by simpa using k1
    have hF : Hid (false = R) := by unfold Hid; rw [HRR.out, decide_eq_false k1]; rfl
    go_enter Try.func73, Try.ntmps73
    go_wp2_with fail
    go_ret
    exact ⟨ret_bool hF.out, HB0.out⟩
  have k1' : (na == nb) = true := by simpa using k1
  by_cases k2 : la = lb
  rotate_left
  · have k2' : (la.toList == lb.toList) = false := by rw [hss, decide_eq_false k2]
    have hF : Hid (false = R) := by unfold Hid; rw [HRR.out, decide_eq_false k2, Bool.false_and, Bool.and_false]
    clear hss k2
    subst k1
    go_enter Try.func73, Try.ntmps73
    go_wp2_with fail
    go_ret
    exact ⟨ret_bool hF.out, HB0.out⟩
  have k2' : (la.toList == lb.toList) = true := by rw [hss, decide_eq_true k2]
  have hF : Hid (B = R) := by unfold Hid; rw [HRR.out, decide_eq_true k1, decide_eq_true k2]; rfl
  clear hss
  subst k1 k2
  go_enter Try.func73, Try.ntmps73
  go_wp2_with fail
  clear hw0
  refine HC.out.mono ?_
  rintro e w1 ⟨rfl, hb1⟩
  have HB1 := Lib.hid (belowStep hb1 HB0.out)
  go_wp2_with fail
  go_ret
  exact ⟨ret_bool hF.out, HB1.out⟩
end
section
open Go.RowKit Grp

theorem ch_grow {mvs : List (List Int)} {trk : List Int} (i : Nat) : (chF mvs trk i).2.size < (chF mvs trk (i + 1)).2.size := by
  have e : (chF mvs trk (i + 1)).2 = (chF mvs trk i).2 ++ fullS i (addedB mvs (chF mvs trk i).1.ls i) := rfl
  rw [e, ByteArray.size_append]
  unfold fullS
  rw [ByteArray.size_append, strOfNums_size, num4]
  simp
theorem eqJ_iff {t u : Tb} {n1 n2 : Int} {l1 l2 : ByteArray} : eqJ t u n1 n2 l1 l2 = true ↔ n1 = n2 ∧ l1 = l2 ∧ t.trk = u.trk ∧ t.pats = u.pats ∧ t.dist = u.dist := by
  unfold eqJ eqT
  simp only [Bool.and_eq_true, decide_eq_true_eq]
theorem valid_exit {p : Pz} {t : Tb} {nx : Int} {lg : ByteArray} {sy : Int} {i : Nat} (hq : buildQ p t.trk = true) (h1 : lg.size ≤ 60000) (h2 : 0 ≤ sy) (h3 : sy ≤ lg.size) (hok : chOk (mvsOf p.moves) t.trk i) (hi : i = 0 ∨ (i : Int) ≤ nx) (hex : ¬ ((i : Int) < nx ∧ i < (chF (mvsOf p.moves) t.trk i).1.ls.length ∧ (chF (mvsOf p.moves) t.trk i).2.size < lg.size)) : eqJ ⟨t.trk, (chF (mvsOf p.moves) t.trk i).1.ls, (chF (mvsOf p.moves) t.trk i).1.ds⟩ t (i : Int) nx (chF (mvsOf p.moves) t.trk i).2 lg = validF p t nx lg sy := by
  rw [Bool.eq_iff_iff, eqJ_iff, validF_iff]
  constructor
  · rintro ⟨rfl, e1, -, e2, e3⟩
    exact ⟨h1, by omega, h2, h3, hq, by simpa using hok, by simpa using e1, by simpa using e2, by simpa using e3⟩
  · intro q
    have hn := q.vnx
    have hin : i ≤ nx.toNat := by omega
    have e : nx = (i : Int) := by
      rcases Nat.lt_or_ge i nx.toNat with h | h
      · exfalso
        refine hex ⟨by omega, q.vok i h, ?_⟩
        have g1 := ch_grow (mvs := mvsOf p.moves) (trk := t.trk) i
        have g2 := ch_size (mvs := mvsOf p.moves) (trk := t.trk) (i + 1) (nx.toNat - (i + 1))
        rw [show i + 1 + (nx.toNat - (i + 1)) = nx.toNat from by omega, q.vlog] at g2
        omega
      · omega
    subst e
    have l1 := q.vlog
    have l2 := q.vls
    have l3 := q.vds
    rw [Int.toNat_natCast] at l1 l2 l3
    exact ⟨rfl, l1, rfl, l2, l3⟩
set_option maxRecDepth 100000 in
set_option maxHeartbeats 8000000 in
theorem specValid (A : Option Addr) (c : Nat) (p : Pz) (A1 A2 A3 : Option Addr) (c1 c2 c3 : Nat) (t : Tb) (nx : Int) (lg : ByteArray) (sy : Int) (w : World) (h : PzAt w A p) (h1 : IntsAt w A1 t.trk) (h2 : LAt w A2 t.pats) (h3 : IntsAt w A3 t.dist) (hs : ShortT t) (hnx : -9223372036854775808 ≤ nx ∧ nx ≤ 9223372036854775807) (hlg : lg.size ≤ 1048576) :
    Calls Try.prog 37 #[.agg #[.int .i64 p.pts, .string p.names, .slice A p.moves.length c], jobV A1 A2 A3 c1 c2 c3 t nx lg sy] w (ReadsBool (validF p t nx lg sy) w) := by
  have HP := Lib.hid h
  have H1 := Lib.hid h1
  have H2 := Lib.hid h2
  have H3 := Lib.hid h3
  have HS := Lib.hid hs
  have hs1 := hs.trk
  clear h h1 h2 h3 hs
  obtain ⟨xs, ls, ys⟩ := t
  unfold jobV
  dsimp only at *
  obtain ⟨w0, hw0⟩ : ∃ w0, (w.alloc (.cells #[.int .i64 p.pts, .string p.names, .slice A p.moves.length c] 29)).alloc (.cells #[.slice A1 xs.length c1, .slice A2 ls.length c2, .slice A3 ys.length c3, .int .i64 nx, .string lg, .int .i64 sy] 45) = w0 := ⟨_, rfl⟩
  have hb0 : Below w.heap.size w w0 := by rw [← hw0]; exact (by repeat (first | exact Below.refl _ _ | assumption | refine Below.setCell ?_ (by first | omega | (simp <;> omega)) _ | refine Below.alloc ?_ (by first | omega | (simp <;> omega)) _ | refine Below.drew ?_))
  have R0 : Hid (w0.heap[w.heap.size]? = some (.cells #[.int .i64 p.pts, .string p.names, .slice A p.moves.length c] 29 (0, 0))) := by rw [← hw0]; exact alloc2_0 _ _ _
  have R1 : Hid (w0.heap[w.heap.size + 1]? = some (.cells #[.slice A1 xs.length c1, .slice A2 ls.length c2, .slice A3 ys.length c3, .int .i64 nx, .string lg, .int .i64 sy] 45 (0, 0))) := by rw [← hw0]; exact alloc2_1 _ _ _
  obtain ⟨p0, p1, p2, -, pl⟩ := row3 R0.out
  obtain ⟨j0, j1, j2, j3, j4, j5, -, jl⟩ := row6 R1.out
  have HB0 := Lib.hid hb0
  obtain ⟨V, hV⟩ : ∃ V, validF p ⟨xs, ls, ys⟩ nx lg sy = V := ⟨_, rfl⟩
  have HV := Lib.hid hV
  rw [hV]
  have HST := Lib.hid (specStartFill A c p A1 c1 xs w0 (HP.out.below HB0.out) (H1.out.below HB0.out) hs1)
  clear hV hb0
  by_cases hq : buildQ p xs = true
  rotate_left
  · have HF : Hid (false = V) := by unfold Hid; rw [← HV.out]; exact (validF_no (fun q => hq q.vbld)).symm
    go_enter Try.func37, Try.ntmps37
    go_wp2_with fail
    clear hw0
    refine HST.out.mono ?_
    intro e w1 hpost
    unfold SpecJob at hpost
    rw [if_neg hq] at hpost
    obtain ⟨rfl, hb1⟩ := hpost
    have HB1 := Lib.hid (belowStep hb1 HB0.out)
    clear hb1 hq
    go_wp2_with fail
    go_ret
    have := HB1.out.size
    exact ⟨ret_bool HF.out, HB1.out.alloc this _⟩
  obtain ⟨N, hG⟩ := ch_good hq
  have HG := Lib.hid hG
  have HBLD := Lib.hid hq
  have hxl := hG.len
  have hm8 := hG.m8
  go_enter Try.func37, Try.ntmps37
  go_wp2_with fail
  clear hw0
  refine HST.out.mono ?_
  intro e w1 hpost
  unfold SpecJob at hpost
  rw [if_pos hq] at hpost
  obtain ⟨B1, d1, B2, d2, B3, d3, rfl, f1, -, f2, -, f3, -, hb1⟩ := hpost
  clear hq hG
  obtain ⟨w2, hw2⟩ : ∃ w2, w1.alloc (.cells #[.slice B1 xs.length d1, .slice B2 1 d2, .slice B3 1 d3, .int .i64 0, .string ⟨#[]⟩, .int .i64 0] 45) = w2 := ⟨_, rfl⟩
  have hb2 : Below w1.heap.size w1 w2 := by rw [← hw2]; exact (by repeat (first | exact Below.refl _ _ | assumption | refine Below.setCell ?_ (by first | omega | (simp <;> omega)) _ | refine Below.alloc ?_ (by first | omega | (simp <;> omega)) _ | refine Below.drew ?_))
  obtain ⟨W, hWW⟩ : ∃ W, w1.heap.size = W := ⟨_, rfl⟩
  have RW : Hid (w2.heap[W]? = some (.cells #[.slice B1 xs.length d1, .slice B2 1 d2, .slice B3 1 d3, .int .i64 0, .string ⟨#[]⟩, .int .i64 0] 45 (0, 0))) := by rw [← hw2, ← hWW]; exact heap_alloc_new _ _
  have HF1 := Lib.hid (f1.intsAt.below hb2)
  have HF2 := Lib.hid ((GrAt.lat f2).below hb2)
  have HF3 := Lib.hid (f3.intsAt.below hb2)
  have HB2 := Lib.hid (belowStep hb2 hb1)
  have HBW2 := Lib.hid (belowStep (belowStep hb2 hb1) HB0.out)
  have hz1 := hb1.size
  have hW := row_lt RW.out
  have hWz : w0.heap.size ≤ W := by omega
  have HWW := Lib.hid hWW
  clear hWW
  have r0 := rowB hb1 R0.out
  have r1 := rowB hb1 R1.out
  have HW2 := Lib.hid hw2
  have hwl : w.heap.size + 1 < w0.heap.size := row_lt R1.out
  clear p0 p1 p2 pl j0 j1 j2 j3 j4 j5 jl f1 f2 f3 hb1 hb2 hw2 HST
  obtain ⟨j0, j1, j2, j3, j4, j5, -, jl⟩ := row6 r1
  obtain ⟨p0, p1, p2, -, pl⟩ := row3 r0
  by_cases k1 : (60000 : Int) < (lg.size : Int)
  · have HF : Hid (false = V) := by unfold Hid; rw [← HV.out]; exact (validF_no (fun q => by have := q.vlg; omega)).symm
    go_wp2_with fail
    rw [HW2.out]
    go_ret
    exact ⟨ret_bool HF.out, HBW2.out⟩
  by_cases k3 : inR sy 0 (lg.size : Int) = true
  rotate_left
  · have k3' : inR sy 0 (lg.size : Int) = false := (Bool.not_eq_true _).mp k3
    have HF : Hid (false = V) := by unfold Hid; rw [← HV.out]; exact (validF_no (fun q => k3 (inR_iff.2 ⟨q.vs0, q.vs1⟩))).symm
    clear k3
    go_wp2_with fail
    rw [HW2.out]
    refine (inRange_any _ _ _ _).mono ?_
    rintro e w3 ⟨rfl, rfl⟩
    rw [k3']
    go_wp2_with fail
    go_ret
    exact ⟨ret_bool HF.out, HBW2.out⟩
  have hsy := inR_iff.1 k3
  have hlg6 : lg.size ≤ 60000 := by omega
  go_wp2_with fail
  rw [HW2.out, HWW.out]
  refine (inRange_any _ _ _ _).mono ?_
  rintro e w3 ⟨rfl, rfl⟩
  rw [k3]
  go_wp2_with fail
  clear j0 j1 j2 j3 j4 j5 jl p0 p1 p2 pl r0 r1 k1 k3
  go_loopw [] (fun wr => ∃ (i : Nat) (B1 : Option Addr) (d1 : Nat) (B2 : Option Addr) (d2 : Nat) (B3 : Option Addr) (d3 : Nat), wr.heap[W]? = some (.cells #[.slice B1 xs.length d1, .slice B2 (chF (mvsOf p.moves) xs i).1.ls.length d2, .slice B3 (chF (mvsOf p.moves) xs i).1.ls.length d3, .int .i64 (i : Int), .string (chF (mvsOf p.moves) xs i).2, .int .i64 0] 45 (0, 0)) ∧ IntsAt wr B1 xs ∧ LAt wr B2 (chF (mvsOf p.moves) xs i).1.ls ∧ IntsAt wr B3 (chF (mvsOf p.moves) xs i).1.ds ∧ Hid (chOk (mvsOf p.moves) xs i) ∧ (i = 0 ∨ (i : Int) ≤ nx) ∧ Below w0.heap.size w0 wr) (fun wr => nx.toNat - (intOf ((wr.cell? ⟨W, 3, none⟩).getD undef)).toNat)
  case atStart => exact ⟨0, B1, d1, B2, d2, B3, d3, RW.out, HF1.out, HF2.out, HF3.out, fun j hj => by omega, .inl rfl, HB2.out⟩
  case round =>
    obtain ⟨i, C1, e1, C2, e2, C3, e3, hrw, hc1, hc2, hc3, HOKI, hin, hB⟩ := hrel
    have HEX := Lib.hid (valid_exit (p := p) (t := ⟨xs, ls, ys⟩) (nx := nx) (lg := lg) (sy := sy) (i := i) HBLD.out hlg6 hsy.1 (by omega) HOKI.out hin)
    rw [HV.out] at HEX
    have hgd := HG.out.ok i HOKI.out
    have hnx1 : chOk (mvsOf p.moves) xs (i + 1) ↔ i < (chF (mvsOf p.moves) xs i).1.ls.length := ⟨fun h => h i (by omega), fun h j hj => by
      by_cases e : j = i
      · rw [e]; exact h
      · exact HOKI.out j (by omega)⟩
    have HNX := Lib.hid hnx1
    have e1' : (chF (mvsOf p.moves) xs (i + 1)).1 = nextB (mvsOf p.moves) (chF (mvsOf p.moves) xs i).1 i := rfl
    have e2' : (chF (mvsOf p.moves) xs (i + 1)).2 = (chF (mvsOf p.moves) xs i).2 ++ fullS i (addedB (mvsOf p.moves) (chF (mvsOf p.moves) xs i).1.ls i) := rfl
    obtain ⟨s, hs⟩ : ∃ s, (chF (mvsOf p.moves) xs i).1 = s := ⟨_, rfl⟩
    obtain ⟨lgi, hlgi⟩ : ∃ lgi, (chF (mvsOf p.moves) xs i).2 = lgi := ⟨_, rfl⟩
    simp only [hs, hlgi] at hrw hc1 hc2 hc3 HEX hgd HNX e1' e2'
    have HGD := Lib.hid hgd
    have HE1 := Lib.hid e1'
    have HE2 := Lib.hid e2'
    have HC1 := Lib.hid hc1
    have HC2 := Lib.hid hc2
    have HC3 := Lib.hid hc3
    have HRW := Lib.hid hrw
    have HB := Lib.hid hB
    have hdl := hgd.1.len
    obtain ⟨n, hn⟩ : ∃ n, s.ls.length = n := ⟨_, rfl⟩
    rw [hn] at HRW HEX HNX hdl
    have HN := Lib.hid hn
    obtain ⟨p0, p1, p2, -, pl⟩ := row3 (rowB hB R0.out)
    obtain ⟨j0, j1, j2, j3, j4, j5, -, jl⟩ := row6 (rowB hB R1.out)
    obtain ⟨k0, k1, k2, k3, k4, k5, kf, kl⟩ := row6 HRW.out
    clear hrw hc1 hc2 hc3 hB hgd hnx1 e1' e2' hn RW HF1 HF2 HF3
    by_cases hgo : (i : Int) < nx ∧ i < n ∧ lgi.size < lg.size
    · obtain ⟨g1, g2, g3⟩ := hgo
      have q1 : (i : Int) < (n : Int) := by omega
      have q2 : (lgi.size : Int) < (lg.size : Int) := by omega
      clear HEX
      have hex := specExpand A c p C1 C2 C3 e1 e2 e3 N xs.length xs s i lgi 0 wr (HP.out.below (belowStep HB.out HB0.out)) HC1.out HC2.out HC3.out HG.out rfl HGD.out.1 HGD.out.2.1 (by rw [HN.out]; exact g2) (by omega)
      unfold jobV at hex
      dsimp only at hex
      rw [HN.out, hdl] at hex
      have HX := Lib.hid hex
      clear hex
      go_wp2_with fail
      refine HX.out.mono ?_
      rintro e w5 ⟨v1, v2, v3, rfl, hCP, hb5⟩
      rw [← HE1.out] at hCP
      rw [← HE2.out]
      have hgd2 := HG.out.ok (i + 1) (HNX.out.2 g2)
      obtain ⟨s2, hs2⟩ : ∃ s2, (chF (mvsOf p.moves) xs (i + 1)).1 = s2 := ⟨_, rfl⟩
      obtain ⟨lg2, hlg2⟩ : ∃ lg2, (chF (mvsOf p.moves) xs (i + 1)).2 = lg2 := ⟨_, rfl⟩
      rw [hs2] at hCP hgd2
      rw [hlg2]
      have HS2 := Lib.hid hs2
      have HLG2 := Lib.hid hlg2
      obtain ⟨F1, f1, -, rfl, -⟩ := hCP.1.capped
      obtain ⟨F2, f2, rfl, -, -⟩ := GrAt.shape hCP.2.1
      obtain ⟨F3, f3, -, rfl, -⟩ := hCP.2.2.1.capped
      dsimp only at hCP ⊢
      have hl2 := hgd2.1.len
      obtain ⟨n2, hn2⟩ : ∃ n2, s2.ls.length = n2 := ⟨_, rfl⟩
      rw [hl2, hn2] at hCP
      rw [hl2, hn2]
      have HN2 := Lib.hid hn2
      have HCP := Lib.hid hCP
      have HB5 := Lib.hid (belowStep hb5 HB.out)
      have hr5 := rowB hb5 HRW.out
      have HR5 := Lib.hid hr5
      have hWl := row_lt HRW.out
      have m3 := k3
      clear k0 k1 k2 k3 k4 k5 kf kl p0 p1 p2 pl j0 j1 j2 j3 j4 j5 jl hs2 hlg2 hgd2 hl2 hn2 hCP hb5 HX hs hlgi
      obtain ⟨k0, k1, k2, k3, k4, k5, kf, kl⟩ := row6 hr5
      clear hr5
      go_wp2_with fail
      have hR6 := row6S HR5.out (.slice F1 xs.length f1) (.slice F2 n2 f2) (.slice F3 n2 f3) (.int .i64 ((i + 1 : Nat) : Int)) (.string lg2) (.int .i64 0)
      have hC6 := CpTb.kept HCP.out (grown6 w5 W (.slice F1 xs.length f1) (.slice F2 n2 f2) (.slice F3 n2 f3) (.int .i64 ((i + 1 : Nat) : Int)) (.string lg2) (.int .i64 0)) hWl
      have hB6 := belSet6 (B := w0.heap.size) HB5.out hWz (.slice F1 xs.length f1) (.slice F2 n2 f2) (.slice F3 n2 f3) (.int .i64 ((i + 1 : Nat) : Int)) (.string lg2) (.int .i64 0)
      obtain ⟨w6, hw6⟩ : ∃ w6, (((((w5.setCell ⟨W, 0, none⟩ (.slice F1 xs.length f1)).setCell ⟨W, 1, none⟩ (.slice F2 n2 f2)).setCell ⟨W, 2, none⟩ (.slice F3 n2 f3)).setCell ⟨W, 3, none⟩ (.int .i64 ((i + 1 : Nat) : Int))).setCell ⟨W, 4, none⟩ (.string lg2)).setCell ⟨W, 5, none⟩ (.int .i64 0) = w6 := ⟨_, rfl⟩
      have e1c : ((i + 1 : Nat) : Int) = (i : Int) + 1 := by omega
      rw [hw6] at hR6 hC6 hB6
      rw [e1c] at hw6
      rw [hw6]
      have m6 := (row6 hR6).2.2.2.1
      go_roundw
      case rel =>
        refine ⟨i + 1, F1, f1, F2, f2, F3, f3, ?_, hC6.1.intsAt, ?_, ?_, HNX.out.2 g2, .inr (by omega), hB6⟩
        · rw [HS2.out, HLG2.out, HN2.out]; exact hR6
        · rw [HS2.out]; exact GrAt.lat hC6.2.1
        · rw [HS2.out]; exact hC6.2.2.1.intsAt
      case measure => rw [m6, m3]; simp [intOf]; omega
    · have hsm := specSameJ C1 C2 C3 A1 A2 A3 e1 e2 e3 c1 c2 c3 ⟨xs, s.ls, s.ds⟩ ⟨xs, ls, ys⟩ (i : Int) nx lgi lg 0 sy wr HC1.out HC2.out HC3.out (H1.out.below (belowStep HB.out HB0.out)) (H2.out.below (belowStep HB.out HB0.out)) (H3.out.below (belowStep HB.out HB0.out)) ⟨by dsimp only; omega, by dsimp only; have := HGD.out.1.cap; omega, fun j hj => by dsimp only at hj ⊢; have := (HGD.out.1.rows j hj).1; omega, by dsimp only; have := HGD.out.1.cap; rw [HGD.out.1.len]; omega⟩
      rw [HEX.out hgo] at hsm
      unfold jobV at hsm
      dsimp only at hsm
      rw [HN.out, hdl] at hsm
      have HSM := Lib.hid hsm
      have HBW := Lib.hid (belowStep HB.out HB0.out)
      clear hsm HEX
      by_cases g1 : (i : Int) < nx
      rotate_left
      · clear hgo
        go_wp2_with fail
        refine HSM.out.mono ?_
        rintro e w5 ⟨rfl, hb5⟩
        have HB5 := Lib.hid (belowStep hb5 HBW.out)
        clear hb5
        go_wp2_with fail
        go_ret
        exact ⟨rfl, HB5.out⟩
      by_cases g2 : i < n
      rotate_left
      · clear hgo
        have q1 : ¬ (i : Int) < (n : Int) := by omega
        go_wp2_with fail
        refine HSM.out.mono ?_
        rintro e w5 ⟨rfl, hb5⟩
        have HB5 := Lib.hid (belowStep hb5 HBW.out)
        clear hb5
        go_wp2_with fail
        go_ret
        exact ⟨rfl, HB5.out⟩
      have q1 : (i : Int) < (n : Int) := by omega
      have q2 : ¬ (lgi.size : Int) < (lg.size : Int) := fun h => hgo ⟨g1, g2, by omega⟩
      clear hgo
      go_wp2_with fail
      refine HSM.out.mono ?_
      rintro e w5 ⟨rfl, hb5⟩
      have HB5 := Lib.hid (belowStep hb5 HBW.out)
      clear hb5
      go_wp2_with fail
      go_ret
      exact ⟨rfl, HB5.out⟩
end
end Go.Proofs.Ytfhdnanbhigpmaa
