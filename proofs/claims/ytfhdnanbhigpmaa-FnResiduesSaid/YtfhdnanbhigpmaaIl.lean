/- Whether two tables are the same, impl. Conditions: lengths as the contracts say. Where a list stands in others, spec. Conditions: lengths as the contract says. -/
import Derived.Test.YtfhdnanbhigpmaaSp
import Derived.Test.YtfhdnanbhigpmaaTa
namespace Go.Proofs.Ytfhdnanbhigpmaa
section
open Go.RowKit Grp

set_option maxRecDepth 3000 in
set_option maxHeartbeats 1000000 in
theorem eqIg (A B : Option Addr) (c d : Nat) (xs ys : List Int) (w : World) (hx : IntsAt w A xs) (hy : IntsAt w B ys) (hxl : xs.length ≤ 1048576) :
    Calls Try.prog 120 #[.slice A xs.length c, .slice B ys.length d] w (Quiet (.bool (decide (xs = ys))) w) := by
  by_cases hn : xs.length = ys.length
  · have := eqI A B c d xs.length xs ys w hx hy rfl hn.symm hxl
    rwa [hn] at this ⊢
  · have hq : decide (xs = ys) = false := decide_eq_false (fun e => hn (by rw [e]))
    rw [hq]
    obtain ⟨n, hn1⟩ : ∃ n, xs.length = n := ⟨_, rfl⟩
    obtain ⟨m, hm1⟩ : ∃ m, ys.length = m := ⟨_, rfl⟩
    rw [hn1, hm1] at hn ⊢
    have h1 : ¬ (n : Int) = (m : Int) := by omega
    clear hx hy hq hn1 hm1 hn
    go_enter Try.func120, Try.ntmps120
    go_wp2_with fail
    go_ret
    exact ⟨rfl, 0, (World.drewN_zero _).symm⟩
set_option maxRecDepth 3000 in
set_option maxHeartbeats 1000000 in
theorem eqSg (A B : Option Addr) (c d : Nat) (xs ys : List Int) (w : World) (hx : IntsAt w A xs) (hy : IntsAt w B ys) (hxl : xs.length ≤ 1048576) :
    Calls Try.prog 68 #[.slice A xs.length c, .slice B ys.length d] w (Quiet (.bool (decide (xs = ys))) w) := by
  by_cases hn : xs.length = ys.length
  · have := eqS A B c d xs.length xs ys w hx hy rfl hn.symm hxl
    rwa [hn] at this ⊢
  · have hq : decide (xs = ys) = false := decide_eq_false (fun e => hn (by rw [e]))
    rw [hq]
    obtain ⟨n, hn1⟩ : ∃ n, xs.length = n := ⟨_, rfl⟩
    obtain ⟨m, hm1⟩ : ∃ m, ys.length = m := ⟨_, rfl⟩
    rw [hn1, hm1] at hn ⊢
    have h1 : ¬ (n : Int) = (m : Int) := by omega
    clear hx hy hq hn1 hm1 hn
    go_enter Try.func68, Try.ntmps68
    go_wp2_with fail
    go_ret
    exact ⟨rfl, 0, (World.drewN_zero _).symm⟩
set_option maxHeartbeats 1000000 in
theorem sameClo (A B : Option Addr) (c d : Nat) (xs ys : List Int) (w : World) (hx : IntsAt w A xs) (hy : IntsAt w B ys) (hxl : xs.length ≤ 1048576) :
    Calls Try.prog 137 #[.slice A xs.length c, .slice B ys.length d] w (Quiet (.bool (decide (xs = ys))) w) := by
  have HC := Lib.hid (eqIg A B c d xs ys w hx hy hxl)
  clear hx hy
  go_enter Try.func137, Try.ntmps137
  go_wp2_with fail
  refine HC.out.mono ?_
  rintro e w1 ⟨rfl, n1, rfl⟩
  go_wp2_with fail
  go_ret
  exact ⟨rfl, n1, rfl⟩
theorem lists_ext {a b : List (List Int)} (hl : a.length = b.length) (h : ∀ i, i < a.length → a.getD i [] = b.getD i []) : a = b :=
  List.ext_getElem hl fun i h1 h2 => by
    have := h i h1
    rwa [List.getD_eq_getElem?_getD, List.getD_eq_getElem?_getD, List.getElem?_eq_getElem h1, List.getElem?_eq_getElem h2] at this
set_option maxRecDepth 100000 in
set_option maxHeartbeats 1000000 in
theorem sameFunc (A B : Option Addr) (c d n : Nat) (ls ms : List (List Int)) (w : World) (hl : LAt w A ls) (hm : LAt w B ms) (hn : ls.length = n) (hmn : ms.length = n) (hn1 : n ≤ 1048576) (hsl : ShortL ls) :
    Calls Try.prog 136 #[.slice A n c, .slice B n d, .func (.func 137) #[] #[]] w (ReadsBool (decide (ls = ms)) w) := by
  obtain ⟨b0, hb0⟩ : ∃ b0, decide (ls = ms) = b0 := ⟨_, rfl⟩
  rw [hb0]
  have HB0 := Lib.hid hb0
  have HL := Lib.hid hl
  have HM := Lib.hid hm
  have HN := Lib.hid hn
  have HMN := Lib.hid hmn
  have HSL := Lib.hid hsl
  clear hl hm hn hmn hsl hb0
  go_enter Try.func136, Try.ntmps136
  go_wp2_with fail
  go_loopw [17] (fun j wr => ∃ k : Nat, k ≤ n ∧ j = .int .i64 k ∧ Hid (∀ i, i < k → ls.getD i [] = ms.getD i []) ∧ Below w.heap.size w wr) (fun j _ => n - (intOf j).toNat)
  case atStart => exact ⟨0, Nat.zero_le _, rfl, fun i hi => by omega, Below.refl _ _⟩
  case round =>
    obtain ⟨k, hk, rfl, HEQ, hB⟩ := hrel
    by_cases hlt : k < n
    · obtain ⟨b, off, Ai, ci, rfl, h1, h2, h3, h4⟩ := (HL.out.below hB) k (by rw [HN.out]; exact hlt)
      obtain ⟨b', off', Bi, di, rfl, g1, g2, g3, g4⟩ := (HM.out.below hB) k (by rw [HMN.out]; exact hlt)
      have HCL := Lib.hid (sameClo Ai Bi ci di (ls.getD k []) (ms.getD k []) wr h4 g4 (HSL.out k (by rw [HN.out]; exact hlt)))
      obtain ⟨n1, hn1⟩ : ∃ n1, (ls.getD k []).length = n1 := ⟨_, rfl⟩
      obtain ⟨n2, hn2⟩ : ∃ n2, (ms.getD k []).length = n2 := ⟨_, rfl⟩
      rw [hn1, hn2] at HCL
      rw [hn1] at h2 h3
      rw [hn2] at g2 g3
      have q0 : (0 : Int) ≤ (k : Int) := by omega
      have q1 : (k : Int) < (n : Int) := by omega
      have HB := Lib.hid hB
      clear h4 g4 hn1 hn2 hB
      by_cases he : ls.getD k [] = ms.getD k []
      · have hq : decide (ls.getD k [] = ms.getD k []) = true := decide_eq_true he
        rw [hq] at HCL
        have HE := Lib.hid he
        clear he hq
        go_wp2_with (first | (go_at_call 137; refine HCL.out.mono ?_; rintro e w1 ⟨rfl, nq, rfl⟩))
        go_roundw
        case rel =>
          refine ⟨k + 1, by omega, by go_num, fun i hi => ?_, belowDrewN HB.out _⟩
          by_cases e : i = k
          · rw [e]; exact HE.out
          · exact HEQ.out i (by omega)
        case measure => simp [intOf]; omega
      · have hq : decide (ls.getD k [] = ms.getD k []) = false := decide_eq_false he
        rw [hq] at HCL
        have HF : Hid (false = b0) := by unfold Hid; rw [← HB0.out]; exact (decide_eq_false (fun e => he (by rw [e]))).symm
        clear he hq
        go_wp2_with (first | (go_at_call 137; refine HCL.out.mono ?_; rintro e w1 ⟨rfl, nq, rfl⟩))
        go_ret
        exact ⟨ret_bool HF.out, belowDrewN HB.out _⟩
    · obtain rfl : k = n := by omega
      have HT : Hid (true = b0) := by unfold Hid; rw [← HB0.out]; exact (decide_eq_true (lists_ext (by rw [HN.out, HMN.out]) (by rw [HN.out]; exact HEQ.out))).symm
      go_wp2
      go_ret
      exact ⟨ret_bool HT.out, hB⟩
set_option maxRecDepth 100000 in
set_option maxHeartbeats 1000000 in
theorem sameLists (A B : Option Addr) (c d : Nat) (ls ms : List (List Int)) (w : World) (hl : LAt w A ls) (hm : LAt w B ms) (hn1 : ls.length ≤ 1048576) (hsl : ShortL ls) :
    Calls Try.prog 121 #[.slice A ls.length c, .slice B ms.length d] w (ReadsBool (decide (ls = ms)) w) := by
  by_cases hn : ls.length = ms.length
  · have HC := Lib.hid (sameFunc A B c d ls.length ls ms w hl hm rfl hn.symm hn1 hsl)
    rw [← hn]
    clear hl hm hsl hn
    go_enter Try.func121, Try.ntmps121
    go_wp2_with (first | (go_at_call 136; refine HC.out.mono ?_; rintro e w1 ⟨rfl, hb1⟩; have HB1 := Lib.hid hb1; clear hb1))
    go_ret
    exact ⟨rfl, HB1.out⟩
  · have hq : decide (ls = ms) = false := decide_eq_false (fun e => hn (by rw [e]))
    rw [hq]
    obtain ⟨n, hn1⟩ : ∃ n, ls.length = n := ⟨_, rfl⟩
    obtain ⟨m, hm1⟩ : ∃ m, ms.length = m := ⟨_, rfl⟩
    rw [hn1, hm1] at hn ⊢
    have h1 : ¬ (n : Int) = (m : Int) := by omega
    clear hl hm hq hn1 hm1 hn hsl
    go_enter Try.func121, Try.ntmps121
    go_wp2_with (first | (go_at_call 136; go_in))
    go_ret
    exact ⟨rfl, Below.refl _ _⟩
/-- One table is the other. -/
def eqT (t u : Tb) : Bool := decide (t.trk = u.trk) && (decide (t.pats = u.pats) && decide (t.dist = u.dist))
set_option maxRecDepth 100000 in
set_option maxHeartbeats 4000000 in
theorem implSameT (A1 A2 A3 B1 B2 B3 : Option Addr) (c1 c2 c3 d1 d2 d3 : Nat) (t u : Tb) (w : World) (h1 : IntsAt w A1 t.trk) (h2 : LAt w A2 t.pats) (h3 : IntsAt w A3 t.dist) (g1 : IntsAt w B1 u.trk) (g2 : LAt w B2 u.pats) (g3 : IntsAt w B3 u.dist) (hs : ShortT t) :
    Calls Try.prog 96 #[.agg #[.slice A1 t.trk.length c1, .slice A2 t.pats.length c2, .slice A3 t.dist.length c3], .agg #[.slice B1 u.trk.length d1, .slice B2 u.pats.length d2, .slice B3 u.dist.length d3]] w (ReadsBool (eqT t u) w) := by
  obtain ⟨xs, ls, ys⟩ := t
  obtain ⟨xs', ls', ys'⟩ := u
  obtain ⟨s1, s2, s3, s4⟩ := hs
  dsimp only at *
  have H1 := Lib.hid h1
  have H2 := Lib.hid h2
  have H3 := Lib.hid h3
  have G1 := Lib.hid g1
  have G2 := Lib.hid g2
  have G3 := Lib.hid g3
  have S3 := Lib.hid s3
  have HX := Lib.hid (fun wx k1 k2 => eqIg A1 B1 c1 d1 xs xs' wx k1 k2 s1)
  have HLL := Lib.hid (fun wx k1 k2 => sameLists A2 B2 c2 d2 ls ls' wx k1 k2 s2 S3.out)
  have HY := Lib.hid (fun wx k1 k2 => eqIg A3 B3 c3 d3 ys ys' wx k1 k2 s4)
  obtain ⟨b1, hb1⟩ : ∃ b1, decide (xs = xs') = b1 := ⟨_, rfl⟩
  obtain ⟨b2, hb2⟩ : ∃ b2, decide (ls = ls') = b2 := ⟨_, rfl⟩
  obtain ⟨b3, hb3⟩ : ∃ b3, decide (ys = ys') = b3 := ⟨_, rfl⟩
  rw [hb1] at HX
  rw [hb2] at HLL
  rw [hb3] at HY
  have hbb : eqT ⟨xs, ls, ys⟩ ⟨xs', ls', ys'⟩ = (b1 && (b2 && b3)) := by unfold eqT; rw [hb1, hb2, hb3]
  rw [hbb]
  obtain ⟨n1, hn1⟩ : ∃ n1, xs.length = n1 := ⟨_, rfl⟩
  obtain ⟨n2, hn2⟩ : ∃ n2, ls.length = n2 := ⟨_, rfl⟩
  obtain ⟨n3, hn3⟩ : ∃ n3, ys.length = n3 := ⟨_, rfl⟩
  obtain ⟨m1, hm1⟩ : ∃ m1, xs'.length = m1 := ⟨_, rfl⟩
  obtain ⟨m2, hm2⟩ : ∃ m2, ls'.length = m2 := ⟨_, rfl⟩
  obtain ⟨m3, hm3⟩ : ∃ m3, ys'.length = m3 := ⟨_, rfl⟩
  simp only [hn1, hn2, hn3, hm1, hm2, hm3] at HX HLL HY ⊢
  clear h1 h2 h3 g1 g2 g3 s1 s2 s3 s4 hb1 hb2 hb3 hbb hn1 hn2 hn3 hm1 hm2 hm3
  obtain ⟨w0, hw0⟩ : ∃ w0, (w.alloc (.cells #[.slice A1 n1 c1, .slice A2 n2 c2, .slice A3 n3 c3] 34)).alloc (.cells #[.slice B1 m1 d1, .slice B2 m2 d2, .slice B3 m3 d3] 34) = w0 := ⟨_, rfl⟩
  have hb0 : Below w.heap.size w w0 := by rw [← hw0]; exact (by repeat (first | exact Below.refl _ _ | assumption | refine Below.setCell ?_ (by first | omega | (simp <;> omega)) _ | refine Below.alloc ?_ (by first | omega | (simp <;> omega)) _ | refine Below.drew ?_))
  have R0 : Hid (w0.heap[w.heap.size]? = some (.cells #[.slice A1 n1 c1, .slice A2 n2 c2, .slice A3 n3 c3] 34 (0, 0))) := by rw [← hw0]; exact alloc2_0 _ _ _
  have R1 : Hid (w0.heap[w.heap.size + 1]? = some (.cells #[.slice B1 m1 d1, .slice B2 m2 d2, .slice B3 m3 d3] 34 (0, 0))) := by rw [← hw0]; exact alloc2_1 _ _ _
  obtain ⟨p0, p1, p2, -, -⟩ := row3 R0.out
  obtain ⟨q0, q1, q2, -, -⟩ := row3 R1.out
  go_enter Try.func96, Try.ntmps96
  go_wp2_with fail
  clear hw0
  refine (HX.out w0 (H1.out.below hb0) (G1.out.below hb0)).mono ?_
  rintro e w1' ⟨rfl, nq, hw1⟩
  obtain ⟨w1, h1⟩ : ∃ w1, w1' = w1 := ⟨_, rfl⟩
  have hB1 : Below w.heap.size w w1 := by rw [← h1, hw1]; exact belowDrewN hb0 _
  have e01 : w1.heap = w0.heap := by rw [← h1, hw1]; rfl
  have r0 := R0.out
  have r1 := R1.out
  rw [← e01] at r0 r1
  rw [h1]
  clear e01 h1 hw1 hb0 p0 p1 p2 q0 q1 q2 R0 R1
  obtain ⟨p0, p1, p2, -, -⟩ := row3 r0
  obtain ⟨q0, q1, q2, -, -⟩ := row3 r1
  have R0 := Lib.hid r0
  have R1 := Lib.hid r1
  clear r0 r1
  cases b1 with
  | false =>
    go_wp2_with fail
    go_ret
    exact ⟨rfl, hB1⟩
  | true =>
    go_wp2_with fail
    refine (HLL.out w1 (H2.out.below hB1) (G2.out.below hB1)).mono ?_
    rintro e w2 ⟨rfl, hb2⟩
    have hB2 := belowStep hb2 hB1
    have r0 := rowB hb2 R0.out
    have r1 := rowB hb2 R1.out
    clear hb2 p0 p1 p2 q0 q1 q2
    obtain ⟨p0, p1, p2, -, -⟩ := row3 r0
    obtain ⟨q0, q1, q2, -, -⟩ := row3 r1
    clear r0 r1
    cases b2 with
    | false =>
      go_wp2_with fail
      go_ret
      exact ⟨rfl, hB2⟩
    | true =>
      go_wp2_with fail
      refine (HY.out w2 (H3.out.below hB2) (G3.out.below hB2)).mono ?_
      rintro e w3 ⟨rfl, nq3, rfl⟩
      go_wp2_with fail
      go_ret
      exact ⟨rfl, belowDrewN hB2 _⟩
end
section
open Go.RowKit Grp

def IdxS (ls : List (List Int)) (x : List Int) (w : World) (e : Ending) (w' : World) : Prop := ∃ r : Int, e = .returned (.int .i64 r) ∧ decide (0 ≤ r) = inL ls x ∧ (0 ≤ r → r.toNat < ls.length ∧ ls.getD r.toNat [] = x) ∧ Below w.heap.size w w'
set_option maxRecDepth 100000 in
set_option maxHeartbeats 1000000 in
theorem specIdx (A Ax : Option Addr) (c cx n L : Nat) (ls : List (List Int)) (x : List Int) (w : World) (hl : LAt w A ls) (hx : IntsAt w Ax x) (hn : ls.length = n) (hn1 : n ≤ 1048576) (hs : ShortL ls) (hxl : x.length = L) :
    Calls Try.prog 103 #[.slice A n c, .slice Ax L cx] w (IdxS ls x w) := by
  have HL := Lib.hid hl
  have HX := Lib.hid hx
  have HN := Lib.hid hn
  have HS := Lib.hid hs
  have HXL := Lib.hid hxl
  clear hl hx hn hs hxl
  go_enter Try.func103, Try.ntmps103
  go_wp2_with fail
  go_loopw [5] (fun j wr => ∃ k : Nat, k ≤ n ∧ j = .int .i64 k ∧ Hid (∀ i, i < k → ls.getD i [] ≠ x) ∧ Below w.heap.size w wr) (fun j _ => n - (intOf j).toNat)
  case atStart => exact ⟨0, Nat.zero_le _, rfl, fun i hi => by omega, Below.refl _ _⟩
  case round =>
    obtain ⟨k, hk, rfl, HNO, hB⟩ := hrel
    by_cases hlt : k < n
    · obtain ⟨b, off, Ai, ci, rfl, h1, h2, h3, h4⟩ := (HL.out.below hB) k (by rw [HN.out]; exact hlt)
      obtain ⟨y, hy⟩ : ∃ y, ls.getD k [] = y := ⟨_, rfl⟩
      have hyl : y.length ≤ 1048576 := by rw [← hy]; exact HS.out k (by rw [HN.out]; exact hlt)
      rw [hy] at h2 h3 h4
      have q0 : (0 : Int) ≤ (k : Int) := by omega
      have q1 : (k : Int) < (n : Int) := by omega
      have hcl := eqSg Ai Ax ci cx y x wr h4 (HX.out.below hB) hyl
      rw [HXL.out] at hcl
      obtain ⟨ny, hny⟩ : ∃ ny, y.length = ny := ⟨_, rfl⟩
      rw [hny] at hcl h3
      have HCL := Lib.hid hcl
      have HYY := Lib.hid hy
      have HB := Lib.hid hB
      clear h4 hyl hy hB hcl hny h2
      by_cases he : y = x
      · have hq : decide (y = x) = true := decide_eq_true he
        rw [hq] at HCL
        have HIN : Hid (ls.getD k [] = x) := HYY.out.trans he
        clear he hq
        go_wp2_with (first | (go_at_call 68; refine HCL.out.mono ?_; rintro e w1 ⟨rfl, n1, rfl⟩))
        go_ret
        exact ⟨k, rfl, by rw [inL_at (by rw [HN.out]; exact hlt) HIN.out]; exact decide_eq_true q0, fun _ => ⟨by rw [HN.out]; simpa using hlt, by simpa using HIN.out⟩, belowDrewN HB.out _⟩
      · have hq : decide (y = x) = false := decide_eq_false he
        rw [hq] at HCL
        have HNE : Hid (y ≠ x) := he
        clear he hq
        go_wp2_with (first | (go_at_call 68; refine HCL.out.mono ?_; rintro e w1 ⟨rfl, n1, rfl⟩))
        go_roundw
        case rel =>
          refine ⟨k + 1, by omega, by go_num, fun i hi => ?_, belowDrewN HB.out _⟩
          by_cases e : i = k
          · rw [e, HYY.out]; exact HNE.out
          · exact HNO.out i (by omega)
        case measure => simp [intOf]; omega
    · obtain rfl : k = n := by omega
      have HOUT : Hid (inL ls x = false) := inL_no (by rw [HN.out]; exact HNO.out)
      go_wp2
      go_ret
      exact ⟨-1, rfl, HOUT.out.symm, fun h => by omega, hB⟩
end
end Go.Proofs.Ytfhdnanbhigpmaa
