/- FnExactIsValidFill: for all arguments, both packages give one answer, and the arguments stay. No conditions. -/
import Derived.Test.YtfhdnanbhigpmaaXv
import Derived.Test.YtfhdnanbhigpmaaOk
import Derived.Test.YtfhdnanbhigpmaaJk
import Derived.Deep.RegionHeld3
namespace Go.Proofs.Ytfhdnanbhigpmaa.lawIv
open Go.RowKit Go.ChangeShapes Go.WideShapes Go.ChangeAt
set_option maxRecDepth 100000 in
set_option maxHeartbeats 8000000 in
theorem walk (g0 : PA) (g1 : JA) (w : World) (i0 : g0.Ok w) (i1 : g1.Ok w) :
    Calls Try.prog 9 #[g0.val, g1.val] w fun e w' => e = .returned (.bool true) ∧ Below w.heap.size w w' := by
  obtain ⟨A, c, p⟩ := g0
  obtain ⟨a1, a2, a3, a4⟩ := i0
  obtain ⟨D1, k1, D2, k2, D3, k3, t, nx, lg, sy⟩ := g1
  obtain ⟨j1, j2, j3, m1, m2, m3, m4, m5, m6, m7⟩ := i1
  unfold PA.val JA.val
  dsimp only at *
  have HA := Lib.hid a1
  have J1 := Lib.hid j1
  have J2 := Lib.hid j2
  have J3 := Lib.hid j3
  have A4 := Lib.hid a4
  have M3 := Lib.hid m3
  have M6 := Lib.hid m6
  have HSZ : Hid (∀ wx (l : Int), LAt wx D2 t.pats → 0 ≤ l → l ≤ 1048576 → Calls Try.prog 41 #[.agg #[.slice D1 t.trk.length k1, .slice D2 t.pats.length k2, .slice D3 t.dist.length k3, .int .i64 nx, .string lg, .int .i64 sy], .int .i64 l] wx (SzJb t lg wx)) := fun wx l q1 q2 q3 => szJob D1 D2 D3 k1 k2 k3 t nx lg sy l wx q1 m1 m2 m3 m4 m5 q2 q3
  clear a1 a4 j1 j2 j3 m3 m6
  obtain ⟨n1, hn1⟩ : ∃ n1, t.trk.length = n1 := ⟨_, rfl⟩
  obtain ⟨n2, hn2⟩ : ∃ n2, t.pats.length = n2 := ⟨_, rfl⟩
  obtain ⟨n3, hn3⟩ : ∃ n3, t.dist.length = n3 := ⟨_, rfl⟩
  rw [hn1, hn2, hn3] at HSZ ⊢
  have HN1 := Lib.hid hn1
  have HN2 := Lib.hid hn2
  have HN3 := Lib.hid hn3
  clear hn1 hn2 hn3 m1 m2 m4 m7
  obtain ⟨w0, hw0⟩ : ∃ w0, (w.alloc (.cells #[.int .i64 p.pts, .string p.names, .slice A p.moves.length c] 42)).alloc (.cells #[.slice D1 n1 k1, .slice D2 n2 k2, .slice D3 n3 k3, .int .i64 nx, .string lg, .int .i64 sy] 68) = w0 := ⟨_, rfl⟩
  have hb0 : Below w.heap.size w w0 := by rw [← hw0]; exact (by repeat (first | exact Below.refl _ _ | assumption | refine Below.setCell ?_ (by first | omega | (simp <;> omega)) _ | refine Below.alloc ?_ (by first | omega | (simp <;> omega)) _ | refine Below.drew ?_))
  have R0 : Hid (w0.heap[w.heap.size]? = some (.cells #[.int .i64 p.pts, .string p.names, .slice A p.moves.length c] 42 (0, 0))) := by rw [← hw0]; exact alloc2_0 _ _ _
  have Q0 : Hid (w0.heap[w.heap.size + 1]? = some (.cells #[.slice D1 n1 k1, .slice D2 n2 k2, .slice D3 n3 k3, .int .i64 nx, .string lg, .int .i64 sy] 68 (0, 0))) := by rw [← hw0]; exact alloc2_1 _ _ _
  obtain ⟨h0, h1, h2, -, hl0⟩ := row3 R0.out
  have HB0 := Lib.hid hb0
  clear hb0
  go_enter Try.func9, Try.ntmps9
  go_wp2_with fail
  refine (szPz A c p 1048576 w0 (HA.out.below HB0.out) a2 a3 A4.out (by decide) (by decide)).mono ?_
  rintro e w1 ⟨q, rfl, hq1, hq2, hb1⟩
  have hB1 := belowStep hb1 HB0.out
  have r1 := rowB hb1 R0.out
  have s1 := rowB hb1 Q0.out
  clear hw0 h0 h1 h2 hl0 hb1
  by_cases hq : q < 0
  · go_wp2_with fail
    go_ret
    exact ⟨rfl, hB1⟩
  obtain ⟨hnm, hml, hsh⟩ := hq1 (by omega)
  have hq3 := hq2 (by omega)
  have HSH := Lib.hid hsh
  have HB1 := Lib.hid hB1
  have R1 := Lib.hid r1
  have Q1 := Lib.hid s1
  clear hq1 hq2 hsh hB1 r1 s1 R0 Q0 HB0
  obtain ⟨g0, g1, g2, g3, g4, g5, -, gl⟩ := row6 Q1.out
  go_wp2_with fail
  refine (HSZ.out w1 q (J2.out.below HB1.out) (by omega) hq3).mono ?_
  rintro e w2 ⟨q2, rfl, hs, hb2⟩
  have hB2 := belowStep hb2 HB1.out
  have r2 := rowB hb2 R1.out
  have s2 := rowB hb2 Q1.out
  clear g0 g1 g2 g3 g4 g5 gl hb2
  by_cases hqq : q2 < 0
  · go_wp2_with fail
    go_ret
    exact ⟨rfl, hB2⟩
  obtain ⟨hst, hlg⟩ := hs (by omega)
  have HST := Lib.hid hst
  have HB2 := Lib.hid hB2
  have R2 := Lib.hid r2
  have Q2 := Lib.hid s2
  clear hs hst hB2 r2 s2 R1 Q1 HB1 HSZ
  obtain ⟨V, hV⟩ : ∃ V, validF p t nx lg sy = V := ⟨_, rfl⟩
  have HSV : Hid (∀ wx g B1 d1 B2 d2 B3 d3, LAt wx (some ⟨g, 0, none⟩) p.moves → IntsAt wx B1 t.trk → LAt wx B2 t.pats → IntsAt wx B3 t.dist → Calls Try.prog 37 #[.agg #[.int .i64 p.pts, .string p.names, .slice (some ⟨g, 0, none⟩) p.moves.length p.moves.length], .agg #[.slice B1 n1 d1, .slice B2 n2 d2, .slice B3 n3 d3, .int .i64 nx, .string lg, .int .i64 sy]] wx (ReadsBool V wx)) := fun wx g B1 d1 B2 d2 B3 d3 q1 q2 q3 q4 => by
    have := specValid (some ⟨g, 0, none⟩) p.moves.length p B1 B2 B3 d1 d2 d3 t nx lg sy wx ⟨q1, hml, HSH.out, hnm⟩ q2 q3 q4 HST.out M6.out hlg
    unfold jobV at this
    rwa [HN1.out, HN2.out, HN3.out, hV] at this
  have HIV : Hid (∀ wx g B1 d1 B2 d2 B3 d3, LAt wx (some ⟨g, 0, none⟩) p.moves → IntsAt wx B1 t.trk → LAt wx B2 t.pats → IntsAt wx B3 t.dist → Calls Try.prog 43 #[.agg #[.int .i64 p.pts, .string p.names, .slice (some ⟨g, 0, none⟩) p.moves.length p.moves.length], .agg #[.slice B1 n1 d1, .slice B2 n2 d2, .slice B3 n3 d3, .int .i64 nx, .string lg, .int .i64 sy]] wx (ReadsBool V wx)) := fun wx g B1 d1 B2 d2 B3 d3 q1 q2 q3 q4 => by
    have := implValid (some ⟨g, 0, none⟩) p.moves.length p B1 B2 B3 d1 d2 d3 t nx lg sy wx ⟨q1, hml, HSH.out, hnm⟩ q2 q3 q4 HST.out M6.out hlg
    unfold jobV at this
    rwa [HN1.out, HN2.out, HN3.out, hV] at this
  have HTJ : Hid (∀ wx, Below w.heap.size w wx → Calls Try.prog 42 #[.agg #[.slice D1 n1 k1, .slice D2 n2 k2, .slice D3 n3 k3, .int .i64 nx, .string lg, .int .i64 sy]] wx fun e w' => ∃ B1 d1 B2 d2 B3 d3, e = .returned (.agg #[.slice B1 n1 d1, .slice B2 n2 d2, .slice B3 n3 d3, .int .i64 nx, .string lg, .int .i64 sy]) ∧ IntsAt w' B1 t.trk ∧ LAt w' B2 t.pats ∧ IntsAt w' B3 t.dist ∧ Below wx.heap.size wx w') := fun wx hb => by
    have := toJob D1 D2 D3 k1 k2 k3 t nx lg sy wx (J1.out.below hb) (J2.out.below hb) (J3.out.below hb) HST.out
    unfold ToJb jobV at this
    rw [HN1.out, HN2.out, HN3.out] at this
    refine this.mono ?_
    rintro e w' ⟨B1, d1, B2, d2, B3, d3, q1, q2, q3, q4, -, q5⟩
    exact ⟨B1, d1, B2, d2, B3, d3, q1, q2, q3, q4, q5⟩
  have HEJ : Hid (∀ wx B1 d1 B2 d2 B3 d3 C1 e1 C2 e2 C3 e3, IntsAt wx B1 t.trk → LAt wx B2 t.pats → IntsAt wx B3 t.dist → IntsAt wx C1 t.trk → LAt wx C2 t.pats → IntsAt wx C3 t.dist → Calls Try.prog 23 #[.agg #[.slice B1 n1 d1, .slice B2 n2 d2, .slice B3 n3 d3, .int .i64 nx, .string lg, .int .i64 sy], .agg #[.slice C1 n1 e1, .slice C2 n2 e2, .slice C3 n3 e3, .int .i64 nx, .string lg, .int .i64 sy]] wx (ReadsBool true wx)) := fun wx B1 d1 B2 d2 B3 d3 C1 e1 C2 e2 C3 e3 q1 q2 q3 q4 q5 q6 => by
    have := eqJob B1 B2 B3 C1 C2 C3 d1 d2 d3 e1 e2 e3 t nx lg sy wx q1 q2 q3 q4 q5 q6 HST.out
    unfold jobV at this
    rwa [HN1.out, HN2.out, HN3.out] at this
  have HTP : Hid (∀ wx, Below w.heap.size w wx → Calls Try.prog 20 #[.agg #[.int .i64 p.pts, .string p.names, .slice A p.moves.length c]] wx fun e w' => ∃ g, e = .returned (.agg #[.int .i64 p.pts, .string p.names, .slice (some ⟨g, 0, none⟩) p.moves.length p.moves.length]) ∧ LAt w' (some ⟨g, 0, none⟩) p.moves ∧ Below wx.heap.size wx w') := fun wx hb => by
    refine (toPz A c p wx (HA.out.below hb) hml HSH.out).mono ?_
    rintro e w' ⟨g, q1, q2, q3⟩
    exact ⟨g, q1, q2.lat, q3⟩
  have HEP : Hid (∀ wx g h, LAt wx (some ⟨g, 0, none⟩) p.moves → LAt wx (some ⟨h, 0, none⟩) p.moves → Calls Try.prog 24 #[.agg #[.int .i64 p.pts, .string p.names, .slice (some ⟨g, 0, none⟩) p.moves.length p.moves.length], .agg #[.int .i64 p.pts, .string p.names, .slice (some ⟨h, 0, none⟩) p.moves.length p.moves.length]] wx (ReadsBool true wx)) := fun wx g h q1 q2 => eqPz _ _ _ _ p wx q1 q2 hml HSH.out
  obtain ⟨np, hnp⟩ : ∃ np, p.moves.length = np := ⟨_, rfl⟩
  rw [hnp] at HSV HIV HTP HEP R2
  rw [hnp]
  clear hV hnp hml hnm hlg
  obtain ⟨g0, g1, g2, g3, g4, g5, -, gl⟩ := row6 Q2.out
  obtain ⟨h0, h1, h2, -, hl0⟩ := row3 R2.out
  go_wp2_with fail
  go_region_held3 (fun w' => w'.cell? ⟨w.heap.size, 0, none⟩ = some (.int .i64 p.pts) ∧ w'.cell? ⟨w.heap.size, 1, none⟩ = some (.string p.names) ∧ w'.cell? ⟨w.heap.size, 2, none⟩ = some (.slice A np c) ∧ w'.cell? ⟨w.heap.size + 1, 0, none⟩ = some (.slice D1 n1 k1) ∧ w'.cell? ⟨w.heap.size + 1, 1, none⟩ = some (.slice D2 n2 k2) ∧ w'.cell? ⟨w.heap.size + 1, 2, none⟩ = some (.slice D3 n3 k3) ∧ w'.cell? ⟨w.heap.size + 1, 3, none⟩ = some (.int .i64 nx) ∧ w'.cell? ⟨w.heap.size + 1, 4, none⟩ = some (.string lg) ∧ w'.cell? ⟨w.heap.size + 1, 5, none⟩ = some (.int .i64 sy)) (first | go_keep | exact ⟨u30, u31, u32, v30, v31, v32, v33, v34, v35⟩ | exact ⟨u40, u41, u42, v40, v41, v42, v43, v44, v45⟩ | exact ⟨u50, u51, u52, v50, v51, v52, v53, v54, v55⟩) (first
    | (go_at_call 20; refine (HTP.out _ (by exact HB2.out.drew)).mono ?_; rintro e w3 ⟨a3, rfl, hL3, hb3⟩; have T3 : Below w2.heap.size w2 w3 := belowStep hb3 (by exact (Below.refl _ _).drew); obtain ⟨u30, u31, u32, -, -⟩ := row3 (rowB T3 R2.out); obtain ⟨v30, v31, v32, v33, v34, v35, -, -⟩ := row6 (rowB T3 Q2.out))
    | (go_at_call 42; refine (HTJ.out _ (by exact belowStep T3 HB2.out)).mono ?_; rintro e w4 ⟨E1, e1, E2, e2, E3, e3, rfl, hE1, hE2, hE3, hb4⟩; have T4 : Below w2.heap.size w2 w4 := belowStep hb4 T3; obtain ⟨u40, u41, u42, -, -⟩ := row3 (rowB T4 R2.out); obtain ⟨v40, v41, v42, v43, v44, v45, -, -⟩ := row6 (rowB T4 Q2.out))
    | (go_at_call 37; refine (HSV.out _ _ _ _ _ _ _ _ (by exact hL3.below hb4) (by exact hE1) (by exact hE2) (by exact hE3)).mono ?_; rintro e w5 ⟨rfl, hb5⟩; have T5 : Below w2.heap.size w2 w5 := belowStep hb5 T4; obtain ⟨u50, u51, u52, -, -⟩ := row3 (rowB T5 R2.out); obtain ⟨v50, v51, v52, v53, v54, v55, -, -⟩ := row6 (rowB T5 Q2.out)))
  have HB5 := Lib.hid (belowStep T5 HB2.out)
  have R5 := Lib.hid (rowB T5 R2.out)
  have Q5 := Lib.hid (rowB T5 Q2.out)
  clear hL3 hb3 T3 hE1 hE2 hE3 hb4 T4 hb5 T5 u30 u31 u32 u40 u41 u42 u50 u51 u52 v30 v31 v32 v33 v34 v35 v40 v41 v42 v43 v44 v45 v50 v51 v52 v53 v54 v55 g0 g1 g2 g3 g4 g5 gl h0 h1 h2 hl0 R2 Q2 HB2 HSV
  obtain ⟨h0, h1, h2, -, hl0⟩ := row3 R5.out
  go_wp2_with fail
  refine (HTP.out w5 HB5.out).mono ?_
  rintro e w6 ⟨a6, rfl, hL6, hb6⟩
  obtain ⟨w7, hw7⟩ : ∃ w7, w6.alloc (.cells #[.int .i64 p.pts, .string p.names, .slice (some ⟨a6, 0, none⟩) np np] 29) = w7 := ⟨_, rfl⟩
  have hb7 : Below w6.heap.size w6 w7 := by rw [← hw7]; exact (by repeat (first | exact Below.refl _ _ | assumption | refine Below.setCell ?_ (by first | omega | (simp <;> omega)) _ | refine Below.alloc ?_ (by first | omega | (simp <;> omega)) _ | refine Below.drew ?_))
  have RX : Hid (w7.heap[w6.heap.size]? = some (.cells #[.int .i64 p.pts, .string p.names, .slice (some ⟨a6, 0, none⟩) np np] 29 (0, 0))) := by rw [← hw7]; exact heap_alloc_new _ _
  have HL7 := Lib.hid (hL6.below hb7)
  have HB7 := Lib.hid (belowStep (belowStep hb7 hb6) HB5.out)
  have R7 := Lib.hid (rowB (belowStep hb7 hb6) R5.out)
  have Q7 := Lib.hid (rowB (belowStep hb7 hb6) Q5.out)
  have HW7 := Lib.hid hw7
  have RQ6 := rowB hb6 Q5.out
  clear hw7 hL6 hb6 hb7 h0 h1 h2 hl0 HB5 R5 Q5
  obtain ⟨g0, g1, g2, g3, g4, g5, -, gl⟩ := row6 RQ6
  clear RQ6
  go_wp2_with fail
  rw [HW7.out]
  obtain ⟨X, hX⟩ : ∃ X, w6.heap.size = X := ⟨_, rfl⟩
  rw [hX] at RX ⊢
  clear g0 g1 g2 g3 g4 g5 gl hX HW7
  refine (HTJ.out w7 HB7.out).mono ?_
  rintro e w8 ⟨E1, e1, E2, e2, E3, e3, rfl, hE1, hE2, hE3, hb8⟩
  obtain ⟨w9, hw9⟩ : ∃ w9, w8.alloc (.cells #[.slice E1 n1 e1, .slice E2 n2 e2, .slice E3 n3 e3, .int .i64 nx, .string lg, .int .i64 sy] 45) = w9 := ⟨_, rfl⟩
  have hb9 : Below w8.heap.size w8 w9 := by rw [← hw9]; exact (by repeat (first | exact Below.refl _ _ | assumption | refine Below.setCell ?_ (by first | omega | (simp <;> omega)) _ | refine Below.alloc ?_ (by first | omega | (simp <;> omega)) _ | refine Below.drew ?_))
  have RY : Hid (w9.heap[w8.heap.size]? = some (.cells #[.slice E1 n1 e1, .slice E2 n2 e2, .slice E3 n3 e3, .int .i64 nx, .string lg, .int .i64 sy] 45 (0, 0))) := by rw [← hw9]; exact heap_alloc_new _ _
  have hb79 := belowStep hb9 hb8
  have HL9 := Lib.hid (HL7.out.below hb79)
  have HE1 := Lib.hid (hE1.below hb9)
  have HE2 := Lib.hid (hE2.below hb9)
  have HE3 := Lib.hid (hE3.below hb9)
  have HB9 := Lib.hid (belowStep hb79 HB7.out)
  have R9 := Lib.hid (rowB hb79 R7.out)
  have Q9 := Lib.hid (rowB hb79 Q7.out)
  have RX9 := Lib.hid (rowB hb79 RX.out)
  have RX8 := rowB hb8 RX.out
  have hXl := row_lt RX8
  have hXn : X ≠ w8.heap.size := by omega
  have HW9 := Lib.hid hw9
  obtain ⟨x0, x1, x2, -, xl⟩ := row3 RX8
  clear RX8 hw9 hb8 hb9 hb79 hE1 hE2 hE3 HL7 HB7 R7 Q7 RX
  go_wp2_with fail
  rw [HW9.out]
  obtain ⟨Y, hY⟩ : ∃ Y, w8.heap.size = Y := ⟨_, rfl⟩
  rw [hY] at RY ⊢
  clear x0 x1 x2 xl hXl hXn hY HW9
  refine (HIV.out w9 a6 E1 e1 E2 e2 E3 e3 HL9.out HE1.out HE2.out HE3.out).mono ?_
  rintro e w10 ⟨rfl, hb10⟩
  have HL10 := Lib.hid (HL9.out.below hb10)
  have HE1 := Lib.hid (HE1.out.below hb10)
  have HE2 := Lib.hid (HE2.out.below hb10)
  have HE3 := Lib.hid (HE3.out.below hb10)
  have HB10 := Lib.hid (belowStep hb10 HB9.out)
  have R10 := Lib.hid (rowB hb10 R9.out)
  have Q10 := Lib.hid (rowB hb10 Q9.out)
  have RX10 := Lib.hid (rowB hb10 RX9.out)
  have RY10 := Lib.hid (rowB hb10 RY.out)
  clear hb10 HL9 HB9 R9 Q9 RX9 RY HIV
  have hvv : (V != V) = false := by simp
  obtain ⟨h0, h1, h2, -, hl0⟩ := row3 R10.out
  obtain ⟨x0, x1, x2, -, xl⟩ := row3 RX10.out
  go_wp2_with fail
  go_region_held3 (fun w' => w'.cell? ⟨w.heap.size, 0, none⟩ = some (.int .i64 p.pts) ∧ w'.cell? ⟨w.heap.size, 1, none⟩ = some (.string p.names) ∧ w'.cell? ⟨w.heap.size, 2, none⟩ = some (.slice A np c) ∧ w'.cell? ⟨X, 0, none⟩ = some (.int .i64 p.pts) ∧ w'.cell? ⟨X, 1, none⟩ = some (.string p.names) ∧ w'.cell? ⟨X, 2, none⟩ = some (.slice (some ⟨a6, 0, none⟩) np np)) (first | go_keep | exact ⟨u0, u1, u2, v0, v1, v2⟩ | exact ⟨y0, y1, y2, z0, z1, z2⟩) (first
    | (go_at_call 20; refine (HTP.out _ (by first | exact HB10.out.drew | exact HB10.out)).mono ?_; rintro e w12 ⟨a12, rfl, hL12, hb12⟩; have T12 : Below w10.heap.size w10 w12 := ⟨hb12.os, hb12.tape, hb12.output, hb12.size, hb12.block⟩; obtain ⟨u0, u1, u2, -, -⟩ := row3 (rowB T12 R10.out); obtain ⟨v0, v1, v2, -, -⟩ := row3 (rowB T12 RX10.out))
    | (go_at_call 24; refine (HEP.out _ _ _ (by exact HL10.out.below T12) (by exact hL12)).mono ?_; rintro e w13 ⟨rfl, hb13⟩; have T13 : Below w10.heap.size w10 w13 := belowStep hb13 T12; obtain ⟨y0, y1, y2, -, -⟩ := row3 (rowB T13 R10.out); obtain ⟨z0, z1, z2, -, -⟩ := row3 (rowB T13 RX10.out)))
  have HB13 := Lib.hid (belowStep T13 HB10.out)
  have Q13 := Lib.hid (rowB T13 Q10.out)
  have RY13 := Lib.hid (rowB T13 RY10.out)
  have HE1 := Lib.hid (HE1.out.below T13)
  have HE2 := Lib.hid (HE2.out.below T13)
  have HE3 := Lib.hid (HE3.out.below T13)
  clear u0 u1 u2 v0 v1 v2 y0 y1 y2 z0 z1 z2 hL12 hb12 T12 hb13 T13 h0 h1 h2 hl0 x0 x1 x2 xl HL10 HB10 R10 Q10 RX10 RY10 HTP HEP
  obtain ⟨g0, g1, g2, g3, g4, g5, -, gl⟩ := row6 Q13.out
  obtain ⟨y0, y1, y2, y3, y4, y5, -, yl⟩ := row6 RY13.out
  go_wp2_with fail
  go_region_held3 (fun w' => w'.cell? ⟨w.heap.size + 1, 0, none⟩ = some (.slice D1 n1 k1) ∧ w'.cell? ⟨w.heap.size + 1, 1, none⟩ = some (.slice D2 n2 k2) ∧ w'.cell? ⟨w.heap.size + 1, 2, none⟩ = some (.slice D3 n3 k3) ∧ w'.cell? ⟨w.heap.size + 1, 3, none⟩ = some (.int .i64 nx) ∧ w'.cell? ⟨w.heap.size + 1, 4, none⟩ = some (.string lg) ∧ w'.cell? ⟨w.heap.size + 1, 5, none⟩ = some (.int .i64 sy) ∧ w'.cell? ⟨Y, 0, none⟩ = some (.slice E1 n1 e1) ∧ w'.cell? ⟨Y, 1, none⟩ = some (.slice E2 n2 e2) ∧ w'.cell? ⟨Y, 2, none⟩ = some (.slice E3 n3 e3) ∧ w'.cell? ⟨Y, 3, none⟩ = some (.int .i64 nx) ∧ w'.cell? ⟨Y, 4, none⟩ = some (.string lg) ∧ w'.cell? ⟨Y, 5, none⟩ = some (.int .i64 sy)) (first | go_keep | exact ⟨v0, v1, v2, v3, v4, v5, z0, z1, z2, z3, z4, z5⟩ | exact ⟨r0, r1, r2, r3, r4, r5, s0, s1, s2, s3, s4, s5⟩) (first
    | (go_at_call 42; refine (HTJ.out _ (by first | exact HB13.out.drew | exact HB13.out)).mono ?_; rintro e w14 ⟨F1, f1, F2, f2, F3, f3, rfl, hF1, hF2, hF3, hb14⟩; have T14 : Below w13.heap.size w13 w14 := ⟨hb14.os, hb14.tape, hb14.output, hb14.size, hb14.block⟩; obtain ⟨v0, v1, v2, v3, v4, v5, -, -⟩ := row6 (rowB T14 Q13.out); obtain ⟨z0, z1, z2, z3, z4, z5, -, -⟩ := row6 (rowB T14 RY13.out))
    | (go_at_call 23; refine (HEJ.out _ _ _ _ _ _ _ _ _ _ _ _ _ (by exact HE1.out.below T14) (by exact HE2.out.below T14) (by exact HE3.out.below T14) (by exact hF1) (by exact hF2) (by exact hF3)).mono ?_; rintro e w15 ⟨rfl, hb15⟩; have T15 : Below w13.heap.size w13 w15 := belowStep hb15 T14; obtain ⟨r0, r1, r2, r3, r4, r5, -, -⟩ := row6 (rowB T15 Q13.out); obtain ⟨s0, s1, s2, s3, s4, s5, -, -⟩ := row6 (rowB T15 RY13.out)))
  have HB15 := Lib.hid (belowStep T15 HB13.out)
  clear v0 v1 v2 v3 v4 v5 z0 z1 z2 z3 z4 z5 r0 r1 r2 r3 r4 r5 s0 s1 s2 s3 s4 s5 hF1 hF2 hF3 hb14 T14 hb15 T15
  go_wp2_with fail
  go_ret
  exact ⟨rfl, HB15.out⟩
theorem own : ownKnob Try.prog.godebug = none := by kernel_rfl
theorem laidOut : laidOutB Try.prog = true := by kernel_rfl
set_option maxRecDepth 100000 in
theorem lifted (os : Os) (started : os.Started) (H : Type) (enc : TypeId × Value → H) :
    ReturnsInHanded {} Try.checked os 9 .any (Rows.fnExactIsValidFillSpec.pre6 enc Try.prog Try.f9 Rows.fnExactIsValidFillRow.domain false) (Rows.fnExactIsValidFillSpec.post enc Try.prog Try.f9 false true false false) := by
  refine returnsInHanded_of_change (C := Try.checked) own started (by kernel_rfl) Try.func9
    (ChangeSpec.witness6 (enc := enc) (C := Try.checked) false ⟨#[], #[.agg #[.int .i64 0, .string ByteArray.empty, .slice none 0 0], .agg #[.slice none 0 0, .slice none 0 0, .slice none 0 0, .int .i64 0, .string ByteArray.empty, .int .i64 0]], []⟩ 8 (by kernel_rfl) (by kernel_rfl) (by kernel_rfl) (by kernel_rfl)) ?_
  intro W base args ds gs before hval0 hW hcnd _
  have hval : ∀ (j : Nat) t v, Try.f9.params[j]? = some t → args[j]? = some v → Value.okWide Try.prog W .any base t v := hval0
  have hW' := hW
  obtain ⟨p, q, hA0, hV, rfl, hfz, hnd⟩ := hW
  have hA : DataW.TrodAll enc Try.prog W 0 (fun _ => true) true Try.f9.params.toList args.toList ds p := hA0
  rw [Try.params9] at hA hval
  obtain ⟨v0, vs0, d0, ds0, p0, q0, hargs, rfl, rfl, h0, r0⟩ := trodAll_cons hA
  obtain ⟨v1, vs1, d1, ds1, p1, q1, rfl, rfl, rfl, h1, r1⟩ := trodAll_cons r0
  obtain ⟨rfl, rfl, rfl⟩ := trodAll_nil r1
  obtain rfl : args = #[v0, v1] := by cases args; simp_all
  obtain ⟨rfl, rfl⟩ := trodVars_none hV
  have lt0 : ∀ x ∈ p0, x.block < W.heap.size := by obtain ⟨m, hm⟩ := h0; exact DataW.trod_lt m _ _ _ hm
  have lt1 : ∀ x ∈ p1, x.block < W.heap.size := by obtain ⟨m, hm⟩ := h1; exact DataW.trod_lt m _ _ _ hm
  obtain ⟨g0, rfl, i0⟩ := arg_puzzle (hval 0 42 v0 rfl rfl) h0
  obtain ⟨g1, rfl, i1⟩ := arg_job (hval 1 68 v1 rfl rfl) h1
  clear hA0 hval0
  refine (walk g0 g1 W i0 i1).mono fun e W' ⟨he, bel⟩ => ?_
  subst he
  exact ⟨_, rfl, _, _, _, [], _, [], hW', trodAll_mk1 (shut_bool Try.underlying4 _), (trodAll_cons_mk (Below.trod laidOut (by kernel_rfl) (of_decide_eq_true (by kernel_rfl)) h0 bel lt0) (trodAll_cons_mk (Below.trod laidOut (by kernel_rfl) (of_decide_eq_true (by kernel_rfl)) h1 bel lt1) trodAll_mk0)), rfl, bel.frame _, fun h => by cases h⟩
theorem fact_wf : Rows.fnExactIsValidFillRow.wf (OpenSpec.ofChange Rows.fnExactIsValidFillSpec) = true := by kernel_rfl
theorem fact_pars : Try.f9.params.all (Try.prog.readableRec ·) = true := by kernel_rfl
theorem fact_tie : namedTie Try.prog Rows.fnExactIsValidFillRow.named Rows.fnExactIsValidFillSpec.vars = true := by kernel_rfl
theorem fact_st : (Rows.fnExactIsValidFillRow.stops == []) = true := by kernel_rfl
theorem fact_kn : (Rows.fnExactIsValidFillRow.knobs == []) = true := by kernel_rfl
theorem fact_inp : (Rows.fnExactIsValidFillRow.inPlace == Try.prog.inPlace 9) = true := by kernel_rfl
theorem fact_unf : (Rows.fnExactIsValidFillRow.unfollowed == Try.prog.unfollowed 9) = true := by kernel_rfl
theorem fact_rec : (Rows.fnExactIsValidFillRow.recurses == Try.prog.recurses 9) = true := by kernel_rfl
theorem fact_nam : (Rows.fnExactIsValidFillRow.named == Try.prog.varsNamed 9) = true := by kernel_rfl
theorem fact_mp : (Rows.fnExactIsValidFillRow.maps == (Try.f9.params.toList ++ Rows.fnExactIsValidFillSpec.plain.varTypes Try.prog).any (Try.prog.mapsRec ·)) = true := by kernel_rfl
theorem fact_ifc : (Rows.fnExactIsValidFillRow.ifaces == (Try.f9.params.toList ++ Rows.fnExactIsValidFillSpec.plain.varTypes Try.prog).any (Try.prog.ifacesRec ·)) = true := by kernel_rfl
theorem fact_mo : (Rows.fnExactIsValidFillRow.mapsOut == Try.prog.mapsAmong Try.f9.resultTypes.toList) = true := by kernel_rfl
theorem fact_lo : (Rows.fnExactIsValidFillRow.loops == (Try.f9.params.toList ++ Rows.fnExactIsValidFillSpec.plain.varTypes Try.prog).any (Try.prog.loopsFrom ·)) = true := by kernel_rfl
theorem fact_wk : (Rows.fnExactIsValidFillRow.wideKeys == (Try.f9.params.toList ++ Rows.fnExactIsValidFillSpec.plain.varTypes Try.prog ++ Try.f9.resultTypes.toList).any (Try.prog.wideKeysFrom ·)) = true := by kernel_rfl
theorem fact_vs : Rows.fnExactIsValidFillSpec.vars.all (Try.prog.varReadable ·) = true := by kernel_rfl
theorem fact_res : Try.f9.resultTypes.all (fun t => Try.prog.readableRec t && decide (t < Try.prog.types.size)) = true := by kernel_rfl
theorem fact_io : (Rows.fnExactIsValidFillRow.ifacesOut == Try.f9.resultTypes.toList.any (Try.prog.ifacesRec ·)) = true := by kernel_rfl
theorem fact_loo : (Rows.fnExactIsValidFillRow.loopsOut == Try.f9.resultTypes.toList.any (Try.prog.loopsFrom ·)) = true := by kernel_rfl
theorem fact_pk : (Rows.fnExactIsValidFillRow.plainKeys == Try.prog.plainKeys) = true := by kernel_rfl
theorem fact_sh : Rows.fnExactIsValidFillRow.shortTexts.isNone = true := by kernel_rfl
theorem fact_li : (Rows.fnExactIsValidFillRow.lifted == Try.prog.liftsFinal) = true := by rw [fact_finals]; rfl
theorem fact_mk : (Try.prog.make == some Rows.fnExactIsValidFillRow.make) = true := by rw [fact_make]; rfl
theorem fact_kd : (Rows.fnExactIsValidFillRow.kinds == (if Rows.fnExactIsValidFillRow.domain.isEmpty then [] else Try.f9.params.toList.map fun t => match Try.prog.underlying t with | some (.int k) => some k | _ => none)) = true := by kernel_rfl
theorem fact_pi : (Rows.fnExactIsValidFillRow.pinned == Rows.fnExactIsValidFillRow.pinnedBy) = true := by kernel_rfl
theorem fact_ve : (Rows.fnExactIsValidFillRow.veiled == (Try.f9.params.toList ++ Rows.fnExactIsValidFillSpec.plain.varTypes Try.prog ++ Try.f9.resultTypes.toList).any (Try.prog.veiledRec ·)) = true := by kernel_rfl
theorem fact_vf : Rows.fnExactIsValidFillRow.veiledFits Try.prog Try.f9.params.toList (Try.f9.params.toList ++ Rows.fnExactIsValidFillSpec.plain.varTypes Try.prog ++ Try.f9.resultTypes.toList) = true := by kernel_rfl
set_option maxRecDepth 100000 in
theorem facts : joinedFacts Try.prog 9 Try.f9 Rows.fnExactIsValidFillSpec Rows.fnExactIsValidFillRow = true := facts_of fact_wf fact_laid fact_rowed fact_pars fact_tie fact_st fact_pst fact_kn fact_pkn fact_inp fact_unf fact_rec fact_nam fact_mp fact_ifc fact_mo fact_lo fact_wk fact_vs fact_res fact_io fact_loo fact_pk fact_sh fact_hd fact_me fact_li fact_mk fact_kd fact_pi fact_ve fact_vf
theorem fact_fn : Try.prog.funcNamed Rows.fnExactIsValidFillRow.func = some 9 := by kernel_rfl
theorem fact_inst : Try.f9.isInstance Try.prog Rows.fnExactIsValidFillRow.origin Rows.fnExactIsValidFillRow.targs := of_decide_eq_true (by kernel_rfl)
theorem fact_wrap : Try.f9.isWrapper Try.prog Rows.fnExactIsValidFillRow.wrapper Rows.fnExactIsValidFillRow.mainSum := by unfold Func.isWrapper; first | (rw [if_pos (by decide +kernel)]; kernel_rfl) | (rw [if_neg (by decide +kernel)]; exact ⟨rfl, rfl⟩)
theorem over : Rows.fnExactIsValidFillRow.holds Try.pinned (OpenSpec.ofChange Rows.fnExactIsValidFillSpec) :=
  OpenClaim.holds_of_wide 9 Try.f9 rfl rfl rfl rfl rfl rfl rfl ⟨rfl, rfl, rfl, rfl, rfl⟩ rfl rfl rfl rfl rfl fact_fn Try.func9 facts fact_inst fact_wrap
    (fun os started H enc _ => lifted os started H enc)
theorem proved : Rows.FnExactIsValidFillSaid := over
#print axioms proved
end Go.Proofs.Ytfhdnanbhigpmaa.lawIv
