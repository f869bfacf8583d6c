/- FnExactFinishedTable: for all arguments, both packages give one answer, the arguments stay, and what the program returns is its own. No conditions. -/
import Derived.Test.YtfhdnanbhigpmaaGreatFs
import Derived.Test.YtfhdnanbhigpmaaGreatJk
import Derived.Deep.RegionHeld3
namespace Go.Proofs.YtfhdnanbhigpmaaGreat.lawFt
open Go.RowKit Go.ChangeShapes Go.WideShapes Go.ChangeAt
theorem mrkBelow {w w' : World} {A1 A2 A3 : Option Addr} {t : Tb} {k : Int} (h : MrkAt w A1 A2 A3 t k) (hb : Below w.heap.size w w') : MrkAt w' A1 A2 A3 t k := ⟨h.1.below hb, h.2.1.below hb, h.2.2.below hb⟩
theorem keepS {w2 w5 : World} {g g' X : Nat} {a b c d e f h i j : Value} {T T' : TypeId} (T5 : Below w2.heap.size w2 w5) (R2 : w2.heap[g]? = some (.cells #[a, b, c] T (0, 0))) (Q2 : w2.heap[g']? = some (.cells #[d, e, f, h, i, j] T' (0, 0))) (hX : w2.heap.size ≤ X) (x y z : Value) :
    (((w5.setCell ⟨X, 0, none⟩ x).setCell ⟨X, 1, none⟩ y).setCell ⟨X, 2, none⟩ z).cell? ⟨g, 0, none⟩ = some a ∧ (((w5.setCell ⟨X, 0, none⟩ x).setCell ⟨X, 1, none⟩ y).setCell ⟨X, 2, none⟩ z).cell? ⟨g, 1, none⟩ = some b ∧ (((w5.setCell ⟨X, 0, none⟩ x).setCell ⟨X, 1, none⟩ y).setCell ⟨X, 2, none⟩ z).cell? ⟨g, 2, none⟩ = some c ∧ (((w5.setCell ⟨X, 0, none⟩ x).setCell ⟨X, 1, none⟩ y).setCell ⟨X, 2, none⟩ z).cell? ⟨g', 0, none⟩ = some d ∧ (((w5.setCell ⟨X, 0, none⟩ x).setCell ⟨X, 1, none⟩ y).setCell ⟨X, 2, none⟩ z).cell? ⟨g', 1, none⟩ = some e ∧ (((w5.setCell ⟨X, 0, none⟩ x).setCell ⟨X, 1, none⟩ y).setCell ⟨X, 2, none⟩ z).cell? ⟨g', 2, none⟩ = some f ∧ (((w5.setCell ⟨X, 0, none⟩ x).setCell ⟨X, 1, none⟩ y).setCell ⟨X, 2, none⟩ z).cell? ⟨g', 3, none⟩ = some h ∧ (((w5.setCell ⟨X, 0, none⟩ x).setCell ⟨X, 1, none⟩ y).setCell ⟨X, 2, none⟩ z).cell? ⟨g', 4, none⟩ = some i ∧ (((w5.setCell ⟨X, 0, none⟩ x).setCell ⟨X, 1, none⟩ y).setCell ⟨X, 2, none⟩ z).cell? ⟨g', 5, none⟩ = some j := by
  have h1 := row_lt R2
  have h2 := row_lt Q2
  have hg := row3S_grown w5 X x y z
  obtain ⟨q0, q1, q2, -, -⟩ := row3 (rowR hg (rowB T5 R2) (fun e => by injection e with e; omega))
  obtain ⟨v0, v1, v2, v3, v4, v5, -, -⟩ := row6 (rowR hg (rowB T5 Q2) (fun e => by injection e with e; omega))
  exact ⟨q0, q1, q2, v0, v1, v2, v3, v4, v5⟩
theorem oneMore (w : World) (o : Obj) : w.heap.size < (w.alloc o).heap.size := by simp
set_option maxRecDepth 100000 in
set_option maxHeartbeats 8000000 in
theorem walk (g0 : PA) (g1 : JA) (w : World) (i0 : g0.Ok w) (i1 : g1.Ok w) :
    Calls Tryz.prog 3 #[g0.val, g1.val] w fun e w' => e = .returned (.bool true) ∧ Below w.heap.size w w' := by
  obtain ⟨A, c, p⟩ := g0
  obtain ⟨a1, a2, a3, a4⟩ := i0
  obtain ⟨D1, k1, D2, k2, D3, k3, t, nx, lg, sy⟩ := g1
  obtain ⟨j1, j2, j3, m1, m2, m3, m4, m5, m6, m7⟩ := i1
  unfold PA.val JA.val
  dsimp only at *
  have HA := Lib.hid a1
  have J1 := Lib.hid j1
  have J2 := Lib.hid j2
  have J3 := Lib.hid j3
  have A4 := Lib.hid a4
  have M3 := Lib.hid m3
  have M6 := Lib.hid m6
  have HSZ : Hid (∀ wx (l : Int), LAt wx D2 t.pats → 0 ≤ l → l ≤ 1048576 → Calls Tryz.prog 5 #[.agg #[.slice D1 t.trk.length k1, .slice D2 t.pats.length k2, .slice D3 t.dist.length k3, .int .i64 nx, .string lg, .int .i64 sy], .int .i64 l] wx (SzJb t lg wx)) := fun wx l q1 q2 q3 => szJob D1 D2 D3 k1 k2 k3 t nx lg sy l wx q1 m1 m2 m3 m4 m5 q2 q3
  clear a1 a4 j1 j2 j3 m3 m6
  obtain ⟨n1, hn1⟩ : ∃ n1, t.trk.length = n1 := ⟨_, rfl⟩
  obtain ⟨n2, hn2⟩ : ∃ n2, t.pats.length = n2 := ⟨_, rfl⟩
  obtain ⟨n3, hn3⟩ : ∃ n3, t.dist.length = n3 := ⟨_, rfl⟩
  rw [hn1, hn2, hn3] at HSZ ⊢
  have HN1 := Lib.hid hn1
  have HN2 := Lib.hid hn2
  have HN3 := Lib.hid hn3
  clear hn1 hn2 hn3 m1 m2 m4 m7
  obtain ⟨w0, hw0⟩ : ∃ w0, (w.alloc (.cells #[.int .i64 p.pts, .string p.names, .slice A p.moves.length c] 24)).alloc (.cells #[.slice D1 n1 k1, .slice D2 n2 k2, .slice D3 n3 k3, .int .i64 nx, .string lg, .int .i64 sy] 29) = w0 := ⟨_, rfl⟩
  have hb0 : Below w.heap.size w w0 := by rw [← hw0]; exact (by repeat (first | exact Below.refl _ _ | assumption | refine Below.setCell ?_ (by first | omega | (simp <;> omega)) _ | refine Below.alloc ?_ (by first | omega | (simp <;> omega)) _ | refine Below.drew ?_))
  have R0 : Hid (w0.heap[w.heap.size]? = some (.cells #[.int .i64 p.pts, .string p.names, .slice A p.moves.length c] 24 (0, 0))) := by rw [← hw0]; exact alloc2_0 _ _ _
  have Q0 : Hid (w0.heap[w.heap.size + 1]? = some (.cells #[.slice D1 n1 k1, .slice D2 n2 k2, .slice D3 n3 k3, .int .i64 nx, .string lg, .int .i64 sy] 29 (0, 0))) := by rw [← hw0]; exact alloc2_1 _ _ _
  obtain ⟨h0, h1, h2, -, hl0⟩ := row3 R0.out
  have HB0 := Lib.hid hb0
  clear hb0
  go_enter Tryz.func3, Tryz.ntmps3
  go_wp2_with fail
  refine (szPz A c p 1048576 w0 (HA.out.below HB0.out) a2 a3 A4.out (by decide) (by decide)).mono ?_
  rintro e w1 ⟨q, rfl, hq1, hq2, hb1⟩
  have hB1 := belowStep hb1 HB0.out
  have r1 := rowB hb1 R0.out
  have s1 := rowB hb1 Q0.out
  clear hw0 h0 h1 h2 hl0 hb1
  by_cases hq : q < 0
  · go_wp2_with fail
    go_ret
    exact ⟨rfl, hB1⟩
  obtain ⟨hnm, hml, hsh⟩ := hq1 (by omega)
  have hq3 := hq2 (by omega)
  have HSH := Lib.hid hsh
  have HB1 := Lib.hid hB1
  have R1 := Lib.hid r1
  have Q1 := Lib.hid s1
  clear hq1 hq2 hsh hB1 r1 s1 R0 Q0 HB0
  obtain ⟨g0, g1, g2, g3, g4, g5, -, gl⟩ := row6 Q1.out
  go_wp2_with fail
  refine (HSZ.out w1 q (J2.out.below HB1.out) (by omega) hq3).mono ?_
  rintro e w2 ⟨q2, rfl, hs, hb2⟩
  have hB2 := belowStep hb2 HB1.out
  have r2 := rowB hb2 R1.out
  have s2 := rowB hb2 Q1.out
  clear g0 g1 g2 g3 g4 g5 gl hb2
  by_cases hqq : q2 < 0
  · go_wp2_with fail
    go_ret
    exact ⟨rfl, hB2⟩
  obtain ⟨hst, hlg⟩ := hs (by omega)
  have HST := Lib.hid hst
  have HB2 := Lib.hid hB2
  have R2 := Lib.hid r2
  have Q2 := Lib.hid s2
  clear hs hst hB2 r2 s2 R1 Q1 HB1 HSZ
  obtain ⟨u, hu⟩ : ∃ u, finT p t nx lg sy = u := ⟨_, rfl⟩
  obtain ⟨b, hb⟩ : ∃ b, finB p t nx lg sy = b := ⟨_, rfl⟩
  have HSU : Hid (ShortT u) := by unfold Hid; rw [← hu]; exact finT_short HST.out
  have hu255 : u.trk.length ≤ 255 := by rw [← hu]; exact finT_trk
  obtain ⟨l1, hl1⟩ : ∃ l1, u.trk.length = l1 := ⟨_, rfl⟩
  obtain ⟨l2, hl2⟩ : ∃ l2, u.pats.length = l2 := ⟨_, rfl⟩
  obtain ⟨l3, hl3⟩ : ∃ l3, u.dist.length = l3 := ⟨_, rfl⟩
  have HSF : Hid (∀ wx g B1 d1 B2 d2 B3 d3, LAt wx (some ⟨g, 0, none⟩) p.moves → IntsAt wx B1 t.trk → LAt wx B2 t.pats → IntsAt wx B3 t.dist → Calls Tryz.prog 6 #[.agg #[.int .i64 p.pts, .string p.names, .slice (some ⟨g, 0, none⟩) p.moves.length p.moves.length], .agg #[.slice B1 n1 d1, .slice B2 n2 d2, .slice B3 n3 d3, .int .i64 nx, .string lg, .int .i64 sy]] wx fun e w' => ∃ S1 s1 S2 s2 S3 s3, e = .returned (.tuple #[.agg #[.slice S1 l1 s1, .slice S2 l2 s2, .slice S3 l3 s3], .bool b]) ∧ IntsAt w' S1 u.trk ∧ LAt w' S2 u.pats ∧ IntsAt w' S3 u.dist ∧ Keeps wx.heap.size S1 S2 S3 u w' ∧ Below wx.heap.size wx w') := fun wx g B1 d1 B2 d2 B3 d3 q1 q2 q3 q4 => by
    have := specFinJ (some ⟨g, 0, none⟩) p.moves.length p B1 B2 B3 d1 d2 d3 t nx lg sy wx ⟨q1, hml, HSH.out, hnm⟩ q2 q3 q4 HST.out M6.out hlg
    unfold jobV at this
    rwa [HN1.out, HN2.out, HN3.out, hu, hb, hl1, hl2, hl3] at this
  have HIF : Hid (∀ wx g B1 d1 B2 d2 B3 d3, LAt wx (some ⟨g, 0, none⟩) p.moves → IntsAt wx B1 t.trk → LAt wx B2 t.pats → IntsAt wx B3 t.dist → Calls Tryz.prog 9 #[.agg #[.int .i64 p.pts, .string p.names, .slice (some ⟨g, 0, none⟩) p.moves.length p.moves.length], .agg #[.slice B1 n1 d1, .slice B2 n2 d2, .slice B3 n3 d3, .int .i64 nx, .string lg, .int .i64 sy]] wx fun e w' => ∃ S1 s1 S2 s2 S3 s3, e = .returned (.tuple #[.agg #[.slice S1 l1 s1, .slice S2 l2 s2, .slice S3 l3 s3], .bool b]) ∧ FTo wx.heap.size w' S1 s1 S2 S3 s3 u ∧ Below wx.heap.size wx w') := fun wx g B1 d1 B2 d2 B3 d3 q1 q2 q3 q4 => by
    have := implFinJ (some ⟨g, 0, none⟩) p.moves.length p B1 B2 B3 d1 d2 d3 t nx lg sy wx ⟨q1, hml, HSH.out, hnm⟩ q2 q3 q4 HST.out M6.out hlg
    unfold jobV at this
    rwa [HN1.out, HN2.out, HN3.out, hu, hb, hl1, hl2, hl3] at this
  have HIF2 : Hid (∀ wx g B1 d1 B2 d2 B3 d3, LAt wx (some ⟨g, 0, none⟩) p.moves → IntsAt wx B1 t.trk → LAt wx B2 t.pats → IntsAt wx B3 t.dist → Calls Tryz.prog 9 #[.agg #[.int .i64 p.pts, .string p.names, .slice (some ⟨g, 0, none⟩) p.moves.length p.moves.length], .agg #[.slice B1 n1 d1, .slice B2 n2 d2, .slice B3 n3 d3, .int .i64 nx, .string lg, .int .i64 sy]] wx fun e w' => ∃ S1 s1 S2 s2 S3 s3, e = .returned (.tuple #[.agg #[.slice S1 l1 s1, .slice S2 l2 s2, .slice S3 l3 s3], .bool b]) ∧ IntsAt w' S1 u.trk ∧ LAt w' S2 u.pats ∧ IntsAt w' S3 u.dist ∧ Keeps wx.heap.size S1 S2 S3 u w' ∧ Below wx.heap.size wx w') := fun wx g B1 d1 B2 d2 B3 d3 q1 q2 q3 q4 => by
    refine (HIF.out wx g B1 d1 B2 d2 B3 d3 q1 q2 q3 q4).mono ?_
    rintro e w' ⟨S1, s1, S2, s2, S3, s3, rfl, hF, hb⟩
    exact ⟨S1, s1, S2, s2, S3, s3, rfl, hF.at1, hF.at2, hF.at3, Keeps.own hF, hb⟩
  have HTJ : Hid (∀ wx, Below w.heap.size w wx → Calls Tryz.prog 8 #[.agg #[.slice D1 n1 k1, .slice D2 n2 k2, .slice D3 n3 k3, .int .i64 nx, .string lg, .int .i64 sy]] wx fun e w' => ∃ B1 d1 B2 d2 B3 d3, e = .returned (.agg #[.slice B1 n1 d1, .slice B2 n2 d2, .slice B3 n3 d3, .int .i64 nx, .string lg, .int .i64 sy]) ∧ FTo wx.heap.size w' B1 d1 B2 B3 d3 t ∧ Below wx.heap.size wx w') := fun wx hb => by
    have := toJobG D1 D2 D3 k1 k2 k3 t nx lg sy wx (J1.out.below hb) (J2.out.below hb) (J3.out.below hb) HST.out
    unfold jobV at this
    rwa [HN1.out, HN2.out, HN3.out] at this
  have HEJ : Hid (∀ wx B1 d1 B2 d2 B3 d3 C1 e1 C2 e2 C3 e3, IntsAt wx B1 t.trk → LAt wx B2 t.pats → IntsAt wx B3 t.dist → IntsAt wx C1 t.trk → LAt wx C2 t.pats → IntsAt wx C3 t.dist → Calls Tryz.prog 12 #[.agg #[.slice B1 n1 d1, .slice B2 n2 d2, .slice B3 n3 d3, .int .i64 nx, .string lg, .int .i64 sy], .agg #[.slice C1 n1 e1, .slice C2 n2 e2, .slice C3 n3 e3, .int .i64 nx, .string lg, .int .i64 sy]] wx (ReadsBool true wx)) := fun wx B1 d1 B2 d2 B3 d3 C1 e1 C2 e2 C3 e3 q1 q2 q3 q4 q5 q6 => by
    have := eqJob B1 B2 B3 C1 C2 C3 d1 d2 d3 e1 e2 e3 t nx lg sy wx q1 q2 q3 q4 q5 q6 HST.out
    unfold jobV at this
    rwa [HN1.out, HN2.out, HN3.out] at this
  have HTP : Hid (∀ wx, Below w.heap.size w wx → Calls Tryz.prog 7 #[.agg #[.int .i64 p.pts, .string p.names, .slice A p.moves.length c]] wx fun e w' => ∃ g, e = .returned (.agg #[.int .i64 p.pts, .string p.names, .slice (some ⟨g, 0, none⟩) p.moves.length p.moves.length]) ∧ FLs wx.heap.size w'.heap.size w' (.slice (some ⟨g, 0, none⟩) p.moves.length p.moves.length) p.moves ∧ Below wx.heap.size wx w') := fun wx hb => toPz A c p wx (HA.out.below hb) hml HSH.out
  have HEP : Hid (∀ wx g h, LAt wx (some ⟨g, 0, none⟩) p.moves → LAt wx (some ⟨h, 0, none⟩) p.moves → Calls Tryz.prog 11 #[.agg #[.int .i64 p.pts, .string p.names, .slice (some ⟨g, 0, none⟩) p.moves.length p.moves.length], .agg #[.int .i64 p.pts, .string p.names, .slice (some ⟨h, 0, none⟩) p.moves.length p.moves.length]] wx (ReadsBool true wx)) := fun wx g h q1 q2 => eqPz _ _ _ _ p wx q1 q2 hml HSH.out
  have HET : Hid (∀ wx B1 d1 B2 d2 B3 d3 C1 e1 C2 e2 C3 e3, IntsAt wx B1 u.trk → LAt wx B2 u.pats → IntsAt wx B3 u.dist → IntsAt wx C1 u.trk → LAt wx C2 u.pats → IntsAt wx C3 u.dist → Calls Tryz.prog 10 #[.agg #[.slice B1 l1 d1, .slice B2 l2 d2, .slice B3 l3 d3], .agg #[.slice C1 l1 e1, .slice C2 l2 e2, .slice C3 l3 e3]] wx (ReadsBool true wx)) := fun wx B1 d1 B2 d2 B3 d3 C1 e1 C2 e2 C3 e3 q1 q2 q3 q4 q5 q6 => by
    have := eqTab B1 B2 B3 C1 C2 C3 d1 d2 d3 e1 e2 e3 u wx q1 q2 q3 q4 q5 q6 HSU.out
    rwa [hl1, hl2, hl3] at this
  have hstu := HSU.out
  have htotu := totTo_le hstu.rows u.pats.length (Nat.le_refl _)
  have htott := totTo_le HST.out.rows t.pats.length (Nat.le_refl _)
  have hu1 := hstu.pats
  have hu3 := hstu.dist
  have ht1 := HST.out.trk
  have ht2 := HST.out.pats
  have ht3 := HST.out.dist
  obtain ⟨m0, hm0⟩ : ∃ m0 : Int, (1 : Int) + u.trk.length + totTo u.pats u.pats.length + u.dist.length = m0 := ⟨_, rfl⟩
  have hm1 : ¬ m0 < 0 := by omega
  have HMT : Hid (∀ lo wx wq S1 s1 S2 s2 S3 s3 V, FTg lo wq S1 s1 S2 S3 s3 u V → FTg lo wx S1 s1 S2 S3 s3 u V → Calls Tryz.prog 15 #[.agg #[.slice S1 l1 s1, .slice S2 l2 s2, .slice S3 l3 s3], .int .i64 1] wx fun e w' => e = .returned (.int .i64 m0) ∧ MrkAt w' S1 S2 S3 u 1 ∧ OnlyIn lo wq.heap.size wx w') := fun lo wx wq S1 s1 S2 s2 S3 s3 V q1 q2 => by
    have := markThB lo S1 S2 S3 s1 s2 s3 u V 1 wx wq q1 q2 HSU.out (by decide) (by omega)
    rwa [hm0, hl1, hl2, hl3] at this
  have HHT : Hid (∀ wx S1 s1 S2 s2 S3 s3, MrkAt wx S1 S2 S3 u 1 → Calls Tryz.prog 16 #[.agg #[.slice S1 l1 s1, .slice S2 l2 s2, .slice S3 l3 s3], .int .i64 1] wx fun e w' => e = .returned (.int .i64 m0) ∧ Below wx.heap.size wx w') := fun wx S1 s1 S2 s2 S3 s3 q1 => by
    have := heldTab S1 S2 S3 s1 s2 s3 u 1 wx q1 HSU.out (by decide) (by omega)
    rwa [hm0, hl1, hl2, hl3] at this
  have hp0 := totTo_le HSH.out p.moves.length (Nat.le_refl _)
  obtain ⟨tp, htp⟩ : ∃ tp : Nat, totTo p.moves p.moves.length = tp := ⟨_, rfl⟩
  rw [htp] at hp0
  obtain ⟨m1, hm2⟩ : ∃ m1 : Int, (1 : Int) + (tp : Int) + t.trk.length + totTo t.pats t.pats.length + t.dist.length = m1 := ⟨_, rfl⟩
  have hm3 : ¬ m1 < 0 := by omega
  have HMP : Hid (∀ lo hi wx g, FLs lo hi wx (.slice (some ⟨g, 0, none⟩) p.moves.length p.moves.length) p.moves → Calls Tryz.prog 13 #[.agg #[.int .i64 p.pts, .string p.names, .slice (some ⟨g, 0, none⟩) p.moves.length p.moves.length], .int .i64 1] wx fun e w' => e = .returned (.int .i64 (1 + (tp : Int))) ∧ OnlyIn lo hi wx w') := fun lo hi wx g q => by
    have := markPz lo hi (some ⟨g, 0, none⟩) p.moves.length p 1 wx q hml HSH.out (by decide) (by decide)
    rwa [htp] at this
  have HMJ : Hid (∀ lo wx wq S1 s1 S2 s2 S3 s3 V, FTg lo wq S1 s1 S2 S3 s3 t V → FTg lo wx S1 s1 S2 S3 s3 t V → Calls Tryz.prog 14 #[.agg #[.slice S1 n1 s1, .slice S2 n2 s2, .slice S3 n3 s3, .int .i64 nx, .string lg, .int .i64 sy], .int .i64 (1 + (tp : Int))] wx fun e w' => e = .returned (.int .i64 m1) ∧ OnlyIn lo wq.heap.size wx w') := fun lo wx wq S1 s1 S2 s2 S3 s3 V q1 q2 => by
    have := markJhB lo S1 S2 S3 s1 s2 s3 t V nx lg sy (1 + (tp : Int)) wx wq q1 q2 HST.out (by omega) (by omega)
    rw [hm2] at this
    unfold jobV at this
    rw [HN1.out, HN2.out, HN3.out] at this
    refine this.mono ?_
    rintro e w' ⟨q1, -, q3⟩
    exact ⟨q1, q3⟩
  have hbb : (b != b) = false := by simp
  obtain ⟨np, hnp⟩ : ∃ np, p.moves.length = np := ⟨_, rfl⟩
  rw [hnp] at HSF HIF HIF2 HTP HEP HMP R2
  rw [hnp]
  have HNP := Lib.hid hnp
  clear hu hb hl1 hl2 hl3 hnp hml hnm hlg hstu htotu htott hu1 hu3 ht1 ht2 ht3 hm0 hm2 htp hp0 hu255
  obtain ⟨g0, g1, g2, g3, g4, g5, -, gl⟩ := row6 Q2.out
  obtain ⟨h0, h1, h2, -, hl0⟩ := row3 R2.out
  go_wp2_with fail
  go_upto_region 8 with fail
  go_cut [6, 7] from 17 to 118 (fun x y wx => ∃ (X : Nat) (S1 : Option Addr) (s1 : Nat) (S2 : Option Addr) (s2 : Nat) (S3 : Option Addr) (s3 : Nat), x = .pointer (some ⟨X, 0, none⟩) ∧ y = .bool b ∧ wx.heap[X]? = some (.cells #[.slice S1 l1 s1, .slice S2 l2 s2, .slice S3 l3 s3] 32 (0, 0)) ∧ IntsAt wx S1 u.trk ∧ LAt wx S2 u.pats ∧ IntsAt wx S3 u.dist ∧ Below w2.heap.size w2 wx)
  case first =>
    go_region_held3 (fun w' => w'.cell? ⟨w.heap.size, 0, none⟩ = some (.int .i64 p.pts) ∧ w'.cell? ⟨w.heap.size, 1, none⟩ = some (.string p.names) ∧ w'.cell? ⟨w.heap.size, 2, none⟩ = some (.slice A np c) ∧ w'.cell? ⟨w.heap.size + 1, 0, none⟩ = some (.slice D1 n1 k1) ∧ w'.cell? ⟨w.heap.size + 1, 1, none⟩ = some (.slice D2 n2 k2) ∧ w'.cell? ⟨w.heap.size + 1, 2, none⟩ = some (.slice D3 n3 k3) ∧ w'.cell? ⟨w.heap.size + 1, 3, none⟩ = some (.int .i64 nx) ∧ w'.cell? ⟨w.heap.size + 1, 4, none⟩ = some (.string lg) ∧ w'.cell? ⟨w.heap.size + 1, 5, none⟩ = some (.int .i64 sy)) (first | go_keep | exact keepS T5 R2.out Q2.out (by (first | exact Nat.le_refl _ | exact T3.size | exact T4.size)) _ _ _ | exact ⟨p30, p31, p32, v30, v31, v32, v33, v34, v35⟩ | exact ⟨p40, p41, p42, v40, v41, v42, v43, v44, v45⟩ | exact ⟨p50, p51, p52, v50, v51, v52, v53, v54, v55⟩) (first
      | (go_at_call 7; refine (HTP.out _ (by (first | exact HB2.out.drew | exact (HB2.out.alloc HB2.out.size _).drew))).mono ?_; rintro e x3 ⟨a3, rfl, hL3, hb3⟩; have T3 : Below w2.heap.size w2 x3 := belowStep hb3 (by (first | exact (Below.refl _ _).drew | exact ((Below.refl _ _).alloc (Nat.le_refl _) _).drew)); (try (have RZ : x3.heap[w2.heap.size]? = some (.cells #[.slice none 0 0, .slice none 0 0, .slice none 0 0] 32 (0, 0)) := rowB hb3 (by exact heap_alloc_new w2 _))); obtain ⟨p30, p31, p32, -, -⟩ := row3 (rowB T3 R2.out); obtain ⟨v30, v31, v32, v33, v34, v35, -, -⟩ := row6 (rowB T3 Q2.out))
      | (go_at_call 8; refine (HTJ.out _ (by (first | exact belowStep T3 HB2.out | exact (belowStep T3 HB2.out).alloc (belowStep T3 HB2.out).size _))).mono ?_; rintro e x4 ⟨E1, e1, E2, e2, E3, e3, rfl, hE, hb4⟩; have T34 : Below x3.heap.size x3 x4 := belowStep hb4 (by (first | exact Below.refl _ _ | exact (Below.refl _ _).alloc (Nat.le_refl _) _)); have T4 : Below w2.heap.size w2 x4 := belowStep T34 T3; (try (replace RZ := rowB T34 RZ)); (try (have RZ : x4.heap[x3.heap.size]? = some (.cells #[.slice none 0 0, .slice none 0 0, .slice none 0 0] 32 (0, 0)) := rowB hb4 (by exact heap_alloc_new x3 _))); (try (have ZL := row_lt RZ)); obtain ⟨p40, p41, p42, -, -⟩ := row3 (rowB T4 R2.out); obtain ⟨v40, v41, v42, v43, v44, v45, -, -⟩ := row6 (rowB T4 Q2.out))
      | (go_at_call 6; refine (HSF.out _ _ _ _ _ _ _ _ (by (first | exact hL3.lat.below T34 | exact (hL3.lat.below T34).below ((Below.refl _ _).alloc (Nat.le_refl _) _))) (by (first | exact hE.at1 | exact hE.at1.below ((Below.refl _ _).alloc (Nat.le_refl _) _))) (by (first | exact hE.at2 | exact hE.at2.below ((Below.refl _ _).alloc (Nat.le_refl _) _))) (by (first | exact hE.at3 | exact hE.at3.below ((Below.refl _ _).alloc (Nat.le_refl _) _)))).mono ?_; rintro e x5 ⟨S1, s1, S2, s2, S3, s3, rfl, hs1, hs2, hs3, hkp, hb5⟩; have T45 : Below x4.heap.size x4 x5 := belowStep hb5 (by (first | exact Below.refl _ _ | exact (Below.refl _ _).alloc (Nat.le_refl _) _)); have T5 : Below w2.heap.size w2 x5 := belowStep T45 T4; (try (replace RZ := rowB T45 RZ)); (try (have RZ : x5.heap[x4.heap.size]? = some (.cells #[.slice none 0 0, .slice none 0 0, .slice none 0 0] 32 (0, 0)) := rowB hb5 (by exact heap_alloc_new x4 _))); (try (have RR := row3 RZ; obtain ⟨z0, z1, z2, zf, zl⟩ := RR; have HRZ := Lib.hid RZ; clear RZ)); obtain ⟨p50, p51, p52, -, -⟩ := row3 (rowB T5 R2.out); obtain ⟨v50, v51, v52, v53, v54, v55, -, -⟩ := row6 (rowB T5 Q2.out)))
    all_goals (go_wp2_with fail)
    all_goals
      go_meet
      first
        | exact ⟨x5.heap.size, S1, s1, S2, s2, S3, s3, rfl, rfl, heap_alloc_new _ _, hs1.below ((Below.refl _ _).alloc (Nat.le_refl _) _), hs2.below ((Below.refl _ _).alloc (Nat.le_refl _) _), hs3.below ((Below.refl _ _).alloc (Nat.le_refl _) _), T5.alloc T5.size _⟩
        | exact ⟨_, S1, s1, S2, s2, S3, s3, rfl, rfl, row3S HRZ.out _ _ _, (hkp _ _ (by (first | exact ZL | exact oneMore _ _)) (row3S_grown _ _ _ _ _)).1, (hkp _ _ (by (first | exact ZL | exact oneMore _ _)) (row3S_grown _ _ _ _ _)).2.1, (hkp _ _ (by (first | exact ZL | exact oneMore _ _)) (row3S_grown _ _ _ _ _)).2.2, T5.grown (row3S_grown _ _ _ _ _) T5.size (fun b e => by injection e with e; subst e; (first | exact Nat.le_refl _ | exact T3.size | exact T4.size))⟩
  case rest =>
  obtain ⟨X, S1, s1, S2, s2, S3, s3, rfl, rfl, hX, hs1, hs2, hs3, hbx⟩ := hcut
  obtain ⟨w5, h5⟩ : ∃ w5, wc = w5 := ⟨_, rfl⟩
  rw [h5] at hX hs1 hs2 hs3 hbx ⊢
  clear h5 g0 g1 g2 g3 g4 g5 gl h0 h1 h2 hl0
  have HB5 := Lib.hid (belowStep hbx HB2.out)
  have R5 := Lib.hid (rowB hbx R2.out)
  have Q5 := Lib.hid (rowB hbx Q2.out)
  have RX5 := Lib.hid hX
  have I1 := Lib.hid hs1
  have I2 := Lib.hid hs2
  have I3 := Lib.hid hs3
  have hXl := row_lt hX
  clear hX hs1 hs2 hs3 hbx R2 Q2 HB2 HSF
  obtain ⟨h0, h1, h2, -, hl0⟩ := row3 R5.out
  go_wp2_with fail
  refine (HTP.out w5 HB5.out).mono ?_
  rintro e w6 ⟨a6, rfl, hL6, hb6⟩
  obtain ⟨w7, hw7⟩ : ∃ w7, (w6.alloc (.cells #[.int .i64 p.pts, .string p.names, .slice (some ⟨a6, 0, none⟩) np np] 35)) = w7 := ⟨_, rfl⟩
  have hb7 : Below w6.heap.size w6 w7 := by rw [← hw7]; exact (by repeat (first | exact Below.refl _ _ | assumption | refine Below.setCell ?_ (by first | omega | (simp <;> omega)) _ | refine Below.alloc ?_ (by first | omega | (simp <;> omega)) _ | refine Below.drew ?_))
  have RP : Hid (w7.heap[w6.heap.size]? = some (.cells #[.int .i64 p.pts, .string p.names, .slice (some ⟨a6, 0, none⟩) np np] 35 (0, 0))) := by rw [← hw7]; exact heap_alloc_new _ _
  have HL7 := Lib.hid (hL6.below hb7)
  have HC7 := Lib.hid (belowStep hb7 hb6)
  have HW7 := Lib.hid hw7
  have RQ6 := rowB hb6 Q5.out
  have hzP := row_lt RP.out
  have hzc := hb6.size
  clear hw7 hL6 hb6 hb7 h0 h1 h2 hl0
  obtain ⟨g0, g1, g2, g3, g4, g5, -, gl⟩ := row6 RQ6
  clear RQ6
  go_wp2_with fail
  rw [HW7.out]
  obtain ⟨P, hP⟩ : ∃ P, w6.heap.size = P := ⟨_, rfl⟩
  rw [hP] at RP HL7 hzP hzc ⊢
  clear g0 g1 g2 g3 g4 g5 gl hP HW7
  refine (HTJ.out w7 (belowStep HC7.out HB5.out)).mono ?_
  rintro e w8 ⟨E1, e1, E2, e2, E3, e3, rfl, ⟨VJ, hE, hAJ⟩, hb8⟩
  have HEQ8 := Lib.hid hE
  have HAJ := Lib.hid hAJ
  obtain ⟨w9, hw9⟩ : ∃ w9, (w8.alloc (.cells #[.slice E1 n1 e1, .slice E2 n2 e2, .slice E3 n3 e3, .int .i64 nx, .string lg, .int .i64 sy] 38)) = w9 := ⟨_, rfl⟩
  have hb9 : Below w8.heap.size w8 w9 := by rw [← hw9]; exact (by repeat (first | exact Below.refl _ _ | assumption | refine Below.setCell ?_ (by first | omega | (simp <;> omega)) _ | refine Below.alloc ?_ (by first | omega | (simp <;> omega)) _ | refine Below.drew ?_))
  have RJ : Hid (w9.heap[w8.heap.size]? = some (.cells #[.slice E1 n1 e1, .slice E2 n2 e2, .slice E3 n3 e3, .int .i64 nx, .string lg, .int .i64 sy] 38 (0, 0))) := by rw [← hw9]; exact heap_alloc_new _ _
  have hb79 := belowStep hb9 hb8
  have HL9 := Lib.hid (HL7.out.below hb79)
  have HE9 := Lib.hid (hE.below hb9)
  have HC9 := Lib.hid (belowStep hb79 HC7.out)
  have RP9 := Lib.hid (rowB hb79 RP.out)
  have RP8 := rowB hb8 RP.out
  have hPl := row_lt RP8
  have hPn : P ≠ w8.heap.size := by omega
  have hz8 := hb8.size
  have hz9 := row_lt RJ.out
  have HW9 := Lib.hid hw9
  obtain ⟨x0, x1, x2, -, xl⟩ := row3 RP8
  clear RP8 hw9 hb8 hb9 hb79 hE hAJ HL7 HC7 RP
  go_wp2_with fail
  rw [HW9.out]
  obtain ⟨J, hJ⟩ : ∃ J, w8.heap.size = J := ⟨_, rfl⟩
  have HJE := Lib.hid hJ
  rw [hJ] at RJ hz8 hz9 ⊢
  clear x0 x1 x2 xl hPl hPn hJ HW9
  refine (HIF.out w9 a6 E1 e1 E2 e2 E3 e3 HL9.out.lat (FTo.at1 ⟨_, HE9.out, HAJ.out⟩) (FTo.at2 ⟨_, HE9.out, HAJ.out⟩) (FTo.at3 ⟨_, HE9.out, HAJ.out⟩)).mono ?_
  rintro e w10 ⟨G1, d1, G2, d2, G3, d3, rfl, ⟨V, hG, hAV⟩, hb10⟩
  have HGQ := Lib.hid hG
  have HAV := Lib.hid hAV
  obtain ⟨w11, hw11⟩ : ∃ w11, (w10.alloc (.cells #[.slice G1 l1 d1, .slice G2 l2 d2, .slice G3 l3 d3] 32)) = w11 := ⟨_, rfl⟩
  have hb11 : Below w10.heap.size w10 w11 := by rw [← hw11]; exact (by repeat (first | exact Below.refl _ _ | assumption | refine Below.setCell ?_ (by first | omega | (simp <;> omega)) _ | refine Below.alloc ?_ (by first | omega | (simp <;> omega)) _ | refine Below.drew ?_))
  have RY : Hid (w11.heap[w10.heap.size]? = some (.cells #[.slice G1 l1 d1, .slice G2 l2 d2, .slice G3 l3 d3] 32 (0, 0))) := by rw [← hw11]; exact heap_alloc_new _ _
  have hb911 := belowStep hb11 hb10
  have HL11 := Lib.hid (HL9.out.below hb911)
  have HE11 := Lib.hid (HE9.out.below hb911)
  have HG11 := Lib.hid (hG.below hb11)
  have HC10 := belowStep hb10 HC9.out
  have HC11 := Lib.hid (belowStep hb911 HC9.out)
  have RP11 := Lib.hid (rowB hb911 RP9.out)
  have RJ11 := Lib.hid (rowB hb911 RJ.out)
  have hz10 := hb10.size
  have hz11 := row_lt RY.out
  have RX10 := rowB HC10 RX5.out
  have hXn : X ≠ w10.heap.size := by have := HC10.size; omega
  have HW11 := Lib.hid hw11
  obtain ⟨x0, x1, x2, -, xl⟩ := row3 RX10
  clear RX10 hw11 hb10 hb11 hb911 hG hAV HC10 HL9 HE9 HC9 RP9 RJ
  go_wp2_with fail
  rw [HW11.out]
  obtain ⟨Y, hY⟩ : ∃ Y, w10.heap.size = Y := ⟨_, rfl⟩
  have HYE := Lib.hid hY
  rw [hY] at RY hz10 hz11 ⊢
  clear x0 x1 x2 xl hXn hY HW11
  refine (HET.out w11 G1 d1 G2 d2 G3 d3 S1 s1 S2 s2 S3 s3 (FTo.at1 ⟨_, HG11.out, HAV.out⟩) (FTo.at2 ⟨_, HG11.out, HAV.out⟩) (FTo.at3 ⟨_, HG11.out, HAV.out⟩) (I1.out.below HC11.out) (I2.out.below HC11.out) (I3.out.below HC11.out)).mono ?_
  rintro e w12 ⟨rfl, hb12⟩
  have HL12 := Lib.hid (HL11.out.below hb12)
  have HE12 := Lib.hid (HE11.out.below hb12)
  have HG12 := Lib.hid (HG11.out.below hb12)
  have HC12 := Lib.hid (belowStep hb12 HC11.out)
  have RP12 := Lib.hid (rowB hb12 RP11.out)
  have RJ12 := Lib.hid (rowB hb12 RJ11.out)
  have RY12 := Lib.hid (rowB hb12 RY.out)
  have R12 := Lib.hid (rowB HC12.out R5.out)
  have HB12 := Lib.hid (belowStep HC12.out HB5.out)
  clear hb12 HL11 HE11 HG11 HC11 RP11 RJ11 RY
  obtain ⟨h0, h1, h2, -, hl0⟩ := row3 R12.out
  obtain ⟨x0, x1, x2, -, xl⟩ := row3 RP12.out
  go_wp2_with fail
  go_region_held3 (fun w' => w'.cell? ⟨w.heap.size, 0, none⟩ = some (.int .i64 p.pts) ∧ w'.cell? ⟨w.heap.size, 1, none⟩ = some (.string p.names) ∧ w'.cell? ⟨w.heap.size, 2, none⟩ = some (.slice A np c) ∧ w'.cell? ⟨P, 0, none⟩ = some (.int .i64 p.pts) ∧ w'.cell? ⟨P, 1, none⟩ = some (.string p.names) ∧ w'.cell? ⟨P, 2, none⟩ = some (.slice (some ⟨a6, 0, none⟩) np np)) (first | go_keep | exact ⟨p0, p1, p2, v0, v1, v2⟩ | exact ⟨y0, y1, y2, z0, z1, z2⟩) (first
    | (go_at_call 7; refine (HTP.out _ (by first | exact HB12.out.drew | exact HB12.out)).mono ?_; rintro e w13 ⟨a13, rfl, hL13, hb13⟩; have T13 : Below w12.heap.size w12 w13 := ⟨hb13.os, hb13.tape, hb13.output, hb13.size, hb13.block⟩; obtain ⟨p0, p1, p2, -, -⟩ := row3 (rowB T13 R12.out); obtain ⟨v0, v1, v2, -, -⟩ := row3 (rowB T13 RP12.out))
    | (go_at_call 11; refine (HEP.out _ _ _ (by exact (HL12.out.below T13).lat) (by exact hL13.lat)).mono ?_; rintro e w14 ⟨rfl, hb14⟩; have T14 : Below w12.heap.size w12 w14 := belowStep hb14 T13; obtain ⟨y0, y1, y2, -, -⟩ := row3 (rowB T14 R12.out); obtain ⟨z0, z1, z2, -, -⟩ := row3 (rowB T14 RP12.out)))
  have HC14 := Lib.hid (belowStep T14 HC12.out)
  have HB14 := Lib.hid (belowStep HC14.out HB5.out)
  have Q14 := Lib.hid (rowB HC14.out Q5.out)
  have HL14 := Lib.hid (HL12.out.below T14)
  have HE14 := Lib.hid (HE12.out.below T14)
  have HG14 := Lib.hid (HG12.out.below T14)
  have RP14 := Lib.hid (rowB T14 RP12.out)
  have RJ14 := Lib.hid (rowB T14 RJ12.out)
  have RY14 := Lib.hid (rowB T14 RY12.out)
  clear p0 p1 p2 v0 v1 v2 y0 y1 y2 z0 z1 z2 hL13 hb13 T13 hb14 T14 h0 h1 h2 hl0 x0 x1 x2 xl HL12 HE12 HG12 HC12 RP12 RJ12 RY12 R12 HB12
  obtain ⟨g0, g1, g2, g3, g4, g5, -, gl⟩ := row6 Q14.out
  obtain ⟨y0, y1, y2, y3, y4, y5, -, yl⟩ := row6 RJ14.out
  go_wp2_with fail
  go_region_held3 (fun w' => w'.cell? ⟨w.heap.size + 1, 0, none⟩ = some (.slice D1 n1 k1) ∧ w'.cell? ⟨w.heap.size + 1, 1, none⟩ = some (.slice D2 n2 k2) ∧ w'.cell? ⟨w.heap.size + 1, 2, none⟩ = some (.slice D3 n3 k3) ∧ w'.cell? ⟨w.heap.size + 1, 3, none⟩ = some (.int .i64 nx) ∧ w'.cell? ⟨w.heap.size + 1, 4, none⟩ = some (.string lg) ∧ w'.cell? ⟨w.heap.size + 1, 5, none⟩ = some (.int .i64 sy) ∧ w'.cell? ⟨J, 0, none⟩ = some (.slice E1 n1 e1) ∧ w'.cell? ⟨J, 1, none⟩ = some (.slice E2 n2 e2) ∧ w'.cell? ⟨J, 2, none⟩ = some (.slice E3 n3 e3) ∧ w'.cell? ⟨J, 3, none⟩ = some (.int .i64 nx) ∧ w'.cell? ⟨J, 4, none⟩ = some (.string lg) ∧ w'.cell? ⟨J, 5, none⟩ = some (.int .i64 sy)) (first | go_keep | exact ⟨v0, v1, v2, v3, v4, v5, z0, z1, z2, z3, z4, z5⟩ | exact ⟨r0, r1, r2, r3, r4, r5, t0, t1, t2, t3, t4, t5⟩) (first
    | (go_at_call 8; refine (HTJ.out _ (by first | exact HB14.out.drew | exact HB14.out)).mono ?_; rintro e w15 ⟨F1, f1, F2, f2, F3, f3, rfl, hF, hb15⟩; have T15 : Below w14.heap.size w14 w15 := ⟨hb15.os, hb15.tape, hb15.output, hb15.size, hb15.block⟩; obtain ⟨v0, v1, v2, v3, v4, v5, -, -⟩ := row6 (rowB T15 Q14.out); obtain ⟨z0, z1, z2, z3, z4, z5, -, -⟩ := row6 (rowB T15 RJ14.out))
    | (go_at_call 12; refine (HEJ.out _ _ _ _ _ _ _ _ _ _ _ _ _ (by exact FTo.at1 ⟨_, HE14.out.below T15, HAJ.out⟩) (by exact FTo.at2 ⟨_, HE14.out.below T15, HAJ.out⟩) (by exact FTo.at3 ⟨_, HE14.out.below T15, HAJ.out⟩) (by exact hF.at1) (by exact hF.at2) (by exact hF.at3)).mono ?_; rintro e w16 ⟨rfl, hb16⟩; have T16 : Below w14.heap.size w14 w16 := belowStep hb16 T15; obtain ⟨r0, r1, r2, r3, r4, r5, -, -⟩ := row6 (rowB T16 Q14.out); obtain ⟨t0, t1, t2, t3, t4, t5, -, -⟩ := row6 (rowB T16 RJ14.out)))
  have HC16 := Lib.hid (belowStep T16 HC14.out)
  have HL16 := Lib.hid (HL14.out.below T16)
  have HE16 := Lib.hid (HE14.out.below T16)
  have HG16 := Lib.hid (HG14.out.below T16)
  have RP16 := Lib.hid (rowB T16 RP14.out)
  have RJ16 := Lib.hid (rowB T16 RJ14.out)
  have RY16 := Lib.hid (rowB T16 RY14.out)
  clear v0 v1 v2 v3 v4 v5 z0 z1 z2 z3 z4 z5 r0 r1 r2 r3 r4 r5 t0 t1 t2 t3 t4 t5 hF hb15 T15 hb16 T16 g0 g1 g2 g3 g4 g5 gl y0 y1 y2 y3 y4 y5 yl HL14 HE14 HG14 HC14 RP14 RJ14 RY14 Q14 HB14
  obtain ⟨x0, x1, x2, -, -⟩ := row3 RP16.out
  go_wp2_with fail
  refine (HMP.out w5.heap.size P w16 a6 HL16.out).mono ?_
  rintro e w17 ⟨rfl, ho17⟩
  have HC17 := Lib.hid (ho17.below HC16.out (Nat.le_refl _) HC16.out.size)
  have HE17 := Lib.hid (HE16.out.only HAJ.out ho17 (by omega))
  have HG17 := Lib.hid (HG16.out.only HAV.out ho17 (by omega))
  have RJ17 := Lib.hid (ho17.row (by omega) RJ16.out)
  have RY17 := Lib.hid (ho17.row (by omega) RY16.out)
  clear ho17 x0 x1 x2 HC16 HL16 HE16 HG16 RP16 RJ16 RY16
  obtain ⟨y0, y1, y2, y3, y4, y5, -, -⟩ := row6 RJ17.out
  go_wp2_with fail
  refine (HMJ.out w7.heap.size w17 w8 E1 e1 E2 e2 E3 e3 VJ HEQ8.out HE17.out).mono ?_
  rintro e w18 ⟨rfl, ho18⟩
  have HC18 := Lib.hid (ho18.below (HC17.out.mono (Nat.le_refl _)) (by omega) HC17.out.size)
  have HG18 := Lib.hid (HG17.out.only HAV.out ho18 (by have := HJE.out; omega))
  have RY18 := Lib.hid (ho18.row (by have := HJE.out; omega) RY17.out)
  clear ho18 y0 y1 y2 y3 y4 y5 HC17 HE17 HG17 RJ17 RY17
  obtain ⟨x0, x1, x2, -, -⟩ := row3 (rowB HC18.out RX5.out)
  obtain ⟨y0, y1, y2, -, -⟩ := row3 RY18.out
  go_wp2_with fail
  refine (HET.out w18 G1 d1 G2 d2 G3 d3 S1 s1 S2 s2 S3 s3 (FTo.at1 ⟨_, HG18.out, HAV.out⟩) (FTo.at2 ⟨_, HG18.out, HAV.out⟩) (FTo.at3 ⟨_, HG18.out, HAV.out⟩) (I1.out.below HC18.out) (I2.out.below HC18.out) (I3.out.below HC18.out)).mono ?_
  rintro e w19 ⟨rfl, hb19⟩
  have HC19 := Lib.hid (belowStep hb19 HC18.out)
  have HG19 := Lib.hid (HG18.out.below hb19)
  have RY19 := Lib.hid (rowB hb19 RY18.out)
  clear hb19 x0 x1 x2 y0 y1 y2 HC18 HG18 RY18
  obtain ⟨y0, y1, y2, -, -⟩ := row3 RY19.out
  go_wp2_with fail
  refine (HMT.out w9.heap.size w19 w10 G1 d1 G2 d2 G3 d3 V HGQ.out HG19.out).mono ?_
  rintro e w20 ⟨rfl, hM20, ho20⟩
  have HC20 := Lib.hid (ho20.below HC19.out (by omega) HC19.out.size)
  have RY20 := Lib.hid (ho20.row (by have := HYE.out; omega) RY19.out)
  have HM20 := Lib.hid hM20
  clear hM20 ho20 y0 y1 y2 HC19 HG19 RY19
  obtain ⟨y0, y1, y2, -, -⟩ := row3 RY20.out
  go_wp2_with fail
  refine (HHT.out w20 G1 d1 G2 d2 G3 d3 HM20.out).mono ?_
  rintro e w21 ⟨rfl, hb21⟩
  have HC21 := Lib.hid (belowStep hb21 HC20.out)
  have HB21 := Lib.hid (belowStep HC21.out HB5.out)
  have RY21 := Lib.hid (rowB hb21 RY20.out)
  have HM21 := Lib.hid (mrkBelow HM20.out hb21)
  have R21 := Lib.hid (rowB HC21.out R5.out)
  have Q21 := Lib.hid (rowB HC21.out Q5.out)
  clear hb21 y0 y1 y2 HC20 RY20 HM20
  obtain ⟨g0, g1, g2, g3, g4, g5, -, gl⟩ := row6 Q21.out
  obtain ⟨h0, h1, h2, -, hl0⟩ := row3 R21.out
  go_upto_region 31 with fail
  go_cut [15, 16] from 17 to 118 (fun x y wx => ∃ (X : Nat) (S1 : Option Addr) (s1 : Nat) (S2 : Option Addr) (s2 : Nat) (S3 : Option Addr) (s3 : Nat), x = .pointer (some ⟨X, 0, none⟩) ∧ y = .bool b ∧ wx.heap[X]? = some (.cells #[.slice S1 l1 s1, .slice S2 l2 s2, .slice S3 l3 s3] 32 (0, 0)) ∧ IntsAt wx S1 u.trk ∧ LAt wx S2 u.pats ∧ IntsAt wx S3 u.dist ∧ Below w21.heap.size w21 wx)
  case first =>
    go_region_held3 (fun w' => w'.cell? ⟨w.heap.size, 0, none⟩ = some (.int .i64 p.pts) ∧ w'.cell? ⟨w.heap.size, 1, none⟩ = some (.string p.names) ∧ w'.cell? ⟨w.heap.size, 2, none⟩ = some (.slice A np c) ∧ w'.cell? ⟨w.heap.size + 1, 0, none⟩ = some (.slice D1 n1 k1) ∧ w'.cell? ⟨w.heap.size + 1, 1, none⟩ = some (.slice D2 n2 k2) ∧ w'.cell? ⟨w.heap.size + 1, 2, none⟩ = some (.slice D3 n3 k3) ∧ w'.cell? ⟨w.heap.size + 1, 3, none⟩ = some (.int .i64 nx) ∧ w'.cell? ⟨w.heap.size + 1, 4, none⟩ = some (.string lg) ∧ w'.cell? ⟨w.heap.size + 1, 5, none⟩ = some (.int .i64 sy)) (first | go_keep | exact keepS T5 R21.out Q21.out (by (first | exact Nat.le_refl _ | exact T3.size | exact T4.size)) _ _ _ | exact ⟨p30, p31, p32, v30, v31, v32, v33, v34, v35⟩ | exact ⟨p40, p41, p42, v40, v41, v42, v43, v44, v45⟩ | exact ⟨p50, p51, p52, v50, v51, v52, v53, v54, v55⟩) (first
      | (go_at_call 7; refine (HTP.out _ (by (first | exact HB21.out.drew | exact (HB21.out.alloc HB21.out.size _).drew))).mono ?_; rintro e x3 ⟨a3, rfl, hL3, hb3⟩; have T3 : Below w21.heap.size w21 x3 := belowStep hb3 (by (first | exact (Below.refl _ _).drew | exact ((Below.refl _ _).alloc (Nat.le_refl _) _).drew)); (try (have RZ : x3.heap[w21.heap.size]? = some (.cells #[.slice none 0 0, .slice none 0 0, .slice none 0 0] 32 (0, 0)) := rowB hb3 (by exact heap_alloc_new w21 _))); obtain ⟨p30, p31, p32, -, -⟩ := row3 (rowB T3 R21.out); obtain ⟨v30, v31, v32, v33, v34, v35, -, -⟩ := row6 (rowB T3 Q21.out))
      | (go_at_call 8; refine (HTJ.out _ (by (first | exact belowStep T3 HB21.out | exact (belowStep T3 HB21.out).alloc (belowStep T3 HB21.out).size _))).mono ?_; rintro e x4 ⟨E1, e1, E2, e2, E3, e3, rfl, hE, hb4⟩; have T34 : Below x3.heap.size x3 x4 := belowStep hb4 (by (first | exact Below.refl _ _ | exact (Below.refl _ _).alloc (Nat.le_refl _) _)); have T4 : Below w21.heap.size w21 x4 := belowStep T34 T3; (try (replace RZ := rowB T34 RZ)); (try (have RZ : x4.heap[x3.heap.size]? = some (.cells #[.slice none 0 0, .slice none 0 0, .slice none 0 0] 32 (0, 0)) := rowB hb4 (by exact heap_alloc_new x3 _))); (try (have ZL := row_lt RZ)); obtain ⟨p40, p41, p42, -, -⟩ := row3 (rowB T4 R21.out); obtain ⟨v40, v41, v42, v43, v44, v45, -, -⟩ := row6 (rowB T4 Q21.out))
      | (go_at_call 9; refine (HIF2.out _ _ _ _ _ _ _ _ (by (first | exact hL3.lat.below T34 | exact (hL3.lat.below T34).below ((Below.refl _ _).alloc (Nat.le_refl _) _))) (by (first | exact hE.at1 | exact hE.at1.below ((Below.refl _ _).alloc (Nat.le_refl _) _))) (by (first | exact hE.at2 | exact hE.at2.below ((Below.refl _ _).alloc (Nat.le_refl _) _))) (by (first | exact hE.at3 | exact hE.at3.below ((Below.refl _ _).alloc (Nat.le_refl _) _)))).mono ?_; rintro e x5 ⟨S1, s1, S2, s2, S3, s3, rfl, hs1, hs2, hs3, hkp, hb5⟩; have T45 : Below x4.heap.size x4 x5 := belowStep hb5 (by (first | exact Below.refl _ _ | exact (Below.refl _ _).alloc (Nat.le_refl _) _)); have T5 : Below w21.heap.size w21 x5 := belowStep T45 T4; (try (replace RZ := rowB T45 RZ)); (try (have RZ : x5.heap[x4.heap.size]? = some (.cells #[.slice none 0 0, .slice none 0 0, .slice none 0 0] 32 (0, 0)) := rowB hb5 (by exact heap_alloc_new x4 _))); (try (have RR := row3 RZ; obtain ⟨z0, z1, z2, zf, zl⟩ := RR; have HRZ := Lib.hid RZ; clear RZ)); obtain ⟨p50, p51, p52, -, -⟩ := row3 (rowB T5 R21.out); obtain ⟨v50, v51, v52, v53, v54, v55, -, -⟩ := row6 (rowB T5 Q21.out)))
    all_goals (go_wp2_with fail)
    all_goals
      go_meet
      first
        | exact ⟨x5.heap.size, S1, s1, S2, s2, S3, s3, rfl, rfl, heap_alloc_new _ _, hs1.below ((Below.refl _ _).alloc (Nat.le_refl _) _), hs2.below ((Below.refl _ _).alloc (Nat.le_refl _) _), hs3.below ((Below.refl _ _).alloc (Nat.le_refl _) _), T5.alloc T5.size _⟩
        | exact ⟨_, S1, s1, S2, s2, S3, s3, rfl, rfl, row3S HRZ.out _ _ _, (hkp _ _ (by (first | exact ZL | exact oneMore _ _)) (row3S_grown _ _ _ _ _)).1, (hkp _ _ (by (first | exact ZL | exact oneMore _ _)) (row3S_grown _ _ _ _ _)).2.1, (hkp _ _ (by (first | exact ZL | exact oneMore _ _)) (row3S_grown _ _ _ _ _)).2.2, T5.grown (row3S_grown _ _ _ _ _) T5.size (fun b e => by injection e with e; subst e; (first | exact Nat.le_refl _ | exact T3.size | exact T4.size))⟩
  case rest =>
  obtain ⟨H, C1, c1, C2, c2, C3, c3, rfl, rfl, hH, hc1, hc2, hc3, hbx⟩ := hcut
  obtain ⟨w25, h25⟩ : ∃ w25, wc = w25 := ⟨_, rfl⟩
  rw [h25] at hH hc1 hc2 hc3 hbx ⊢
  clear h25 g0 g1 g2 g3 g4 g5 gl h0 h1 h2 hl0
  have HC25 := Lib.hid (belowStep hbx HC21.out)
  have RY25 := Lib.hid (rowB hbx RY21.out)
  have HM25 := Lib.hid (mrkBelow HM21.out hbx)
  obtain ⟨x0, x1, x2, -, -⟩ := row3 (rowB HC25.out RX5.out)
  obtain ⟨y0, y1, y2, -, -⟩ := row3 hH
  have K1 := Lib.hid hc1
  have K2 := Lib.hid hc2
  have K3 := Lib.hid hc3
  clear hH hc1 hc2 hc3 hbx HC21 RY21 HM21 R21 Q21 HB21
  go_wp2_with fail
  refine (HET.out w25 C1 c1 C2 c2 C3 c3 S1 s1 S2 s2 S3 s3 K1.out K2.out K3.out (I1.out.below HC25.out) (I2.out.below HC25.out) (I3.out.below HC25.out)).mono ?_
  rintro e w26 ⟨rfl, hb26⟩
  have HC26 := Lib.hid (belowStep hb26 HC25.out)
  have RY26 := Lib.hid (rowB hb26 RY25.out)
  have HM26 := Lib.hid (mrkBelow HM25.out hb26)
  clear hb26 x0 x1 x2 y0 y1 y2 HC25 RY25 HM25
  obtain ⟨y0, y1, y2, -, -⟩ := row3 RY26.out
  go_wp2_with fail
  refine (HHT.out w26 G1 d1 G2 d2 G3 d3 HM26.out).mono ?_
  rintro e w27 ⟨rfl, hb27⟩
  have hB27 := belowStep (belowStep hb27 HC26.out) HB5.out
  clear hb27 y0 y1 y2
  go_wp2_with fail
  go_ret
  exact ⟨rfl, hB27⟩
theorem own : ownKnob Tryz.prog.godebug = none := by kernel_rfl
theorem laidOut : laidOutB Tryz.prog = true := by kernel_rfl
set_option maxRecDepth 100000 in
theorem lifted (os : Os) (started : os.Started) (H : Type) (enc : TypeId × Value → H) :
    ReturnsInHanded {} Tryz.checked os 3 .any (Rows.fnExactFinishedTableSpec.pre6 enc Tryz.prog Tryz.f3 Rows.fnExactFinishedTableRow.domain false) (Rows.fnExactFinishedTableSpec.post enc Tryz.prog Tryz.f3 false true false false) := by
  refine returnsInHanded_of_change (C := Tryz.checked) own started (by kernel_rfl) Tryz.func3
    (ChangeSpec.witness6 (enc := enc) (C := Tryz.checked) false ⟨#[], #[.agg #[.int .i64 0, .string ByteArray.empty, .slice none 0 0], .agg #[.slice none 0 0, .slice none 0 0, .slice none 0 0, .int .i64 0, .string ByteArray.empty, .int .i64 0]], []⟩ 8 (by kernel_rfl) (by kernel_rfl) (by kernel_rfl) (by kernel_rfl)) ?_
  intro W base args ds gs before hval0 hW hcnd _
  have hval : ∀ (j : Nat) t v, Tryz.f3.params[j]? = some t → args[j]? = some v → Value.okWide Tryz.prog W .any base t v := hval0
  have hW' := hW
  obtain ⟨p, q, hA0, hV, rfl, hfz, hnd⟩ := hW
  have hA : DataW.TrodAll enc Tryz.prog W 0 (fun _ => true) true Tryz.f3.params.toList args.toList ds p := hA0
  rw [Tryz.params3] at hA hval
  obtain ⟨v0, vs0, d0, ds0, p0, q0, hargs, rfl, rfl, h0, r0⟩ := trodAll_cons hA
  obtain ⟨v1, vs1, d1, ds1, p1, q1, rfl, rfl, rfl, h1, r1⟩ := trodAll_cons r0
  obtain ⟨rfl, rfl, rfl⟩ := trodAll_nil r1
  obtain rfl : args = #[v0, v1] := by cases args; simp_all
  obtain ⟨rfl, rfl⟩ := trodVars_none hV
  have lt0 : ∀ x ∈ p0, x.block < W.heap.size := by obtain ⟨m, hm⟩ := h0; exact DataW.trod_lt m _ _ _ hm
  have lt1 : ∀ x ∈ p1, x.block < W.heap.size := by obtain ⟨m, hm⟩ := h1; exact DataW.trod_lt m _ _ _ hm
  obtain ⟨g0, rfl, i0⟩ := arg_puzzle (hval 0 24 v0 rfl rfl) h0
  obtain ⟨g1, rfl, i1⟩ := arg_job (hval 1 29 v1 rfl rfl) h1
  clear hA0 hval0
  refine (walk g0 g1 W i0 i1).mono fun e W' ⟨he, bel⟩ => ?_
  subst he
  exact ⟨_, rfl, _, _, _, [], _, [], hW', trodAll_mk1 (shut_bool Tryz.underlying4 _), (trodAll_cons_mk (Below.trod laidOut (by kernel_rfl) (of_decide_eq_true (by kernel_rfl)) h0 bel lt0) (trodAll_cons_mk (Below.trod laidOut (by kernel_rfl) (of_decide_eq_true (by kernel_rfl)) h1 bel lt1) trodAll_mk0)), rfl, bel.frame _, fun h => by cases h⟩
theorem fact_wf : Rows.fnExactFinishedTableRow.wf (OpenSpec.ofChange Rows.fnExactFinishedTableSpec) = true := by kernel_rfl
theorem fact_pars : Tryz.f3.params.all (Tryz.prog.readableRec ·) = true := by kernel_rfl
theorem fact_tie : namedTie Tryz.prog Rows.fnExactFinishedTableRow.named Rows.fnExactFinishedTableSpec.vars = true := by kernel_rfl
theorem fact_st : (Rows.fnExactFinishedTableRow.stops == []) = true := by kernel_rfl
theorem fact_kn : (Rows.fnExactFinishedTableRow.knobs == []) = true := by kernel_rfl
theorem fact_inp : (Rows.fnExactFinishedTableRow.inPlace == Tryz.prog.inPlace 3) = true := by kernel_rfl
theorem fact_unf : (Rows.fnExactFinishedTableRow.unfollowed == Tryz.prog.unfollowed 3) = true := by kernel_rfl
theorem fact_rec : (Rows.fnExactFinishedTableRow.recurses == Tryz.prog.recurses 3) = true := by kernel_rfl
theorem fact_nam : (Rows.fnExactFinishedTableRow.named == Tryz.prog.varsNamed 3) = true := by kernel_rfl
theorem fact_mp : (Rows.fnExactFinishedTableRow.maps == (Tryz.f3.params.toList ++ Rows.fnExactFinishedTableSpec.plain.varTypes Tryz.prog).any (Tryz.prog.mapsRec ·)) = true := by kernel_rfl
theorem fact_ifc : (Rows.fnExactFinishedTableRow.ifaces == (Tryz.f3.params.toList ++ Rows.fnExactFinishedTableSpec.plain.varTypes Tryz.prog).any (Tryz.prog.ifacesRec ·)) = true := by kernel_rfl
theorem fact_mo : (Rows.fnExactFinishedTableRow.mapsOut == Tryz.prog.mapsAmong Tryz.f3.resultTypes.toList) = true := by kernel_rfl
theorem fact_lo : (Rows.fnExactFinishedTableRow.loops == (Tryz.f3.params.toList ++ Rows.fnExactFinishedTableSpec.plain.varTypes Tryz.prog).any (Tryz.prog.loopsFrom ·)) = true := by kernel_rfl
theorem fact_wk : (Rows.fnExactFinishedTableRow.wideKeys == (Tryz.f3.params.toList ++ Rows.fnExactFinishedTableSpec.plain.varTypes Tryz.prog ++ Tryz.f3.resultTypes.toList).any (Tryz.prog.wideKeysFrom ·)) = true := by kernel_rfl
theorem fact_vs : Rows.fnExactFinishedTableSpec.vars.all (Tryz.prog.varReadable ·) = true := by kernel_rfl
theorem fact_res : Tryz.f3.resultTypes.all (fun t => Tryz.prog.readableRec t && decide (t < Tryz.prog.types.size)) = true := by kernel_rfl
theorem fact_io : (Rows.fnExactFinishedTableRow.ifacesOut == Tryz.f3.resultTypes.toList.any (Tryz.prog.ifacesRec ·)) = true := by kernel_rfl
theorem fact_loo : (Rows.fnExactFinishedTableRow.loopsOut == Tryz.f3.resultTypes.toList.any (Tryz.prog.loopsFrom ·)) = true := by kernel_rfl
theorem fact_pk : (Rows.fnExactFinishedTableRow.plainKeys == Tryz.prog.plainKeys) = true := by kernel_rfl
theorem fact_sh : Rows.fnExactFinishedTableRow.shortTexts.isNone = true := by kernel_rfl
theorem fact_li : (Rows.fnExactFinishedTableRow.lifted == Tryz.prog.liftsFinal) = true := by rw [fact_finals]; rfl
theorem fact_mk : (Tryz.prog.make == some Rows.fnExactFinishedTableRow.make) = true := by rw [fact_make]; rfl
theorem fact_kd : (Rows.fnExactFinishedTableRow.kinds == (if Rows.fnExactFinishedTableRow.domain.isEmpty then [] else Tryz.f3.params.toList.map fun t => match Tryz.prog.underlying t with | some (.int k) => some k | _ => none)) = true := by kernel_rfl
theorem fact_pi : (Rows.fnExactFinishedTableRow.pinned == Rows.fnExactFinishedTableRow.pinnedBy) = true := by kernel_rfl
theorem fact_ve : (Rows.fnExactFinishedTableRow.veiled == (Tryz.f3.params.toList ++ Rows.fnExactFinishedTableSpec.plain.varTypes Tryz.prog ++ Tryz.f3.resultTypes.toList).any (Tryz.prog.veiledRec ·)) = true := by kernel_rfl
theorem fact_vf : Rows.fnExactFinishedTableRow.veiledFits Tryz.prog Tryz.f3.params.toList (Tryz.f3.params.toList ++ Rows.fnExactFinishedTableSpec.plain.varTypes Tryz.prog ++ Tryz.f3.resultTypes.toList) = true := by kernel_rfl
set_option maxRecDepth 100000 in
theorem facts : joinedFacts Tryz.prog 3 Tryz.f3 Rows.fnExactFinishedTableSpec Rows.fnExactFinishedTableRow = true := facts_of fact_wf fact_laid fact_rowed fact_pars fact_tie fact_st fact_pst fact_kn fact_pkn fact_inp fact_unf fact_rec fact_nam fact_mp fact_ifc fact_mo fact_lo fact_wk fact_vs fact_res fact_io fact_loo fact_pk fact_sh fact_hd fact_me fact_li fact_mk fact_kd fact_pi fact_ve fact_vf
theorem fact_fn : Tryz.prog.funcNamed Rows.fnExactFinishedTableRow.func = some 3 := by kernel_rfl
theorem fact_inst : Tryz.f3.isInstance Tryz.prog Rows.fnExactFinishedTableRow.origin Rows.fnExactFinishedTableRow.targs := of_decide_eq_true (by kernel_rfl)
theorem fact_wrap : Tryz.f3.isWrapper Tryz.prog Rows.fnExactFinishedTableRow.wrapper Rows.fnExactFinishedTableRow.mainSum := by unfold Func.isWrapper; first | (rw [if_pos (by decide +kernel)]; kernel_rfl) | (rw [if_neg (by decide +kernel)]; exact ⟨rfl, rfl⟩)
theorem over : Rows.fnExactFinishedTableRow.holds Tryz.pinned (OpenSpec.ofChange Rows.fnExactFinishedTableSpec) :=
  OpenClaim.holds_of_wide 3 Tryz.f3 rfl rfl rfl rfl rfl rfl rfl ⟨rfl, rfl, rfl, rfl, rfl⟩ rfl rfl rfl rfl rfl fact_fn Tryz.func3 facts fact_inst fact_wrap
    (fun os started H enc _ => lifted os started H enc)
theorem proved : Rows.FnExactFinishedTableSaid := over
#print axioms proved
end Go.Proofs.YtfhdnanbhigpmaaGreat.lawFt
