/- FnExactRecoverDistances: for all arguments, both packages give one answer, the arguments stay, and what the program returns is its own. No conditions. -/
import Derived.Test.YtfhdnanbhigpmaaYi
import Derived.Test.YtfhdnanbhigpmaaJk
import Derived.Test.YtfhdnanbhigpmaaOk
import Derived.Deep.RegionHeld3
namespace Go.Proofs.Ytfhdnanbhigpmaa.lawRd
open Go.RowKit Go.ChangeShapes Go.WideShapes Go.ChangeAt
set_option maxRecDepth 100000 in
set_option maxHeartbeats 8000000 in
theorem walk (g0 : PA) (A1 : Option Addr) (c1 : Nat) (x1 : List Int) (s2 : ByteArray) (w : World) (i0 : g0.Ok w) (i1 : IntsAt w A1 x1) (_t1 : Fits x1) (m1 : x1.length ≤ maxLen) (m2 : s2.size ≤ maxLen) :
    Calls Try.prog 7 #[g0.val, .slice A1 x1.length c1, .string s2] w fun e w' => e = .returned (.bool true) ∧ Below w.heap.size w w' := by
  obtain ⟨A, c, p⟩ := g0
  obtain ⟨a1, a2, a3, a4⟩ := i0
  unfold PA.val
  dsimp only at *
  unfold maxLen at m1 m2
  have HA := Lib.hid a1
  have HI := Lib.hid i1
  have A4 := Lib.hid a4
  clear a1 i1 a4
  obtain ⟨n, hn⟩ : ∃ n, x1.length = n := ⟨_, rfl⟩
  have HN := Lib.hid hn
  obtain ⟨w0, hw0⟩ : ∃ w0, w.alloc (.cells #[.int .i64 p.pts, .string p.names, .slice A p.moves.length c] 42) = w0 := ⟨_, rfl⟩
  have hb0 : Below w.heap.size w w0 := by rw [← hw0]; exact (by repeat (first | exact Below.refl _ _ | assumption | refine Below.setCell ?_ (by first | omega | (simp <;> omega)) _ | refine Below.alloc ?_ (by first | omega | (simp <;> omega)) _ | refine Below.drew ?_))
  have R0 : Hid (w0.heap[w.heap.size]? = some (.cells #[.int .i64 p.pts, .string p.names, .slice A p.moves.length c] 42 (0, 0))) := by rw [← hw0]; exact heap_alloc_new _ _
  obtain ⟨h0, h1, h2, -, hl0⟩ := row3 R0.out
  rw [hn] at m1 ⊢
  clear hn
  by_cases hl : n ≤ 1048576
  rotate_left
  · have hl2 : (1048576 : Int) < (n : Int) := by omega
    go_enter Try.func7, Try.ntmps7
    go_wp2_with fail
    go_ret
    exact ⟨rfl, hb0⟩
  have hl2 : ¬ (1048576 : Int) < (n : Int) := by omega
  by_cases hg : s2.size ≤ 1048576
  rotate_left
  · have hg2 : (1048576 : Int) < (s2.size : Int) := by omega
    go_enter Try.func7, Try.ntmps7
    go_wp2_with fail
    go_ret
    exact ⟨rfl, hb0⟩
  have hg2 : ¬ (1048576 : Int) < (s2.size : Int) := by omega
  have HB0 := Lib.hid hb0
  clear hb0
  go_enter Try.func7, Try.ntmps7
  go_wp2_with fail
  refine (szPz A c p 1048576 w0 (HA.out.below HB0.out) a2 a3 A4.out (by decide) (by decide)).mono ?_
  rintro e w1 ⟨q, rfl, hq1, hq2, hb1⟩
  have hB1 := belowStep hb1 HB0.out
  have r1 := rowB hb1 R0.out
  clear hw0 h0 h1 h2 hl0 hb1
  obtain ⟨h0, h1, h2, -, hl0⟩ := row3 r1
  by_cases hq : q < 0
  · go_wp2_with fail
    go_ret
    exact ⟨rfl, hB1⟩
  obtain ⟨hnm, hml, hsh⟩ := hq1 (by omega)
  have HSH := Lib.hid hsh
  have HB1 := Lib.hid hB1
  have R1 := Lib.hid r1
  clear hq1 hq2 hsh hB1 r1 R0 HB0
  go_wp2_with fail
  refine (toPz A c p w1 (HA.out.below HB1.out) hml HSH.out).mono ?_
  rintro e w2 ⟨g2, rfl, hF2, hb2⟩
  have HL2 := Lib.hid hF2.lat
  have HB2 := Lib.hid (belowStep hb2 HB1.out)
  have R2 := Lib.hid (rowB hb2 R1.out)
  clear hF2 hb2 h0 h1 h2 hl0 R1 HB1
  go_wp2_with fail
  have hti := toInts A1 c1 x1 w2 (HI.out.below HB2.out) (by rw [HN.out]; exact hl)
  rw [HN.out] at hti
  refine hti.mono ?_
  rintro e w3 ⟨v3, rfl, hF3, hb3⟩
  obtain ⟨A3, c3, -, rfl, hI3⟩ := hF3.capped
  rw [HN.out] at hF3 ⊢
  have HI3 := Lib.hid hI3
  have HL3 := Lib.hid (HL2.out.below hb3)
  have HB3 := Lib.hid (belowStep hb3 HB2.out)
  have R3 := Lib.hid (rowB hb3 R2.out)
  clear hti hF3 hI3 hb3 HL2 HB2 R2
  obtain ⟨xs, hxs⟩ : ∃ xs, rdL p x1 s2 = xs := ⟨_, rfl⟩
  obtain ⟨b, hb⟩ : ∃ b, rdB p x1 s2 = b := ⟨_, rfl⟩
  have hxl : xs.length ≤ 3000 := by rw [← hxs]; exact rd_len
  have HT := Lib.hid hxs
  have HBQ := Lib.hid hb
  clear hxs hb
  have HSP : Hid (∀ wx g A' c', LAt wx (some ⟨g, 0, none⟩) p.moves → IntsAt wx A' x1 → Calls Try.prog 38 #[.agg #[.int .i64 p.pts, .string p.names, .slice (some ⟨g, 0, none⟩) p.moves.length p.moves.length], .slice A' n c', .string s2] wx (fun e w' => ∃ v, e = .returned (.tuple #[v, .bool b]) ∧ Fresh wx.heap.size w' v xs ∧ Below wx.heap.size wx w')) := fun wx g A' c' q1 q2 => by
    have := specRd (some ⟨g, 0, none⟩) p.moves.length p A' c' x1 s2 wx ⟨q1, hml, HSH.out, hnm⟩ q2 (by rw [HN.out]; exact hl) hg
    unfold RdPost at this
    rwa [HT.out, HBQ.out, HN.out] at this
  have HIJ : Hid (∀ wx g A' c', LAt wx (some ⟨g, 0, none⟩) p.moves → IntsAt wx A' x1 → Calls Try.prog 16 #[.agg #[.int .i64 p.pts, .string p.names, .slice (some ⟨g, 0, none⟩) p.moves.length p.moves.length], .slice A' n c', .string s2] wx (fun e w' => ∃ v, e = .returned (.tuple #[v, .bool b]) ∧ Fresh wx.heap.size w' v xs ∧ Below wx.heap.size wx w')) := fun wx g A' c' q1 q2 => by
    have := implRd (some ⟨g, 0, none⟩) p.moves.length p A' c' x1 s2 wx ⟨q1, hml, HSH.out, hnm⟩ q2 (by rw [HN.out]; exact hl) hg
    unfold RdPost at this
    rwa [HT.out, HBQ.out, HN.out] at this
  obtain ⟨nn, hnn⟩ : ∃ nn, xs.length = nn := ⟨_, rfl⟩
  rw [hnn] at hxl
  have HNN := Lib.hid hnn
  clear hnn
  have HEG : Hid (∀ wx A' c' B' d', IntsAt wx A' xs → IntsAt wx B' xs → Calls Try.prog 25 #[.slice A' nn c', .slice B' nn d'] wx (Quiet (.bool true) wx)) := fun wx A' c' B' d' q1 q2 => by
    have := eqInts A' B' c' d' xs xs wx q1 q2 (by rw [HNN.out]; omega)
    rwa [sameB_yes rfl, HNN.out] at this
  have hbb : (b != b) = false := by simp
  have HTI : Hid (∀ wx, IntsAt wx A1 x1 → Calls Try.prog 21 #[.slice A1 n c1] wx fun e w' => ∃ v, e = .returned v ∧ Fresh wx.heap.size w' v x1 ∧ Below wx.heap.size wx w') := fun wx q1 => by
    have := toInts A1 c1 x1 wx q1 (by rw [HN.out]; exact hl)
    rwa [HN.out] at this
  have HEI : Hid (∀ wx A' c' B' d', IntsAt wx A' x1 → IntsAt wx B' x1 → Calls Try.prog 25 #[.slice A' n c', .slice B' n d'] wx (Quiet (.bool true) wx)) := fun wx A' c' B' d' q1 q2 => by
    have := eqInts A' B' c' d' x1 x1 wx q1 q2 (by rw [HN.out]; exact hl)
    rwa [sameB_yes rfl, HN.out] at this
  have hp0 := totTo_le HSH.out p.moves.length (Nat.le_refl _)
  obtain ⟨tp, htp⟩ : ∃ tp : Nat, totTo p.moves p.moves.length = tp := ⟨_, rfl⟩
  rw [htp] at hp0
  have HTP := Lib.hid htp
  clear htp
  go_wp2_with fail
  refine (HSP.out w3 g2 A3 c3 HL3.out HI3.out).mono ?_
  rintro e w4 ⟨v4, rfl, hF4, hb4⟩
  obtain ⟨S0, s0, -, rfl, hI4⟩ := hF4.capped
  rw [HNN.out]
  have HB4 := Lib.hid (belowStep hb4 HB3.out)
  have r4 := rowB hb4 R3.out
  obtain ⟨h0, h1, h2, -, hl0⟩ := row3 r4
  have HS4 := Lib.hid hI4
  have R4 := Lib.hid r4
  clear hF4 hI4 hb4 r4 HSP HB3 R3 HL3 HI3
  go_wp2_with fail
  refine (toPz A c p w4 (HA.out.below HB4.out) hml HSH.out).mono ?_
  rintro e w6 ⟨g6, rfl, hF6, hb6⟩
  have HF6 := Lib.hid hF6
  have HB6 := Lib.hid hb6
  have hz6 := hb6.size
  have RH6 := rowB hb6 R4.out
  clear hF6 hb6 h0 h1 h2 hl0
  go_wp2_with fail
  obtain ⟨w7, hw7⟩ : ∃ w7, w6.alloc (.cells #[.int .i64 p.pts, .string p.names, .slice (some ⟨g6, 0, none⟩) p.moves.length p.moves.length] 29) = w7 := ⟨_, rfl⟩
  rw [hw7]
  have hb7 : Below w6.heap.size w6 w7 := by rw [← hw7]; exact (by repeat (first | exact Below.refl _ _ | assumption | refine Below.setCell ?_ (by first | omega | (simp <;> omega)) _ | refine Below.alloc ?_ (by first | omega | (simp <;> omega)) _ | refine Below.drew ?_))
  have RP7 : Hid (w7.heap[w6.heap.size]? = some (.cells #[.int .i64 p.pts, .string p.names, .slice (some ⟨g6, 0, none⟩) p.moves.length p.moves.length] 29 (0, 0))) := by rw [← hw7]; exact heap_alloc_new _ _
  have hz7 : w7.heap.size = w6.heap.size + 1 := by rw [← hw7]; simp
  have HF7 := Lib.hid (HF6.out.below hb7)
  have HB7 := Lib.hid (belowStep hb7 HB6.out)
  obtain ⟨P, hP⟩ : ∃ P, w6.heap.size = P := ⟨_, rfl⟩
  rw [hP] at RP7 hz7 hz6 HF7 ⊢
  clear hw7 hb7 HF6 HB6 hP RH6
  refine (HTI.out w7 (HI.out.below (belowStep HB7.out HB4.out))).mono ?_
  rintro e w8 ⟨v8, rfl, hF8, hb8⟩
  obtain ⟨A8, c8, -, rfl, hI8⟩ := hF8.capped
  rw [HN.out] at hF8 ⊢
  have HX8 := Lib.hid hF8
  have HXU : Hid (∀ g, (Value.slice A8 n c8).ownBlock = some g → w7.heap.size ≤ g ∧ g < w8.heap.size) := fun g hg => World.ownsRow.lt hF8 g hg
  have HI8 := Lib.hid hI8
  have HF8 := Lib.hid (HF7.out.below hb8)
  have HB8 := Lib.hid (belowStep hb8 HB7.out)
  have RP8 := Lib.hid (rowB hb8 RP7.out)
  have hz8 := hb8.size
  obtain ⟨p0, p1, p2, -, -⟩ := row3 RP8.out
  clear hF8 hI8 hb8 HF7 HB7 RP7
  go_wp2_with fail
  refine (HIJ.out w8 g6 A8 c8 HF8.out.lat HI8.out).mono ?_
  rintro e w9 ⟨v9, rfl, hF9, hb9⟩
  obtain ⟨G0, e0, -, rfl, hI9⟩ := hF9.capped
  rw [HNN.out] at hF9 ⊢
  have HG9 := Lib.hid hF9
  have HGU : Hid (∀ g, (Value.slice G0 nn e0).ownBlock = some g → w8.heap.size ≤ g ∧ g < w9.heap.size) := fun g hg => World.ownsRow.lt hF9 g hg
  have HB9 := Lib.hid (belowStep hb9 HB8.out)
  have RP9 := Lib.hid (rowB hb9 RP8.out)
  have HFP9 := Lib.hid (HF8.out.below hb9)
  have HX9 := Lib.hid (HX8.out.below hb9)
  have hz9 := hb9.size
  clear hF9 hI9 hb9 HX8 HI8 HF8 HB8 RP8 p0 p1 p2
  go_wp2_with fail
  refine (HEG.out w9 G0 e0 S0 s0 HG9.out.intsAt (HS4.out.below HB9.out)).mono ?_
  rintro e w11' ⟨rfl, nq, hw11⟩
  obtain ⟨w11, h11⟩ : ∃ w11, w11' = w11 := ⟨_, rfl⟩
  have hb11 : Below w9.heap.size w9 w11 := by rw [← h11, hw11]; exact belowDrewN (Below.refl _ _) nq
  rw [h11]
  have HB11 := Lib.hid (belowStep hb11 HB9.out)
  have RP11 := Lib.hid (rowB hb11 RP9.out)
  have HFP11 := Lib.hid (HFP9.out.below hb11)
  have HX11 := Lib.hid (HX9.out.below hb11)
  have HG11 := Lib.hid (HG9.out.below hb11)
  have hz11 := hb11.size
  have HBW11 := Lib.hid (belowStep HB11.out HB4.out)
  have HA11 := Lib.hid (HA.out.below HBW11.out)
  clear hw11 h11 hb11 HB9 RP9 HFP9 HX9 HG9
  obtain ⟨h0, h1, h2, -, hl0⟩ := row3 (rowB HB11.out R4.out)
  obtain ⟨p0, p1, p2, -, pl0⟩ := row3 RP11.out
  go_wp2_with fail
  go_region_held3 (fun w' => w'.cell? ⟨w.heap.size, 0, none⟩ = some (.int .i64 p.pts) ∧ w'.cell? ⟨w.heap.size, 1, none⟩ = some (.string p.names) ∧ w'.cell? ⟨w.heap.size, 2, none⟩ = some (.slice A p.moves.length c) ∧ w'.cell? ⟨P, 0, none⟩ = some (.int .i64 p.pts) ∧ w'.cell? ⟨P, 1, none⟩ = some (.string p.names) ∧ w'.cell? ⟨P, 2, none⟩ = some (.slice (some ⟨g6, 0, none⟩) p.moves.length p.moves.length)) (first | go_keep | exact ⟨q0, q1, q2, q3, q4, q5⟩ | exact ⟨r0, r1, r2, r3, r4, r5⟩) (first
    | (go_at_call 20; refine (toPz A c p _ (by exact HA11.out) hml HSH.out).mono ?_; rintro e w12 ⟨g12, rfl, hF12, hb12⟩; have B12 : Below w11.heap.size w11 w12 := ⟨hb12.os, hb12.tape, hb12.output, hb12.size, hb12.block⟩; have q0 := (B12.cell (p := ⟨w.heap.size, 0, none⟩) hl0).trans h0; have q1 := (B12.cell (p := ⟨w.heap.size, 1, none⟩) hl0).trans h1; have q2 := (B12.cell (p := ⟨w.heap.size, 2, none⟩) hl0).trans h2; have q3 := (B12.cell (p := ⟨P, 0, none⟩) pl0).trans p0; have q4 := (B12.cell (p := ⟨P, 1, none⟩) pl0).trans p1; have q5 := (B12.cell (p := ⟨P, 2, none⟩) pl0).trans p2)
    | (go_at_call 24; refine (eqPz _ _ _ _ p _ (by exact (HFP11.out.below B12).lat) (by exact hF12.lat) hml HSH.out).mono ?_; rintro e w13 ⟨rfl, hb13⟩; have B13 : Below w11.heap.size w11 w13 := belowStep hb13 B12; have r0 := (B13.cell (p := ⟨w.heap.size, 0, none⟩) hl0).trans h0; have r1 := (B13.cell (p := ⟨w.heap.size, 1, none⟩) hl0).trans h1; have r2 := (B13.cell (p := ⟨w.heap.size, 2, none⟩) hl0).trans h2; have r3 := (B13.cell (p := ⟨P, 0, none⟩) pl0).trans p0; have r4 := (B13.cell (p := ⟨P, 1, none⟩) pl0).trans p1; have r5 := (B13.cell (p := ⟨P, 2, none⟩) pl0).trans p2))
  clear q0 q1 q2 q3 q4 q5 r0 r1 r2 r3 r4 r5 h0 h1 h2 p0 p1 p2 hF12 hb12 B12 hb13
  have HB13 := Lib.hid (belowStep B13 HB11.out)
  have hz13 := B13.size
  go_wp2_with fail
  refine (HTI.out w13 (HI.out.below (belowStep HB13.out HB4.out))).mono ?_
  rintro e w14 ⟨v14, rfl, hF14, hb14⟩
  obtain ⟨A14, c14, -, rfl, hI14⟩ := hF14.capped
  rw [HN.out]
  have HI14 := Lib.hid hI14
  have B14 : Below w11.heap.size w11 w14 := belowStep hb14 B13
  clear hF14 hI14 hb14
  go_wp2_with fail
  refine (HEI.out w14 A8 c8 A14 c14 (HX11.out.below B14).intsAt HI14.out).mono ?_
  rintro e w15' ⟨rfl, nq2, hw15⟩
  obtain ⟨w15, h15⟩ : ∃ w15, w15' = w15 := ⟨_, rfl⟩
  have B15 : Below w11.heap.size w11 w15 := by rw [← h15, hw15]; exact belowDrewN B14 _
  rw [h15]
  clear hw15 h15 B14 B13 HI14
  have HB15 := Lib.hid (belowStep B15 HB11.out)
  have RP15 := Lib.hid (rowB B15 RP11.out)
  have HFP15 := Lib.hid (HFP11.out.below B15)
  have HX15 := Lib.hid (HX11.out.below B15)
  have HG15 := Lib.hid (HG11.out.below B15)
  have hz15 := B15.size
  clear B15 HB13 HB11 RP11 HFP11 HX11 HG11 HBW11 HA11
  obtain ⟨p0, p1, p2, -, -⟩ := row3 RP15.out
  go_wp2_with fail
  have hmk := markPz w4.heap.size P (some ⟨g6, 0, none⟩) p.moves.length p 1 w15 HFP15.out hml HSH.out (by decide) (by decide)
  rw [HTP.out] at hmk
  refine hmk.mono ?_
  rintro e w16 ⟨rfl, ho16⟩
  have hz16 := ho16.size
  have HB16 := Lib.hid (ho16.below HB15.out (Nat.le_refl _) HB15.out.size)
  have HX16 := Lib.hid (HX15.out.onlyHi ho16 (by omega))
  have HG16 := Lib.hid (HG15.out.onlyHi ho16 (by omega))
  clear hmk ho16 HB15 RP15 HFP15 HX15 HG15 p0 p1 p2
  go_wp2_with fail
  have hmi := markInts w7.heap.size (.slice A8 n c8) x1 (1 + (tp : Int)) w16 HX16.out (by rw [HN.out]; exact hl) (by omega) (by have := Int.ofNat_le.2 hp0; simp at this; omega)
  rw [HN.out] at hmi
  refine hmi.mono ?_
  rintro e w17 ⟨rfl, -, hg17⟩
  have ho17 : OnlyIn w7.heap.size w8.heap.size w16 w17 := (OnlyIn.refl _ _ _).grown hg17 HXU.out
  have hz17 := ho17.size
  have HB17 := Lib.hid (ho17.below (HB16.out.mono (Nat.le_refl _)) (by omega) HB16.out.size)
  have HG17 := Lib.hid (HG16.out.onlyHi ho17 (Nat.le_refl _))
  have hk0 : ¬ (1 + (tp : Int) + (n : Int)) < 0 := by omega
  clear hmi hg17 ho17 HB16 HG16 HX16
  go_wp2_with fail
  refine (HEG.out w17 G0 e0 S0 s0 HG17.out.intsAt (HS4.out.below HB17.out)).mono ?_
  rintro e w18' ⟨rfl, nq3, hw18⟩
  obtain ⟨w18, h18⟩ : ∃ w18, w18' = w18 := ⟨_, rfl⟩
  have hb18 : Below w17.heap.size w17 w18 := by rw [← h18, hw18]; exact belowDrewN (Below.refl _ _) nq3
  rw [h18]
  have HB18 := Lib.hid (belowStep hb18 HB17.out)
  have HG18 := Lib.hid (HG17.out.below hb18)
  have hz18 := hb18.size
  clear hw18 h18 hb18 HB17 HG17
  have hmg := markInts w8.heap.size (.slice G0 nn e0) xs 1 w18 HG18.out (by rw [HNN.out]; omega) (by decide) (by decide)
  rw [HNN.out] at hmg
  have HMG := Lib.hid hmg
  clear hmg
  go_wp2_with fail
  refine HMG.out.mono ?_
  rintro e w19 ⟨rfl, hF19, hg19⟩
  have ho19 : OnlyIn w8.heap.size w9.heap.size w18 w19 := (OnlyIn.refl _ _ _).grown hg19 HGU.out
  have hz19 := ho19.size
  have HB19 := Lib.hid (ho19.below (HB18.out.mono (Nat.le_refl _)) (by omega) HB18.out.size)
  have HM19 : Hid (IntsAt w19 G0 (marks 1 nn)) := hF19.intsAt
  clear hF19 hg19 ho19 HB18 HG18 HMG
  have HHL : Hid (∀ wx, IntsAt wx G0 (marks 1 nn) → Calls Try.prog 39 #[.slice G0 nn e0, .int .i64 1] wx fun e w' => e = .returned (.int .i64 (1 + nn)) ∧ wx = w') := fun wx q => heldInts G0 e0 nn 1 wx q (by omega) (by decide) (by decide)
  have hq0 : ¬ (1 + (nn : Int)) < 0 := by omega
  go_wp2_with fail
  refine (HHL.out w19 HM19.out).mono ?_
  rintro e w20 ⟨rfl, rfl⟩
  obtain ⟨h0, h1, h2, -, -⟩ := row3 (rowB HB19.out R4.out)
  go_wp2_with fail
  refine (toPz A c p w19 (HA.out.below (belowStep HB19.out HB4.out)) hml HSH.out).mono ?_
  rintro e w21 ⟨g21, rfl, hF21, hb21⟩
  have HL21 := Lib.hid hF21.lat
  have HB21 := Lib.hid (belowStep hb21 HB19.out)
  have HM21 := Lib.hid (HM19.out.below hb21)
  clear hF21 hb21 h0 h1 h2 HB19 HM19
  go_wp2_with fail
  refine (HTI.out w21 (HI.out.below (belowStep HB21.out HB4.out))).mono ?_
  rintro e w22 ⟨v22, rfl, hF22, hb22⟩
  obtain ⟨A22, c22, -, rfl, hI22⟩ := hF22.capped
  rw [HN.out]
  have HI22 := Lib.hid hI22
  have HL22 := Lib.hid (HL21.out.below hb22)
  have HB22 := Lib.hid (belowStep hb22 HB21.out)
  have HM22 := Lib.hid (HM21.out.below hb22)
  clear hF22 hI22 hb22 HL21 HB21 HM21
  go_wp2_with fail
  refine (HIJ.out w22 g21 A22 c22 HL22.out HI22.out).mono ?_
  rintro e w23 ⟨v23, rfl, hF23, hb23⟩
  obtain ⟨C0, d0, -, rfl, hI23⟩ := hF23.capped
  rw [HNN.out]
  have HI23 := Lib.hid hI23
  have HB23 := Lib.hid (belowStep hb23 HB22.out)
  have HM23 := Lib.hid (HM22.out.below hb23)
  clear hF23 hI23 hb23 HL22 HI22 HB22 HM22
  go_wp2_with fail
  refine (HEG.out w23 C0 d0 S0 s0 HI23.out (HS4.out.below HB23.out)).mono ?_
  rintro e w24' ⟨rfl, nq4, hw24⟩
  obtain ⟨w24, h24⟩ : ∃ w24, w24' = w24 := ⟨_, rfl⟩
  have hb24 : Below w23.heap.size w23 w24 := by rw [← h24, hw24]; exact belowDrewN (Below.refl _ _) nq4
  rw [h24]
  have HB24 := Lib.hid (belowStep hb24 HB23.out)
  have HM24 := Lib.hid (HM23.out.below hb24)
  clear hw24 h24 hb24 HB23 HM23 HI23
  go_wp2_with fail
  refine (HHL.out w24 HM24.out).mono ?_
  rintro e w25 ⟨rfl, rfl⟩
  have hBE := belowStep HB24.out HB4.out
  go_wp2_with fail
  go_ret
  exact ⟨rfl, hBE⟩
theorem own : ownKnob Try.prog.godebug = none := by kernel_rfl
theorem laidOut : laidOutB Try.prog = true := by kernel_rfl
set_option maxRecDepth 100000 in
theorem lifted (os : Os) (started : os.Started) (H : Type) (enc : TypeId × Value → H) :
    ReturnsInHanded {} Try.checked os 7 .any (Rows.fnExactRecoverDistancesSpec.pre6 enc Try.prog Try.f7 Rows.fnExactRecoverDistancesRow.domain false) (Rows.fnExactRecoverDistancesSpec.post enc Try.prog Try.f7 false true false false) := by
  refine returnsInHanded_of_change (C := Try.checked) own started (by kernel_rfl) Try.func7
    (ChangeSpec.witness6 (enc := enc) (C := Try.checked) false ⟨#[], #[.agg #[.int .i64 0, .string ByteArray.empty, .slice none 0 0], .slice none 0 0, .string ByteArray.empty], []⟩ 8 (by kernel_rfl) (by kernel_rfl) (by kernel_rfl) (by kernel_rfl)) ?_
  intro W base args ds gs before hval0 hW hcnd _
  have hval : ∀ (j : Nat) t v, Try.f7.params[j]? = some t → args[j]? = some v → Value.okWide Try.prog W .any base t v := hval0
  have hW' := hW
  obtain ⟨p, q, hA0, hV, rfl, hfz, hnd⟩ := hW
  have hA : DataW.TrodAll enc Try.prog W 0 (fun _ => true) true Try.f7.params.toList args.toList ds p := hA0
  rw [Try.params7] at hA hval
  obtain ⟨v0, vs0, d0, ds0, p0, q0, hargs, rfl, rfl, h0, r0⟩ := trodAll_cons hA
  obtain ⟨v1, vs1, d1, ds1, p1, q1, rfl, rfl, rfl, h1, r1⟩ := trodAll_cons r0
  obtain ⟨v2, vs2, d2, ds2, p2, q2, rfl, rfl, rfl, h2, r2⟩ := trodAll_cons r1
  obtain ⟨rfl, rfl, rfl⟩ := trodAll_nil r2
  obtain rfl : args = #[v0, v1, v2] := by cases args; simp_all
  obtain ⟨rfl, rfl⟩ := trodVars_none hV
  have lt0 : ∀ x ∈ p0, x.block < W.heap.size := by obtain ⟨m, hm⟩ := h0; exact DataW.trod_lt m _ _ _ hm
  have lt1 : ∀ x ∈ p1, x.block < W.heap.size := by obtain ⟨m, hm⟩ := h1; exact DataW.trod_lt m _ _ _ hm
  have lt2 : ∀ x ∈ p2, x.block < W.heap.size := by obtain ⟨m, hm⟩ := h2; exact DataW.trod_lt m _ _ _ hm
  obtain ⟨g0, rfl, i0⟩ := arg_puzzle (hval 0 42 v0 rfl rfl) h0
  obtain ⟨A1, c1, x1, rfl, i1, t1, m1⟩ := arg_ints (hval 1 31 v1 rfl rfl) h1
  obtain ⟨s2, rfl, m2⟩ := arg_str (hval 2 9 v2 rfl rfl) h2
  clear hA0 hval0
  refine (walk g0 A1 c1 x1 s2 W i0 i1 t1 m1 m2).mono fun e W' ⟨he, bel⟩ => ?_
  subst he
  exact ⟨_, rfl, _, _, _, [], _, [], hW', trodAll_mk1 (shut_bool Try.underlying4 _), (trodAll_cons_mk (Below.trod laidOut (by kernel_rfl) (of_decide_eq_true (by kernel_rfl)) h0 bel lt0) (trodAll_cons_mk (Below.trod laidOut (by kernel_rfl) (of_decide_eq_true (by kernel_rfl)) h1 bel lt1) (trodAll_cons_mk (Below.trod laidOut (by kernel_rfl) (of_decide_eq_true (by kernel_rfl)) h2 bel lt2) trodAll_mk0))), rfl, bel.frame _, fun h => by cases h⟩
theorem fact_wf : Rows.fnExactRecoverDistancesRow.wf (OpenSpec.ofChange Rows.fnExactRecoverDistancesSpec) = true := by kernel_rfl
theorem fact_pars : Try.f7.params.all (Try.prog.readableRec ·) = true := by kernel_rfl
theorem fact_tie : namedTie Try.prog Rows.fnExactRecoverDistancesRow.named Rows.fnExactRecoverDistancesSpec.vars = true := by kernel_rfl
theorem fact_st : (Rows.fnExactRecoverDistancesRow.stops == []) = true := by kernel_rfl
theorem fact_kn : (Rows.fnExactRecoverDistancesRow.knobs == []) = true := by kernel_rfl
theorem fact_inp : (Rows.fnExactRecoverDistancesRow.inPlace == Try.prog.inPlace 7) = true := by kernel_rfl
theorem fact_unf : (Rows.fnExactRecoverDistancesRow.unfollowed == Try.prog.unfollowed 7) = true := by kernel_rfl
theorem fact_rec : (Rows.fnExactRecoverDistancesRow.recurses == Try.prog.recurses 7) = true := by kernel_rfl
theorem fact_nam : (Rows.fnExactRecoverDistancesRow.named == Try.prog.varsNamed 7) = true := by kernel_rfl
theorem fact_mp : (Rows.fnExactRecoverDistancesRow.maps == (Try.f7.params.toList ++ Rows.fnExactRecoverDistancesSpec.plain.varTypes Try.prog).any (Try.prog.mapsRec ·)) = true := by kernel_rfl
theorem fact_ifc : (Rows.fnExactRecoverDistancesRow.ifaces == (Try.f7.params.toList ++ Rows.fnExactRecoverDistancesSpec.plain.varTypes Try.prog).any (Try.prog.ifacesRec ·)) = true := by kernel_rfl
theorem fact_mo : (Rows.fnExactRecoverDistancesRow.mapsOut == Try.prog.mapsAmong Try.f7.resultTypes.toList) = true := by kernel_rfl
theorem fact_lo : (Rows.fnExactRecoverDistancesRow.loops == (Try.f7.params.toList ++ Rows.fnExactRecoverDistancesSpec.plain.varTypes Try.prog).any (Try.prog.loopsFrom ·)) = true := by kernel_rfl
theorem fact_wk : (Rows.fnExactRecoverDistancesRow.wideKeys == (Try.f7.params.toList ++ Rows.fnExactRecoverDistancesSpec.plain.varTypes Try.prog ++ Try.f7.resultTypes.toList).any (Try.prog.wideKeysFrom ·)) = true := by kernel_rfl
theorem fact_vs : Rows.fnExactRecoverDistancesSpec.vars.all (Try.prog.varReadable ·) = true := by kernel_rfl
theorem fact_res : Try.f7.resultTypes.all (fun t => Try.prog.readableRec t && decide (t < Try.prog.types.size)) = true := by kernel_rfl
theorem fact_io : (Rows.fnExactRecoverDistancesRow.ifacesOut == Try.f7.resultTypes.toList.any (Try.prog.ifacesRec ·)) = true := by kernel_rfl
theorem fact_loo : (Rows.fnExactRecoverDistancesRow.loopsOut == Try.f7.resultTypes.toList.any (Try.prog.loopsFrom ·)) = true := by kernel_rfl
theorem fact_pk : (Rows.fnExactRecoverDistancesRow.plainKeys == Try.prog.plainKeys) = true := by kernel_rfl
theorem fact_sh : Rows.fnExactRecoverDistancesRow.shortTexts.isNone = true := by kernel_rfl
theorem fact_li : (Rows.fnExactRecoverDistancesRow.lifted == Try.prog.liftsFinal) = true := by rw [fact_finals]; rfl
theorem fact_mk : (Try.prog.make == some Rows.fnExactRecoverDistancesRow.make) = true := by rw [fact_make]; rfl
theorem fact_kd : (Rows.fnExactRecoverDistancesRow.kinds == (if Rows.fnExactRecoverDistancesRow.domain.isEmpty then [] else Try.f7.params.toList.map fun t => match Try.prog.underlying t with | some (.int k) => some k | _ => none)) = true := by kernel_rfl
theorem fact_pi : (Rows.fnExactRecoverDistancesRow.pinned == Rows.fnExactRecoverDistancesRow.pinnedBy) = true := by kernel_rfl
theorem fact_ve : (Rows.fnExactRecoverDistancesRow.veiled == (Try.f7.params.toList ++ Rows.fnExactRecoverDistancesSpec.plain.varTypes Try.prog ++ Try.f7.resultTypes.toList).any (Try.prog.veiledRec ·)) = true := by kernel_rfl
theorem fact_vf : Rows.fnExactRecoverDistancesRow.veiledFits Try.prog Try.f7.params.toList (Try.f7.params.toList ++ Rows.fnExactRecoverDistancesSpec.plain.varTypes Try.prog ++ Try.f7.resultTypes.toList) = true := by kernel_rfl
set_option maxRecDepth 100000 in
theorem facts : joinedFacts Try.prog 7 Try.f7 Rows.fnExactRecoverDistancesSpec Rows.fnExactRecoverDistancesRow = true := facts_of fact_wf fact_laid fact_rowed fact_pars fact_tie fact_st fact_pst fact_kn fact_pkn fact_inp fact_unf fact_rec fact_nam fact_mp fact_ifc fact_mo fact_lo fact_wk fact_vs fact_res fact_io fact_loo fact_pk fact_sh fact_hd fact_me fact_li fact_mk fact_kd fact_pi fact_ve fact_vf
theorem fact_fn : Try.prog.funcNamed Rows.fnExactRecoverDistancesRow.func = some 7 := by kernel_rfl
theorem fact_inst : Try.f7.isInstance Try.prog Rows.fnExactRecoverDistancesRow.origin Rows.fnExactRecoverDistancesRow.targs := of_decide_eq_true (by kernel_rfl)
theorem fact_wrap : Try.f7.isWrapper Try.prog Rows.fnExactRecoverDistancesRow.wrapper Rows.fnExactRecoverDistancesRow.mainSum := by unfold Func.isWrapper; first | (rw [if_pos (by decide +kernel)]; kernel_rfl) | (rw [if_neg (by decide +kernel)]; exact ⟨rfl, rfl⟩)
theorem over : Rows.fnExactRecoverDistancesRow.holds Try.pinned (OpenSpec.ofChange Rows.fnExactRecoverDistancesSpec) :=
  OpenClaim.holds_of_wide 7 Try.f7 rfl rfl rfl rfl rfl rfl rfl ⟨rfl, rfl, rfl, rfl, rfl⟩ rfl rfl rfl rfl rfl fact_fn Try.func7 facts fact_inst fact_wrap
    (fun os started H enc _ => lifted os started H enc)
theorem proved : Rows.FnExactRecoverDistancesSaid := over
#print axioms proved
end Go.Proofs.Ytfhdnanbhigpmaa.lawRd
