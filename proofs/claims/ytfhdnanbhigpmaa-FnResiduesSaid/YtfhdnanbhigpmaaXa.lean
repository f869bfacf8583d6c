/- The pattern behind a letter, spec. Conditions: the pattern and the letter are valid. The patterns of a chain are lists of distinct points, plain. The record of an expansion, spec. Conditions: rows of points below 256. Letters and copies of jobs, spec. Conditions: lengths as each contract says. The memory of an expansion, spec: lists, depths, lists added. No conditions. -/
import Derived.Test.YtfhdnanbhigpmaaIl
import Derived.Test.YtfhdnanbhigpmaaJs
import Derived.Test.YtfhdnanbhigpmaaRs
import Derived.Test.YtfhdnanbhigpmaaBy
import Derived.Test.YtfhdnanbhigpmaaJk
import Derived.Test.YtfhdnanbhigpmaaGf
import Derived.Deep.RegionLaw
namespace Go.Proofs.Ytfhdnanbhigpmaa
section
section
open Go.RowKit Grp

set_option maxRecDepth 100000 in
set_option maxHeartbeats 1000000 in
theorem specWord1 (A : Option Addr) (c n : Nat) (y : Int) (w : World) (hy : IntsAt w A [y]) (h0 : y ≠ 0) (h1 : -8 ≤ y) (h2 : y ≤ 8) (h3 : y ≤ (n : Int)) (h4 : -y ≤ (n : Int)) :
    Calls Try.prog 139 #[.int .i64 (n : Int), .slice A 1 c] w fun e w' => e = .returned (.bool true) ∧ w = w' := by
  obtain ⟨b, off, rfl, hb, hc⟩ := hy 0 (by simp)
  rw [Nat.add_zero] at hc
  have hc' : w.cell? ⟨b, off, none⟩ = some (.int .i64 y) := hc
  have hin : inR y (-8) 8 = true := inR_iff.2 ⟨h1, h2⟩
  have hwn : IntKind.i64.wrap (-y) = -y := IntWalk.i64_in _ (by omega)
  have hy0 : (y == 0) = false := by simpa using h0
  have k3 : ¬ (n : Int) < y := by omega
  have k4 : ¬ (n : Int) < -y := by omega
  clear hy hc
  go_enter Try.func139, Try.ntmps139
  go_wp2_with fail
  go_loopw [5] (fun i wr => ∃ k : Nat, k ≤ 1 ∧ i = .int .i64 k ∧ wr = w) (fun i _ => 1 - (intOf i).toNat)
  case atStart => exact ⟨0, by omega, rfl, rfl⟩
  case round =>
    obtain ⟨k, hk, rfl, rfl⟩ := hrel
    by_cases hlt : k < 1
    · obtain rfl : k = 0 := by omega
      go_wp2_with (first | (go_at_call 71; refine (inRange_any _ _ _ _).mono ?_; rintro e w1 ⟨rfl, rfl⟩; rw [hin]))
      go_roundw
      case rel => exact ⟨1, by omega, by go_num, by first | trivial | rfl⟩
      case measure => simp [intOf]
    · obtain rfl : k = 1 := by omega
      go_wp2
      go_ret
      exact ⟨rfl, rfl⟩
set_option maxHeartbeats 1000000 in
theorem specValidWord1 (A : Option Addr) (c n : Nat) (y : Int) (w : World) (hy : IntsAt w A [y]) (h0 : y ≠ 0) (h1 : -8 ≤ y) (h2 : y ≤ 8) (h3 : y ≤ (n : Int)) (h4 : -y ≤ (n : Int)) :
    Calls Try.prog 126 #[.int .i64 (n : Int), .slice A 1 c] w fun e w' => e = .returned (.bool true) ∧ w = w' := by
  have HC := Lib.hid (specWord1 A c n y w hy h0 h1 h2 h3 h4)
  clear hy h0 h1 h2 h3 h4
  go_enter Try.func126, Try.ntmps126
  go_wp2_with fail
  refine HC.out.mono ?_
  rintro e w1 ⟨rfl, rfl⟩
  go_wp2_with fail
  go_ret
  exact ⟨rfl, rfl⟩
set_option maxRecDepth 100000 in
set_option maxHeartbeats 1000000 in
theorem specPattern (A : Option Addr) (c : Nat) (p : Pz) (A1 A2 : Option Addr) (c1 c2 L : Nat) (trk pat : List Int) (w : World) (h : PzAt w A p) (hx : IntsAt w A1 trk) (hp : IntsAt w A2 pat) (hl : trk.length ≤ 1048576) (hpl : pat.length = L) (hc2 : L ≤ c2) (hpl2 : L ≤ 1048576) (hq : trkQ p trk = true) (hd : diQ p.pts pat trk.length = true) :
    Calls Try.prog 125 #[.agg #[.int .i64 p.pts, .string p.names, .slice A p.moves.length c], .slice A1 trk.length c1, .slice A2 L c2] w (ReadsBool true w) := by
  have HP := Lib.hid h
  have HX := Lib.hid hx
  have HPA := Lib.hid hp
  have hq2 := hq
  unfold trkQ at hq2
  rw [Bool.and_eq_true] at hq2
  have hpts := pz_pts hq2.1
  obtain ⟨w0, hw0⟩ : ∃ w0, w.alloc (.cells #[.int .i64 p.pts, .string p.names, .slice A p.moves.length c] 29) = w0 := ⟨_, rfl⟩
  have hb : Below w.heap.size w w0 := by rw [← hw0]; exact (by repeat (first | exact Below.refl _ _ | assumption | refine Below.setCell ?_ (by first | omega | (simp <;> omega)) _ | refine Below.alloc ?_ (by first | omega | (simp <;> omega)) _ | refine Below.drew ?_))
  have r0 : w0.heap[w.heap.size]? = some (.cells #[.int .i64 p.pts, .string p.names, .slice A p.moves.length c] 29 (0, 0)) := by rw [← hw0]; exact heap_alloc_new _ _
  have HC := Lib.hid (specTrk A c p A1 c1 trk w0 (h.below hb) (hx.below hb) hl)
  rw [hq] at HC
  obtain ⟨p0, p1, p2, -, -⟩ := row3 r0
  have R0 := Lib.hid r0
  have HB := Lib.hid hb
  have HDQ := Lib.hid hd
  have HPL := Lib.hid hpl
  clear h hx hp hq hq2 hb r0 hd hpl
  go_enter Try.func125, Try.ntmps125
  go_wp2_with fail
  clear hw0
  refine HC.out.mono ?_
  rintro e w1 ⟨rfl, hb1⟩
  have HB1 := Lib.hid (belowStep hb1 HB.out)
  have r1 := rowB hb1 R0.out
  clear p0 p1 p2 hb1
  obtain ⟨p0, p1, p2, -, -⟩ := row3 r1
  clear r1
  have hdist := specDist p.pts trk.length A2 c2 pat w1 (HPA.out.below HB1.out) (by rw [HPL.out]; exact hpl2) (by rw [HPL.out]; exact hc2) hpts.1 hpts.2
  rw [HDQ.out, HPL.out] at hdist
  have HD := Lib.hid hdist
  clear hdist
  go_wp2_with fail
  refine HD.out.mono ?_
  rintro e w2 ⟨rfl, nq, rfl⟩
  go_wp2_with fail
  go_ret
  exact ⟨rfl, belowDrewN HB1.out _⟩
set_option maxRecDepth 100000 in
set_option maxHeartbeats 4000000 in
theorem specLetters1 (A A2 A3 : Option Addr) (c c2 c3 N L : Nat) (p : Pz) (pat : List Int) (k : Nat) (y : Int) (w : World) (hx : LAt w A p.moves) (hp : IntsAt w A2 pat) (hy : IntsAt w A3 [y]) (hpo : PtsOk N L pat) (hL : L ≤ 1048576) (hk : k < 2 * p.moves.length) (hl : p.moves.length ≤ 100000) (hm : MvsOk N p.moves) (hn : N ≤ 20) (hn1 : 1 ≤ N) (hyk : (letsOf p.moves.length).getD k 0 = y) :
    Calls Try.prog 127 #[.agg #[.int .i64 p.pts, .string p.names, .slice A p.moves.length c], .slice A2 L c2, .slice A3 1 c3] w fun e w' => ∃ v, e = .returned v ∧ Fresh w.heap.size w' v (pickI ((mvsOf p.moves).getD k []) pat) ∧ Below w.heap.size w w' := by
  obtain ⟨x, hxx⟩ : ∃ x, pickI ((mvsOf p.moves).getD k []) pat = x := ⟨_, rfl⟩
  rw [hxx]
  have HA : Hid (∀ wx A2 c2, LAt wx A p.moves → IntsAt wx A2 pat → Calls Try.prog 113 #[.agg #[.int .i64 p.pts, .string p.names, .slice A p.moves.length c], .slice A2 L c2, .int .i64 y] wx fun e w' => ∃ v, e = .returned v ∧ Fresh wx.heap.size w' v x ∧ Below wx.heap.size wx w') := fun wx A2 c2 q1 q2 => by
    have := specApply A A2 c c2 N L p.pts p.names p.moves pat k wx q1 q2 hpo hL hk hl hm hn hn1
    rwa [hxx, hyk] at this
  have hplen := hpo.1
  obtain ⟨w0, hw0⟩ : ∃ w0, w.alloc (.cells #[.int .i64 p.pts, .string p.names, .slice A p.moves.length c] 29) = w0 := ⟨_, rfl⟩
  have hb0 : Below w.heap.size w w0 := by rw [← hw0]; exact (by repeat (first | exact Below.refl _ _ | assumption | refine Below.setCell ?_ (by first | omega | (simp <;> omega)) _ | refine Below.alloc ?_ (by first | omega | (simp <;> omega)) _ | refine Below.drew ?_))
  have R0 : Hid (w0.heap[w.heap.size]? = some (.cells #[.int .i64 p.pts, .string p.names, .slice A p.moves.length c] 29 (0, 0))) := by rw [← hw0]; exact heap_alloc_new _ _
  have hhl := row_lt R0.out
  have HM0 := Lib.hid (hx.below hb0)
  have HP0 := Lib.hid (hp.below hb0)
  have HY0 := Lib.hid (hy.below hb0)
  have HB0 := Lib.hid hb0
  obtain ⟨m, hmm⟩ : ∃ m, p.moves.length = m := ⟨_, rfl⟩
  rw [hmm] at R0 hw0 HA ⊢
  clear hx hp hy hpo hk hm hyk hxx hb0 hmm hl
  go_enter Try.func127, Try.ntmps127
  go_wp2_with fail
  clear hw0
  refine (specCopy A2 c2 L pat w0 HP0.out hplen hL).mono ?_
  rintro e w1 ⟨v1, rfl, hF1, hb1⟩
  obtain ⟨A1, c1, hc1, rfl, hI1⟩ := hF1.capped
  rw [hplen] at hc1 hF1 ⊢
  have HI1 := Lib.hid hI1
  have HB1 := Lib.hid (belowStep hb1 HB0.out)
  have R1 := Lib.hid (rowB hb1 R0.out)
  have HM1 := Lib.hid (HM0.out.below hb1)
  have HY1 := Lib.hid (HY0.out.below hb1)
  have hz1 := hb1.size
  clear hF1 hI1 hb1 hplen HP0
  go_wp2_with fail
  go_loopw [7, 8] (fun v i wr => (i = .int .i64 0 ∧ v = .slice A1 L c1 ∧ wr = w1) ∨ (i = .int .i64 1 ∧ Fresh w1.heap.size wr v x ∧ Below w1.heap.size w1 wr)) (fun _ i _ => 1 - (intOf i).toNat)
  case atStart => exact .inl ⟨rfl, rfl, rfl⟩
  case round =>
    rcases hrel with ⟨rfl, rfl, rfl⟩ | ⟨rfl, hF, hB⟩
    · obtain ⟨b, off, rfl, hbl, hcy⟩ := HY1.out 0 (by simp)
      rw [Nat.add_zero] at hcy
      have hcy' : wr.cell? ⟨b, off, none⟩ = some (.int .i64 y) := hcy
      obtain ⟨p0, p1, p2, -, pl⟩ := row3 R1.out
      clear hcy
      go_wp2_with fail
      go_region_held3 (fun w' => w'.cell? ⟨w.heap.size, 0, none⟩ = some (.int .i64 p.pts) ∧ w'.cell? ⟨w.heap.size, 1, none⟩ = some (.string p.names) ∧ w'.cell? ⟨w.heap.size, 2, none⟩ = some (.slice A m c) ∧ w'.cell? ⟨b, off, none⟩ = some (.int .i64 y)) (first | go_keep | exact ⟨e0, e1, e2, e3⟩) ((go_at_call 113; refine (HA.out _ _ _ (by exact HM1.out) (by exact HI1.out)).mono ?_; rintro e w5 ⟨v5, rfl, hF5, hb5⟩; have B5 : Below wr.heap.size wr w5 := ⟨hb5.os, hb5.tape, hb5.output, hb5.size, hb5.block⟩; have e0 := (B5.cell (p := ⟨w.heap.size, 0, none⟩) pl).trans p0; have e1 := (B5.cell (p := ⟨w.heap.size, 1, none⟩) pl).trans p1; have e2 := (B5.cell (p := ⟨w.heap.size, 2, none⟩) pl).trans p2; have e3 := (B5.cell (p := ⟨b, off, none⟩) hbl).trans hcy'))
      have HF5 : Hid (Fresh wr.heap.size w5 v5 x) := hF5
      go_wp2_with fail
      go_roundw
      case rel => exact .inr ⟨by go_num, HF5.out, B5⟩
      case measure => simp [intOf]
    · go_wp2_with fail
      go_ret
      exact ⟨_, rfl, hF.mono (by omega), belowStep hB HB1.out⟩
theorem letsOf_bd {m k : Nat} {y : Int} (hk : k < 2 * m) (h : (letsOf m).getD k 0 = y) : y ≠ 0 ∧ -(m : Int) ≤ y ∧ y ≤ (m : Int) := by
  rcases Nat.mod_two_eq_zero_or_one k with e2 | e2
  · obtain ⟨i, rfl⟩ : ∃ i, k = 2 * i := ⟨k / 2, by omega⟩
    rw [letsOf_even _ i (by omega)] at h
    omega
  · obtain ⟨i, rfl⟩ : ∃ i, k = 2 * i + 1 := ⟨k / 2, by omega⟩
    rw [letsOf_odd _ i (by omega)] at h
    omega
set_option maxRecDepth 100000 in
set_option maxHeartbeats 4000000 in
theorem specAfter (A A1 A2 A3 : Option Addr) (c c1 c2 c3 N L : Nat) (p : Pz) (trk pat : List Int) (k : Nat) (y : Int) (w : World) (h : PzAt w A p) (hx : IntsAt w A1 trk) (hp : IntsAt w A2 pat) (hy : IntsAt w A3 [y]) (hl : trk.length ≤ 1048576) (hc2 : L ≤ c2) (hpo : PtsOk N L pat) (hL : L ≤ 1048576) (hk : k < 2 * p.moves.length) (hm8 : p.moves.length ≤ 8) (hm : MvsOk N p.moves) (hn : N ≤ 20) (hn1 : 1 ≤ N) (hyk : (letsOf p.moves.length).getD k 0 = y) (hq : trkQ p trk = true) (hd : diQ p.pts pat trk.length = true) :
    Calls Try.prog 102 #[.agg #[.int .i64 p.pts, .string p.names, .slice A p.moves.length c], .slice A1 trk.length c1, .slice A2 L c2, .slice A3 1 c3] w fun e w' => ∃ v, e = .returned (.tuple #[v, .bool true]) ∧ Fresh w.heap.size w' v (pickI ((mvsOf p.moves).getD k []) pat) ∧ Below w.heap.size w w' := by
  obtain ⟨hy0, hy1, hy2⟩ := letsOf_bd hk hyk
  obtain ⟨w0, hw0⟩ : ∃ w0, w.alloc (.cells #[.int .i64 p.pts, .string p.names, .slice A p.moves.length c] 29) = w0 := ⟨_, rfl⟩
  have hb0 : Below w.heap.size w w0 := by rw [← hw0]; exact (by repeat (first | exact Below.refl _ _ | assumption | refine Below.setCell ?_ (by first | omega | (simp <;> omega)) _ | refine Below.alloc ?_ (by first | omega | (simp <;> omega)) _ | refine Below.drew ?_))
  have R0 : Hid (w0.heap[w.heap.size]? = some (.cells #[.int .i64 p.pts, .string p.names, .slice A p.moves.length c] 29 (0, 0))) := by rw [← hw0]; exact heap_alloc_new _ _
  have HPT := Lib.hid (specPattern A c p A1 A2 c1 c2 L trk pat w0 (h.below hb0) (hx.below hb0) (hp.below hb0) hl hpo.1 hc2 hL hq hd)
  have HVW : Hid (∀ wx, IntsAt wx A3 [y] → Calls Try.prog 126 #[.int .i64 (p.moves.length : Int), .slice A3 1 c3] wx fun e w' => e = .returned (.bool true) ∧ wx = w') := fun wx q => specValidWord1 A3 c3 p.moves.length y wx q hy0 (by omega) (by omega) (by omega) (by omega)
  obtain ⟨x, hxx⟩ : ∃ x, pickI ((mvsOf p.moves).getD k []) pat = x := ⟨_, rfl⟩
  have HAL : Hid (∀ wx, LAt wx A p.moves → IntsAt wx A2 pat → IntsAt wx A3 [y] → Calls Try.prog 127 #[.agg #[.int .i64 p.pts, .string p.names, .slice A p.moves.length c], .slice A2 L c2, .slice A3 1 c3] wx fun e w' => ∃ v, e = .returned v ∧ Fresh wx.heap.size w' v x ∧ Below wx.heap.size wx w') := fun wx q1 q2 q3 => by
    have := specLetters1 A A2 A3 c c2 c3 N L p pat k y wx q1 q2 q3 hpo hL hk (by omega) hm hn hn1 hyk
    rwa [hxx] at this
  rw [hxx]
  have HM0 := Lib.hid (h.below hb0).at_
  have HP0 := Lib.hid (hp.below hb0)
  have HY0 := Lib.hid (hy.below hb0)
  have HB0 := Lib.hid hb0
  obtain ⟨p0, p1, p2, -, -⟩ := row3 R0.out
  obtain ⟨m, hmm⟩ : ∃ m, p.moves.length = m := ⟨_, rfl⟩
  rw [hmm] at R0 hw0 HPT HVW HAL p2 ⊢
  clear h hx hp hy hpo hk hm8 hm hyk hq hd hxx hb0 hmm
  go_enter Try.func102, Try.ntmps102
  go_wp2_with fail
  clear hw0
  refine HPT.out.mono ?_
  rintro e w1 ⟨rfl, hb1⟩
  have HB1 := Lib.hid (belowStep hb1 HB0.out)
  have R1 := Lib.hid (rowB hb1 R0.out)
  have HM1 := Lib.hid (HM0.out.below hb1)
  have HP1 := Lib.hid (HP0.out.below hb1)
  have HY1 := Lib.hid (HY0.out.below hb1)
  clear hb1 p0 p1 p2
  obtain ⟨p0, p1, p2, -, -⟩ := row3 R1.out
  go_wp2_with fail
  refine (HVW.out w1 HY1.out).mono ?_
  rintro e w2 ⟨rfl, rfl⟩
  go_wp2_with fail
  refine (HAL.out w1 HM1.out HP1.out HY1.out).mono ?_
  rintro e w3 ⟨v3, rfl, hF3, hb3⟩
  have hz := HB1.out.size
  have HF3 := Lib.hid (hF3.mono hz)
  have HB3 := Lib.hid (belowStep hb3 HB1.out)
  clear hF3 hb3
  go_wp2_with fail
  go_ret2
  exact ⟨v3, rfl, HF3.out, HB3.out⟩
end
section
open Go.RowKit Grp

theorem mvs_isP {n : Nat} {ms : List (List Int)} (h : MvsOk n ms) : ∀ i, i < (mvsOf ms).length → ∃ p, IsP n p ∧ (mvsOf ms).getD i [] = natI p := by
  intro i hi
  rw [mvsOf_len] at hi
  obtain ⟨p, hp, e⟩ := h (i / 2) (by omega)
  rcases Nat.mod_two_eq_zero_or_one i with e2 | e2
  · rw [show i = 2 * (i / 2) from by omega, mvsOf_even ms _ (by omega), e]
    exact ⟨p, hp, rfl⟩
  · rw [show i = 2 * (i / 2) + 1 from by omega, mvsOf_odd ms _ (by omega), e]
    refine ⟨inv p, hp.inv, ?_⟩
    unfold invI
    rw [natOf_natI]
/-- Distinct entries. -/
def Dist (L : Nat) (x : List Int) : Prop := ∀ i j, i < L → j < L → x.getD i 0 = x.getD j 0 → i = j
theorem Dist.pick {N L : Nat} {x : List Int} {p : List Nat} (hx : PtsOk N L x) (hp : IsP N p) (h : Dist L x) : Dist L (pickI (natI p) x) := fun i j hi hj e => by
  rw [pickI_at (by rw [hx.1]; exact hi), pickI_at (by rw [hx.1]; exact hj), natI_getD, natI_getD] at e
  have h1 := hx.2 i hi
  have h2 := hx.2 j hj
  have := hp.inj (i := (x.getD i 0).toNat) (j := (x.getD j 0).toNat) (by omega) (by omega) (by omega)
  exact h i j hi hj (by omega)
theorem Dist.diQ {N L : Nat} {x : List Int} (hx : PtsOk N L x) (h : Dist L x) : diQ (N : Int) x L = true := by
  refine diQ_yes ⟨hx.1, fun j hj => ?_⟩
  rw [hx.1] at hj
  have h1 := hx.2 j hj
  refine ⟨h1.1, by omega, fun hm => ?_⟩
  obtain ⟨k, hk, e⟩ := List.getElem_of_mem hm
  rw [List.length_take, hx.1] at hk
  rw [List.getElem_take] at e
  have e2 : x.getD k 0 = x.getD j 0 := by
    rw [← e, List.getD_eq_getElem?_getD, List.getElem?_eq_getElem (by rw [hx.1]; omega)]; rfl
  have := h k j (by omega) hj e2
  omega
def RowsDi (L : Nat) (ls : List (List Int)) : Prop := ∀ i, i < ls.length → Dist L (ls.getD i [])
theorem RowsDi.app {L : Nat} {a b : List (List Int)} (h : RowsDi L a) (g : RowsDi L b) : RowsDi L (a ++ b) := fun i hi => by
  rw [List.length_append] at hi
  rw [List.getD_eq_getElem?_getD]
  by_cases e : i < a.length
  · rw [List.getElem?_append_left e, ← List.getD_eq_getElem?_getD]; exact h i e
  · rw [List.getElem?_append_right (by omega), ← List.getD_eq_getElem?_getD]; exact g _ (by omega)
theorem addTo_di {N L : Nat} {ls : List (List Int)} {pat : List Int} (hp : PtsOk N L pat) (hd : Dist L pat) : ∀ mvs acc, (∀ i, i < mvs.length → ∃ p, IsP N p ∧ mvs.getD i [] = natI p) → RowsDi L acc → RowsDi L (addTo ls pat mvs acc) := by
  intro mvs
  induction mvs with
  | nil => intro acc _ h; exact h
  | cons m r ih =>
    intro acc hm h
    obtain ⟨q, hq, e⟩ := hm 0 (by simp)
    have e : m = natI q := e
    have hr : ∀ i, i < r.length → ∃ p, IsP N p ∧ r.getD i [] = natI p := fun i hi => hm (i + 1) (by simpa using hi)
    simp only [addTo]
    split
    · exact ih acc hr h
    · refine ih _ hr (h.app fun i hi => ?_)
      obtain rfl : i = 0 := by simpa using hi
      rw [e]
      exact Dist.pick hp hq hd
theorem up_di {m : Int} {xs : List Int} (h : PtTo m xs xs.length) : Dist xs.length xs := by
  have hlt : ∀ d i, i + d + 1 < xs.length → xs.getD i 0 < xs.getD (i + d + 1) 0 := by
    intro d
    induction d with
    | zero => intro i hi; have := (h (i + 1) hi).2.2 (by omega); simpa using this
    | succ d ih =>
      intro i hi
      have h1 := ih i (by omega)
      have h2 := (h (i + (d + 1) + 1) hi).2.2 (by omega)
      rw [Nat.add_sub_cancel] at h2
      rw [show i + (d + 1) = i + d + 1 from by omega] at h2 ⊢
      omega
  intro i j hi hj e
  rcases Nat.lt_trichotomy i j with g | g | g
  · have := hlt (j - i - 1) i (by omega)
    rw [show i + (j - i - 1) + 1 = j from by omega] at this
    omega
  · exact g
  · have := hlt (i - j - 1) j (by omega)
    rw [show j + (i - j - 1) + 1 = i from by omega] at this
    omega
/-- All that a chain's table is known to be. -/
structure ChG (p : Pz) (trk : List Int) (N : Nat) : Prop where
  pts : p.pts = (N : Int)
  le : N ≤ 20
  one : 1 ≤ N
  mvs : MvsOk N p.moves
  m8 : p.moves.length ≤ 8
  len : trk.length ≤ 20
  pos : 0 < trk.length
  bld : buildQ p trk = true
  trq : trkQ p trk = true
  ok : ∀ i, chOk (mvsOf p.moves) trk i → BsOk N trk.length (chF (mvsOf p.moves) trk i).1 ∧ RowsDi trk.length (chF (mvsOf p.moves) trk i).1.ls ∧ i ≤ (chF (mvsOf p.moves) trk i).1.ls.length
theorem ch_good {p : Pz} {trk : List Int} (h : buildQ p trk = true) : ∃ N, ChG p trk N := by
  obtain ⟨-, -, -, -, hl20, -, -⟩ := bld_bfs h
  have h2 := h
  unfold buildQ at h2
  rw [Bool.and_eq_true] at h2
  obtain ⟨N, hN, hN20, hmv, hm8, hpt, hne⟩ := trk_parts h2.1
  obtain ⟨r, hr⟩ := Option.isSome_iff_exists.1 h2.2
  have hd0 : Dist trk.length trk := by
    have h3 := h2.1
    unfold trkQ at h3
    rw [Bool.and_eq_true] at h3
    exact up_di (ptQ_iff.1 h3.2).2
  have hb := ch_bfs hmv.all hpt hr
  have hdi : ∀ i, chOk (mvsOf p.moves) trk i → RowsDi trk.length (chF (mvsOf p.moves) trk i).1.ls := by
    intro i
    induction i with
    | zero =>
      intro _ j hj
      obtain rfl : j = 0 := by simpa [chF] using hj
      exact hd0
    | succ i ih =>
      intro hok
      have h1 := ih (hok.less (by omega))
      have h3 := hb i (hok.less (by omega))
      have h4 := hok i (by omega)
      exact h1.app (addTo_di (h3.1.rows i h4) (h1 i h4) _ [] (mvs_isP hmv) (fun j hj => by simp at hj))
  have hp := hpt.2 0 hne
  exact ⟨N, hN, hN20, by omega, hmv, hm8, hl20, hne, h, h2.1, fun i hi => ⟨(hb i hi).1, hdi i hi, (hb i hi).2.2⟩⟩
end
section
open Go.RowKit Grp

theorem take_getR (zs : List Int) (m : Nat) (h : m < zs.length) : zs.take (m + 1) = zs.take m ++ [zs.getD m 0] := by
  rw [List.take_succ_eq_append_getElem h, getD_at _ _ h]
theorem flat_moreR {ls : List (List Int)} {k : Nat} (h : k < ls.length) : (ls.take (k + 1)).flatten = (ls.take k).flatten ++ ls.getD k [] := by
  rw [List.take_succ_eq_append_getElem h, List.flatten_append, List.getD_eq_getElem?_getD, List.getElem?_eq_getElem h]
  simp
theorem three_own (w : World) (a b c : Int) : BFresh w.heap.size (w.alloc (.cells #[.int .u8 a, .int .u8 b, .int .u8 c] 5)) (.slice (some ⟨w.heap.size, 0, none⟩) 3 3) [a, b, c] :=
  ⟨by simp, .inr ⟨w.heap.size, 3, #[.int .u8 a, .int .u8 b, .int .u8 c], rfl, Nat.le_refl _, heap_alloc_new w _, by simp, by unfold maxLen; omega, rfl, rfl⟩⟩
set_option maxRecDepth 100000 in
set_option maxHeartbeats 4000000 in
theorem specRecord (A : Option Addr) (c n k N L : Nat) (ls : List (List Int)) (w : World) (hl : LAt w A ls) (hn : ls.length = n) (hn1 : n ≤ 255) (hk : k ≤ 60000) (hr : RowsOk N L ls) (hN : N ≤ 256) (hL : L ≤ 1000) :
    Calls Try.prog 104 #[.int .i64 (k : Int), .slice A n c] w fun e w' => e = .returned (.string (recS k ls)) ∧ Below w.heap.size w w' := by
  have HL := Lib.hid hl
  have HN := Lib.hid hn
  have HR := Lib.hid hr
  have hwa : IntKind.u8.wrap ((k : Int) / 256) = (k : Int) / 256 := IntWalk.u8_in _ (by omega)
  have hwb : IntKind.u8.wrap ((k : Int) % 256) = (k : Int) % 256 := IntWalk.u8_in _ (by omega)
  have hwc : IntKind.u8.wrap (n : Int) = (n : Int) := IntWalk.u8_in _ (by omega)
  obtain ⟨H, hH⟩ : ∃ H, [(k : Int) / 256, (k : Int) % 256, (n : Int)] = H := ⟨_, rfl⟩
  have hHl : H.length = 3 := by rw [← hH]; rfl
  have hF0 : BFresh w.heap.size (w.alloc (.cells #[.int .u8 ((k : Int) / 256), .int .u8 ((k : Int) % 256), .int .u8 (n : Int)] 5)) (.slice (some ⟨w.heap.size, 0, none⟩) 3 3) (H ++ (ls.take 0).flatten) := by rw [← hH]; exact three_own w _ _ _
  have hB0 : Below w.heap.size w (w.alloc (.cells #[.int .u8 ((k : Int) / 256), .int .u8 ((k : Int) % 256), .int .u8 (n : Int)] 5)) := (by repeat (first | exact Below.refl _ _ | assumption | refine Below.setCell ?_ (by first | omega | (simp <;> omega)) _ | refine Below.alloc ?_ (by first | omega | (simp <;> omega)) _ | refine Below.drew ?_))
  have HREC : Hid (recS k ls = strOfNums (H ++ ls.flatten)) := by
    unfold Hid recS headL
    rw [num2, num1, ← hH, hn]
    rw [show (k : Int) / 256 % 256 = (k : Int) / 256 from by omega, show (n : Int) % 256 = (n : Int) from by omega]
    rfl
  have HFL : Hid (∀ j, j ≤ n → (ls.take j).flatten.length ≤ 255 * 1000) := fun j hj => by
    have : RowsOk N L (ls.take j) := fun i hi => by
      rw [List.length_take] at hi
      rw [List.getD_eq_getElem?_getD, List.getElem?_take_of_lt (by omega), ← List.getD_eq_getElem?_getD]
      exact hr i (by omega)
    rw [flat_len this, List.length_take]
    exact Nat.mul_le_mul (by omega) hL
  clear hl hn hr hH
  rw [HREC.out]
  go_enter Try.func104, Try.ntmps104
  go_wp2_with fail
  go_loopw [5, 6] (fun v i wr => ∃ j : Nat, j ≤ n ∧ i = .int .i64 j ∧ BFresh w.heap.size wr v (H ++ (ls.take j).flatten) ∧ Below w.heap.size w wr) (fun _ i _ => n - (intOf i).toNat)
  case atStart => exact ⟨0, Nat.zero_le _, rfl, hF0, hB0⟩
  case round =>
    obtain ⟨j, hj, rfl, hF, hB⟩ := hrel
    clear hF0 hB0
    have hzB := hB.size
    by_cases hlt : j < n
    · obtain ⟨b, off, Ai, ci, rfl, h1, h2, h3, h4⟩ := HL.out j (by rw [HN.out]; exact hlt)
      obtain ⟨zs, hzs⟩ : ∃ zs, ls.getD j [] = zs := ⟨_, rfl⟩
      have hpo := HR.out j (by rw [HN.out]; exact hlt)
      have HNX : Hid ((H ++ (ls.take (j + 1)).flatten) = (H ++ (ls.take j).flatten) ++ zs) := by unfold Hid; rw [flat_moreR (by rw [HN.out]; exact hlt), hzs, List.append_assoc]
      rw [hzs] at h2 h3 h4 hpo
      have HPO := Lib.hid hpo
      have hzl : zs.length = L := hpo.1
      have hQl : (H ++ (ls.take j).flatten).length ≤ 300000 := by have := HFL.out j hj; rw [List.length_append]; omega
      obtain ⟨Q, hQ⟩ : ∃ Q, H ++ (ls.take j).flatten = Q := ⟨_, rfl⟩
      rw [hQ] at hF hQl
      have HQ := Lib.hid hQ
      rw [hzl] at h2 h3
      have HROW : Hid (∀ wr, Below w.heap.size w wr → wr.cell? ⟨b, off + j, none⟩ = some (.slice Ai L ci) ∧ IntsAt wr Ai zs) := fun wx h => ⟨(h.cell (p := ⟨b, off + j, none⟩) h1).trans h3, h4.below h⟩
      have q0 : (0 : Int) ≤ (j : Int) := by omega
      have q1 : (j : Int) < (n : Int) := by omega
      have hF5 : BFresh w.heap.size wr u5 (Q ++ zs.take 0) := by simpa using hF
      obtain ⟨hc0, -⟩ := HROW.out _ hB
      clear hpo hzs hQ h1 h2 h3 h4 hzl
      go_wp2_with fail
      clear hF hc0
      go_loopw [5, 7] (fun v i wr => ∃ m : Nat, m ≤ L ∧ i = .int .i64 m ∧ BFresh w.heap.size wr v (Q ++ zs.take m) ∧ Below w.heap.size w wr) (fun _ i _ => L - (intOf i).toNat)
      case atStart => exact ⟨0, Nat.zero_le _, rfl, hF5, hB⟩
      case round =>
        obtain ⟨m, hm, rfl, hF, hB⟩ := hrel
        clear hF5
        obtain ⟨hc0, hI⟩ := HROW.out _ hB
        have hzB := hB.size
        by_cases hlt2 : m < L
        · have hmz : m < zs.length := by rw [HPO.out.1]; exact hlt2
          obtain ⟨b', off', hA, hb', hc2⟩ := hI m hmz
          have hy := HPO.out.2 m hlt2
          obtain ⟨y, hyy⟩ : ∃ y, zs.getD m 0 = y := ⟨_, rfl⟩
          have HN2 : Hid (Q ++ zs.take (m + 1) = (Q ++ zs.take m) ++ [y]) := by unfold Hid; rw [take_getR zs m hmz, hyy, List.append_assoc]
          rw [hyy] at hc2 hy
          have q2 : (0 : Int) ≤ (m : Int) := by omega
          have q3 : (m : Int) < (L : Int) := by omega
          have hwr : IntKind.u8.wrap y = y := IntWalk.u8_in _ (by omega)
          have hzl : (Q ++ zs.take m).length ≤ 4194304 := by rw [List.length_append, List.length_take]; omega
          obtain ⟨us, hus⟩ : ∃ us, Q ++ zs.take m = us := ⟨_, rfl⟩
          rw [hus] at hF hzl
          have HZ := Lib.hid hus
          subst hA
          clear hus hb' hyy hmz hI
          go_wp2_with (first | (at_builtin; refine append_by1 rfl (.tmp 33) (.tmp 42) rfl w.heap.size _ us y rfl (hF.al _) _ rfl (by simp) hzl (by simp; omega) ?_; intro v4 w4 hF4 hg4 hb4))
          go_roundw
          case rel => exact ⟨m + 1, by omega, by go_num, by rw [HN2.out, HZ.out]; exact hF4, (hB.alloc hzB _).trans hb4⟩
          case measure => simp [intOf]; omega
        · obtain rfl : m = L := by omega
          rw [List.take_of_length_le (by rw [HPO.out.1]; exact Nat.le_refl _)] at hF
          go_wp2_with fail
          go_roundw
          case rel => exact ⟨j + 1, by omega, by go_num, by rw [HNX.out, HQ.out]; exact hF, hB⟩
          case measure => simp [intOf]; omega
    · obtain rfl : j = n := by omega
      rw [List.take_of_length_le (by rw [HN.out]; exact Nat.le_refl _)] at hF
      have hcv := hF.str
      go_wp2_with fail
      go_ret
      exact ⟨rfl, hB⟩
end
end
section
section
open Go.RowKit Grp

set_option maxRecDepth 100000 in
set_option maxHeartbeats 1000000 in
theorem specLettersP (A : Option Addr) (c : Nat) (p : Pz) (w : World) (h : PzAt w A p) (hq : pzQ p = true) (hm : p.moves.length ≤ 100000) :
    Calls Try.prog 101 #[.agg #[.int .i64 p.pts, .string p.names, .slice A p.moves.length c]] w fun e w' => ∃ v, e = .returned v ∧ Fresh w.heap.size w' v (letsOf p.moves.length) ∧ Below w.heap.size w w' := by
  obtain ⟨w0, hw0⟩ : ∃ w0, w.alloc (.cells #[.int .i64 p.pts, .string p.names, .slice A p.moves.length c] 29) = w0 := ⟨_, rfl⟩
  have hb0 : Below w.heap.size w w0 := by rw [← hw0]; exact (by repeat (first | exact Below.refl _ _ | assumption | refine Below.setCell ?_ (by first | omega | (simp <;> omega)) _ | refine Below.alloc ?_ (by first | omega | (simp <;> omega)) _ | refine Below.drew ?_))
  have R0 : Hid (w0.heap[w.heap.size]? = some (.cells #[.int .i64 p.pts, .string p.names, .slice A p.moves.length c] 29 (0, 0))) := by rw [← hw0]; exact heap_alloc_new _ _
  have HC := Lib.hid (specPz A c p w0 (h.below hb0))
  rw [hq] at HC
  have HB0 := Lib.hid hb0
  obtain ⟨p0, p1, p2, -, -⟩ := row3 R0.out
  clear h hq hb0
  go_enter Try.func101, Try.ntmps101
  go_wp2_with fail
  clear hw0
  refine HC.out.mono ?_
  rintro e w1 ⟨rfl, hb1⟩
  have HB1 := Lib.hid (belowStep hb1 HB0.out)
  have R1 := Lib.hid (rowB hb1 R0.out)
  clear hb1 p0 p1 p2
  obtain ⟨p0, p1, p2, -, -⟩ := row3 R1.out
  go_wp2_with fail
  refine (specLetters A c p w1 hm).mono ?_
  rintro e w2 ⟨v2, rfl, hF2, hb2⟩
  have hz := HB1.out.size
  have HF2 := Lib.hid (hF2.mono hz)
  have HB2 := Lib.hid (belowStep hb2 HB1.out)
  clear hF2 hb2
  go_wp2_with fail
  go_ret
  exact ⟨v2, rfl, HF2.out, HB2.out⟩
/-- A copied table: header, lists, distances. -/
def CpTb (lo : Nat) (t : Tb) (v1 v2 v3 : Value) (w : World) : Prop :=
  Fresh lo w v1 t.trk ∧ GrAt lo (fun b => b < lo ∨ v1.ownBlock = some b ∨ v3.ownBlock = some b) w v2 t.pats ∧ Fresh lo w v3 t.dist ∧ ∀ b, v1.ownBlock = some b → v3.ownBlock ≠ some b
theorem CpTb.kept {lo g : Nat} {t : Tb} {v1 v2 v3 : Value} {w w' : World} (h : CpTb lo t v1 v2 v3 w) (hg : w.grownBy w' (some g)) (hz : g < lo) : CpTb lo t v1 v2 v3 w' :=
  ⟨h.1.row hg (fun b hb e => by have := (World.ownsRow.lt h.1 b hb).1; injection e with e; omega), h.2.1.kept hg (fun g' e => by injection e with e; exact .inl (by omega)), h.2.2.1.row hg (fun b hb e => by have := (World.ownsRow.lt h.2.2.1 b hb).1; injection e with e; omega), h.2.2.2⟩
theorem CpTb.less {lo lo' : Nat} {t : Tb} {v1 v2 v3 : Value} {w : World} (h : CpTb lo t v1 v2 v3 w) (hl : lo' ≤ lo) : CpTb lo' t v1 v2 v3 w :=
  ⟨h.1.mono hl, h.2.1.weak hl (fun b hb => by
    rcases hb with e | e
    · exact .inl (by omega)
    · exact .inr e), h.2.2.1.mono hl, h.2.2.2⟩
set_option maxRecDepth 100000 in
set_option maxHeartbeats 1000000 in
theorem specCopyT (A1 A2 A3 : Option Addr) (c1 c2 c3 : Nat) (t : Tb) (w : World) (h1 : IntsAt w A1 t.trk) (h2 : LAt w A2 t.pats) (h3 : IntsAt w A3 t.dist) (hs : ShortT t) :
    Calls Try.prog 124 #[.agg #[.slice A1 t.trk.length c1, .slice A2 t.pats.length c2, .slice A3 t.dist.length c3]] w fun e w' => ∃ v1 v2 v3, e = .returned (.agg #[v1, v2, v3]) ∧ CpTb w.heap.size t v1 v2 v3 w' ∧ Below w.heap.size w w' := by
  obtain ⟨xs, ls, ys⟩ := t
  obtain ⟨s1, s2, s3, s4⟩ := hs
  dsimp only at *
  obtain ⟨w0, hw0⟩ : ∃ w0, (w.alloc (.cells #[.slice A1 xs.length c1, .slice A2 ls.length c2, .slice A3 ys.length c3] 34)).alloc (.cells #[.slice none 0 0, .slice none 0 0, .slice none 0 0] 34) = w0 := ⟨_, rfl⟩
  have hb0 : Below w.heap.size w w0 := by rw [← hw0]; exact (by repeat (first | exact Below.refl _ _ | assumption | refine Below.setCell ?_ (by first | omega | (simp <;> omega)) _ | refine Below.alloc ?_ (by first | omega | (simp <;> omega)) _ | refine Below.drew ?_))
  have R0 : Hid (w0.heap[w.heap.size]? = some (.cells #[.slice A1 xs.length c1, .slice A2 ls.length c2, .slice A3 ys.length c3] 34 (0, 0))) := by rw [← hw0]; exact alloc2_0 _ _ _
  have R1 : Hid (w0.heap[w.heap.size + 1]? = some (.cells #[.slice none 0 0, .slice none 0 0, .slice none 0 0] 34 (0, 0))) := by rw [← hw0]; exact alloc2_1 _ _ _
  have HW0 := Lib.hid hw0
  have HB0 := Lib.hid hb0
  have H1 := Lib.hid (h1.below hb0)
  have H2 := Lib.hid (h2.below hb0)
  have H3 := Lib.hid (h3.below hb0)
  have S3 : Hid (∀ i, i < ls.length → (ls.getD i []).length ≤ 1048576) := s3
  have hs0 : (w.alloc (.cells #[.slice A1 xs.length c1, .slice A2 ls.length c2, .slice A3 ys.length c3] 34)).heap.size = w.heap.size + 1 := by simp
  clear h1 h2 h3 s3 hb0 hw0
  go_enter Try.func124, Try.ntmps124
  go_wp2_with fail
  rw [HW0.out]
  try rw [hs0]
  obtain ⟨p0, p1, p2, -, pl⟩ := row3 R0.out
  go_region_held3 (fun w' => w'.cell? ⟨w.heap.size, 0, none⟩ = some (.slice A1 xs.length c1) ∧ w'.cell? ⟨w.heap.size, 1, none⟩ = some (.slice A2 ls.length c2) ∧ w'.cell? ⟨w.heap.size, 2, none⟩ = some (.slice A3 ys.length c3)) (first | go_keep | exact ⟨u50, u51, u52⟩ | exact ⟨u60, u61, u62⟩ | exact ⟨u70, u71, u72⟩) (first
      | (go_at_call 46; with_reducible refine Calls.mono (specCopy A1 c1 xs.length xs _ (by exact H1.out.below (by first | assumption | exact (Below.refl _ _).drew)) rfl s1) ?_; rintro e w5 ⟨v5, rfl, hF5, hb5⟩; have T5 : Below w0.heap.size w0 w5 := belowStep hb5 (by first | assumption | exact (Below.refl _ _).drew); have u50 := (T5.cell (p := ⟨w.heap.size, 0, none⟩) pl).trans p0; have u51 := (T5.cell (p := ⟨w.heap.size, 1, none⟩) pl).trans p1; have u52 := (T5.cell (p := ⟨w.heap.size, 2, none⟩) pl).trans p2; obtain ⟨t50, t51, t52, t5f, t5l⟩ := row3 (rowB T5 R1.out); obtain ⟨A5, c5, -, rfl, -⟩ := hF5.capped)
      | (go_at_call 46; with_reducible refine Calls.mono (specCopy A3 c3 ys.length ys _ (by exact H3.out.below (by first | assumption | exact (Below.refl _ _).drew)) rfl s4) ?_; rintro e w7 ⟨v7, rfl, hF7, hb7⟩; have T7 : Below w0.heap.size w0 w7 := belowStep hb7 (by first | assumption | exact (Below.refl _ _).drew); have u70 := (T7.cell (p := ⟨w.heap.size, 0, none⟩) pl).trans p0; have u71 := (T7.cell (p := ⟨w.heap.size, 1, none⟩) pl).trans p1; have u72 := (T7.cell (p := ⟨w.heap.size, 2, none⟩) pl).trans p2; obtain ⟨t70, t71, t72, t7f, t7l⟩ := row3 (rowB T7 R1.out); obtain ⟨A7, c7, -, rfl, -⟩ := hF7.capped)
      | (go_at_call 47; refine Calls.mono (specCopies A2 c2 ls.length ls _ (by exact H2.out.below (by first | assumption | exact (Below.refl _ _).drew)) rfl s2 S3.out) ?_; rintro e w6 ⟨v6, rfl, hF6, hb6⟩; have T6 : Below w0.heap.size w0 w6 := belowStep hb6 (by first | assumption | exact (Below.refl _ _).drew); have u60 := (T6.cell (p := ⟨w.heap.size, 0, none⟩) pl).trans p0; have u61 := (T6.cell (p := ⟨w.heap.size, 1, none⟩) pl).trans p1; have u62 := (T6.cell (p := ⟨w.heap.size, 2, none⟩) pl).trans p2; obtain ⟨t60, t61, t62, t6f, t6l⟩ := row3 (rowB T6 R1.out); obtain ⟨A6, c6, rfl, -, -⟩ := GrAt.shape hF6))
  obtain ⟨y0, y1, y2, -, -⟩ := row3 (row3S (rowB T7 R1.out) (.slice A5 xs.length c5) (.slice A6 ls.length c6) (.slice A7 ys.length c7))
  have hl1 : w.heap.size + 1 < w0.heap.size := row_lt R1.out
  have hd0 : w0.drew.heap.size = w0.heap.size := rfl
  rw [hd0] at hF5
  have hz3 := T5.size
  have hz5 := hb6.size
  have hz6 := hb7.size
  have hB7 := belowStep T7 HB0.out
  have HF5 : Hid (Fresh w.heap.size (((w7.setCell ⟨w.heap.size + 1, 0, none⟩ (.slice A5 xs.length c5)).setCell ⟨w.heap.size + 1, 1, none⟩ (.slice A6 ls.length c6)).setCell ⟨w.heap.size + 1, 2, none⟩ (.slice A7 ys.length c7)) (.slice A5 xs.length c5) xs) :=
      (((((hF5.below hb6).below hb7).setCell (a := ⟨w.heap.size + 1, 0, none⟩) (by simp only; omega) _).setCell (a := ⟨w.heap.size + 1, 1, none⟩) (by simp only; omega) _).setCell (a := ⟨w.heap.size + 1, 2, none⟩) (by simp only; omega) _).mono (show w.heap.size ≤ w0.heap.size by omega)
  have hA7 : ∀ b, (Value.slice A7 ys.length c7).ownBlock = some b → w6.heap.size ≤ b := fun b hb => (World.ownsRow.lt hF7 b hb).1
  have hA5 : ∀ b, (Value.slice A5 xs.length c5).ownBlock = some b → b < w5.heap.size := fun b hb => (World.ownsRow.lt hF5 b hb).2
  have HNE : Hid (∀ b, (Value.slice A5 xs.length c5).ownBlock = some b → (Value.slice A7 ys.length c7).ownBlock ≠ some b) := fun b hb e => by
    have := hA5 b hb
    have := hA7 b e
    omega
  have hG6 : GrAt w5.heap.size (fun b => b < w5.heap.size ∨ (Value.slice A5 xs.length c5).ownBlock = some b ∨ (Value.slice A7 ys.length c7).ownBlock = some b) w6 (.slice A6 ls.length c6) ls := GrAt.other hF6 (fun b hb => by
    rcases hb with e | e | e
    · exact .inl e
    · exact .inl (hA5 b e)
    · exact .inr (hA7 b e))
  have HF6 : Hid (GrAt w.heap.size (fun b => b < w.heap.size ∨ (Value.slice A5 xs.length c5).ownBlock = some b ∨ (Value.slice A7 ys.length c7).ownBlock = some b) (((w7.setCell ⟨w.heap.size + 1, 0, none⟩ (.slice A5 xs.length c5)).setCell ⟨w.heap.size + 1, 1, none⟩ (.slice A6 ls.length c6)).setCell ⟨w.heap.size + 1, 2, none⟩ (.slice A7 ys.length c7)) (.slice A6 ls.length c6) ls) :=
      ((((hG6.below hb7).kept (setGrown _ (w.heap.size + 1) 0 _) (fun g e => by injection e with e; exact .inl (by omega))).kept (setGrown _ (w.heap.size + 1) 1 _) (fun g e => by injection e with e; exact .inl (by omega))).kept (setGrown _ (w.heap.size + 1) 2 _) (fun g e => by injection e with e; exact .inl (by omega))).weak (show w.heap.size ≤ w5.heap.size by omega) (fun b hb => by
        rcases hb with e | e
        · exact .inl (by omega)
        · exact .inr e)
  have HF7 : Hid (Fresh w.heap.size (((w7.setCell ⟨w.heap.size + 1, 0, none⟩ (.slice A5 xs.length c5)).setCell ⟨w.heap.size + 1, 1, none⟩ (.slice A6 ls.length c6)).setCell ⟨w.heap.size + 1, 2, none⟩ (.slice A7 ys.length c7)) (.slice A7 ys.length c7) ys) :=
      (((hF7.setCell (a := ⟨w.heap.size + 1, 0, none⟩) (by simp only; omega) _).setCell (a := ⟨w.heap.size + 1, 1, none⟩) (by simp only; omega) _).setCell (a := ⟨w.heap.size + 1, 2, none⟩) (by simp only; omega) _).mono (show w.heap.size ≤ w6.heap.size by omega)
  go_wp2_with fail
  refine bodyPost_ret (v := .agg #[.slice A5 xs.length c5, .slice A6 ls.length c6, .slice A7 ys.length c7]) (by simp [results, Try.results124, go_sem, y0, y1, y2]) rfl ?_
  exact ⟨_, _, _, rfl, ⟨HF5.out, HF6.out, HF7.out, HNE.out⟩, ((hB7.setCell (p := ⟨w.heap.size + 1, 0, none⟩) (Nat.le_succ _) _).setCell (p := ⟨w.heap.size + 1, 1, none⟩) (Nat.le_succ _) _).setCell (p := ⟨w.heap.size + 1, 2, none⟩) (Nat.le_succ _) _⟩
set_option maxRecDepth 100000 in
set_option maxHeartbeats 4000000 in
theorem specCopyJ (A1 A2 A3 : Option Addr) (c1 c2 c3 : Nat) (t : Tb) (nx : Int) (lg : ByteArray) (sy : Int) (w : World) (h1 : IntsAt w A1 t.trk) (h2 : LAt w A2 t.pats) (h3 : IntsAt w A3 t.dist) (hs : ShortT t) :
    Calls Try.prog 100 #[jobV A1 A2 A3 c1 c2 c3 t nx lg sy] w fun e w' => ∃ v1 v2 v3, e = .returned (.agg #[v1, v2, v3, .int .i64 nx, .string lg, .int .i64 sy]) ∧ CpTb w.heap.size t v1 v2 v3 w' ∧ Below w.heap.size w w' := by
  obtain ⟨w0, hw0⟩ : ∃ w0, (w.alloc (.cells #[.slice A1 t.trk.length c1, .slice A2 t.pats.length c2, .slice A3 t.dist.length c3, .int .i64 nx, .string lg, .int .i64 sy] 45)).alloc (.cells #[.slice none 0 0, .slice none 0 0, .slice none 0 0, .int .i64 0, .string ⟨#[]⟩, .int .i64 0] 45) = w0 := ⟨_, rfl⟩
  have hb0 : Below w.heap.size w w0 := by rw [← hw0]; exact (by repeat (first | exact Below.refl _ _ | assumption | refine Below.setCell ?_ (by first | omega | (simp <;> omega)) _ | refine Below.alloc ?_ (by first | omega | (simp <;> omega)) _ | refine Below.drew ?_))
  have R0 : Hid (w0.heap[w.heap.size]? = some (.cells #[.slice A1 t.trk.length c1, .slice A2 t.pats.length c2, .slice A3 t.dist.length c3, .int .i64 nx, .string lg, .int .i64 sy] 45 (0, 0))) := by rw [← hw0]; exact alloc2_0 _ _ _
  have R1 : Hid (w0.heap[w.heap.size + 1]? = some (.cells #[.slice none 0 0, .slice none 0 0, .slice none 0 0, .int .i64 0, .string ⟨#[]⟩, .int .i64 0] 45 (0, 0))) := by rw [← hw0]; exact alloc2_1 _ _ _
  have HW0 := Lib.hid hw0
  have HB0 := Lib.hid hb0
  have HC := Lib.hid (fun wx hb => specCopyT A1 A2 A3 c1 c2 c3 t wx (h1.below (Below.trans hb0 (Below.mono hb (by have := hb0.size; omega)))) (h2.below (Below.trans hb0 (Below.mono hb (by have := hb0.size; omega)))) (h3.below (Below.trans hb0 (Below.mono hb (by have := hb0.size; omega)))) hs)
  have hs0 : (w.alloc (.cells #[.slice A1 t.trk.length c1, .slice A2 t.pats.length c2, .slice A3 t.dist.length c3, .int .i64 nx, .string lg, .int .i64 sy] 45)).heap.size = w.heap.size + 1 := by simp
  unfold jobV
  clear h1 h2 h3 hs hb0 hw0
  go_enter Try.func100, Try.ntmps100
  go_wp2_with fail
  rw [HW0.out]
  try rw [hs0]
  obtain ⟨p0, p1, p2, p3, p4, p5, -, pl⟩ := row6 R0.out
  obtain ⟨n1, hn1⟩ : ∃ n1, t.trk.length = n1 := ⟨_, rfl⟩
  obtain ⟨n2, hn2⟩ : ∃ n2, t.pats.length = n2 := ⟨_, rfl⟩
  obtain ⟨n3, hn3⟩ : ∃ n3, t.dist.length = n3 := ⟨_, rfl⟩
  rw [hn1, hn2, hn3] at HC R0 ⊢
  rw [hn1] at p0
  rw [hn2] at p1
  rw [hn3] at p2
  have HN1 := Lib.hid hn1
  have HN2 := Lib.hid hn2
  have HN3 := Lib.hid hn3
  clear hn1 hn2 hn3
  go_region_held3 (fun w' => w'.cell? ⟨w.heap.size, 0, none⟩ = some (.slice A1 n1 c1) ∧ w'.cell? ⟨w.heap.size, 1, none⟩ = some (.slice A2 n2 c2) ∧ w'.cell? ⟨w.heap.size, 2, none⟩ = some (.slice A3 n3 c3) ∧ w'.cell? ⟨w.heap.size, 3, none⟩ = some (.int .i64 nx) ∧ w'.cell? ⟨w.heap.size, 4, none⟩ = some (.string lg) ∧ w'.cell? ⟨w.heap.size, 5, none⟩ = some (.int .i64 sy)) (first | go_keep | exact ⟨u50, u51, u52, u53, u54, u55⟩) ((go_at_call 124; refine (HC.out _ (by exact (Below.refl _ _).drew)).mono ?_; rintro e w5 ⟨v1, v2, v3, rfl, ⟨hF5, hF6, hF7, hNE⟩, hb5⟩; have T5 : Below w0.heap.size w0 w5 := ⟨hb5.os, hb5.tape, hb5.output, hb5.size, hb5.block⟩; have u50 := (T5.cell (p := ⟨w.heap.size, 0, none⟩) pl).trans p0; have u51 := (T5.cell (p := ⟨w.heap.size, 1, none⟩) pl).trans p1; have u52 := (T5.cell (p := ⟨w.heap.size, 2, none⟩) pl).trans p2; have u53 := (T5.cell (p := ⟨w.heap.size, 3, none⟩) pl).trans p3; have u54 := (T5.cell (p := ⟨w.heap.size, 4, none⟩) pl).trans p4; have u55 := (T5.cell (p := ⟨w.heap.size, 5, none⟩) pl).trans p5; have RT := rowB T5 R1.out; obtain ⟨t50, t51, t52, t53, t54, t55, t5f, t5l⟩ := row6 RT; obtain ⟨A5, c5, -, rfl, -⟩ := hF5.capped; obtain ⟨A6, c6, rfl, -, -⟩ := GrAt.shape hF6; obtain ⟨A7, c7, -, rfl, -⟩ := hF7.capped))
  have hl1 : w.heap.size + 1 < w0.heap.size := row_lt R1.out
  have hCP : CpTb w.heap.size t (.slice A5 t.trk.length c5) (.slice A6 t.pats.length c6) (.slice A7 t.dist.length c7) ((((((w5.setCell ⟨w.heap.size + 1, 0, none⟩ (.slice A5 t.trk.length c5)).setCell ⟨w.heap.size + 1, 1, none⟩ (.slice A6 t.pats.length c6)).setCell ⟨w.heap.size + 1, 2, none⟩ (.slice A7 t.dist.length c7)).setCell ⟨w.heap.size + 1, 3, none⟩ (.int .i64 nx)).setCell ⟨w.heap.size + 1, 4, none⟩ (.string lg)).setCell ⟨w.heap.size + 1, 5, none⟩ (.int .i64 sy)) :=
    CpTb.less (CpTb.kept (lo := w0.heap.size) ⟨hF5, hF6, hF7, hNE⟩ (grown6 _ _ _ _ _ _ _ _) hl1) (by omega)
  have HCP := Lib.hid hCP
  have HB5 := Lib.hid (belowStep T5 HB0.out)
  obtain ⟨y0, y1, y2, y3, y4, y5, -, -⟩ := row6 (row6S RT (.slice A5 t.trk.length c5) (.slice A6 t.pats.length c6) (.slice A7 t.dist.length c7) (.int .i64 nx) (.string lg) (.int .i64 sy))
  clear hCP hF5 hF6 hF7 hNE
  go_wp2_with fail
  refine bodyPost_ret (v := .agg #[.slice A5 t.trk.length c5, .slice A6 t.pats.length c6, .slice A7 t.dist.length c7, .int .i64 nx, .string lg, .int .i64 sy]) (by simp [results, Try.results100, go_sem, y0, y1, y2, y3, y4, y5]) rfl ?_
  exact ⟨_, _, _, rfl, HCP.out, belSet6 HB5.out (Nat.le_succ _) _ _ _ _ _ _⟩
end
section
open Go.RowKit Grp

structure XlAt (Z : Nat → Prop) (lo : Nat) (w : World) (vl vd va : Value) (ls : List (List Int)) (ds : List Int) (ad : List (List Int)) : Prop where
  lists : GrAt lo (fun b => Z b ∨ vd.ownBlock = some b ∨ va.ownBlock = some b) w vl ls
  deps : Fresh lo w vd ds
  adds : GrAt lo (fun b => Z b ∨ vd.ownBlock = some b ∨ vl.ownBlock = some b) w va ad
  zlt : ∀ b, Z b → b < w.heap.size
  zdep : ∀ b, vd.ownBlock = some b → ¬ Z b
section
variable {Z : Nat → Prop} {lo : Nat} {w w' : World} {vl vd va : Value} {ls ad : List (List Int)} {ds : List Int}
theorem XlAt.below (h : XlAt Z lo w vl vd va ls ds ad) (hb : Below w.heap.size w w') : XlAt Z lo w' vl vd va ls ds ad :=
  ⟨h.lists.below hb, h.deps.row (gB hb none) (fun b _ e => by cases e), h.adds.below hb, fun b hz => Nat.lt_of_lt_of_le (h.zlt b hz) hb.size, h.zdep⟩
theorem XlAt.kept (h : XlAt Z lo w vl vd va ls ds ad) {g : Nat} (hg : w.grownBy w' (some g)) (hz : Z g) : XlAt Z lo w' vl vd va ls ds ad :=
  ⟨h.lists.kept hg (fun g' e => by injection e with e; exact .inl (e ▸ hz)), h.deps.row hg (fun b hb e => by injection e with e; exact h.zdep b hb (e ▸ hz)), h.adds.kept hg (fun g' e => by injection e with e; exact .inl (e ▸ hz)), fun b hz => Nat.lt_of_lt_of_le (h.zlt b hz) hg.size, h.zdep⟩
theorem XlAt.list (h : XlAt Z lo w vl vd va ls ds ad) {vl' : Value} {ls' : List (List Int)} (hL : GrAt lo (fun b => Z b ∨ vd.ownBlock = some b ∨ va.ownBlock = some b) w' vl' ls') (hg : w.grownBy w' vl.ownBlock) (hat : vl'.ownBlock = vl.ownBlock ∨ vl'.ownBlock = some w.heap.size) : XlAt Z lo w' vl' vd va ls' ds ad := by
  have ho := h.lists.own
  refine ⟨hL, h.deps.row hg (fun b hb e => (ho b e).2.2 (.inr (.inl hb))), h.adds.step hg (fun g e => .inr (.inr e)) ?_, fun b hz => Nat.lt_of_lt_of_le (h.zlt b hz) hg.size, h.zdep⟩
  intro b hb
  rcases hb with e | e | e
  · exact .inl (.inl e)
  · exact .inl (.inr (.inl e))
  · rcases hat with e2 | e2
    · exact .inl (.inr (.inr (e2 ▸ e)))
    · rw [e2] at e; injection e with e; exact .inr (by omega)
theorem XlAt.add (h : XlAt Z lo w vl vd va ls ds ad) {va' : Value} {ad' : List (List Int)} (hL : GrAt lo (fun b => Z b ∨ vd.ownBlock = some b ∨ vl.ownBlock = some b) w' va' ad') (hg : w.grownBy w' va.ownBlock) (hat : va'.ownBlock = va.ownBlock ∨ va'.ownBlock = some w.heap.size) : XlAt Z lo w' vl vd va' ls ds ad' := by
  have ho := h.adds.own
  refine ⟨h.lists.step hg (fun g e => .inr (.inr e)) ?_, h.deps.row hg (fun b hb e => (ho b e).2.2 (.inr (.inl hb))), hL, fun b hz => Nat.lt_of_lt_of_le (h.zlt b hz) hg.size, h.zdep⟩
  intro b hb
  rcases hb with e | e | e
  · exact .inl (.inl e)
  · exact .inl (.inr (.inl e))
  · rcases hat with e2 | e2
    · exact .inl (.inr (.inr (e2 ▸ e)))
    · rw [e2] at e; injection e with e; exact .inr (by omega)
theorem XlAt.dep (h : XlAt Z lo w vl vd va ls ds ad) {vd' : Value} {ds' : List Int} (hD : Fresh lo w' vd' ds') (hg : w.grownBy w' vd.ownBlock) (hat : vd'.ownBlock = vd.ownBlock ∨ vd'.ownBlock = some w.heap.size) : XlAt Z lo w' vl vd' va ls ds' ad := by
  refine ⟨h.lists.step hg (fun g e => .inr (.inl e)) ?_, hD, h.adds.step hg (fun g e => .inr (.inl e)) ?_, fun b hz => Nat.lt_of_lt_of_le (h.zlt b hz) hg.size, fun b hb hz => ?_⟩
  · intro b hb
    rcases hb with e | e | e
    · exact .inl (.inl e)
    · rcases hat with e2 | e2
      · exact .inl (.inr (.inl (e2 ▸ e)))
      · rw [e2] at e; injection e with e; exact .inr (by omega)
    · exact .inl (.inr (.inr e))
  · intro b hb
    rcases hb with e | e | e
    · exact .inl (.inl e)
    · rcases hat with e2 | e2
      · exact .inl (.inr (.inl (e2 ▸ e)))
      · rw [e2] at e; injection e with e; exact .inr (by omega)
    · exact .inl (.inr (.inr e))
  · rcases hat with e2 | e2
    · exact h.zdep b (e2 ▸ hb) hz
    · rw [e2] at hb; injection hb with hb
      have := h.zlt b hz; omega
/-- All blocks of an expansion's lists are its own; others may hold the rows. -/
theorem XlAt.own (h : XlAt Z lo w vl vd va ls ds ad) : (∀ b, vl.ownBlock = some b → b < w.heap.size ∧ ¬ Z b) ∧ (∀ b, vd.ownBlock = some b → b < w.heap.size ∧ ¬ Z b) ∧ ∀ b, va.ownBlock = some b → b < w.heap.size ∧ ¬ Z b :=
  ⟨fun b hb => ⟨(h.lists.own b hb).2.1, fun hz => (h.lists.own b hb).2.2 (.inl hz)⟩, fun b hb => ⟨(World.ownsRow.lt h.deps b hb).2, h.zdep b hb⟩, fun b hb => ⟨(h.adds.own b hb).2.1, fun hz => (h.adds.own b hb).2.2 (.inl hz)⟩⟩
end
/-- The state of an expansion. -/
structure XRel (lo HO L : Nat) (Z : Nat → Prop) (w0 wr : World) (B1 : Option Addr) (d1 : Nat) (vl vd va : Value) (trk : List Int) (k : Nat) (lg : ByteArray) (sy : Int) (ls : List (List Int)) (ds : List Int) (ad : List (List Int)) : Prop where
  st : XlAt Z lo wr vl vd va ls ds ad
  row : wr.heap[HO]? = some (.cells #[.slice B1 L d1, vl, vd, .int .i64 (k : Int), .string lg, .int .i64 sy] 45 (0, 0))
  trk : Fresh lo wr (.slice B1 L d1) trk
  bel : Below lo w0 wr
  zho : Z HO
  zb1 : ∀ b, (Value.slice B1 L d1).ownBlock = some b → Z b
  hob : ∀ b, (Value.slice B1 L d1).ownBlock = some b → b ≠ HO
  lho : lo ≤ HO
  lw0 : lo ≤ w0.heap.size
section
variable {lo HO L : Nat} {Z : Nat → Prop} {w0 wr wr' : World} {B1 : Option Addr} {d1 : Nat} {vl vd va : Value} {trk : List Int} {k : Nat} {lg : ByteArray} {sy : Int} {ls ad : List (List Int)} {ds : List Int}
theorem XRel.below (h : XRel lo HO L Z w0 wr B1 d1 vl vd va trk k lg sy ls ds ad) (hb : Below wr.heap.size wr wr') : XRel lo HO L Z w0 wr' B1 d1 vl vd va trk k lg sy ls ds ad :=
  ⟨h.st.below hb, rowB hb h.row, h.trk.below hb, h.bel.trans (hb.mono (by have := h.bel.size; have := h.lw0; omega)), h.zho, h.zb1, h.hob, h.lho, h.lw0⟩
theorem XRel.grown (h : XRel lo HO L Z w0 wr B1 d1 vl vd va trk k lg sy ls ds ad) {row : Option Nat} (hg : wr.grownBy wr' row) (hr : ∀ b, row = some b → lo ≤ b) : Below lo w0 wr' :=
  h.bel.grown hg (by have := h.bel.size; have := h.lw0; omega) hr
theorem XRel.pushList (h : XRel lo HO L Z w0 wr B1 d1 vl vd va trk k lg sy ls ds ad) {vl' : Value} {ls' : List (List Int)} (hL : GrAt lo (fun b => Z b ∨ vd.ownBlock = some b ∨ va.ownBlock = some b) wr' vl' ls') (hg : wr.grownBy wr' vl.ownBlock) (hat : vl'.ownBlock = vl.ownBlock ∨ vl'.ownBlock = some wr.heap.size) : XRel lo HO L Z w0 (wr'.setCell ⟨HO, 1, none⟩ vl') B1 d1 vl' vd va trk k lg sy ls' ds ad := by
  have ho := h.st.lists.own
  exact ⟨(h.st.list hL hg hat).kept (setGrown _ _ _ _) h.zho, rowSet vl' (rowR hg h.row (fun e => (ho HO e).2.2 (.inl h.zho))), (h.trk.row hg (fun b hb e => (ho b e).2.2 (.inl (h.zb1 b hb)))).row (setGrown wr' HO 1 vl') (fun b hb e => by injection e with e; exact h.hob b hb e.symm), (h.grown hg (fun b e => (ho b e).1)).setCell h.lho _, h.zho, h.zb1, h.hob, h.lho, h.lw0⟩
theorem XRel.pushDep (h : XRel lo HO L Z w0 wr B1 d1 vl vd va trk k lg sy ls ds ad) {vd' : Value} {ds' : List Int} (hD : Fresh lo wr' vd' ds') (hg : wr.grownBy wr' vd.ownBlock) (hat : vd'.ownBlock = vd.ownBlock ∨ vd'.ownBlock = some wr.heap.size) : XRel lo HO L Z w0 (wr'.setCell ⟨HO, 2, none⟩ vd') B1 d1 vl vd' va trk k lg sy ls ds' ad :=
  ⟨(h.st.dep hD hg hat).kept (setGrown _ _ _ _) h.zho, rowSet vd' (rowR hg h.row (fun e => h.st.zdep HO e h.zho)), (h.trk.row hg (fun b hb e => h.st.zdep b e (h.zb1 b hb))).row (setGrown wr' HO 2 vd') (fun b hb e => by injection e with e; exact h.hob b hb e.symm), (h.grown hg (fun b e => (World.ownsRow.lt h.st.deps b e).1)).setCell h.lho _, h.zho, h.zb1, h.hob, h.lho, h.lw0⟩
theorem XRel.pushAdd (h : XRel lo HO L Z w0 wr B1 d1 vl vd va trk k lg sy ls ds ad) {va' : Value} {ad' : List (List Int)} (hL : GrAt lo (fun b => Z b ∨ vd.ownBlock = some b ∨ vl.ownBlock = some b) wr' va' ad') (hg : wr.grownBy wr' va.ownBlock) (hat : va'.ownBlock = va.ownBlock ∨ va'.ownBlock = some wr.heap.size) : XRel lo HO L Z w0 wr' B1 d1 vl vd va' trk k lg sy ls ds ad' := by
  have ho := h.st.adds.own
  exact ⟨h.st.add hL hg hat, rowR hg h.row (fun e => (ho HO e).2.2 (.inl h.zho)), h.trk.row hg (fun b hb e => (ho b e).2.2 (.inl (h.zb1 b hb))), h.grown hg (fun b e => (ho b e).1), h.zho, h.zb1, h.hob, h.lho, h.lw0⟩
/-- Other memory of the call that the appends leave alone. -/
theorem XlAt.leaves (h : XlAt Z lo wr vl vd va ls ds ad) {b : Nat} (hz : Z b) : vl.ownBlock ≠ some b ∧ vd.ownBlock ≠ some b ∧ va.ownBlock ≠ some b :=
  ⟨fun e => (h.own.1 b e).2 hz, fun e => (h.own.2.1 b e).2 hz, fun e => (h.own.2.2 b e).2 hz⟩
end
set_option maxRecDepth 100000 in
theorem step_append_at {w : World} {ops : Array Oper} {o : Oper} {a : Act} {K : Act → World → Prop} {Q : Exit → Act → World → Prop} {E : Prop} (hgd : o.guard = none) (s x : Operand)
    (hop : o.op = Op.call { callee := Callee.builtin Builtin.append, args := #[s, x], argTypes := #[31, 31] })
    (B : Nat) (v : Value) (xs : List Int) (n : Int) (hs : a.eval s = v) (hown : Fresh B w v xs) (g : Nat) (hx : a.eval x = .slice (some ⟨g, 0, none⟩) 1 1)
    (hcell : w.cell? ⟨g, 0, none⟩ = some (.int .i64 n)) (hl : xs.length ≤ 1048576) (hB : B ≤ w.heap.size)
    (h : ∀ A' c' w', Fresh B w' (.slice A' (xs.length + 1) c') (xs ++ [n]) → w.grownBy w' v.ownBlock → ((Value.slice A' (xs.length + 1) c').ownBlock = v.ownBlock ∨ (Value.slice A' (xs.length + 1) c').ownBlock = some w.heap.size) → K (a.put o.dst (.slice A' (xs.length + 1) c')) w') :
    if Region.wanted o (yielded ops a.tmps) = true then Oper.wp Try.prog o a w K Q else E := by
  have hw : Region.wanted o (yielded ops a.tmps) = true := by simp [Region.wanted, hgd]
  rw [if_pos hw]
  obtain ⟨i0, hi, hz0, hz1, hz2⟩ := info_parts intInfo
  obtain ⟨v', w', hr, hown', hgrow, -, hat⟩ := run_append_own_at (P := Try.prog) w B 31 o.type 2 i0 (.int .i64 0) 1 8 Try.underlying31 hi hz0 hz1 hz2 rfl (by decide) v xs.length (xs.map (Value.int .i64)) hown ⟨g, 0, none⟩ 1 1 [.int .i64 n] rfl
    (by intro j u2 hj; match j, hj with
        | 0, hj => simp at hj; subst hj; simpa [Addr.add] using hcell)
    (by intro u2 hu2; simp at hu2; subst hu2; rfl) (by unfold maxLen; omega) (by omega) hB
  have hF : Fresh B w' v' (xs ++ [n]) := by simpa [Fresh] using hown'
  obtain ⟨A', c', -, hv', -⟩ := hF.capped
  rw [List.length_append, List.length_singleton] at hv'
  subst hv'
  unfold Oper.wp execOp
  simp only [hop, resolve, invoke, builtin, Sem.run_bind, Sem.run_pure, Result.andThen_ok, List.map_toArray, List.map_cons, List.map_nil, hs, hx, hr]
  exact h A' c' w' hF hgrow hat
end
end
end Go.Proofs.Ytfhdnanbhigpmaa
