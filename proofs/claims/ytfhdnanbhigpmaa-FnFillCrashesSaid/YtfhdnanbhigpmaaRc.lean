/- The pattern behind a letter, spec. Conditions: the pattern and the letter are valid. The patterns of a chain are lists of distinct points, plain. The record of an expansion, spec. Conditions: rows of points below 256. -/
import Derived.Test.YtfhdnanbhigpmaaIl
import Derived.Test.YtfhdnanbhigpmaaJs
import Derived.Test.YtfhdnanbhigpmaaRs
import Derived.Test.YtfhdnanbhigpmaaBy
namespace Go.Proofs.Ytfhdnanbhigpmaa
section
open Go.RowKit Grp

set_option maxRecDepth 100000 in
set_option maxHeartbeats 1000000 in
theorem specWord1 (A : Option Addr) (c n : Nat) (y : Int) (w : World) (hy : IntsAt w A [y]) (h0 : y ≠ 0) (h1 : -8 ≤ y) (h2 : y ≤ 8) (h3 : y ≤ (n : Int)) (h4 : -y ≤ (n : Int)) :
    Calls Try.prog 139 #[.int .i64 (n : Int), .slice A 1 c] w fun e w' => e = .returned (.bool true) ∧ w = w' := by
  obtain ⟨b, off, rfl, hb, hc⟩ := hy 0 (by simp)
  rw [Nat.add_zero] at hc
  have hc' : w.cell? ⟨b, off, none⟩ = some (.int .i64 y) := hc
  have hin : inR y (-8) 8 = true := inR_iff.2 ⟨h1, h2⟩
  have hwn : IntKind.i64.wrap (-y) = -y := IntWalk.i64_in _ (by omega)
  have hy0 : (y == 0) = false := by simpa using h0
  have k3 : ¬ (n : Int) < y := by omega
  have k4 : ¬ (n : Int) < -y := by omega
  clear hy hc
  go_enter Try.func139, Try.ntmps139
  go_wp2_with fail
  go_loopw [5] (fun i wr => ∃ k : Nat, k ≤ 1 ∧ i = .int .i64 k ∧ wr = w) (fun i _ => 1 - (intOf i).toNat)
  case atStart => exact ⟨0, by omega, rfl, rfl⟩
  case round =>
    obtain ⟨k, hk, rfl, rfl⟩ := hrel
    by_cases hlt : k < 1
    · obtain rfl : k = 0 := by omega
      go_wp2_with (first | (go_at_call 71; refine (inRange_any _ _ _ _).mono ?_; rintro e w1 ⟨rfl, rfl⟩; rw [hin]))
      go_roundw
      case rel => exact ⟨1, by omega, by go_num, by first | trivial | rfl⟩
      case measure => simp [intOf]
    · obtain rfl : k = 1 := by omega
      go_wp2
      go_ret
      exact ⟨rfl, rfl⟩
set_option maxHeartbeats 1000000 in
theorem specValidWord1 (A : Option Addr) (c n : Nat) (y : Int) (w : World) (hy : IntsAt w A [y]) (h0 : y ≠ 0) (h1 : -8 ≤ y) (h2 : y ≤ 8) (h3 : y ≤ (n : Int)) (h4 : -y ≤ (n : Int)) :
    Calls Try.prog 126 #[.int .i64 (n : Int), .slice A 1 c] w fun e w' => e = .returned (.bool true) ∧ w = w' := by
  have HC := Lib.hid (specWord1 A c n y w hy h0 h1 h2 h3 h4)
  clear hy h0 h1 h2 h3 h4
  go_enter Try.func126, Try.ntmps126
  go_wp2_with fail
  refine HC.out.mono ?_
  rintro e w1 ⟨rfl, rfl⟩
  go_wp2_with fail
  go_ret
  exact ⟨rfl, rfl⟩
set_option maxRecDepth 100000 in
set_option maxHeartbeats 1000000 in
theorem specPattern (A : Option Addr) (c : Nat) (p : Pz) (A1 A2 : Option Addr) (c1 c2 L : Nat) (trk pat : List Int) (w : World) (h : PzAt w A p) (hx : IntsAt w A1 trk) (hp : IntsAt w A2 pat) (hl : trk.length ≤ 1048576) (hpl : pat.length = L) (hc2 : L ≤ c2) (hpl2 : L ≤ 1048576) (hq : trkQ p trk = true) (hd : diQ p.pts pat trk.length = true) :
    Calls Try.prog 125 #[.agg #[.int .i64 p.pts, .string p.names, .slice A p.moves.length c], .slice A1 trk.length c1, .slice A2 L c2] w (ReadsBool true w) := by
  have HP := Lib.hid h
  have HX := Lib.hid hx
  have HPA := Lib.hid hp
  have hq2 := hq
  unfold trkQ at hq2
  rw [Bool.and_eq_true] at hq2
  have hpts := pz_pts hq2.1
  obtain ⟨w0, hw0⟩ : ∃ w0, w.alloc (.cells #[.int .i64 p.pts, .string p.names, .slice A p.moves.length c] 29) = w0 := ⟨_, rfl⟩
  have hb : Below w.heap.size w w0 := by rw [← hw0]; exact (by repeat (first | exact Below.refl _ _ | assumption | refine Below.setCell ?_ (by first | omega | (simp <;> omega)) _ | refine Below.alloc ?_ (by first | omega | (simp <;> omega)) _ | refine Below.drew ?_))
  have r0 : w0.heap[w.heap.size]? = some (.cells #[.int .i64 p.pts, .string p.names, .slice A p.moves.length c] 29 (0, 0)) := by rw [← hw0]; exact heap_alloc_new _ _
  have HC := Lib.hid (specTrk A c p A1 c1 trk w0 (h.below hb) (hx.below hb) hl)
  rw [hq] at HC
  obtain ⟨p0, p1, p2, -, -⟩ := row3 r0
  have R0 := Lib.hid r0
  have HB := Lib.hid hb
  have HDQ := Lib.hid hd
  have HPL := Lib.hid hpl
  clear h hx hp hq hq2 hb r0 hd hpl
  go_enter Try.func125, Try.ntmps125
  go_wp2_with fail
  clear hw0
  refine HC.out.mono ?_
  rintro e w1 ⟨rfl, hb1⟩
  have HB1 := Lib.hid (belowStep hb1 HB.out)
  have r1 := rowB hb1 R0.out
  clear p0 p1 p2 hb1
  obtain ⟨p0, p1, p2, -, -⟩ := row3 r1
  clear r1
  have hdist := specDist p.pts trk.length A2 c2 pat w1 (HPA.out.below HB1.out) (by rw [HPL.out]; exact hpl2) (by rw [HPL.out]; exact hc2) hpts.1 hpts.2
  rw [HDQ.out, HPL.out] at hdist
  have HD := Lib.hid hdist
  clear hdist
  go_wp2_with fail
  refine HD.out.mono ?_
  rintro e w2 ⟨rfl, nq, rfl⟩
  go_wp2_with fail
  go_ret
  exact ⟨rfl, belowDrewN HB1.out _⟩
set_option maxRecDepth 100000 in
set_option maxHeartbeats 4000000 in
theorem specLetters1 (A A2 A3 : Option Addr) (c c2 c3 N L : Nat) (p : Pz) (pat : List Int) (k : Nat) (y : Int) (w : World) (hx : LAt w A p.moves) (hp : IntsAt w A2 pat) (hy : IntsAt w A3 [y]) (hpo : PtsOk N L pat) (hL : L ≤ 1048576) (hk : k < 2 * p.moves.length) (hl : p.moves.length ≤ 100000) (hm : MvsOk N p.moves) (hn : N ≤ 20) (hn1 : 1 ≤ N) (hyk : (letsOf p.moves.length).getD k 0 = y) :
    Calls Try.prog 127 #[.agg #[.int .i64 p.pts, .string p.names, .slice A p.moves.length c], .slice A2 L c2, .slice A3 1 c3] w fun e w' => ∃ v, e = .returned v ∧ Fresh w.heap.size w' v (pickI ((mvsOf p.moves).getD k []) pat) ∧ Below w.heap.size w w' := by
  obtain ⟨x, hxx⟩ : ∃ x, pickI ((mvsOf p.moves).getD k []) pat = x := ⟨_, rfl⟩
  rw [hxx]
  have HA : Hid (∀ wx A2 c2, LAt wx A p.moves → IntsAt wx A2 pat → Calls Try.prog 113 #[.agg #[.int .i64 p.pts, .string p.names, .slice A p.moves.length c], .slice A2 L c2, .int .i64 y] wx fun e w' => ∃ v, e = .returned v ∧ Fresh wx.heap.size w' v x ∧ Below wx.heap.size wx w') := fun wx A2 c2 q1 q2 => by
    have := specApply A A2 c c2 N L p.pts p.names p.moves pat k wx q1 q2 hpo hL hk hl hm hn hn1
    rwa [hxx, hyk] at this
  have hplen := hpo.1
  obtain ⟨w0, hw0⟩ : ∃ w0, w.alloc (.cells #[.int .i64 p.pts, .string p.names, .slice A p.moves.length c] 29) = w0 := ⟨_, rfl⟩
  have hb0 : Below w.heap.size w w0 := by rw [← hw0]; exact (by repeat (first | exact Below.refl _ _ | assumption | refine Below.setCell ?_ (by first | omega | (simp <;> omega)) _ | refine Below.alloc ?_ (by first | omega | (simp <;> omega)) _ | refine Below.drew ?_))
  have R0 : Hid (w0.heap[w.heap.size]? = some (.cells #[.int .i64 p.pts, .string p.names, .slice A p.moves.length c] 29 (0, 0))) := by rw [← hw0]; exact heap_alloc_new _ _
  have hhl := row_lt R0.out
  have HM0 := Lib.hid (hx.below hb0)
  have HP0 := Lib.hid (hp.below hb0)
  have HY0 := Lib.hid (hy.below hb0)
  have HB0 := Lib.hid hb0
  obtain ⟨m, hmm⟩ : ∃ m, p.moves.length = m := ⟨_, rfl⟩
  rw [hmm] at R0 hw0 HA ⊢
  clear hx hp hy hpo hk hm hyk hxx hb0 hmm hl
  go_enter Try.func127, Try.ntmps127
  go_wp2_with fail
  clear hw0
  refine (specCopy A2 c2 L pat w0 HP0.out hplen hL).mono ?_
  rintro e w1 ⟨v1, rfl, hF1, hb1⟩
  obtain ⟨A1, c1, hc1, rfl, hI1⟩ := hF1.capped
  rw [hplen] at hc1 hF1 ⊢
  have HI1 := Lib.hid hI1
  have HB1 := Lib.hid (belowStep hb1 HB0.out)
  have R1 := Lib.hid (rowB hb1 R0.out)
  have HM1 := Lib.hid (HM0.out.below hb1)
  have HY1 := Lib.hid (HY0.out.below hb1)
  have hz1 := hb1.size
  clear hF1 hI1 hb1 hplen HP0
  go_wp2_with fail
  go_loopw [7, 8] (fun v i wr => (i = .int .i64 0 ∧ v = .slice A1 L c1 ∧ wr = w1) ∨ (i = .int .i64 1 ∧ Fresh w1.heap.size wr v x ∧ Below w1.heap.size w1 wr)) (fun _ i _ => 1 - (intOf i).toNat)
  case atStart => exact .inl ⟨rfl, rfl, rfl⟩
  case round =>
    rcases hrel with ⟨rfl, rfl, rfl⟩ | ⟨rfl, hF, hB⟩
    · obtain ⟨b, off, rfl, hbl, hcy⟩ := HY1.out 0 (by simp)
      rw [Nat.add_zero] at hcy
      have hcy' : wr.cell? ⟨b, off, none⟩ = some (.int .i64 y) := hcy
      obtain ⟨p0, p1, p2, -, pl⟩ := row3 R1.out
      clear hcy
      go_wp2_with fail
      go_region_held3 (fun w' => w'.cell? ⟨w.heap.size, 0, none⟩ = some (.int .i64 p.pts) ∧ w'.cell? ⟨w.heap.size, 1, none⟩ = some (.string p.names) ∧ w'.cell? ⟨w.heap.size, 2, none⟩ = some (.slice A m c) ∧ w'.cell? ⟨b, off, none⟩ = some (.int .i64 y)) (first | go_keep | exact ⟨e0, e1, e2, e3⟩) ((go_at_call 113; refine (HA.out _ _ _ (by exact HM1.out) (by exact HI1.out)).mono ?_; rintro e w5 ⟨v5, rfl, hF5, hb5⟩; have B5 : Below wr.heap.size wr w5 := ⟨hb5.os, hb5.tape, hb5.output, hb5.size, hb5.block⟩; have e0 := (B5.cell (p := ⟨w.heap.size, 0, none⟩) pl).trans p0; have e1 := (B5.cell (p := ⟨w.heap.size, 1, none⟩) pl).trans p1; have e2 := (B5.cell (p := ⟨w.heap.size, 2, none⟩) pl).trans p2; have e3 := (B5.cell (p := ⟨b, off, none⟩) hbl).trans hcy'))
      have HF5 : Hid (Fresh wr.heap.size w5 v5 x) := hF5
      go_wp2_with fail
      go_roundw
      case rel => exact .inr ⟨by go_num, HF5.out, B5⟩
      case measure => simp [intOf]
    · go_wp2_with fail
      go_ret
      exact ⟨_, rfl, hF.mono (by omega), belowStep hB HB1.out⟩
theorem letsOf_bd {m k : Nat} {y : Int} (hk : k < 2 * m) (h : (letsOf m).getD k 0 = y) : y ≠ 0 ∧ -(m : Int) ≤ y ∧ y ≤ (m : Int) := by
  rcases Nat.mod_two_eq_zero_or_one k with e2 | e2
  · obtain ⟨i, rfl⟩ : ∃ i, k = 2 * i := ⟨k / 2, by omega⟩
    rw [letsOf_even _ i (by omega)] at h
    omega
  · obtain ⟨i, rfl⟩ : ∃ i, k = 2 * i + 1 := ⟨k / 2, by omega⟩
    rw [letsOf_odd _ i (by omega)] at h
    omega
set_option maxRecDepth 100000 in
set_option maxHeartbeats 4000000 in
theorem specAfter (A A1 A2 A3 : Option Addr) (c c1 c2 c3 N L : Nat) (p : Pz) (trk pat : List Int) (k : Nat) (y : Int) (w : World) (h : PzAt w A p) (hx : IntsAt w A1 trk) (hp : IntsAt w A2 pat) (hy : IntsAt w A3 [y]) (hl : trk.length ≤ 1048576) (hc2 : L ≤ c2) (hpo : PtsOk N L pat) (hL : L ≤ 1048576) (hk : k < 2 * p.moves.length) (hm8 : p.moves.length ≤ 8) (hm : MvsOk N p.moves) (hn : N ≤ 20) (hn1 : 1 ≤ N) (hyk : (letsOf p.moves.length).getD k 0 = y) (hq : trkQ p trk = true) (hd : diQ p.pts pat trk.length = true) :
    Calls Try.prog 102 #[.agg #[.int .i64 p.pts, .string p.names, .slice A p.moves.length c], .slice A1 trk.length c1, .slice A2 L c2, .slice A3 1 c3] w fun e w' => ∃ v, e = .returned (.tuple #[v, .bool true]) ∧ Fresh w.heap.size w' v (pickI ((mvsOf p.moves).getD k []) pat) ∧ Below w.heap.size w w' := by
  obtain ⟨hy0, hy1, hy2⟩ := letsOf_bd hk hyk
  obtain ⟨w0, hw0⟩ : ∃ w0, w.alloc (.cells #[.int .i64 p.pts, .string p.names, .slice A p.moves.length c] 29) = w0 := ⟨_, rfl⟩
  have hb0 : Below w.heap.size w w0 := by rw [← hw0]; exact (by repeat (first | exact Below.refl _ _ | assumption | refine Below.setCell ?_ (by first | omega | (simp <;> omega)) _ | refine Below.alloc ?_ (by first | omega | (simp <;> omega)) _ | refine Below.drew ?_))
  have R0 : Hid (w0.heap[w.heap.size]? = some (.cells #[.int .i64 p.pts, .string p.names, .slice A p.moves.length c] 29 (0, 0))) := by rw [← hw0]; exact heap_alloc_new _ _
  have HPT := Lib.hid (specPattern A c p A1 A2 c1 c2 L trk pat w0 (h.below hb0) (hx.below hb0) (hp.below hb0) hl hpo.1 hc2 hL hq hd)
  have HVW : Hid (∀ wx, IntsAt wx A3 [y] → Calls Try.prog 126 #[.int .i64 (p.moves.length : Int), .slice A3 1 c3] wx fun e w' => e = .returned (.bool true) ∧ wx = w') := fun wx q => specValidWord1 A3 c3 p.moves.length y wx q hy0 (by omega) (by omega) (by omega) (by omega)
  obtain ⟨x, hxx⟩ : ∃ x, pickI ((mvsOf p.moves).getD k []) pat = x := ⟨_, rfl⟩
  have HAL : Hid (∀ wx, LAt wx A p.moves → IntsAt wx A2 pat → IntsAt wx A3 [y] → Calls Try.prog 127 #[.agg #[.int .i64 p.pts, .string p.names, .slice A p.moves.length c], .slice A2 L c2, .slice A3 1 c3] wx fun e w' => ∃ v, e = .returned v ∧ Fresh wx.heap.size w' v x ∧ Below wx.heap.size wx w') := fun wx q1 q2 q3 => by
    have := specLetters1 A A2 A3 c c2 c3 N L p pat k y wx q1 q2 q3 hpo hL hk (by omega) hm hn hn1 hyk
    rwa [hxx] at this
  rw [hxx]
  have HM0 := Lib.hid (h.below hb0).at_
  have HP0 := Lib.hid (hp.below hb0)
  have HY0 := Lib.hid (hy.below hb0)
  have HB0 := Lib.hid hb0
  obtain ⟨p0, p1, p2, -, -⟩ := row3 R0.out
  obtain ⟨m, hmm⟩ : ∃ m, p.moves.length = m := ⟨_, rfl⟩
  rw [hmm] at R0 hw0 HPT HVW HAL p2 ⊢
  clear h hx hp hy hpo hk hm8 hm hyk hq hd hxx hb0 hmm
  go_enter Try.func102, Try.ntmps102
  go_wp2_with fail
  clear hw0
  refine HPT.out.mono ?_
  rintro e w1 ⟨rfl, hb1⟩
  have HB1 := Lib.hid (belowStep hb1 HB0.out)
  have R1 := Lib.hid (rowB hb1 R0.out)
  have HM1 := Lib.hid (HM0.out.below hb1)
  have HP1 := Lib.hid (HP0.out.below hb1)
  have HY1 := Lib.hid (HY0.out.below hb1)
  clear hb1 p0 p1 p2
  obtain ⟨p0, p1, p2, -, -⟩ := row3 R1.out
  go_wp2_with fail
  refine (HVW.out w1 HY1.out).mono ?_
  rintro e w2 ⟨rfl, rfl⟩
  go_wp2_with fail
  refine (HAL.out w1 HM1.out HP1.out HY1.out).mono ?_
  rintro e w3 ⟨v3, rfl, hF3, hb3⟩
  have hz := HB1.out.size
  have HF3 := Lib.hid (hF3.mono hz)
  have HB3 := Lib.hid (belowStep hb3 HB1.out)
  clear hF3 hb3
  go_wp2_with fail
  go_ret2
  exact ⟨v3, rfl, HF3.out, HB3.out⟩
end
section
open Go.RowKit Grp

theorem mvs_isP {n : Nat} {ms : List (List Int)} (h : MvsOk n ms) : ∀ i, i < (mvsOf ms).length → ∃ p, IsP n p ∧ (mvsOf ms).getD i [] = natI p := by
  intro i hi
  rw [mvsOf_len] at hi
  obtain ⟨p, hp, e⟩ := h (i / 2) (by omega)
  rcases Nat.mod_two_eq_zero_or_one i with e2 | e2
  · rw [show i = 2 * (i / 2) from by omega, mvsOf_even ms _ (by omega), e]
    exact ⟨p, hp, rfl⟩
  · rw [show i = 2 * (i / 2) + 1 from by omega, mvsOf_odd ms _ (by omega), e]
    refine ⟨inv p, hp.inv, ?_⟩
    unfold invI
    rw [natOf_natI]
/-- Distinct entries. -/
def Dist (L : Nat) (x : List Int) : Prop := ∀ i j, i < L → j < L → x.getD i 0 = x.getD j 0 → i = j
theorem Dist.pick {N L : Nat} {x : List Int} {p : List Nat} (hx : PtsOk N L x) (hp : IsP N p) (h : Dist L x) : Dist L (pickI (natI p) x) := fun i j hi hj e => by
  rw [pickI_at (by rw [hx.1]; exact hi), pickI_at (by rw [hx.1]; exact hj), natI_getD, natI_getD] at e
  have h1 := hx.2 i hi
  have h2 := hx.2 j hj
  have := hp.inj (i := (x.getD i 0).toNat) (j := (x.getD j 0).toNat) (by omega) (by omega) (by omega)
  exact h i j hi hj (by omega)
theorem Dist.diQ {N L : Nat} {x : List Int} (hx : PtsOk N L x) (h : Dist L x) : diQ (N : Int) x L = true := by
  refine diQ_yes ⟨hx.1, fun j hj => ?_⟩
  rw [hx.1] at hj
  have h1 := hx.2 j hj
  refine ⟨h1.1, by omega, fun hm => ?_⟩
  obtain ⟨k, hk, e⟩ := List.getElem_of_mem hm
  rw [List.length_take, hx.1] at hk
  rw [List.getElem_take] at e
  have e2 : x.getD k 0 = x.getD j 0 := by
    rw [← e, List.getD_eq_getElem?_getD, List.getElem?_eq_getElem (by rw [hx.1]; omega)]; rfl
  have := h k j (by omega) hj e2
  omega
def RowsDi (L : Nat) (ls : List (List Int)) : Prop := ∀ i, i < ls.length → Dist L (ls.getD i [])
theorem RowsDi.app {L : Nat} {a b : List (List Int)} (h : RowsDi L a) (g : RowsDi L b) : RowsDi L (a ++ b) := fun i hi => by
  rw [List.length_append] at hi
  rw [List.getD_eq_getElem?_getD]
  by_cases e : i < a.length
  · rw [List.getElem?_append_left e, ← List.getD_eq_getElem?_getD]; exact h i e
  · rw [List.getElem?_append_right (by omega), ← List.getD_eq_getElem?_getD]; exact g _ (by omega)
theorem addTo_di {N L : Nat} {ls : List (List Int)} {pat : List Int} (hp : PtsOk N L pat) (hd : Dist L pat) : ∀ mvs acc, (∀ i, i < mvs.length → ∃ p, IsP N p ∧ mvs.getD i [] = natI p) → RowsDi L acc → RowsDi L (addTo ls pat mvs acc) := by
  intro mvs
  induction mvs with
  | nil => intro acc _ h; exact h
  | cons m r ih =>
    intro acc hm h
    obtain ⟨q, hq, e⟩ := hm 0 (by simp)
    have e : m = natI q := e
    have hr : ∀ i, i < r.length → ∃ p, IsP N p ∧ r.getD i [] = natI p := fun i hi => hm (i + 1) (by simpa using hi)
    simp only [addTo]
    split
    · exact ih acc hr h
    · refine ih _ hr (h.app fun i hi => ?_)
      obtain rfl : i = 0 := by simpa using hi
      rw [e]
      exact Dist.pick hp hq hd
theorem up_di {m : Int} {xs : List Int} (h : PtTo m xs xs.length) : Dist xs.length xs := by
  have hlt : ∀ d i, i + d + 1 < xs.length → xs.getD i 0 < xs.getD (i + d + 1) 0 := by
    intro d
    induction d with
    | zero => intro i hi; have := (h (i + 1) hi).2.2 (by omega); simpa using this
    | succ d ih =>
      intro i hi
      have h1 := ih i (by omega)
      have h2 := (h (i + (d + 1) + 1) hi).2.2 (by omega)
      rw [Nat.add_sub_cancel] at h2
      rw [show i + (d + 1) = i + d + 1 from by omega] at h2 ⊢
      omega
  intro i j hi hj e
  rcases Nat.lt_trichotomy i j with g | g | g
  · have := hlt (j - i - 1) i (by omega)
    rw [show i + (j - i - 1) + 1 = j from by omega] at this
    omega
  · exact g
  · have := hlt (i - j - 1) j (by omega)
    rw [show j + (i - j - 1) + 1 = i from by omega] at this
    omega
/-- All that a chain's table is known to be. -/
structure ChG (p : Pz) (trk : List Int) (N : Nat) : Prop where
  pts : p.pts = (N : Int)
  le : N ≤ 20
  one : 1 ≤ N
  mvs : MvsOk N p.moves
  m8 : p.moves.length ≤ 8
  len : trk.length ≤ 20
  pos : 0 < trk.length
  bld : buildQ p trk = true
  trq : trkQ p trk = true
  ok : ∀ i, chOk (mvsOf p.moves) trk i → BsOk N trk.length (chF (mvsOf p.moves) trk i).1 ∧ RowsDi trk.length (chF (mvsOf p.moves) trk i).1.ls ∧ i ≤ (chF (mvsOf p.moves) trk i).1.ls.length
theorem ch_good {p : Pz} {trk : List Int} (h : buildQ p trk = true) : ∃ N, ChG p trk N := by
  obtain ⟨-, -, -, -, hl20, -, -⟩ := bld_bfs h
  have h2 := h
  unfold buildQ at h2
  rw [Bool.and_eq_true] at h2
  obtain ⟨N, hN, hN20, hmv, hm8, hpt, hne⟩ := trk_parts h2.1
  obtain ⟨r, hr⟩ := Option.isSome_iff_exists.1 h2.2
  have hd0 : Dist trk.length trk := by
    have h3 := h2.1
    unfold trkQ at h3
    rw [Bool.and_eq_true] at h3
    exact up_di (ptQ_iff.1 h3.2).2
  have hb := ch_bfs hmv.all hpt hr
  have hdi : ∀ i, chOk (mvsOf p.moves) trk i → RowsDi trk.length (chF (mvsOf p.moves) trk i).1.ls := by
    intro i
    induction i with
    | zero =>
      intro _ j hj
      obtain rfl : j = 0 := by simpa [chF] using hj
      exact hd0
    | succ i ih =>
      intro hok
      have h1 := ih (hok.less (by omega))
      have h3 := hb i (hok.less (by omega))
      have h4 := hok i (by omega)
      exact h1.app (addTo_di (h3.1.rows i h4) (h1 i h4) _ [] (mvs_isP hmv) (fun j hj => by simp at hj))
  have hp := hpt.2 0 hne
  exact ⟨N, hN, hN20, by omega, hmv, hm8, hl20, hne, h, h2.1, fun i hi => ⟨(hb i hi).1, hdi i hi, (hb i hi).2.2⟩⟩
end
section
open Go.RowKit Grp

theorem take_getR (zs : List Int) (m : Nat) (h : m < zs.length) : zs.take (m + 1) = zs.take m ++ [zs.getD m 0] := by
  rw [List.take_succ_eq_append_getElem h, getD_at _ _ h]
theorem flat_moreR {ls : List (List Int)} {k : Nat} (h : k < ls.length) : (ls.take (k + 1)).flatten = (ls.take k).flatten ++ ls.getD k [] := by
  rw [List.take_succ_eq_append_getElem h, List.flatten_append, List.getD_eq_getElem?_getD, List.getElem?_eq_getElem h]
  simp
theorem three_own (w : World) (a b c : Int) : BFresh w.heap.size (w.alloc (.cells #[.int .u8 a, .int .u8 b, .int .u8 c] 5)) (.slice (some ⟨w.heap.size, 0, none⟩) 3 3) [a, b, c] :=
  ⟨by simp, .inr ⟨w.heap.size, 3, #[.int .u8 a, .int .u8 b, .int .u8 c], rfl, Nat.le_refl _, heap_alloc_new w _, by simp, by unfold maxLen; omega, rfl, rfl⟩⟩
set_option maxRecDepth 100000 in
set_option maxHeartbeats 4000000 in
theorem specRecord (A : Option Addr) (c n k N L : Nat) (ls : List (List Int)) (w : World) (hl : LAt w A ls) (hn : ls.length = n) (hn1 : n ≤ 255) (hk : k ≤ 60000) (hr : RowsOk N L ls) (hN : N ≤ 256) (hL : L ≤ 1000) :
    Calls Try.prog 104 #[.int .i64 (k : Int), .slice A n c] w fun e w' => e = .returned (.string (recS k ls)) ∧ Below w.heap.size w w' := by
  have HL := Lib.hid hl
  have HN := Lib.hid hn
  have HR := Lib.hid hr
  have hwa : IntKind.u8.wrap ((k : Int) / 256) = (k : Int) / 256 := IntWalk.u8_in _ (by omega)
  have hwb : IntKind.u8.wrap ((k : Int) % 256) = (k : Int) % 256 := IntWalk.u8_in _ (by omega)
  have hwc : IntKind.u8.wrap (n : Int) = (n : Int) := IntWalk.u8_in _ (by omega)
  obtain ⟨H, hH⟩ : ∃ H, [(k : Int) / 256, (k : Int) % 256, (n : Int)] = H := ⟨_, rfl⟩
  have hHl : H.length = 3 := by rw [← hH]; rfl
  have hF0 : BFresh w.heap.size (w.alloc (.cells #[.int .u8 ((k : Int) / 256), .int .u8 ((k : Int) % 256), .int .u8 (n : Int)] 5)) (.slice (some ⟨w.heap.size, 0, none⟩) 3 3) (H ++ (ls.take 0).flatten) := by rw [← hH]; exact three_own w _ _ _
  have hB0 : Below w.heap.size w (w.alloc (.cells #[.int .u8 ((k : Int) / 256), .int .u8 ((k : Int) % 256), .int .u8 (n : Int)] 5)) := (by repeat (first | exact Below.refl _ _ | assumption | refine Below.setCell ?_ (by first | omega | (simp <;> omega)) _ | refine Below.alloc ?_ (by first | omega | (simp <;> omega)) _ | refine Below.drew ?_))
  have HREC : Hid (recS k ls = strOfNums (H ++ ls.flatten)) := by
    unfold Hid recS headL
    rw [num2, num1, ← hH, hn]
    rw [show (k : Int) / 256 % 256 = (k : Int) / 256 from by omega, show (n : Int) % 256 = (n : Int) from by omega]
    rfl
  have HFL : Hid (∀ j, j ≤ n → (ls.take j).flatten.length ≤ 255 * 1000) := fun j hj => by
    have : RowsOk N L (ls.take j) := fun i hi => by
      rw [List.length_take] at hi
      rw [List.getD_eq_getElem?_getD, List.getElem?_take_of_lt (by omega), ← List.getD_eq_getElem?_getD]
      exact hr i (by omega)
    rw [flat_len this, List.length_take]
    exact Nat.mul_le_mul (by omega) hL
  clear hl hn hr hH
  rw [HREC.out]
  go_enter Try.func104, Try.ntmps104
  go_wp2_with fail
  go_loopw [5, 6] (fun v i wr => ∃ j : Nat, j ≤ n ∧ i = .int .i64 j ∧ BFresh w.heap.size wr v (H ++ (ls.take j).flatten) ∧ Below w.heap.size w wr) (fun _ i _ => n - (intOf i).toNat)
  case atStart => exact ⟨0, Nat.zero_le _, rfl, hF0, hB0⟩
  case round =>
    obtain ⟨j, hj, rfl, hF, hB⟩ := hrel
    clear hF0 hB0
    have hzB := hB.size
    by_cases hlt : j < n
    · obtain ⟨b, off, Ai, ci, rfl, h1, h2, h3, h4⟩ := HL.out j (by rw [HN.out]; exact hlt)
      obtain ⟨zs, hzs⟩ : ∃ zs, ls.getD j [] = zs := ⟨_, rfl⟩
      have hpo := HR.out j (by rw [HN.out]; exact hlt)
      have HNX : Hid ((H ++ (ls.take (j + 1)).flatten) = (H ++ (ls.take j).flatten) ++ zs) := by unfold Hid; rw [flat_moreR (by rw [HN.out]; exact hlt), hzs, List.append_assoc]
      rw [hzs] at h2 h3 h4 hpo
      have HPO := Lib.hid hpo
      have hzl : zs.length = L := hpo.1
      have hQl : (H ++ (ls.take j).flatten).length ≤ 300000 := by have := HFL.out j hj; rw [List.length_append]; omega
      obtain ⟨Q, hQ⟩ : ∃ Q, H ++ (ls.take j).flatten = Q := ⟨_, rfl⟩
      rw [hQ] at hF hQl
      have HQ := Lib.hid hQ
      rw [hzl] at h2 h3
      have HROW : Hid (∀ wr, Below w.heap.size w wr → wr.cell? ⟨b, off + j, none⟩ = some (.slice Ai L ci) ∧ IntsAt wr Ai zs) := fun wx h => ⟨(h.cell (p := ⟨b, off + j, none⟩) h1).trans h3, h4.below h⟩
      have q0 : (0 : Int) ≤ (j : Int) := by omega
      have q1 : (j : Int) < (n : Int) := by omega
      have hF5 : BFresh w.heap.size wr u5 (Q ++ zs.take 0) := by simpa using hF
      obtain ⟨hc0, -⟩ := HROW.out _ hB
      clear hpo hzs hQ h1 h2 h3 h4 hzl
      go_wp2_with fail
      clear hF hc0
      go_loopw [5, 7] (fun v i wr => ∃ m : Nat, m ≤ L ∧ i = .int .i64 m ∧ BFresh w.heap.size wr v (Q ++ zs.take m) ∧ Below w.heap.size w wr) (fun _ i _ => L - (intOf i).toNat)
      case atStart => exact ⟨0, Nat.zero_le _, rfl, hF5, hB⟩
      case round =>
        obtain ⟨m, hm, rfl, hF, hB⟩ := hrel
        clear hF5
        obtain ⟨hc0, hI⟩ := HROW.out _ hB
        have hzB := hB.size
        by_cases hlt2 : m < L
        · have hmz : m < zs.length := by rw [HPO.out.1]; exact hlt2
          obtain ⟨b', off', hA, hb', hc2⟩ := hI m hmz
          have hy := HPO.out.2 m hlt2
          obtain ⟨y, hyy⟩ : ∃ y, zs.getD m 0 = y := ⟨_, rfl⟩
          have HN2 : Hid (Q ++ zs.take (m + 1) = (Q ++ zs.take m) ++ [y]) := by unfold Hid; rw [take_getR zs m hmz, hyy, List.append_assoc]
          rw [hyy] at hc2 hy
          have q2 : (0 : Int) ≤ (m : Int) := by omega
          have q3 : (m : Int) < (L : Int) := by omega
          have hwr : IntKind.u8.wrap y = y := IntWalk.u8_in _ (by omega)
          have hzl : (Q ++ zs.take m).length ≤ 4194304 := by rw [List.length_append, List.length_take]; omega
          obtain ⟨us, hus⟩ : ∃ us, Q ++ zs.take m = us := ⟨_, rfl⟩
          rw [hus] at hF hzl
          have HZ := Lib.hid hus
          subst hA
          clear hus hb' hyy hmz hI
          go_wp2_with (first | (at_builtin; refine append_by1 rfl (.tmp 33) (.tmp 42) rfl w.heap.size _ us y rfl (hF.al _) _ rfl (by simp) hzl (by simp; omega) ?_; intro v4 w4 hF4 hg4 hb4))
          go_roundw
          case rel => exact ⟨m + 1, by omega, by go_num, by rw [HN2.out, HZ.out]; exact hF4, (hB.alloc hzB _).trans hb4⟩
          case measure => simp [intOf]; omega
        · obtain rfl : m = L := by omega
          rw [List.take_of_length_le (by rw [HPO.out.1]; exact Nat.le_refl _)] at hF
          go_wp2_with fail
          go_roundw
          case rel => exact ⟨j + 1, by omega, by go_num, by rw [HNX.out, HQ.out]; exact hF, hB⟩
          case measure => simp [intOf]; omega
    · obtain rfl : j = n := by omega
      rw [List.take_of_length_le (by rw [HN.out]; exact Nat.le_refl _)] at hF
      have hcv := hF.str
      go_wp2_with fail
      go_ret
      exact ⟨rfl, hB⟩
end
end Go.Proofs.Ytfhdnanbhigpmaa
