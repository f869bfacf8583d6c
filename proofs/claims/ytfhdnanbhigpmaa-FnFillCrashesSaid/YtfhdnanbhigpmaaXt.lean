/- A step of a job, a replay of a log, spec. Conditions: as each contract says. -/
import Derived.Test.YtfhdnanbhigpmaaXv
import Derived.Test.YtfhdnanbhigpmaaRv
namespace Go.Proofs.Ytfhdnanbhigpmaa
open Go.RowKit Grp

/-- The job behind i expansions, wherever its lists lie. -/
def chV (p : Pz) (trk : List Int) (i : Nat) (sy : Int) (C1 : Option Addr) (e1 : Nat) (C2 : Option Addr) (e2 : Nat) (C3 : Option Addr) (e3 : Nat) : Value := .agg #[.slice C1 trk.length e1, .slice C2 (chF (mvsOf p.moves) trk i).1.ls.length e2, .slice C3 (chF (mvsOf p.moves) trk i).1.ds.length e3, .int .i64 (i : Int), .string (chF (mvsOf p.moves) trk i).2, .int .i64 sy]
def ChAt (p : Pz) (trk : List Int) (i : Nat) (C1 C2 C3 : Option Addr) (w : World) : Prop := IntsAt w C1 trk ∧ LAt w C2 (chF (mvsOf p.moves) trk i).1.ls ∧ IntsAt w C3 (chF (mvsOf p.moves) trk i).1.ds
theorem ChAt.below {p : Pz} {trk : List Int} {i : Nat} {C1 C2 C3 : Option Addr} {w w' : World} (h : ChAt p trk i C1 C2 C3 w) (hb : Below w.heap.size w w') : ChAt p trk i C1 C2 C3 w' := ⟨h.1.below hb, h.2.1.below hb, h.2.2.below hb⟩
theorem IntsAt.stay {w w' : World} {A : Option Addr} {xs : List Int} (h : IntsAt w A xs) (hs : w.heap.size ≤ w'.heap.size) (hk : ∀ b off s, A = some ⟨b, off, s⟩ → 0 < xs.length → w'.heap[b]? = w.heap[b]?) : IntsAt w' A xs := fun k hk2 => by
  obtain ⟨b, off, e, hb, hc⟩ := h k hk2
  exact ⟨b, off, e, Nat.lt_of_lt_of_le hb hs, (World.cell?_of_block (a := ⟨b, off + k, none⟩) (hk b off none e (by omega))).trans hc⟩
/-- w' is w but for blocks of P, and new ones. -/
structure OnlyP (P : Nat → Prop) (w w' : World) : Prop where
  os : w'.os = w.os
  tape : w'.tape = w.tape
  output : w'.output = w.output
  size : w.heap.size ≤ w'.heap.size
  block : ∀ k, k < w.heap.size → ¬ P k → w'.heap[k]? = w.heap[k]?
theorem OnlyP.trans {P : Nat → Prop} {w w' w'' : World} (h : OnlyP P w w') (h' : OnlyP P w' w'') : OnlyP P w w'' := ⟨h'.os.trans h.os, h'.tape.trans h.tape, h'.output.trans h.output, Nat.le_trans h.size h'.size, fun k hk hc => (h'.block k (Nat.lt_of_lt_of_le hk h.size) hc).trans (h.block k hk hc)⟩
theorem OnlyP.weak {P P' : Nat → Prop} {w w' : World} (h : OnlyP P w w') (hp : ∀ b, P b → P' b) : OnlyP P' w w' := ⟨h.os, h.tape, h.output, h.size, fun k hk hc => h.block k hk fun q => hc (hp k q)⟩
theorem onlyOf {P : Nat → Prop} {w w' : World} (hb : Below w.heap.size w w') : OnlyP P w w' := ⟨hb.os, hb.tape, hb.output, hb.size, fun k hk _ => hb.block k hk⟩
theorem onlyIn {lo hi : Nat} {P : Nat → Prop} {w w' : World} (h : OnlyIn lo hi w w') (hp : ∀ b, lo ≤ b → b < hi → P b) : OnlyP P w w' := ⟨h.os, h.tape, h.output, h.size, fun k hk hc => h.block k hk (by
  rcases Nat.lt_or_ge k lo with h1 | h1
  · exact .inl h1
  · rcases Nat.lt_or_ge k hi with h2 | h2
    · exact absurd (hp k h1 h2) hc
    · exact .inr h2)⟩
theorem GrAt.onlyHi {lo' : Nat} {P zs : Nat → Prop} {w w2 : World} {A : Option Addr} {n c : Nat} {ls : List (List Int)} (h : GrAt lo' zs w (.slice A n c) ls) (hz : ∀ x, x < lo' → zs x) (ho : OnlyP P w w2) (hh : ∀ b, P b → b < lo') : LAt w2 A ls := fun i hi2 => by
  have hown := h.own
  obtain ⟨g, Aj, cj, e, hgl, hc, hcj, hI, hnz⟩ := h.at_ hi2
  subst e
  have h1 := hown g rfl
  refine ⟨g, 0, Aj, cj, rfl, Nat.lt_of_lt_of_le hgl ho.size, hcj, by rw [Nat.zero_add]; exact (World.cell?_of_block (a := ⟨g, i, none⟩) (ho.block g hgl (fun q => by have := hh g q; omega))).trans hc, ?_⟩
  refine hI.stay ho.size fun b off s e hl => ho.block b (hI.first hl e) fun q => ?_
  exact absurd (hz b (hh b q)) (hnz hl b off s e)
theorem CpTb.below {lo : Nat} {t : Tb} {v1 v2 v3 : Value} {w w' : World} (h : CpTb lo t v1 v2 v3 w) (hb : Below w.heap.size w w') : CpTb lo t v1 v2 v3 w' := ⟨h.1.below hb, h.2.1.below hb, h.2.2.1.below hb, h.2.2.2⟩
theorem Fresh.onlyP {lo' : Nat} {P : Nat → Prop} {w w2 : World} {v : Value} {xs : List Int} (h : Fresh lo' w v xs) (ho : OnlyP P w w2) (hh : ∀ b, P b → b < lo') : Fresh lo' w2 v xs :=
  h.keep fun b hb => ho.block b (World.ownsRow.lt h b hb).2 fun q => by have := hh b q; have := (World.ownsRow.lt h b hb).1; omega
theorem CpTb.only {lo' n1 n2 n3 c1 c2 c3 : Nat} {P : Nat → Prop} {A1 A2 A3 : Option Addr} {t : Tb} {w w2 : World} (h : CpTb lo' t (.slice A1 n1 c1) (.slice A2 n2 c2) (.slice A3 n3 c3) w) (ho : OnlyP P w w2) (hh : ∀ b, P b → b < lo') : IntsAt w2 A1 t.trk ∧ LAt w2 A2 t.pats ∧ IntsAt w2 A3 t.dist :=
  ⟨(h.1.onlyP ho hh).intsAt, GrAt.onlyHi h.2.1 (fun _ hb => .inl hb) ho hh, (h.2.2.1.onlyP ho hh).intsAt⟩
/-- The job's lists lie in none of the blocks of P. -/
def Safe (P : Nat → Prop) (p : Pz) (trk : List Int) (i : Nat) (C1 C2 C3 : Option Addr) (w : World) : Prop := ∀ w2, OnlyP P w w2 → ChAt p trk i C1 C2 C3 w2
section
variable {P : Nat → Prop} {p : Pz} {trk : List Int} {i : Nat} {C1 C2 C3 : Option Addr} {w w' : World}
theorem Safe.at_ (h : Safe P p trk i C1 C2 C3 w) : ChAt p trk i C1 C2 C3 w := h w (onlyOf (Below.refl _ _))
theorem Safe.only (h : Safe P p trk i C1 C2 C3 w) (ho : OnlyP P w w') : Safe P p trk i C1 C2 C3 w' := fun w2 h2 => h w2 (ho.trans h2)
theorem Safe.below (h : Safe P p trk i C1 C2 C3 w) (hb : Below w.heap.size w w') : Safe P p trk i C1 C2 C3 w' := h.only (onlyOf hb)
end
def StepS (p : Pz) (trk : List Int) (i : Nat) (sy : Int) (w : World) (e : Ending) (w' : World) : Prop :=
  ∃ (b : Bool) (i' : Nat) (C1 : Option Addr) (e1 : Nat) (C2 : Option Addr) (e2 : Nat) (C3 : Option Addr) (e3 : Nat), (b = true ↔ canF (mvsOf p.moves) trk i) ∧ (b = true → i' = i + 1) ∧ (b = false → i' = i) ∧ (b = true → ∀ P : Nat → Prop, (∀ x, P x → x < w.heap.size) → Safe P p trk i' C1 C2 C3 w') ∧ e = .returned (.tuple #[chV p trk i' sy C1 e1 C2 e2 C3 e3, .bool b]) ∧ ChAt p trk i' C1 C2 C3 w' ∧ Below w.heap.size w w'
set_option maxRecDepth 100000 in
set_option maxHeartbeats 8000000 in
theorem specStepJ (A : Option Addr) (c : Nat) (p : Pz) (trk : List Int) (i : Nat) (sy : Int) (C1 : Option Addr) (e1 : Nat) (C2 : Option Addr) (e2 : Nat) (C3 : Option Addr) (e3 : Nat) (w : World) (h : PzAt w A p) (hc : ChAt p trk i C1 C2 C3 w) (hq : buildQ p trk = true) (hok : chOk (mvsOf p.moves) trk i) (hlg : (chF (mvsOf p.moves) trk i).2.size ≤ 1000000) :
    Calls Try.prog 108 #[.agg #[.int .i64 p.pts, .string p.names, .slice A p.moves.length c], chV p trk i sy C1 e1 C2 e2 C3 e3] w (StepS p trk i sy w) := by
  obtain ⟨N, hG⟩ := ch_good hq
  have hgd := hG.ok i hok
  have hnx : i < (chF (mvsOf p.moves) trk i).1.ls.length → chOk (mvsOf p.moves) trk (i + 1) := fun q => ch_next hok q
  have HCAN : Hid (canF (mvsOf p.moves) trk i ↔ i < (chF (mvsOf p.moves) trk i).1.ls.length ∧ (chF (mvsOf p.moves) trk (i + 1)).2.size ≤ 60000) := Iff.rfl
  have e1' : (chF (mvsOf p.moves) trk (i + 1)).1 = nextB (mvsOf p.moves) (chF (mvsOf p.moves) trk i).1 i := rfl
  have e2' : (chF (mvsOf p.moves) trk (i + 1)).2 = (chF (mvsOf p.moves) trk i).2 ++ fullS i (addedB (mvsOf p.moves) (chF (mvsOf p.moves) trk i).1.ls i) := rfl
  unfold ChAt at hc
  unfold chV
  obtain ⟨s, hs⟩ : ∃ s, (chF (mvsOf p.moves) trk i).1 = s := ⟨_, rfl⟩
  obtain ⟨lgi, hlgi⟩ : ∃ lgi, (chF (mvsOf p.moves) trk i).2 = lgi := ⟨_, rfl⟩
  simp only [hs, hlgi] at hc hgd hnx HCAN e1' e2' hlg ⊢
  have HSS := Lib.hid hs
  have HLI := Lib.hid hlgi
  have HE1 := Lib.hid e1'
  have HE2 := Lib.hid e2'
  obtain ⟨n, hn⟩ : ∃ n, s.ls.length = n := ⟨_, rfl⟩
  have hdl := hgd.1.len
  have hkn := hgd.2.2
  rw [hn] at hnx HCAN hdl hkn
  rw [hn, hdl]
  have HN := Lib.hid hn
  have HDL := Lib.hid hdl
  have HP := Lib.hid h
  have HC := Lib.hid hc
  have HG := Lib.hid hG
  have HGD := Lib.hid hgd
  have HNX := Lib.hid hnx
  obtain ⟨w0, hw0⟩ : ∃ w0, ((w.alloc (.cells #[.int .i64 p.pts, .string p.names, .slice A p.moves.length c] 29)).alloc (.cells #[.slice C1 trk.length e1, .slice C2 n e2, .slice C3 n e3, .int .i64 (i : Int), .string lgi, .int .i64 sy] 45)).alloc (.cells #[.slice none 0 0, .slice none 0 0, .slice none 0 0, .int .i64 0, .string ⟨#[]⟩, .int .i64 0] 45) = w0 := ⟨_, rfl⟩
  have hb0 : Below w.heap.size w w0 := by rw [← hw0]; exact (by repeat (first | exact Below.refl _ _ | assumption | refine Below.setCell ?_ (by first | omega | (simp <;> omega)) _ | refine Below.alloc ?_ (by first | omega | (simp <;> omega)) _ | refine Below.drew ?_))
  have hz0 : w0.heap.size = w.heap.size + 3 := by rw [← hw0]; simp
  have R0 : Hid (w0.heap[w.heap.size]? = some (.cells #[.int .i64 p.pts, .string p.names, .slice A p.moves.length c] 29 (0, 0))) := by rw [← hw0]; exact alloc3_0 _ _ _ _
  have R1 : Hid (w0.heap[w.heap.size + 1]? = some (.cells #[.slice C1 trk.length e1, .slice C2 n e2, .slice C3 n e3, .int .i64 (i : Int), .string lgi, .int .i64 sy] 45 (0, 0))) := by rw [← hw0]; exact alloc3_1 _ _ _ _
  have R2 : Hid (w0.heap[w.heap.size + 1 + 1]? = some (.cells #[.slice none 0 0, .slice none 0 0, .slice none 0 0, .int .i64 0, .string ⟨#[]⟩, .int .i64 0] 45 (0, 0))) := by rw [← hw0]; exact alloc3_2r _ _ _ _
  have HW0 := Lib.hid hw0
  have HB0 := Lib.hid hb0
  have HZ0 := Lib.hid hz0
  have HQ := Lib.hid hq
  obtain ⟨p0, p1, p2, -, -⟩ := row3 R0.out
  obtain ⟨j0, j1, j2, j3, j4, j5, -, jl⟩ := row6 R1.out
  obtain ⟨q0, q1, q2, q3, q4, q5, qF, ql⟩ := row6 R2.out
  clear h hc hG hgd hnx hok hs hlgi e1' e2' hn hdl hw0 hb0 hz0 hq
  by_cases hlt : i < n
  rotate_left
  · have k1 : (i : Int) = (n : Int) := by omega
    have k2 : ((i : Int) == (n : Int)) = true := by rw [beq_iff_eq]; exact k1
    have HNC : Hid (¬ canF (mvsOf p.moves) trk i) := fun q => hlt (HCAN.out.1 q).1
    obtain rfl : i = n := by omega
    clear k1 hlt
    go_enter Try.func108, Try.ntmps108
    go_wp2_with fail
    have hbz : Below w.heap.size w (((w.alloc (.cells #[.int .i64 p.pts, .string p.names, .slice A p.moves.length c] 29)).alloc (.cells #[.slice C1 trk.length e1, .slice C2 i e2, .slice C3 i e3, .int .i64 (i : Int), .string lgi, .int .i64 sy] 45)).alloc (.cells #[.slice C1 trk.length e1, .slice C2 i e2, .slice C3 i e3, .int .i64 (i : Int), .string lgi, .int .i64 sy] 45)) := (by repeat (first | exact Below.refl _ _ | assumption | refine Below.setCell ?_ (by first | omega | (simp <;> omega)) _ | refine Below.alloc ?_ (by first | omega | (simp <;> omega)) _ | refine Below.drew ?_))
    obtain ⟨y0, y1, y2, y3, y4, y5, -, -⟩ := row6 (alloc3_2r w (.cells #[.int .i64 p.pts, .string p.names, .slice A p.moves.length c] 29) (.cells #[.slice C1 trk.length e1, .slice C2 i e2, .slice C3 i e3, .int .i64 (i : Int), .string lgi, .int .i64 sy] 45) (.cells #[.slice C1 trk.length e1, .slice C2 i e2, .slice C3 i e3, .int .i64 (i : Int), .string lgi, .int .i64 sy] 45))
    refine bodyPost_ret (v := .tuple #[.agg #[.slice C1 trk.length e1, .slice C2 i e2, .slice C3 i e3, .int .i64 (i : Int), .string lgi, .int .i64 sy], .bool false]) (by simp [results, Try.results108, go_sem, y0, y1, y2, y3, y4, y5]) rfl ?_
    refine ⟨false, i, C1, e1, C2, e2, C3, e3, ⟨fun q => (by cases q), fun q => absurd q HNC.out⟩, (fun q => by cases q), fun _ => rfl, (fun q => by cases q), ?_, ?_, hbz⟩
    · unfold chV; rw [HSS.out, HLI.out, HDL.out, HN.out]
    · unfold ChAt; rw [HSS.out]; exact ⟨HC.out.1.below hbz, HC.out.2.1.below hbz, HC.out.2.2.below hbz⟩
  have k1 : ¬ (i : Int) = (n : Int) := by omega
  have k2 : ((i : Int) == (n : Int)) = false := by rw [← Bool.not_eq_true, beq_iff_eq]; exact k1
  have hex := specExpand A c p C1 C2 C3 e1 e2 e3 N trk.length trk s i lgi sy w0 (HP.out.below HB0.out) (HC.out.1.below HB0.out) (HC.out.2.1.below HB0.out) (HC.out.2.2.below HB0.out) HG.out rfl HGD.out.1 HGD.out.2.1 (by rw [HN.out]; exact hlt) hlg
  unfold jobV at hex
  dsimp only at hex
  rw [HN.out, HDL.out] at hex
  have HX := Lib.hid hex
  clear hex
  go_enter Try.func108, Try.ntmps108
  go_wp2_with fail
  rw [HW0.out]
  refine HX.out.mono ?_
  rintro e w5 ⟨v1, v2, v3, rfl, hCP, hb5⟩
  rw [← HE1.out] at hCP
  rw [← HE2.out]
  have hgd2 := HG.out.ok (i + 1) (HNX.out hlt)
  obtain ⟨s2, hs2⟩ : ∃ s2, (chF (mvsOf p.moves) trk (i + 1)).1 = s2 := ⟨_, rfl⟩
  obtain ⟨lg2, hlg2⟩ : ∃ lg2, (chF (mvsOf p.moves) trk (i + 1)).2 = lg2 := ⟨_, rfl⟩
  rw [hs2] at hCP hgd2
  rw [hlg2]
  rw [hlg2] at HCAN
  have HS2 := Lib.hid hs2
  have HLG2 := Lib.hid hlg2
  obtain ⟨F1, f1, -, rfl, -⟩ := hCP.1.capped
  obtain ⟨F2, f2, rfl, -, -⟩ := GrAt.shape hCP.2.1
  obtain ⟨F3, f3, -, rfl, -⟩ := hCP.2.2.1.capped
  dsimp only at hCP ⊢
  have hl2 := hgd2.1.len
  obtain ⟨n2, hn2⟩ : ∃ n2, s2.ls.length = n2 := ⟨_, rfl⟩
  rw [hl2, hn2] at hCP
  rw [hl2, hn2]
  have HN2 := Lib.hid hn2
  have HL2 := Lib.hid hl2
  obtain ⟨K, hK⟩ : ∃ K : Int, ((i + 1 : Nat) : Int) = K := ⟨_, rfl⟩
  rw [hK]
  have HK := Lib.hid hK
  have HB5 := Lib.hid (belowStep hb5 HB0.out)
  have HCP := Lib.hid hCP
  have RJ5 := Lib.hid (rowB hb5 R1.out)
  have RR5 := Lib.hid (rowB hb5 R2.out)
  have hz5 := hb5.size
  have hz0' := HZ0.out
  clear hs2 hlg2 hgd2 hl2 hn2 hCP hb5 hK HX p0 p1 p2 j0 j1 j2 j3 j4 j5 jl q0 q1 q2 q3 q4 q5 qF ql HW0
  obtain ⟨j0, j1, j2, j3, j4, j5, -, jl⟩ := row6 RJ5.out
  obtain ⟨q0, q1, q2, q3, q4, q5, qF, ql⟩ := row6 RR5.out
  by_cases hsz : (60000 : Int) < (lg2.size : Int)
  · have HNC : Hid (¬ canF (mvsOf p.moves) trk i) := fun q => by have := (HCAN.out.1 q).2; omega
    go_wp2_with fail
    obtain ⟨w6, hw6⟩ : ∃ w6, (((((w5.setCell ⟨w.heap.size + 1 + 1, 0, none⟩ (.slice C1 trk.length e1)).setCell ⟨w.heap.size + 1 + 1, 1, none⟩ (.slice C2 n e2)).setCell ⟨w.heap.size + 1 + 1, 2, none⟩ (.slice C3 n e3)).setCell ⟨w.heap.size + 1 + 1, 3, none⟩ (.int .i64 (i : Int))).setCell ⟨w.heap.size + 1 + 1, 4, none⟩ (.string lgi)).setCell ⟨w.heap.size + 1 + 1, 5, none⟩ (.int .i64 sy) = w6 := ⟨_, rfl⟩
    rw [hw6]
    have hR6 := row6S RR5.out (.slice C1 trk.length e1) (.slice C2 n e2) (.slice C3 n e3) (.int .i64 (i : Int)) (.string lgi) (.int .i64 sy)
    have hg6 := grown6 w5 (w.heap.size + 1 + 1) (.slice C1 trk.length e1) (.slice C2 n e2) (.slice C3 n e3) (.int .i64 (i : Int)) (.string lgi) (.int .i64 sy)
    have hB6 := belSet6 (g := w.heap.size + 1 + 1) HB5.out (by omega) (.slice C1 trk.length e1) (.slice C2 n e2) (.slice C3 n e3) (.int .i64 (i : Int)) (.string lgi) (.int .i64 sy)
    rw [hw6] at hR6 hg6 hB6
    have hal : Below w6.heap.size w6 (w6.alloc (.cells #[.slice F1 trk.length f1, .slice F2 n2 f2, .slice F3 n2 f3, .int .i64 K, .string lg2, .int .i64 sy] 45)) := (by repeat (first | exact Below.refl _ _ | assumption | refine Below.setCell ?_ (by first | omega | (simp <;> omega)) _ | refine Below.alloc ?_ (by first | omega | (simp <;> omega)) _ | refine Below.drew ?_))
    obtain ⟨y0, y1, y2, y3, y4, y5, -, -⟩ := row6 (rowB hal hR6)
    refine bodyPost_ret (v := .tuple #[.agg #[.slice C1 trk.length e1, .slice C2 n e2, .slice C3 n e3, .int .i64 (i : Int), .string lgi, .int .i64 sy], .bool false]) (by simp [results, Try.results108, go_sem, y0, y1, y2, y3, y4, y5]) rfl ?_
    have hbz := belowStep hal hB6
    refine ⟨false, i, C1, e1, C2, e2, C3, e3, ⟨fun q => (by cases q), fun q => absurd q HNC.out⟩, (fun q => by cases q), fun _ => rfl, (fun q => by cases q), ?_, ?_, hbz⟩
    · unfold chV; rw [HSS.out, HLI.out, HDL.out, HN.out]
    · unfold ChAt; rw [HSS.out]; exact ⟨HC.out.1.below hbz, HC.out.2.1.below hbz, HC.out.2.2.below hbz⟩
  · have HYC : Hid (canF (mvsOf p.moves) trk i) := HCAN.out.2 ⟨hlt, by omega⟩
    go_wp2_with fail
    obtain ⟨w6, hw6⟩ : ∃ w6, (((((w5.setCell ⟨w.heap.size + 1 + 1, 0, none⟩ (.slice F1 trk.length f1)).setCell ⟨w.heap.size + 1 + 1, 1, none⟩ (.slice F2 n2 f2)).setCell ⟨w.heap.size + 1 + 1, 2, none⟩ (.slice F3 n2 f3)).setCell ⟨w.heap.size + 1 + 1, 3, none⟩ (.int .i64 K)).setCell ⟨w.heap.size + 1 + 1, 4, none⟩ (.string lg2)).setCell ⟨w.heap.size + 1 + 1, 5, none⟩ (.int .i64 sy) = w6 := ⟨_, rfl⟩
    rw [hw6]
    have hR6 := row6S RR5.out (.slice F1 trk.length f1) (.slice F2 n2 f2) (.slice F3 n2 f3) (.int .i64 K) (.string lg2) (.int .i64 sy)
    have hg6 := grown6 w5 (w.heap.size + 1 + 1) (.slice F1 trk.length f1) (.slice F2 n2 f2) (.slice F3 n2 f3) (.int .i64 K) (.string lg2) (.int .i64 sy)
    have hB6 := belSet6 (g := w.heap.size + 1 + 1) HB5.out (by omega) (.slice F1 trk.length f1) (.slice F2 n2 f2) (.slice F3 n2 f3) (.int .i64 K) (.string lg2) (.int .i64 sy)
    rw [hw6] at hR6 hg6 hB6
    have hal : Below w6.heap.size w6 (w6.alloc (.cells #[.slice F1 trk.length f1, .slice F2 n2 f2, .slice F3 n2 f3, .int .i64 K, .string lg2, .int .i64 sy] 45)) := (by repeat (first | exact Below.refl _ _ | assumption | refine Below.setCell ?_ (by first | omega | (simp <;> omega)) _ | refine Below.alloc ?_ (by first | omega | (simp <;> omega)) _ | refine Below.drew ?_))
    obtain ⟨y0, y1, y2, y3, y4, y5, -, -⟩ := row6 (rowB hal hR6)
    refine bodyPost_ret (v := .tuple #[.agg #[.slice F1 trk.length f1, .slice F2 n2 f2, .slice F3 n2 f3, .int .i64 K, .string lg2, .int .i64 sy], .bool true]) (by simp [results, Try.results108, go_sem, y0, y1, y2, y3, y4, y5]) rfl ?_
    have hC6 := CpTb.kept HCP.out hg6 (by omega)
    refine ⟨true, i + 1, F1, f1, F2, f2, F3, f3, ⟨fun _ => HYC.out, fun _ => rfl⟩, fun _ => rfl, (fun q => by cases q), fun _ P hh w2 ho => ?_, ?_, ?_, belowStep hal hB6⟩
    · unfold ChAt; rw [HS2.out]; exact (hC6.below hal).only ho (fun b q => by have := hh b q; omega)
    · unfold chV; rw [HS2.out, HLG2.out, HL2.out, HN2.out, HK.out]
    · unfold ChAt; rw [HS2.out]; exact ⟨hC6.1.intsAt.below hal, (GrAt.lat hC6.2.1).below hal, hC6.2.2.1.intsAt.below hal⟩
def RepS (P0 : Nat → Prop) (p : Pz) (trk : List Int) (log : ByteArray) (w : World) (e : Ending) (w' : World) : Prop :=
  ∃ (i : Nat) (C1 : Option Addr) (e1 : Nat) (C2 : Option Addr) (e2 : Nat) (C3 : Option Addr) (e3 : Nat), RecAt (mvsOf p.moves) trk log i ∧ e = .returned (chV p trk i ((chF (mvsOf p.moves) trk i).2.size : Int) C1 e1 C2 e2 C3 e3) ∧ Safe P0 p trk i C1 C2 C3 w' ∧ Below w.heap.size w w'
set_option maxRecDepth 100000 in
set_option maxHeartbeats 8000000 in
theorem specReplay (A : Option Addr) (c : Nat) (p : Pz) (trk : List Int) (log : ByteArray) (C1 : Option Addr) (e1 : Nat) (C2 : Option Addr) (e2 : Nat) (C3 : Option Addr) (e3 : Nat) (w : World) (P0 : Nat → Prop) (hP0 : ∀ x, P0 x → x < w.heap.size) (h : PzAt w A p) (hc : Safe P0 p trk 0 C1 C2 C3 w) (hq : buildQ p trk = true) (hlg : log.size ≤ 60000) :
    Calls Try.prog 76 #[.agg #[.int .i64 p.pts, .string p.names, .slice A p.moves.length c], chV p trk 0 0 C1 e1 C2 e2 C3 e3, .string log] w (RepS P0 p trk log w) := by
  obtain ⟨w0, hw0⟩ : ∃ w0, ((w.alloc (.cells #[.int .i64 p.pts, .string p.names, .slice A p.moves.length c] 29)).alloc (.cells #[.slice C1 trk.length e1, .slice C2 (chF (mvsOf p.moves) trk 0).1.ls.length e2, .slice C3 (chF (mvsOf p.moves) trk 0).1.ds.length e3, .int .i64 0, .string (chF (mvsOf p.moves) trk 0).2, .int .i64 0] 45)).alloc (.cells #[.slice none 0 0, .slice none 0 0, .slice none 0 0, .int .i64 0, .string ⟨#[]⟩, .int .i64 0] 45) = w0 := ⟨_, rfl⟩
  have hb0 : Below w.heap.size w w0 := by rw [← hw0]; exact (by repeat (first | exact Below.refl _ _ | assumption | refine Below.setCell ?_ (by first | omega | (simp <;> omega)) _ | refine Below.alloc ?_ (by first | omega | (simp <;> omega)) _ | refine Below.drew ?_))
  have hz0 : w0.heap.size = w.heap.size + 3 := by rw [← hw0]; simp
  have R0 : Hid (w0.heap[w.heap.size]? = some (.cells #[.int .i64 p.pts, .string p.names, .slice A p.moves.length c] 29 (0, 0))) := by rw [← hw0]; exact alloc3_0 _ _ _ _
  have R1 : Hid (w0.heap[w.heap.size + 1]? = some (.cells #[.slice C1 trk.length e1, .slice C2 (chF (mvsOf p.moves) trk 0).1.ls.length e2, .slice C3 (chF (mvsOf p.moves) trk 0).1.ds.length e3, .int .i64 0, .string (chF (mvsOf p.moves) trk 0).2, .int .i64 0] 45 (0, 0))) := by rw [← hw0]; exact alloc3_1 _ _ _ _
  have R2 : Hid (w0.heap[w.heap.size + 1 + 1]? = some (.cells #[.slice none 0 0, .slice none 0 0, .slice none 0 0, .int .i64 0, .string ⟨#[]⟩, .int .i64 0] 45 (0, 0))) := by rw [← hw0]; exact alloc3_2r _ _ _ _
  have HW0 := Lib.hid hw0
  have HB0 := Lib.hid hb0
  obtain ⟨P, hPP⟩ : ∃ P : Nat → Prop, P = fun b => P0 b ∨ (w.heap.size ≤ b ∧ b < w.heap.size + 3) := ⟨_, rfl⟩
  have HPI : Hid (∀ b, w.heap.size ≤ b → b < w.heap.size + 3 → P b) := fun b h1 h2 => by rw [hPP]; exact .inr ⟨h1, h2⟩
  have HPL : Hid (∀ b, P b → b < w.heap.size + 3) := fun b h1 => by
    rw [hPP] at h1
    rcases h1 with h1 | h1
    · have := hP0 b h1; omega
    · exact h1.2
  have HPO : Hid (∀ b, P0 b → P b) := fun b h1 => by rw [hPP]; exact .inl h1
  have HS0 : Hid (Safe P p trk 0 C1 C2 C3 w0) := fun w2 ho => hc w2 ⟨ho.os.trans hb0.os, ho.tape.trans hb0.tape, ho.output.trans hb0.output, Nat.le_trans hb0.size ho.size, fun k hk hn => (ho.block k (Nat.lt_of_lt_of_le hk hb0.size) (fun q => by
    rw [hPP] at q
    rcases q with q | q
    · exact hn q
    · omega)).trans (hb0.block k hk)⟩
  clear hPP
  have HP := Lib.hid h
  have HQ := Lib.hid hq
  unfold chV
  clear h hc hq hb0 hw0
  go_enter Try.func76, Try.ntmps76
  go_wp2_with fail
  rw [HW0.out]
  go_loopw [] (fun wr => ∃ (i : Nat) (C1 : Option Addr) (e1 : Nat) (C2 : Option Addr) (e2 : Nat) (C3 : Option Addr) (e3 : Nat), wr.heap[w.heap.size + 1]? = some (.cells #[.slice C1 trk.length e1, .slice C2 (chF (mvsOf p.moves) trk i).1.ls.length e2, .slice C3 (chF (mvsOf p.moves) trk i).1.ds.length e3, .int .i64 (i : Int), .string (chF (mvsOf p.moves) trk i).2, .int .i64 0] 45 (0, 0)) ∧ Safe P p trk i C1 C2 C3 wr ∧ Hid (chOk (mvsOf p.moves) trk i) ∧ Hid (prefB (chF (mvsOf p.moves) trk i).2 log) ∧ wr.heap[w.heap.size]? = some (.cells #[.int .i64 p.pts, .string p.names, .slice A p.moves.length c] 29 (0, 0)) ∧ wr.heap[w.heap.size + 1 + 1]? = some (.cells #[.slice none 0 0, .slice none 0 0, .slice none 0 0, .int .i64 0, .string ⟨#[]⟩, .int .i64 0] 45 (0, 0)) ∧ w0.heap.size ≤ wr.heap.size ∧ Below w.heap.size w wr) (fun wr => 4000 - (intOf ((wr.cell? ⟨w.heap.size + 1, 3, none⟩).getD undef)).toNat)
  case atStart => exact ⟨0, C1, e1, C2, e2, C3, e3, R1.out, HS0.out, fun j hj => by omega, pref_nil _, R0.out, R2.out, Nat.le_refl _, HB0.out⟩
  case round =>
    obtain ⟨i, C1, e1, C2, e2, C3, e3, hJ, hS, HOKI, HPR, hP, hR, hzr, hB⟩ := hrel
    obtain ⟨N, hG⟩ := ch_good HQ.out
    have hgd := hG.ok i HOKI.out
    have hsz := HPR.out.size
    have hstep := specStepJ A c p trk i 0 C1 e1 C2 e2 C3 e3 wr (HP.out.below hB) hS.at_ HQ.out HOKI.out (by omega)
    have hcap := hgd.1.cap
    have hkl := hgd.2.2
    have hdl := hgd.1.len
    have HLST : Hid (¬ canF (mvsOf p.moves) trk i → ¬ (i < (chF (mvsOf p.moves) trk i).1.ls.length ∧ prefB (chF (mvsOf p.moves) trk (i + 1)).2 log)) := fun q q2 => q ⟨q2.1, by have := q2.2.size; omega⟩
    have HOKN : Hid (canF (mvsOf p.moves) trk i → chOk (mvsOf p.moves) trk (i + 1)) := fun q => ch_next HOKI.out q.1
    have HEX : Hid (prefB (chF (mvsOf p.moves) trk (i + 1)).2 log ↔ (chF (mvsOf p.moves) trk (i + 1)).2.size ≤ log.size ∧ log.extract 0 (chF (mvsOf p.moves) trk (i + 1)).2.size = (chF (mvsOf p.moves) trk (i + 1)).2) := pref_take
    unfold chV at hstep
    obtain ⟨s, hs⟩ : ∃ s, (chF (mvsOf p.moves) trk i).1 = s := ⟨_, rfl⟩
    obtain ⟨lgi, hlgi⟩ : ∃ lgi, (chF (mvsOf p.moves) trk i).2 = lgi := ⟨_, rfl⟩
    obtain ⟨n, hn⟩ : ∃ n, s.ls.length = n := ⟨_, rfl⟩
    simp only [hs, hlgi, hn] at hJ hstep hcap hkl hdl HLST HPR hsz
    rw [hdl] at hJ hstep
    have HSS := Lib.hid hs
    have HLI := Lib.hid hlgi
    have HN := Lib.hid hn
    have HDL := Lib.hid hdl
    have HST := Lib.hid hstep
    have HJ := Lib.hid hJ
    have HS := Lib.hid hS
    have HP' := Lib.hid hP
    have HR := Lib.hid hR
    have HB := Lib.hid hB
    obtain ⟨p0, p1, p2, -, pl⟩ := row3 hP
    obtain ⟨j0, j1, j2, j3, j4, j5, jF, jl⟩ := row6 hJ
    have m3 := j3
    clear hs hlgi hn hdl hstep hJ hS hP hR hB hgd hG
    go_wp2_with fail
    refine HST.out.mono ?_
    rintro e w5 ⟨b, i', F1, f1, F2, f2, F3, f3, hb, hbt, hbf, hsf, rfl, hat, hb5⟩
    cases b with
    | false =>
      obtain rfl : i' = i := hbf rfl
      have HLAST : Hid (¬ (i' < n ∧ prefB (chF (mvsOf p.moves) trk (i' + 1)).2 log)) := HLST.out (fun q => by have := hb.2 q; cases this)
      unfold chV
      rw [HSS.out, HLI.out, HN.out, HDL.out]
      clear hb hbt hbf hsf hat HST
      go_wp2_with fail
      go_quiet (fail)
      obtain ⟨w7, hw7⟩ : ∃ w7, World.drewN (w5.alloc (.cells #[.slice F1 trk.length f1, .slice F2 n f2, .slice F3 n f3, .int .i64 (i' : Int), .string lgi, .int .i64 0] 45)) nq = w7 := ⟨_, rfl⟩
      have hb57 : Below w5.heap.size w5 w7 := by rw [← hw7]; exact belowDrewN (by repeat (first | exact Below.refl _ _ | assumption | refine Below.setCell ?_ (by first | omega | (simp <;> omega)) _ | refine Below.alloc ?_ (by first | omega | (simp <;> omega)) _ | refine Below.drew ?_)) nq
      have hb7 : Below wr.heap.size wr w7 := belowStep hb57 hb5
      rw [hw7]
      have RP7 := Lib.hid (rowB hb7 HP'.out)
      have RJ7 := Lib.hid (rowB hb7 HJ.out)
      have RR7 := Lib.hid (rowB hb7 HR.out)
      have HB7 := Lib.hid (belowStep hb7 HB.out)
      have hz7 := hb7.size
      have HS7 := Lib.hid (HS.out.below hb7)
      clear hb57 hb7 hw7 p0 p1 p2 pl j0 j1 j2 j3 j4 j5 jF jl m3
      obtain ⟨p0, p1, p2, -, pl⟩ := row3 RP7.out
      obtain ⟨j0, j1, j2, j3, j4, j5, jF, jl⟩ := row6 RJ7.out
      obtain ⟨q0, q1, q2, q3, q4, q5, qF, ql⟩ := row6 RR7.out
      go_wp2_with fail
      obtain ⟨y0, y1, y2, y3, y4, y5, -, -⟩ := row6 (row6S (rowS (a := ⟨w.heap.size + 1, 5, none⟩) (v := .int .i64 (lgi.size : Int)) RR7.out (by simp only; omega)) (.slice C1 trk.length e1) (.slice C2 n e2) (.slice C3 n e3) (.int .i64 (i' : Int)) (.string lgi) (.int .i64 (lgi.size : Int)))
      refine bodyPost_ret (v := .agg #[.slice C1 trk.length e1, .slice C2 n e2, .slice C3 n e3, .int .i64 (i' : Int), .string lgi, .int .i64 (lgi.size : Int)]) (by simp [results, Try.results76, go_sem, y0, y1, y2, y3, y4, y5]) rfl ?_
      have hon := ((OnlyIn.refl (w.heap.size + 1) (w.heap.size + 1 + 1 + 1) w7).grown (setGrown w7 (w.heap.size + 1) 5 (.int .i64 (lgi.size : Int))) (fun b e => by injection e with e; omega)).grown (grown6 (w7.setCell ⟨w.heap.size + 1, 5, none⟩ (.int .i64 (lgi.size : Int))) (w.heap.size + 1 + 1) (.slice C1 trk.length e1) (.slice C2 n e2) (.slice C3 n e3) (.int .i64 (i' : Int)) (.string lgi) (.int .i64 (lgi.size : Int))) (fun b e => by injection e with e; omega)
      refine ⟨i', C1, e1, C2, e2, C3, e3, ⟨HOKI.out, by rw [HLI.out]; exact HPR.out, by rw [HSS.out, HN.out]; exact HLAST.out⟩, ?_, ?_, hon.below HB7.out (by omega) HB7.out.size⟩
      · unfold chV; rw [HSS.out, HLI.out, HDL.out, HN.out]
      · exact fun w2 ho => HS7.out w2 ((onlyIn hon (fun b h1 h2 => HPI.out b (by omega) (by omega))).trans (ho.weak HPO.out))
    | true =>
      obtain rfl : i' = i + 1 := hbt rfl
      have hcan := hb.1 rfl
      have HOK2 := Lib.hid (HOKN.out hcan)
      have hsf2 := hsf rfl P (fun b q => by have := HPL.out b q; omega)
      have HSF := Lib.hid hsf2
      unfold chV
      obtain ⟨N2, hG2⟩ := ch_good HQ.out
      have hgd2 := hG2.ok (i + 1) HOK2.out
      have hdl2 := hgd2.1.len
      obtain ⟨s2, hs2⟩ : ∃ s2, (chF (mvsOf p.moves) trk (i + 1)).1 = s2 := ⟨_, rfl⟩
      obtain ⟨lg2, hlg2⟩ : ∃ lg2, (chF (mvsOf p.moves) trk (i + 1)).2 = lg2 := ⟨_, rfl⟩
      obtain ⟨n2, hn2⟩ : ∃ n2, s2.ls.length = n2 := ⟨_, rfl⟩
      obtain ⟨K, hK⟩ : ∃ K : Int, ((i + 1 : Nat) : Int) = K := ⟨_, rfl⟩
      rw [hs2, hn2] at hdl2
      rw [hlg2] at HEX
      rw [hs2, hlg2, hn2, hdl2, hK]
      have HS2 := Lib.hid hs2
      have HLG2 := Lib.hid hlg2
      have HN2 := Lib.hid hn2
      have HDL2 := Lib.hid hdl2
      have HK := Lib.hid hK
      clear hb hbt hbf hsf hsf2 hat HST hcan hG2 hgd2 hs2 hlg2 hn2 hdl2 hK
      by_cases hbig : (log.size : Int) < (lg2.size : Int)
      · have HLAST : Hid (¬ (i < n ∧ prefB (chF (mvsOf p.moves) trk (i + 1)).2 log)) := fun q => by
          have h2 := (HLG2.out ▸ q.2 : prefB lg2 log).size
          omega
        go_wp2_with fail
        go_quiet (fail)
        obtain ⟨w7, hw7⟩ : ∃ w7, World.drewN (w5.alloc (.cells #[.slice F1 trk.length f1, .slice F2 n2 f2, .slice F3 n2 f3, .int .i64 K, .string lg2, .int .i64 0] 45)) nq = w7 := ⟨_, rfl⟩
        have hb57 : Below w5.heap.size w5 w7 := by rw [← hw7]; exact belowDrewN (by repeat (first | exact Below.refl _ _ | assumption | refine Below.setCell ?_ (by first | omega | (simp <;> omega)) _ | refine Below.alloc ?_ (by first | omega | (simp <;> omega)) _ | refine Below.drew ?_)) nq
        have hb7 : Below wr.heap.size wr w7 := belowStep hb57 hb5
        rw [hw7]
        have RP7 := Lib.hid (rowB hb7 HP'.out)
        have RJ7 := Lib.hid (rowB hb7 HJ.out)
        have RR7 := Lib.hid (rowB hb7 HR.out)
        have HB7 := Lib.hid (belowStep hb7 HB.out)
        have hz7 := hb7.size
        have HS7 := Lib.hid (HS.out.below hb7)
        clear hb57 hb7 hw7 p0 p1 p2 pl j0 j1 j2 j3 j4 j5 jF jl m3
        obtain ⟨p0, p1, p2, -, pl⟩ := row3 RP7.out
        obtain ⟨j0, j1, j2, j3, j4, j5, jF, jl⟩ := row6 RJ7.out
        obtain ⟨q0, q1, q2, q3, q4, q5, qF, ql⟩ := row6 RR7.out
        go_wp2_with fail
        obtain ⟨y0, y1, y2, y3, y4, y5, -, -⟩ := row6 (row6S (rowS (a := ⟨w.heap.size + 1, 5, none⟩) (v := .int .i64 (lgi.size : Int)) RR7.out (by simp only; omega)) (.slice C1 trk.length e1) (.slice C2 n e2) (.slice C3 n e3) (.int .i64 (i : Int)) (.string lgi) (.int .i64 (lgi.size : Int)))
        refine bodyPost_ret (v := .agg #[.slice C1 trk.length e1, .slice C2 n e2, .slice C3 n e3, .int .i64 (i : Int), .string lgi, .int .i64 (lgi.size : Int)]) (by simp [results, Try.results76, go_sem, y0, y1, y2, y3, y4, y5]) rfl ?_
        have hon := ((OnlyIn.refl (w.heap.size + 1) (w.heap.size + 1 + 1 + 1) w7).grown (setGrown w7 (w.heap.size + 1) 5 (.int .i64 (lgi.size : Int))) (fun b e => by injection e with e; omega)).grown (grown6 (w7.setCell ⟨w.heap.size + 1, 5, none⟩ (.int .i64 (lgi.size : Int))) (w.heap.size + 1 + 1) (.slice C1 trk.length e1) (.slice C2 n e2) (.slice C3 n e3) (.int .i64 (i : Int)) (.string lgi) (.int .i64 (lgi.size : Int))) (fun b e => by injection e with e; omega)
        refine ⟨i, C1, e1, C2, e2, C3, e3, ⟨HOKI.out, by rw [HLI.out]; exact HPR.out, by rw [HSS.out, HN.out]; exact HLAST.out⟩, ?_, ?_, hon.below HB7.out (by omega) HB7.out.size⟩
        · unfold chV; rw [HSS.out, HLI.out, HDL.out, HN.out]
        · exact fun w2 ho => HS7.out w2 ((onlyIn hon (fun b h1 h2 => HPI.out b (by omega) (by omega))).trans (ho.weak HPO.out))
      · have hd1 : decide (log.size < lg2.size) = false := decide_eq_false (by omega)
        have hi0 : (0 : Int) ≤ (lg2.size : Int) := by omega
        have hi1 : (lg2.size : Int) ≤ (log.size : Int) := by omega
        by_cases hm : log.extract 0 lg2.size = lg2
        · have hstr : (lg2.toList == (log.extract 0 lg2.size).toList) = true := by rw [strEqB, decide_eq_true hm.symm]
          have HPR2 : Hid (prefB (chF (mvsOf p.moves) trk (i + 1)).2 log) := by unfold Hid; rw [HLG2.out]; exact pref_take.2 ⟨by omega, hm⟩
          clear hm
          go_wp2_with fail
          go_quiet (fail)
          obtain ⟨w7, hw7⟩ : ∃ w7, World.drewN (w5.alloc (.cells #[.slice F1 trk.length f1, .slice F2 n2 f2, .slice F3 n2 f3, .int .i64 K, .string lg2, .int .i64 0] 45)) nq = w7 := ⟨_, rfl⟩
          have hb57 : Below w5.heap.size w5 w7 := by rw [← hw7]; exact belowDrewN (by repeat (first | exact Below.refl _ _ | assumption | refine Below.setCell ?_ (by first | omega | (simp <;> omega)) _ | refine Below.alloc ?_ (by first | omega | (simp <;> omega)) _ | refine Below.drew ?_)) nq
          have hb7 : Below wr.heap.size wr w7 := belowStep hb57 hb5
          rw [hw7]
          have RP7 := Lib.hid (rowB hb7 HP'.out)
          have RJ7 := Lib.hid (rowB hb7 HJ.out)
          have RR7 := Lib.hid (rowB hb7 HR.out)
          have HB7 := Lib.hid (belowStep hb7 HB.out)
          have hz7 := hb7.size
          have HW7 := Lib.hid hw7
          have RX7 : Hid (w7.heap[w5.heap.size]? = some (.cells #[.slice F1 trk.length f1, .slice F2 n2 f2, .slice F3 n2 f3, .int .i64 K, .string lg2, .int .i64 0] 45 (0, 0))) := by rw [← hw7]; exact heap_alloc_new _ _
          have HSF7 := Lib.hid (HSF.out.below hb57)
          have hz5 := hb5.size
          clear hb57 hb7 hw7 p0 p1 p2 pl j0 j1 j2 j3 j4 j5 jF jl
          obtain ⟨x0, x1, x2, x3, x4, x5, xF, xl⟩ := row6 RX7.out
          obtain ⟨j0, j1, j2, j3, j4, j5, jF, jl⟩ := row6 RJ7.out
          have hxn : w5.heap.size ≠ w.heap.size + 1 := by omega
          go_wp2_with fail
          have hg8 := grown6 w7 (w.heap.size + 1) (.slice F1 trk.length f1) (.slice F2 n2 f2) (.slice F3 n2 f3) (.int .i64 K) (.string lg2) (.int .i64 0)
          have hJ8 := row6S RJ7.out (.slice F1 trk.length f1) (.slice F2 n2 f2) (.slice F3 n2 f3) (.int .i64 K) (.string lg2) (.int .i64 0)
          have hP8 := rowR hg8 RP7.out (fun e => by injection e with e; omega)
          have hR8 := rowR hg8 RR7.out (fun e => by injection e with e; omega)
          have hB8 := belSet6 (g := w.heap.size + 1) HB7.out (by omega) (.slice F1 trk.length f1) (.slice F2 n2 f2) (.slice F3 n2 f3) (.int .i64 K) (.string lg2) (.int .i64 0)
          have hS8 := HSF7.out.only (onlyIn ((OnlyIn.refl w.heap.size (w.heap.size + 3) w7).grown hg8 (fun b e => by injection e with e; omega)) HPI.out)
          obtain ⟨w8, hw8⟩ : ∃ w8, (((((w7.setCell ⟨w.heap.size + 1, 0, none⟩ (.slice F1 trk.length f1)).setCell ⟨w.heap.size + 1, 1, none⟩ (.slice F2 n2 f2)).setCell ⟨w.heap.size + 1, 2, none⟩ (.slice F3 n2 f3)).setCell ⟨w.heap.size + 1, 3, none⟩ (.int .i64 K)).setCell ⟨w.heap.size + 1, 4, none⟩ (.string lg2)).setCell ⟨w.heap.size + 1, 5, none⟩ (.int .i64 0) = w8 := ⟨_, rfl⟩
          have hsz8 := hg8.size
          rw [hw8] at hg8 hJ8 hP8 hR8 hB8 hS8 hsz8
          rw [hw8]
          have m8 := (row6 hJ8).2.2.2.1
          go_roundw
          case rel =>
            (repeat apply Exists.intro)
            refine ⟨?_, rfl⟩
            exact ⟨i + 1, F1, f1, F2, f2, F3, f3, by rw [HS2.out, HLG2.out, HN2.out, HDL2.out, HK.out]; exact hJ8, hS8, HOK2.out, HPR2, hP8, hR8, by omega, hB8⟩
          case measure => rw [m8, m3, ← HK.out]; simp [intOf]; omega
        · have hstr : (lg2.toList == (log.extract 0 lg2.size).toList) = false := by rw [strEqB, decide_eq_false (fun e => hm e.symm)]
          have HLAST : Hid (¬ (i < n ∧ prefB (chF (mvsOf p.moves) trk (i + 1)).2 log)) := fun q => hm (pref_take.1 (HLG2.out ▸ q.2 : prefB lg2 log)).2
          clear hm
          go_wp2_with fail
          go_quiet (fail)
          obtain ⟨w7, hw7⟩ : ∃ w7, World.drewN (w5.alloc (.cells #[.slice F1 trk.length f1, .slice F2 n2 f2, .slice F3 n2 f3, .int .i64 K, .string lg2, .int .i64 0] 45)) nq = w7 := ⟨_, rfl⟩
          have hb57 : Below w5.heap.size w5 w7 := by rw [← hw7]; exact belowDrewN (by repeat (first | exact Below.refl _ _ | assumption | refine Below.setCell ?_ (by first | omega | (simp <;> omega)) _ | refine Below.alloc ?_ (by first | omega | (simp <;> omega)) _ | refine Below.drew ?_)) nq
          have hb7 : Below wr.heap.size wr w7 := belowStep hb57 hb5
          rw [hw7]
          have RP7 := Lib.hid (rowB hb7 HP'.out)
          have RJ7 := Lib.hid (rowB hb7 HJ.out)
          have RR7 := Lib.hid (rowB hb7 HR.out)
          have HB7 := Lib.hid (belowStep hb7 HB.out)
          have hz7 := hb7.size
          have HS7 := Lib.hid (HS.out.below hb7)
          clear hb57 hb7 hw7 p0 p1 p2 pl j0 j1 j2 j3 j4 j5 jF jl m3
          obtain ⟨p0, p1, p2, -, pl⟩ := row3 RP7.out
          obtain ⟨j0, j1, j2, j3, j4, j5, jF, jl⟩ := row6 RJ7.out
          obtain ⟨q0, q1, q2, q3, q4, q5, qF, ql⟩ := row6 RR7.out
          go_wp2_with fail
          obtain ⟨y0, y1, y2, y3, y4, y5, -, -⟩ := row6 (row6S (rowS (a := ⟨w.heap.size + 1, 5, none⟩) (v := .int .i64 (lgi.size : Int)) RR7.out (by simp only; omega)) (.slice C1 trk.length e1) (.slice C2 n e2) (.slice C3 n e3) (.int .i64 (i : Int)) (.string lgi) (.int .i64 (lgi.size : Int)))
          refine bodyPost_ret (v := .agg #[.slice C1 trk.length e1, .slice C2 n e2, .slice C3 n e3, .int .i64 (i : Int), .string lgi, .int .i64 (lgi.size : Int)]) (by simp [results, Try.results76, go_sem, y0, y1, y2, y3, y4, y5]) rfl ?_
          have hon := ((OnlyIn.refl (w.heap.size + 1) (w.heap.size + 1 + 1 + 1) w7).grown (setGrown w7 (w.heap.size + 1) 5 (.int .i64 (lgi.size : Int))) (fun b e => by injection e with e; omega)).grown (grown6 (w7.setCell ⟨w.heap.size + 1, 5, none⟩ (.int .i64 (lgi.size : Int))) (w.heap.size + 1 + 1) (.slice C1 trk.length e1) (.slice C2 n e2) (.slice C3 n e3) (.int .i64 (i : Int)) (.string lgi) (.int .i64 (lgi.size : Int))) (fun b e => by injection e with e; omega)
          refine ⟨i, C1, e1, C2, e2, C3, e3, ⟨HOKI.out, by rw [HLI.out]; exact HPR.out, by rw [HSS.out, HN.out]; exact HLAST.out⟩, ?_, ?_, hon.below HB7.out (by omega) HB7.out.size⟩
          · unfold chV; rw [HSS.out, HLI.out, HDL.out, HN.out]
          · exact fun w2 ho => HS7.out w2 ((onlyIn hon (fun b h1 h2 => HPI.out b (by omega) (by omega))).trans (ho.weak HPO.out))
end Go.Proofs.Ytfhdnanbhigpmaa
