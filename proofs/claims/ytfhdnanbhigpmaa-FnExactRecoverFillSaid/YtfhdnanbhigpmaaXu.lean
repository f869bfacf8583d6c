/- Jobs recovered from a log, spec. Conditions: as the contract says. -/
import Derived.Test.YtfhdnanbhigpmaaXt
namespace Go.Proofs.Ytfhdnanbhigpmaa
open Go.RowKit Grp

def SRecYes (p : Pz) (trk : List Int) (log : ByteArray) (w : World) (e : Ending) (w' : World) : Prop :=
  ∃ (i : Nat) (C1 : Option Addr) (e1 : Nat) (C2 : Option Addr) (e2 : Nat) (C3 : Option Addr) (e3 : Nat), RecAt (mvsOf p.moves) trk log i ∧ e = .returned (.tuple #[chV p trk i ((chF (mvsOf p.moves) trk i).2.size : Int) C1 e1 C2 e2 C3 e3, .bool true]) ∧ ChAt p trk i C1 C2 C3 w' ∧ Below w.heap.size w w'
set_option maxRecDepth 100000 in
set_option maxHeartbeats 8000000 in
theorem specRecoverQ (A : Option Addr) (c : Nat) (p : Pz) (A1 : Option Addr) (c1 : Nat) (trk : List Int) (log : ByteArray) (w : World) (h : PzAt w A p) (h1 : IntsAt w A1 trk) (hl : trk.length ≤ 1048576) (hlg : log.size ≤ 1048576) (Q : Ending → World → Prop) (hy : buildQ p trk = true ∧ log.size ≤ 60000 → ∀ e w', SRecYes p trk log w e w' → Q e w') (hn : ¬ (buildQ p trk = true ∧ log.size ≤ 60000) → ∀ e w', RecNo w e w' → Q e w') :
    Calls Try.prog 40 #[.agg #[.int .i64 p.pts, .string p.names, .slice A p.moves.length c], .slice A1 trk.length c1, .string log] w Q := by
  have HYY := Lib.hid hy
  have HNN := Lib.hid hn
  clear hy hn
  obtain ⟨w0, hw0⟩ : ∃ w0, (w.alloc (.cells #[.int .i64 p.pts, .string p.names, .slice A p.moves.length c] 29)).alloc (.cells #[.slice none 0 0, .slice none 0 0, .slice none 0 0, .int .i64 0, .string ⟨#[]⟩, .int .i64 0] 45) = w0 := ⟨_, rfl⟩
  have hb0 : Below w.heap.size w w0 := by rw [← hw0]; exact (by repeat (first | exact Below.refl _ _ | assumption | refine Below.setCell ?_ (by first | omega | (simp <;> omega)) _ | refine Below.alloc ?_ (by first | omega | (simp <;> omega)) _ | refine Below.drew ?_))
  have hz0 : w0.heap.size = w.heap.size + 2 := by rw [← hw0]; simp
  have R0 : Hid (w0.heap[w.heap.size]? = some (.cells #[.int .i64 p.pts, .string p.names, .slice A p.moves.length c] 29 (0, 0))) := by rw [← hw0]; exact alloc2_0 _ _ _
  have R1 : Hid (w0.heap[w.heap.size + 1]? = some (.cells #[.slice none 0 0, .slice none 0 0, .slice none 0 0, .int .i64 0, .string ⟨#[]⟩, .int .i64 0] 45 (0, 0))) := by rw [← hw0]; exact alloc2_1 _ _ _
  obtain ⟨p0, p1, p2, -, -⟩ := row3 R0.out
  have HB0 := Lib.hid hb0
  have HW0 := Lib.hid hw0
  have HP := Lib.hid h
  have HZ0 := Lib.hid hz0
  have HST := Lib.hid (specStartFill A c p A1 c1 trk w0 (h.below hb0) (h1.below hb0) hl)
  obtain ⟨q, hq⟩ : ∃ q, buildQ p trk = q := ⟨_, rfl⟩
  have HQ := Lib.hid hq
  rw [hq] at HYY HNN
  clear h h1 hb0 hw0 hq hz0
  go_enter Try.func40, Try.ntmps40
  go_wp2_with fail
  rw [HW0.out]
  refine HST.out.mono ?_
  intro e w1 hpost
  unfold SpecJob at hpost
  rw [HQ.out] at hpost
  cases q with
  | false =>
    rw [if_neg (by decide)] at hpost
    obtain ⟨rfl, hb1⟩ := hpost
    have hno := Lib.hid (HNN.out (fun k => by cases k.1))
    have HB1 := Lib.hid (belowStep hb1 HB0.out)
    have HR1 := Lib.hid (rowB hb1 R1.out)
    have hz1 := hb1.size
    have hz0 := HZ0.out
    clear hb1 p0 p1 p2 HYY HNN HST HW0
    obtain ⟨q0, q1, q2, q3, q4, q5, qF, ql⟩ := row6 HR1.out
    go_wp2_with fail
    obtain ⟨w3, hw3⟩ : ∃ w3, (((((w1.setCell ⟨w.heap.size + 1, 0, none⟩ (.slice none 0 0)).setCell ⟨w.heap.size + 1, 1, none⟩ (.slice none 0 0)).setCell ⟨w.heap.size + 1, 2, none⟩ (.slice none 0 0)).setCell ⟨w.heap.size + 1, 3, none⟩ (.int .i64 0)).setCell ⟨w.heap.size + 1, 4, none⟩ (.string ⟨#[]⟩)).setCell ⟨w.heap.size + 1, 5, none⟩ (.int .i64 0) = w3 := ⟨_, rfl⟩
    rw [hw3]
    have R3 := row6S HR1.out (.slice none 0 0) (.slice none 0 0) (.slice none 0 0) (.int .i64 0) (.string ⟨#[]⟩) (.int .i64 0)
    have hB3 := belSet6 (g := w.heap.size + 1) HB1.out (by omega) (.slice none 0 0) (.slice none 0 0) (.slice none 0 0) (.int .i64 0) (.string ⟨#[]⟩) (.int .i64 0)
    rw [hw3] at R3 hB3
    have hbA : Below w3.heap.size w3 (w3.alloc (.cells #[.slice none 0 0, .slice none 0 0, .slice none 0 0, .int .i64 0, .string ⟨#[]⟩, .int .i64 0] 45)) := (by repeat (first | exact Below.refl _ _ | assumption | refine Below.setCell ?_ (by first | omega | (simp <;> omega)) _ | refine Below.alloc ?_ (by first | omega | (simp <;> omega)) _ | refine Below.drew ?_))
    obtain ⟨y0, y1, y2, y3, y4, y5, -, -⟩ := row6 (rowB hbA R3)
    refine bodyPost_ret (v := .tuple #[.agg #[.slice none 0 0, .slice none 0 0, .slice none 0 0, .int .i64 0, .string ⟨#[]⟩, .int .i64 0], .bool false]) (by simp [results, Try.results40, go_sem, y0, y1, y2, y3, y4, y5]) rfl ?_
    exact hno.out _ _ ⟨rfl, belowStep hbA hB3⟩
  | true =>
    rw [if_pos rfl] at hpost
    obtain ⟨B1, d1, B2, d2, B3, d3, rfl, f1, -, f2, -, f3, -, hb1⟩ := hpost
    have HB1 := Lib.hid (belowStep hb1 HB0.out)
    have HR0 := Lib.hid (rowB hb1 R0.out)
    have HR1 := Lib.hid (rowB hb1 R1.out)
    have hz1 := hb1.size
    have hz0 := HZ0.out
    have HC1 : Hid (Safe (fun b => b = w.heap.size + 1) p trk 0 B1 B2 B3 w1) := fun w2 ho => ⟨(f1.onlyP ho (fun b q => by omega)).intsAt, GrAt.onlyHi f2 (fun _ q => q) ho (fun b q => by omega), (f3.onlyP ho (fun b q => by omega)).intsAt⟩
    clear hb1 p0 p1 p2 HST HW0 f1 f2 f3
    obtain ⟨p0, p1, p2, -, pl⟩ := row3 HR0.out
    obtain ⟨q0, q1, q2, q3, q4, q5, qF, ql⟩ := row6 HR1.out
    by_cases hbig : (60000 : Int) < (log.size : Int)
    · have hno := Lib.hid (HNN.out (fun k => by have := k.2; omega))
      clear HYY HNN
      go_wp2_with fail
      obtain ⟨w3, hw3⟩ : ∃ w3, (((((w1.setCell ⟨w.heap.size + 1, 0, none⟩ (.slice none 0 0)).setCell ⟨w.heap.size + 1, 1, none⟩ (.slice none 0 0)).setCell ⟨w.heap.size + 1, 2, none⟩ (.slice none 0 0)).setCell ⟨w.heap.size + 1, 3, none⟩ (.int .i64 0)).setCell ⟨w.heap.size + 1, 4, none⟩ (.string ⟨#[]⟩)).setCell ⟨w.heap.size + 1, 5, none⟩ (.int .i64 0) = w3 := ⟨_, rfl⟩
      rw [hw3]
      have R3 := row6S HR1.out (.slice none 0 0) (.slice none 0 0) (.slice none 0 0) (.int .i64 0) (.string ⟨#[]⟩) (.int .i64 0)
      have hB3 := belSet6 (g := w.heap.size + 1) HB1.out (by omega) (.slice none 0 0) (.slice none 0 0) (.slice none 0 0) (.int .i64 0) (.string ⟨#[]⟩) (.int .i64 0)
      rw [hw3] at R3 hB3
      have hbA : Below w3.heap.size w3 (w3.alloc (.cells #[.slice B1 trk.length d1, .slice B2 1 d2, .slice B3 1 d3, .int .i64 0, .string ⟨#[]⟩, .int .i64 0] 45)) := (by repeat (first | exact Below.refl _ _ | assumption | refine Below.setCell ?_ (by first | omega | (simp <;> omega)) _ | refine Below.alloc ?_ (by first | omega | (simp <;> omega)) _ | refine Below.drew ?_))
      obtain ⟨y0, y1, y2, y3, y4, y5, -, -⟩ := row6 (rowB hbA R3)
      refine bodyPost_ret (v := .tuple #[.agg #[.slice none 0 0, .slice none 0 0, .slice none 0 0, .int .i64 0, .string ⟨#[]⟩, .int .i64 0], .bool false]) (by simp [results, Try.results40, go_sem, y0, y1, y2, y3, y4, y5]) rfl ?_
      exact hno.out _ _ ⟨rfl, belowStep hbA hB3⟩
    · have hyes := Lib.hid (HYY.out ⟨rfl, by omega⟩)
      clear HYY HNN
      have hrep := fun wx (hb : Below w1.heap.size w1 wx) => specReplay A c p trk log B1 d1 B2 d2 B3 d3 wx (fun b => b = w.heap.size + 1) (fun b q => by have := hb.size; omega) (HP.out.below (belowStep hb HB1.out)) (HC1.out.below hb) HQ.out (by omega)
      have HRP : Hid (∀ wx, Below w1.heap.size w1 wx → Calls Try.prog 76 #[.agg #[.int .i64 p.pts, .string p.names, .slice A p.moves.length c], .agg #[.slice B1 trk.length d1, .slice B2 1 d2, .slice B3 1 d3, .int .i64 0, .string ⟨#[]⟩, .int .i64 0], .string log] wx (RepS (fun b => b = w.heap.size + 1) p trk log wx)) := hrep
      clear hrep
      go_wp2_with fail
      refine (HRP.out _ (by exact (by repeat (first | exact Below.refl _ _ | assumption | refine Below.setCell ?_ (by first | omega | (simp <;> omega)) _ | refine Below.alloc ?_ (by first | omega | (simp <;> omega)) _ | refine Below.drew ?_)))).mono ?_
      rintro e w5 ⟨i, E1, e1, E2, e2, E3, e3, hrec, rfl, hat, hb5⟩
      unfold chV
      have hb15 : Below w1.heap.size w1 w5 := belowStep hb5 (by repeat (first | exact Below.refl _ _ | assumption | refine Below.setCell ?_ (by first | omega | (simp <;> omega)) _ | refine Below.alloc ?_ (by first | omega | (simp <;> omega)) _ | refine Below.drew ?_))
      have HR5 := Lib.hid (rowB hb15 HR1.out)
      have HB5 := Lib.hid (belowStep hb15 HB1.out)
      have HAT := Lib.hid hat
      obtain ⟨l2, hl2⟩ : ∃ l2, (chF (mvsOf p.moves) trk i).1.ls.length = l2 := ⟨_, rfl⟩
      obtain ⟨l3, hl3⟩ : ∃ l3, (chF (mvsOf p.moves) trk i).1.ds.length = l3 := ⟨_, rfl⟩
      obtain ⟨lgi, hlgi⟩ : ∃ lgi, (chF (mvsOf p.moves) trk i).2 = lgi := ⟨_, rfl⟩
      rw [hl2, hl3, hlgi]
      have HL2 := Lib.hid hl2
      have HL3 := Lib.hid hl3
      have HLG := Lib.hid hlgi
      clear hl2 hl3 hlgi q0 q1 q2 q3 q4 q5 qF ql p0 p1 p2 pl hb15 hb5 hat
      obtain ⟨q0, q1, q2, q3, q4, q5, qF, ql⟩ := row6 HR5.out
      go_wp2_with fail
      obtain ⟨y0, y1, y2, y3, y4, y5, -, -⟩ := row6 (row6S HR5.out (.slice E1 trk.length e1) (.slice E2 l2 e2) (.slice E3 l3 e3) (.int .i64 (i : Int)) (.string lgi) (.int .i64 (lgi.size : Int)))
      refine bodyPost_ret (v := .tuple #[.agg #[.slice E1 trk.length e1, .slice E2 l2 e2, .slice E3 l3 e3, .int .i64 (i : Int), .string lgi, .int .i64 (lgi.size : Int)], .bool true]) (by simp [results, Try.results40, go_sem, y0, y1, y2, y3, y4, y5]) rfl ?_
      have hon := (OnlyIn.refl (w.heap.size + 1) (w.heap.size + 1 + 1) w5).grown (grown6 w5 (w.heap.size + 1) (.slice E1 trk.length e1) (.slice E2 l2 e2) (.slice E3 l3 e3) (.int .i64 (i : Int)) (.string lgi) (.int .i64 (lgi.size : Int))) (fun b e => by injection e with e; omega)
      refine hyes.out _ _ ⟨i, E1, e1, E2, e2, E3, e3, hrec, ?_, HAT.out _ (onlyIn hon (fun b h1 h2 => by omega)), hon.below HB5.out (by omega) HB5.out.size⟩
      unfold chV; rw [HL2.out, HL3.out, HLG.out]
end Go.Proofs.Ytfhdnanbhigpmaa
