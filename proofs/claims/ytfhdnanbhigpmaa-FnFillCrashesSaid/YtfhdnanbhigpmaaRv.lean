/- Jobs recovered from a log, impl. Conditions: as each contract says. -/
import Derived.Test.YtfhdnanbhigpmaaRu
namespace Go.Proofs.Ytfhdnanbhigpmaa
open Go.RowKit Grp

/-- The bytes of a begin those of b. -/
def prefB (a b : ByteArray) : Prop := a.data.toList <+: b.data.toList
theorem ba_list (a : ByteArray) : a.data.toList.length = a.size := by rw [Array.length_toList]; rfl
theorem ba_app (a b : ByteArray) : (a ++ b).data.toList = a.data.toList ++ b.data.toList := by simp
theorem ba_ext (b : ByteArray) (i j : Nat) : (b.extract i j).data.toList = (b.data.toList.take j).drop i := by
  rw [ByteArray.data_extract]
  simp [Array.toList_extract, List.drop_take]
theorem ba_eq {a b : ByteArray} (h : a.data.toList = b.data.toList) : a = b := ByteArray.ext (Array.toList_inj.1 h)
theorem pref_nil (b : ByteArray) : prefB ⟨#[]⟩ b := by unfold prefB; simp
theorem pref_self (b : ByteArray) : prefB b b := List.prefix_refl _
theorem prefB.size {a b : ByteArray} (h : prefB a b) : a.size ≤ b.size := by
  have := h.length_le
  rwa [ba_list, ba_list] at this
theorem prefB.trans {a b c : ByteArray} (h : prefB a b) (g : prefB b c) : prefB a c := List.IsPrefix.trans h g
theorem pref_app (a b : ByteArray) : prefB a (a ++ b) := by unfold prefB; rw [ba_app]; exact List.prefix_append _ _
theorem pref_ext {a b x : ByteArray} (h : prefB a b) : prefB (a ++ x) b ↔ a.size + x.size ≤ b.size ∧ b.extract a.size (a.size + x.size) = x := by
  obtain ⟨r, hr⟩ := h
  have hb : b.size = a.size + r.length := by rw [← ba_list b, ← hr, List.length_append, ba_list]
  have he : (b.extract a.size (a.size + x.size)).data.toList = r.take x.size := by
    rw [ba_ext, ← hr, ← ba_list a, List.take_length_add_append, List.drop_left]
  unfold prefB
  rw [ba_app, ← hr, List.prefix_append_right_inj]
  constructor
  · intro q
    have q1 := q.length_le
    rw [ba_list] at q1
    refine ⟨by omega, ba_eq ?_⟩
    rw [he, ← ba_list x]
    exact (List.prefix_iff_eq_take.1 q).symm
  · rintro ⟨q1, q2⟩
    rw [List.prefix_iff_eq_take, ba_list, ← he, q2]
theorem pref_take {a b : ByteArray} : prefB a b ↔ a.size ≤ b.size ∧ b.extract 0 a.size = a := by
  have := pref_ext (x := a) (pref_nil b)
  have e : (⟨#[]⟩ : ByteArray) ++ a = a := ba_eq (by rw [ba_app]; simp)
  have e0 : (⟨#[]⟩ : ByteArray).size = 0 := rfl
  rw [e, e0, Nat.zero_add] at this
  exact this
/-- The job that the records of a log give. -/
structure RecAt (mvs : List (List Int)) (trk : List Int) (log : ByteArray) (i : Nat) : Prop where
  ok : chOk mvs trk i
  pre : prefB (chF mvs trk i).2 log
  last : ¬ (i < (chF mvs trk i).1.ls.length ∧ prefB (chF mvs trk (i + 1)).2 log)
theorem ch_pref {mvs : List (List Int)} {trk : List Int} (i : Nat) : ∀ j, prefB (chF mvs trk i).2 (chF mvs trk (i + j)).2 := by
  intro j
  induction j with
  | zero => exact pref_self _
  | succ j ih => exact ih.trans (pref_app _ _)
theorem RecAt.max {mvs : List (List Int)} {trk : List Int} {log : ByteArray} {i j : Nat} (h : RecAt mvs trk log i) (h1 : chOk mvs trk j) (h2 : prefB (chF mvs trk j).2 log) : j ≤ i := by
  rcases Nat.lt_or_ge i j with e | e
  · exfalso
    refine h.last ⟨h1 i e, ?_⟩
    have := ch_pref (mvs := mvs) (trk := trk) (i + 1) (j - (i + 1))
    rw [show i + 1 + (j - (i + 1)) = j from by omega] at this
    exact this.trans h2
  · exact e
theorem RecAt.one {mvs : List (List Int)} {trk : List Int} {log : ByteArray} {i j : Nat} (h : RecAt mvs trk log i) (g : RecAt mvs trk log j) : i = j :=
  Nat.le_antisymm (g.max h.ok h.pre) (h.max g.ok g.pre)
def RecYes (p : Pz) (trk : List Int) (log : ByteArray) (w : World) (e : Ending) (w' : World) : Prop :=
  ∃ (i : Nat) (A1 : Option Addr) (c1 : Nat) (A2 : Option Addr) (c2 : Nat) (A3 : Option Addr) (c3 : Nat), RecAt (mvsOf p.moves) trk log i ∧
    e = .returned (.tuple #[jobV A1 A2 A3 c1 c2 c3 (chT p trk i) (i : Int) (chF (mvsOf p.moves) trk i).2 ((chF (mvsOf p.moves) trk i).2.size : Int), .bool true]) ∧ FTo w.heap.size w' A1 c1 A2 A3 c3 (chT p trk i) ∧ Below w.heap.size w w'
def RecNo (w : World) (e : Ending) (w' : World) : Prop := e = .returned (.tuple #[noJob, .bool false]) ∧ Below w.heap.size w w'
set_option maxRecDepth 100000 in
set_option maxHeartbeats 8000000 in
theorem implRecoverQ (A : Option Addr) (c : Nat) (p : Pz) (A1 : Option Addr) (c1 : Nat) (trk : List Int) (log : ByteArray) (w : World) (h : PzAt w A p) (h1 : IntsAt w A1 trk) (hl : trk.length ≤ 1048576) (hlg : log.size ≤ 1048576) (Q : Ending → World → Prop) (hy : buildQ p trk = true ∧ log.size ≤ 60000 → ∀ e w', RecYes p trk log w e w' → Q e w') (hn : ¬ (buildQ p trk = true ∧ log.size ≤ 60000) → ∀ e w', RecNo w e w' → Q e w') :
    Calls Try.prog 36 #[.agg #[.int .i64 p.pts, .string p.names, .slice A p.moves.length c], .slice A1 trk.length c1, .string log] w Q := by
  have HYY := Lib.hid hy
  have HNN := Lib.hid hn
  clear hy hn
  obtain ⟨w0, hw0⟩ : ∃ w0, (w.alloc (.cells #[.int .i64 p.pts, .string p.names, .slice A p.moves.length c] 29)).alloc (.cells #[.slice none 0 0, .slice none 0 0, .slice none 0 0, .int .i64 0, .string ⟨#[]⟩, .int .i64 0] 45) = w0 := ⟨_, rfl⟩
  have hb0 : Below w.heap.size w w0 := by rw [← hw0]; exact (by repeat (first | exact Below.refl _ _ | assumption | refine Below.setCell ?_ (by first | omega | (simp <;> omega)) _ | refine Below.alloc ?_ (by first | omega | (simp <;> omega)) _ | refine Below.drew ?_))
  have hz0 : w0.heap.size = w.heap.size + 2 := by rw [← hw0]; simp
  have R0 : Hid (w0.heap[w.heap.size]? = some (.cells #[.int .i64 p.pts, .string p.names, .slice A p.moves.length c] 29 (0, 0))) := by rw [← hw0]; exact alloc2_0 _ _ _
  have R1 : Hid (w0.heap[w.heap.size + 1]? = some (.cells #[.slice none 0 0, .slice none 0 0, .slice none 0 0, .int .i64 0, .string ⟨#[]⟩, .int .i64 0] 45 (0, 0))) := by rw [← hw0]; exact alloc2_1 _ _ _
  obtain ⟨p0, p1, p2, -, -⟩ := row3 R0.out
  have HB0 := Lib.hid hb0
  have HW0 := Lib.hid hw0
  have HST := Lib.hid (implStart A c p A1 c1 trk w0 (h.below hb0) (h1.below hb0) hl)
  obtain ⟨q, hq⟩ : ∃ q, buildQ p trk = q := ⟨_, rfl⟩
  have HQ := Lib.hid hq
  rw [hq] at HST HYY HNN
  clear h h1 hb0 hw0 hq
  by_cases hgo : q = true ∧ log.size ≤ 60000
  rotate_left
  · have hno := Lib.hid (HNN.out hgo)
    clear HYY HNN
    go_enter Try.func36, Try.ntmps36
    go_wp2_with fail
    rw [HW0.out]
    refine HST.out.mono ?_
    intro e w1 hpost
    cases q with
    | false =>
      clear hgo
      obtain ⟨rfl, hb1⟩ := hpost
      have HB1 := Lib.hid (belowStep hb1 HB0.out)
      have HR1 := Lib.hid (rowB hb1 R1.out)
      clear hb1 p0 p1 p2
      obtain ⟨q0, q1, q2, q3, q4, q5, qF, ql⟩ := row6 HR1.out
      go_wp2_with fail
      obtain ⟨y0, y1, y2, y3, y4, y5, -, -⟩ := row6 (row6S HR1.out (.slice none 0 0) (.slice none 0 0) (.slice none 0 0) (.int .i64 0) (.string ⟨#[]⟩) (.int .i64 0))
      refine bodyPost_ret (v := .tuple #[.agg #[.slice none 0 0, .slice none 0 0, .slice none 0 0, .int .i64 0, .string ⟨#[]⟩, .int .i64 0], .bool false]) (by simp [results, Try.results36, go_sem, y0, y1, y2, y3, y4, y5]) rfl ?_
      exact hno.out _ _ ⟨rfl, belSet6 (g := w.heap.size + 1) HB1.out (by omega) _ _ _ _ _ _⟩
    | true =>
      have hbig : (60000 : Int) < (log.size : Int) := by
        rcases Nat.lt_or_ge 60000 log.size with h | h
        · omega
        · exact absurd ⟨rfl, h⟩ hgo
      clear hgo
      obtain ⟨lo, f, bm, At, ct, Al, Ad, vm, m1, m2, hi, hlo, hlbm, rfl, -, -, -, hb1⟩ := hpost
      have HB1 := Lib.hid (belowStep hb1 HB0.out)
      have HR1 := Lib.hid (rowB hb1 R1.out)
      clear hb1 p0 p1 p2
      obtain ⟨q0, q1, q2, q3, q4, q5, qF, ql⟩ := row6 HR1.out
      go_wp2_with fail
      obtain ⟨y0, y1, y2, y3, y4, y5, -, -⟩ := row6 (row6S HR1.out (.slice none 0 0) (.slice none 0 0) (.slice none 0 0) (.int .i64 0) (.string ⟨#[]⟩) (.int .i64 0))
      refine bodyPost_ret (v := .tuple #[.agg #[.slice none 0 0, .slice none 0 0, .slice none 0 0, .int .i64 0, .string ⟨#[]⟩, .int .i64 0], .bool false]) (by simp [results, Try.results36, go_sem, y0, y1, y2, y3, y4, y5]) rfl ?_
      exact hno.out _ _ ⟨rfl, belSet6 (g := w.heap.size + 1) HB1.out (by omega) _ _ _ _ _ _⟩
  obtain ⟨rfl, hlg6⟩ := hgo
  have hyes := Lib.hid (HYY.out ⟨rfl, hlg6⟩)
  clear HYY HNN
  obtain ⟨N, hN20, hx0, hmv, hml, hx20, hch⟩ := ch_full HQ.out
  have HMV := Lib.hid hmv
  have HCH := Lib.hid hch
  clear hmv hch
  go_enter Try.func36, Try.ntmps36
  go_wp2_with fail
  rw [HW0.out]
  refine HST.out.mono ?_
  intro e w1 hpost
  rw [if_pos trivial] at hpost
  obtain ⟨lo, f, bm, At, ct, Al, Ad, vm, m1, m2, hi, hlo, hlbm, rfl, hFL, -, -, hb1⟩ := hpost
  have HF0 : Hid (FsAt lo f bm (.slice At trk.length ct) vm trk (mvsOf p.moves) 0 w1 (chF (mvsOf p.moves) trk 0).1 0 (chF (mvsOf p.moves) trk 0).2) := by
    refine ⟨_, _, [strOfNums trk], hFL, fun s => ?_⟩
    rw [List.mem_singleton]
    exact ⟨fun e => ⟨trk, by simp [chF], e.symm⟩, fun ⟨x, h1, h2⟩ => by rw [← h2]; rw [show x = trk from by simpa [chF] using h1]⟩
  have HB1 := Lib.hid (belowStep hb1 HB0.out)
  have HRB := Lib.hid (rowB hb1 R1.out)
  have hz1 := hb1.size
  have hbig : ¬ (60000 : Int) < (log.size : Int) := by omega
  clear hFL hb1 HST p0 p1 p2 HW0
  go_wp2_with fail
  go_loopw [] (fun wr => ∃ i : Nat, FsAt lo f bm (.slice At trk.length ct) vm trk (mvsOf p.moves) 0 wr (chF (mvsOf p.moves) trk i).1 i (chF (mvsOf p.moves) trk i).2 ∧ Hid (chOk (mvsOf p.moves) trk i) ∧ Hid (prefB (chF (mvsOf p.moves) trk i).2 log) ∧ Below lo w1 wr) (fun wr => 4000 - (intOf ((wr.cell? ⟨f, 3, none⟩).getD undef)).toNat)
  case atStart => exact ⟨0, HF0.out, fun j hj => by omega, pref_nil _, Below.refl _ _⟩
  case round =>
    obtain ⟨i, hF, HOKI, HPR, hB⟩ := hrel
    have hgd := HCH.out i HOKI.out
    have e1' : (chF (mvsOf p.moves) trk (i + 1)).1 = nextB (mvsOf p.moves) (chF (mvsOf p.moves) trk i).1 i := rfl
    have e2' : (chF (mvsOf p.moves) trk (i + 1)).2 = (chF (mvsOf p.moves) trk i).2 ++ fullS i (addedB (mvsOf p.moves) (chF (mvsOf p.moves) trk i).1.ls i) := rfl
    have hnext := fun q => ch_next HOKI.out q
    obtain ⟨s, hs⟩ : ∃ s, (chF (mvsOf p.moves) trk i).1 = s := ⟨_, rfl⟩
    obtain ⟨lgi, hlgi⟩ : ∃ lgi, (chF (mvsOf p.moves) trk i).2 = lgi := ⟨_, rfl⟩
    simp only [hs, hlgi] at hF HPR hgd e1' e2' hnext
    have HSS := Lib.hid hs
    have HLI := Lib.hid hlgi
    have HE1 := Lib.hid e1'
    have HE2 := Lib.hid e2'
    have HNX := Lib.hid hnext
    have HGD := Lib.hid hgd
    have HB := Lib.hid hB
    have HF := Lib.hid hF
    have hcap := hgd.1.cap
    have hkl := hgd.2
    have hsz := HPR.out.size
    have hzw := hB.size
    have HD := Lib.hid (implDone lo f bm (.slice At trk.length ct) vm trk (mvsOf p.moves) 0 s i lgi wr hF)
    have hlof : lo ≤ wr.heap.size := by
      obtain ⟨vl, vd, Kk, hFl, -⟩ := HF.out
      have := row_lt hFl.row
      have := hFl.lof
      omega
    have m3 : wr.cell? ⟨f, 3, none⟩ = some (.int .i64 (i : Int)) := by
      obtain ⟨vl, vd, Kk, hFl, -⟩ := HF.out
      exact cell_of_row wr f 3 _ _ (0, 0) hFl.row
    clear hs hlgi e1' e2' hnext hgd hB hF
    by_cases hlt : i < s.ls.length
    · have hd : decide (i = s.ls.length) = false := decide_eq_false (by omega)
      rw [hd] at HD
      obtain ⟨ad, had⟩ : ∃ ad, addedB (mvsOf p.moves) s.ls i = ad := ⟨_, rfl⟩
      obtain ⟨fu, hfu⟩ : ∃ fu, fullS i ad = fu := ⟨_, rfl⟩
      have hrows : RowsOk N trk.length ad := by
        rw [← had]
        exact addTo_rows (HGD.out.1.rows i hlt) (mvsOf p.moves) [] HMV.out (fun i hi => by simp at hi)
      have hadl : ad.length ≤ 100 := by
        rw [← had]
        have := addTo_len s.ls (s.ls.getD i []) (mvsOf p.moves) []
        unfold addedB
        rw [List.length_nil] at this
        omega
      have hfs : fu.size ≤ 100007 := by
        rw [← hfu, full_size i hrows]
        have : ad.length * trk.length ≤ 100 * 1000 := Nat.mul_le_mul hadl (by omega)
        omega
      have hE2 := HE2.out
      rw [had, hfu] at hE2
      have HE2F : Hid ((chF (mvsOf p.moves) trk (i + 1)).2 = lgi ++ fu) := hE2
      have HAD := Lib.hid had
      have HFU := Lib.hid hfu
      have HR := Lib.hid hrows
      clear hd had hfu hrows hE2
      go_wp2_with fail
      refine HD.out.mono ?_
      rintro e w2 ⟨rfl, nq, hw2⟩
      have hb2 : Below wr.heap.size wr w2 := by rw [hw2]; exact belowDrewN (Below.refl _ _) nq
      have HF2 := Lib.hid (HF.out.below hb2)
      have hz2 := hb2.size
      have HB2 := Lib.hid (HB.out.trans (hb2.mono (by omega)))
      clear hw2 hb2 HD
      go_wp2_with fail
      obtain ⟨vl, vd, Kk, hFl, hKO⟩ := HF2.out
      have HFl := Lib.hid hFl
      have HKO := Lib.hid hKO
      have hexp := implExp lo f bm (.slice At trk.length ct) vl vd vm trk (mvsOf p.moves) s i lgi 0 s.ls.length Kk N trk.length w2 hFl hKO HGD.out.1 HMV.out hlt hml (by omega) (by omega)
      rw [HAD.out] at hexp
      clear hFl hKO
      refine hexp.mono ?_
      rintro e w3 ⟨A9, c9, rfl, hO, hb3⟩
      rw [HFU.out]
      have HO := Lib.hid hO
      have HFl3 := Lib.hid (HFl.out.below hb3)
      have HF3 : Hid (FsAt lo f bm (.slice At trk.length ct) vm trk (mvsOf p.moves) 0 w3 s i lgi) := ⟨vl, vd, Kk, HFl3.out, HKO.out⟩
      have hz3 := hb3.size
      have HB3 := Lib.hid (HB2.out.trans (hb3.mono (by omega)))
      have f4 := cell_of_row w3 f 4 _ _ (0, 0) HFl3.out.row
      clear hexp hO hb3
      have hws : IntKind.i64.wrap ((log.size : Int) - (lgi.size : Int)) = (log.size : Int) - (lgi.size : Int) := IntWalk.i64_in _ (by omega)
      have hwa : IntKind.i64.wrap ((lgi.size : Int) + (fu.size : Int)) = (lgi.size : Int) + (fu.size : Int) := IntWalk.i64_in _ (by omega)
      by_cases hfit : lgi.size + fu.size ≤ log.size
      · have r1 : ¬ (log.size : Int) - (lgi.size : Int) < (fu.size : Int) := by omega
        have r2 : (0 : Int) ≤ (lgi.size : Int) := by omega
        have r3 : (lgi.size : Int) + (fu.size : Int) ≤ (log.size : Int) := by omega
        have r4 : (lgi.size : Int) ≤ (lgi.size : Int) + (fu.size : Int) := by omega
        by_cases hm : log.extract lgi.size (lgi.size + fu.size) = fu
        · have hstr : ((log.extract lgi.size (lgi.size + fu.size)).toList == fu.toList) = true := by rw [strEqB, decide_eq_true hm]
          have HPN : Hid (prefB (chF (mvsOf p.moves) trk (i + 1)).2 log) := by unfold Hid; rw [HE2F.out]; exact (pref_ext HPR.out).2 ⟨hfit, hm⟩
          clear hm
          have hdp := HGD.out.1.depth hlt
          go_wp2_with fail
          refine (implApp lo f bm w2.heap.size s.ls.length (.slice At trk.length ct) vl vd vm trk (mvsOf p.moves) s.ls ad s.ds i (depOf i s) lgi fu 0 Kk A9 c9 N trk.length w3 HFl3.out HKO.out (fun b hb => ?_) HO.out.1 HO.out.2 (by omega) HR.out (by omega) (by omega) rfl hdp.1 (by omega) (by rw [HGD.out.1.len]; exact hlt) HGD.out.1.len (by omega) (by omega) (by omega) hlbm (by omega) (by omega) (by omega)).mono ?_
          · rcases hb with e | e
            · exact HFl.out.st.bound b e
            · exact (HFl.out.st.lists.own b e).2.1
          rintro e w4 ⟨vl4, vd4, rfl, ⟨K4, hF4, hK4⟩, hb4⟩
          have m4 := cell_of_row w4 f 3 _ _ (0, 0) hF4.row
          have HF4 : Hid (FsAt lo f bm (.slice At trk.length ct) vm trk (mvsOf p.moves) 0 w4 (chF (mvsOf p.moves) trk (i + 1)).1 (i + 1) (chF (mvsOf p.moves) trk (i + 1)).2) := by
            unfold Hid
            rw [HE1.out, HE2F.out]
            refine ⟨vl4, vd4, K4, ?_, ?_⟩
            · unfold nextB
              rw [HAD.out]
              have := hF4
              rw [← List.length_append] at this
              exact this
            · unfold nextB
              rw [HAD.out]
              exact hK4
          have HB4 := Lib.hid (HB3.out.trans hb4)
          clear hF4 hK4 hb4 f4
          go_wp2_with fail
          go_roundw
          case rel => exact ⟨i + 1, HF4.out, HNX.out hlt, HPN, HB4.out⟩
          case measure => rw [m4, m3]; simp [intOf]; omega
        · have hstr : ((log.extract lgi.size (lgi.size + fu.size)).toList == fu.toList) = false := by rw [strEqB, decide_eq_false hm]
          have HLAST3 : Hid (¬ (i < s.ls.length ∧ prefB (chF (mvsOf p.moves) trk (i + 1)).2 log)) := fun q => by
            have h2 := q.2
            rw [HE2F.out] at h2
            exact hm ((pref_ext HPR.out).1 h2).2
          clear hm HFl HFl3 f4 m3
          obtain ⟨vl, vd, Kk, hFl, hKO⟩ := HF3.out
          obtain ⟨E2, e2, rfl, -, -⟩ := hFl.st.lists.shape
          obtain ⟨E3, e3, -, rfl, -⟩ := hFl.st.deps.capped
          have HFT := Lib.hid ((hFl.setSyn (lgi.size : Int)).fto HGD.out.1.rows hx0 (by rw [← HSS.out]; exact ch_nodup _))
          have hlf := hFl.lof
          obtain ⟨f0, f1, f2, f3, f4, f5, fF, fl⟩ := row8 hFl.row
          clear hFl hKO
          have HRR : Hid (w3.heap[w.heap.size + 1]? = some (.cells #[.slice none 0 0, .slice none 0 0, .slice none 0 0, .int .i64 0, .string ⟨#[]⟩, .int .i64 0] 45 (0, 0))) := (HB3.out.block (w.heap.size + 1) (by omega)).trans HRB.out
          obtain ⟨q0, q1, q2, q3, q4, q5, qF, ql⟩ := row6 HRR.out
          have hBW : Below w.heap.size w w3 := HB1.out.trans (HB3.out.mono (by omega))
          go_wp2_with fail
          obtain ⟨y0, y1, y2, y3, y4, y5, -, -⟩ := row6 (row6S (rowS (a := ⟨f, 5, none⟩) (v := .int .i64 (lgi.size : Int)) HRR.out (by simp only; omega)) (.slice At trk.length ct) (.slice E2 s.ls.length e2) (.slice E3 s.ds.length e3) (.int .i64 (i : Int)) (.string lgi) (.int .i64 (lgi.size : Int)))
          refine bodyPost_ret (v := .tuple #[.agg #[.slice At trk.length ct, .slice E2 s.ls.length e2, .slice E3 s.ds.length e3, .int .i64 (i : Int), .string lgi, .int .i64 (lgi.size : Int)], .bool true]) (by simp [results, Try.results36, go_sem, y0, y1, y2, y3, y4, y5]) rfl ?_
          have hon := (OnlyIn.refl (w.heap.size + 1) (w.heap.size + 1 + 1) (w3.setCell ⟨f, 5, none⟩ (.int .i64 (lgi.size : Int)))).grown (grown6 (w3.setCell ⟨f, 5, none⟩ (.int .i64 (lgi.size : Int))) (w.heap.size + 1) (.slice At trk.length ct) (.slice E2 s.ls.length e2) (.slice E3 s.ds.length e3) (.int .i64 (i : Int)) (.string lgi) (.int .i64 (lgi.size : Int))) (fun b e => by injection e with e; omega)
          refine hyes.out _ _ ⟨i, At, ct, E2, e2, E3, e3, ⟨HOKI.out, by rw [HLI.out]; exact HPR.out, by rw [HSS.out]; exact HLAST3.out⟩, ?_, ?_, hon.below (hBW.setCell (p := ⟨f, 5, none⟩) (by simp only; omega) _) (by omega) (by simpa using hBW.size)⟩
          · unfold jobV chT; rw [HSS.out, HLI.out]
          · unfold chT; rw [HSS.out]; exact (HFT.out.only hon (by omega)).less (by omega)
      · have r1 : (log.size : Int) - (lgi.size : Int) < (fu.size : Int) := by omega
        have HLAST3 : Hid (¬ (i < s.ls.length ∧ prefB (chF (mvsOf p.moves) trk (i + 1)).2 log)) := fun q => by
          have h2 := q.2
          rw [HE2F.out] at h2
          exact hfit ((pref_ext HPR.out).1 h2).1
        clear HFl HFl3 f4 m3
        obtain ⟨vl, vd, Kk, hFl, hKO⟩ := HF3.out
        obtain ⟨E2, e2, rfl, -, -⟩ := hFl.st.lists.shape
        obtain ⟨E3, e3, -, rfl, -⟩ := hFl.st.deps.capped
        have HFT := Lib.hid ((hFl.setSyn (lgi.size : Int)).fto HGD.out.1.rows hx0 (by rw [← HSS.out]; exact ch_nodup _))
        have hlf := hFl.lof
        obtain ⟨f0, f1, f2, f3, f4, f5, fF, fl⟩ := row8 hFl.row
        clear hFl hKO
        have HRR : Hid (w3.heap[w.heap.size + 1]? = some (.cells #[.slice none 0 0, .slice none 0 0, .slice none 0 0, .int .i64 0, .string ⟨#[]⟩, .int .i64 0] 45 (0, 0))) := (HB3.out.block (w.heap.size + 1) (by omega)).trans HRB.out
        obtain ⟨q0, q1, q2, q3, q4, q5, qF, ql⟩ := row6 HRR.out
        have hBW : Below w.heap.size w w3 := HB1.out.trans (HB3.out.mono (by omega))
        go_wp2_with fail
        obtain ⟨y0, y1, y2, y3, y4, y5, -, -⟩ := row6 (row6S (rowS (a := ⟨f, 5, none⟩) (v := .int .i64 (lgi.size : Int)) HRR.out (by simp only; omega)) (.slice At trk.length ct) (.slice E2 s.ls.length e2) (.slice E3 s.ds.length e3) (.int .i64 (i : Int)) (.string lgi) (.int .i64 (lgi.size : Int)))
        refine bodyPost_ret (v := .tuple #[.agg #[.slice At trk.length ct, .slice E2 s.ls.length e2, .slice E3 s.ds.length e3, .int .i64 (i : Int), .string lgi, .int .i64 (lgi.size : Int)], .bool true]) (by simp [results, Try.results36, go_sem, y0, y1, y2, y3, y4, y5]) rfl ?_
        have hon := (OnlyIn.refl (w.heap.size + 1) (w.heap.size + 1 + 1) (w3.setCell ⟨f, 5, none⟩ (.int .i64 (lgi.size : Int)))).grown (grown6 (w3.setCell ⟨f, 5, none⟩ (.int .i64 (lgi.size : Int))) (w.heap.size + 1) (.slice At trk.length ct) (.slice E2 s.ls.length e2) (.slice E3 s.ds.length e3) (.int .i64 (i : Int)) (.string lgi) (.int .i64 (lgi.size : Int))) (fun b e => by injection e with e; omega)
        refine hyes.out _ _ ⟨i, At, ct, E2, e2, E3, e3, ⟨HOKI.out, by rw [HLI.out]; exact HPR.out, by rw [HSS.out]; exact HLAST3.out⟩, ?_, ?_, hon.below (hBW.setCell (p := ⟨f, 5, none⟩) (by simp only; omega) _) (by omega) (by simpa using hBW.size)⟩
        · unfold jobV chT; rw [HSS.out, HLI.out]
        · unfold chT; rw [HSS.out]; exact (HFT.out.only hon (by omega)).less (by omega)
    · have hd : decide (i = s.ls.length) = true := decide_eq_true (by omega)
      rw [hd] at HD
      have HLAST2 : Hid (¬ (i < s.ls.length ∧ prefB (chF (mvsOf p.moves) trk (i + 1)).2 log)) := fun q => hlt q.1
      clear hd
      go_wp2_with fail
      refine HD.out.mono ?_
      rintro e w2 ⟨rfl, nq, hw2⟩
      have hb2 : Below wr.heap.size wr w2 := by rw [hw2]; exact belowDrewN (Below.refl _ _) nq
      have HF2 := Lib.hid (HF.out.below hb2)
      have hz2 := hb2.size
      have HB2 := Lib.hid (HB.out.trans (hb2.mono (by omega)))
      clear hw2 hb2 HD m3
      obtain ⟨vl, vd, Kk, hFl, hKO⟩ := HF2.out
      obtain ⟨E2, e2, rfl, -, -⟩ := hFl.st.lists.shape
      obtain ⟨E3, e3, -, rfl, -⟩ := hFl.st.deps.capped
      have HFT := Lib.hid ((hFl.setSyn (lgi.size : Int)).fto HGD.out.1.rows hx0 (by rw [← HSS.out]; exact ch_nodup _))
      have hlf := hFl.lof
      obtain ⟨f0, f1, f2, f3, f4, f5, fF, fl⟩ := row8 hFl.row
      clear hFl hKO
      have HRR : Hid (w2.heap[w.heap.size + 1]? = some (.cells #[.slice none 0 0, .slice none 0 0, .slice none 0 0, .int .i64 0, .string ⟨#[]⟩, .int .i64 0] 45 (0, 0))) := (HB2.out.block (w.heap.size + 1) (by omega)).trans HRB.out
      obtain ⟨q0, q1, q2, q3, q4, q5, qF, ql⟩ := row6 HRR.out
      have hBW : Below w.heap.size w w2 := HB1.out.trans (HB2.out.mono (by omega))
      go_wp2_with fail
      obtain ⟨y0, y1, y2, y3, y4, y5, -, -⟩ := row6 (row6S (rowS (a := ⟨f, 5, none⟩) (v := .int .i64 (lgi.size : Int)) HRR.out (by simp only; omega)) (.slice At trk.length ct) (.slice E2 s.ls.length e2) (.slice E3 s.ds.length e3) (.int .i64 (i : Int)) (.string lgi) (.int .i64 (lgi.size : Int)))
      refine bodyPost_ret (v := .tuple #[.agg #[.slice At trk.length ct, .slice E2 s.ls.length e2, .slice E3 s.ds.length e3, .int .i64 (i : Int), .string lgi, .int .i64 (lgi.size : Int)], .bool true]) (by simp [results, Try.results36, go_sem, y0, y1, y2, y3, y4, y5]) rfl ?_
      have hon := (OnlyIn.refl (w.heap.size + 1) (w.heap.size + 1 + 1) (w2.setCell ⟨f, 5, none⟩ (.int .i64 (lgi.size : Int)))).grown (grown6 (w2.setCell ⟨f, 5, none⟩ (.int .i64 (lgi.size : Int))) (w.heap.size + 1) (.slice At trk.length ct) (.slice E2 s.ls.length e2) (.slice E3 s.ds.length e3) (.int .i64 (i : Int)) (.string lgi) (.int .i64 (lgi.size : Int))) (fun b e => by injection e with e; omega)
      refine hyes.out _ _ ⟨i, At, ct, E2, e2, E3, e3, ⟨HOKI.out, by rw [HLI.out]; exact HPR.out, by rw [HSS.out]; exact HLAST2.out⟩, ?_, ?_, hon.below (hBW.setCell (p := ⟨f, 5, none⟩) (by simp only; omega) _) (by omega) (by simpa using hBW.size)⟩
      · unfold jobV chT; rw [HSS.out, HLI.out]
      · unfold chT; rw [HSS.out]; exact (HFT.out.only hon (by omega)).less (by omega)
theorem implRecover (A : Option Addr) (c : Nat) (p : Pz) (A1 : Option Addr) (c1 : Nat) (trk : List Int) (log : ByteArray) (w : World) (h : PzAt w A p) (h1 : IntsAt w A1 trk) (hl : trk.length ≤ 1048576) (hlg : log.size ≤ 60000) (hq : buildQ p trk = true) :
    Calls Try.prog 36 #[.agg #[.int .i64 p.pts, .string p.names, .slice A p.moves.length c], .slice A1 trk.length c1, .string log] w (RecYes p trk log w) :=
  implRecoverQ A c p A1 c1 trk log w h h1 hl (by omega) _ (fun _ _ _ k => k) (fun k => absurd ⟨hq, hlg⟩ k)
end Go.Proofs.Ytfhdnanbhigpmaa
