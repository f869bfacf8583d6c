/- The search over patterns: impl. Conditions: the puzzle and the tracked points are valid. Reachable patterns and the table, impl. Conditions: as each contract says. -/
import Derived.Test.YtfhdnanbhigpmaaSt
import Derived.Test.YtfhdnanbhigpmaaPz
import Derived.Carry
import Derived.Deep.CutRange
namespace Go.Proofs.Ytfhdnanbhigpmaa
section
open Go.RowKit

theorem GrAt.one {lo g : Nat} {zs : Nat → Prop} {w : World} {A : Option Addr} {c : Nat} {x : List Int} (hg : w.heap[g]? = some (.cells #[.slice A x.length c] 31 (0, 0))) (hlo : lo ≤ g) (hc : x.length ≤ c) (hx : IntsAt w A x) (hz : ¬ zs g) (hxz : ∀ g2 off s, A = some ⟨g2, off, s⟩ → ¬ zs g2 ∧ g ≠ g2) :
    GrAt lo zs w (.slice (some ⟨g, 0, none⟩) 1 1) [x] := by
  refine ⟨[.slice A x.length c], ⟨rfl, .inr ⟨g, 1, _, rfl, hlo, hg, Nat.le_refl _, by unfold maxLen; omega, rfl, rfl⟩⟩, fun b hb => ?_, fun j hj => ?_⟩
  · injection hb with hb
    exact hb ▸ hz
  · obtain rfl : j = 0 := by simpa using hj
    exact ⟨A, c, rfl, hc, hx, fun _ g2 off s e => ⟨(hxz g2 off s e).1, fun e2 => (hxz g2 off s e).2 (by injection e2)⟩⟩
theorem Fresh.one0 {lo g : Nat} {w : World} {x : Int} (hg : w.heap[g]? = some (.cells #[.int .i64 x] 2 (0, 0))) (hlo : lo ≤ g) : Fresh lo w (.slice (some ⟨g, 0, none⟩) 1 1) [x] :=
  ⟨rfl, .inr ⟨g, 1, _, rfl, hlo, hg, Nat.le_refl _, by unfold maxLen; omega, rfl, rfl⟩⟩
theorem alloc2_0 (w : World) (a b : Obj) : ((w.alloc a).alloc b).heap[w.heap.size]? = some a := rowB (by exact (Below.refl _ _).alloc (Nat.le_refl _) _) (heap_alloc_new w a)
theorem alloc2_1 (w : World) (a b : Obj) : ((w.alloc a).alloc b).heap[w.heap.size + 1]? = some b := by
  have := heap_alloc_new (w.alloc a) b
  rwa [show (w.alloc a).heap.size = w.heap.size + 1 from by simp] at this
theorem alloc3_0 (w : World) (a b c : Obj) : (((w.alloc a).alloc b).alloc c).heap[w.heap.size]? = some a := rowB (by exact (Below.refl _ _).alloc (Nat.le_refl _) _) (alloc2_0 w a b)
theorem alloc3_1 (w : World) (a b c : Obj) : (((w.alloc a).alloc b).alloc c).heap[w.heap.size + 1]? = some b := rowB (by exact (Below.refl _ _).alloc (Nat.le_refl _) _) (alloc2_1 w a b)
theorem rowR {w w' : World} {g : Nat} {row : Option Nat} {o : Obj} (hg : w.grownBy w' row) (h : w.heap[g]? = some o) (hr : row ≠ some g) : w'.heap[g]? = some o := (hg.block g (Array.getElem?_eq_some_iff.1 h).1 (fun e => hr e.symm)).trans h
theorem GrAt.weak {lo lo' : Nat} {zs zs' : Nat → Prop} {w : World} {v : Value} {ls : List (List Int)} (h : GrAt lo zs w v ls) (hlo : lo' ≤ lo) (hz : ∀ b, zs' b → zs b) : GrAt lo' zs' w v ls := by
  obtain ⟨cs, h1, h2, h3⟩ := h
  refine ⟨cs, ⟨h1.1, ?_⟩, fun b hb e => h2 b hb (hz b e), fun j hj => ?_⟩
  · rcases h1.2 with e | ⟨g, cap, cur, e1, e2, e3⟩
    · exact .inl e
    · exact .inr ⟨g, cap, cur, e1, Nat.le_trans hlo e2, e3⟩
  · obtain ⟨Aj, cj, k1, k2, k3, k4⟩ := h3 j hj
    exact ⟨Aj, cj, k1, k2, k3, fun hl g off s e => ⟨fun e2 => (k4 hl g off s e).1 (hz g e2), (k4 hl g off s e).2⟩⟩
theorem take_snocL (l : List (List Int)) (k : Nat) (h : k < l.length) : l.take (k + 1) = l.take k ++ [l.getD k []] := by
  rw [List.take_succ_eq_append_getElem h, List.getD_eq_getElem?_getD, List.getElem?_eq_getElem h]; rfl
theorem implLetterAt (A : Option Addr) (c n : Nat) (ms : List (List Int)) (k : Nat) (w0 w : World) (hx : LAt w0 A ms) (hb0 : Below w0.heap.size w0 w) (hk : k < 2 * ms.length) (hl : ms.length ≤ 100000) (hm : MvsOk n ms) (hn : n ≤ 1048576) :
    Calls Try.prog 89 #[.slice A ms.length c, .int .i64 ((letsOf ms.length).getD k 0)] w (MovePost w0 ((mvsOf ms).getD k []) w) := by
  rcases Nat.mod_two_eq_zero_or_one k with e2 | e2
  · obtain ⟨i, rfl⟩ : ∃ i, k = 2 * i := ⟨k / 2, by omega⟩
    rw [letsOf_even _ i (by omega), mvsOf_even _ i (by omega)]
    exact implLetterOf1 A c ms i w0 w hx hb0 (by omega) hl
  · obtain ⟨i, rfl⟩ : ∃ i, k = 2 * i + 1 := ⟨k / 2, by omega⟩
    rw [letsOf_odd _ i (by omega), mvsOf_odd _ i (by omega)]
    exact implLetterOf2 A c n ms i w0 w hx hb0 (by omega) hl hm hn
def NoZ (_ : Nat) : Prop := False
structure PatRel (lo bm : Nat) (w0 wr : World) (vl vd vm : Value) (mvs : List (List Int)) (n L : Nat) (s : Bs) : Prop where
  st : ∃ K, StAt NoZ lo bm wr vl vd vm mvs s.ls s.ds s.ls.length K ∧ KeysOf K s.ls
  ok : BsOk n L s
  bel : Below w0.heap.size w0 wr
theorem PatRel.more {lo bm N L : Nat} {w0 w : World} {vl vd vm : Value} {mvs : List (List Int)} {s : Bs} {K : List ByteArray} {x : List Int} {d : Int} {key : ByteArray} (h : StAt NoZ lo bm w vl vd vm mvs (s.ls ++ [x]) (s.ds ++ [d]) (s.ls.length + 1) (key :: K)) (hk : strOfNums x = key) (hKO : KeysOf K s.ls) (hok : BsOk N L s) (hc : s.ls.length ≠ 3000) (hx : PtsOk N L x) (d0 : 0 ≤ d) (d1 : d ≤ s.ls.length) (hb : Below w0.heap.size w0 w) :
    PatRel lo bm w0 w vl vd vm mvs N L ⟨s.ls ++ [x], s.ds ++ [d]⟩ := by
  subst hk
  refine ⟨⟨_, ?_, hKO.more x⟩, hok.more hc hx d0 d1, hb⟩
  show StAt NoZ lo bm w vl vd vm mvs (s.ls ++ [x]) (s.ds ++ [d]) (s.ls ++ [x]).length _
  rw [List.length_append, List.length_singleton]
  exact h
set_option maxRecDepth 100000 in
set_option maxHeartbeats 8000000 in
theorem implPats (A : Option Addr) (c : Nat) (p : Pz) (A2 : Option Addr) (c2 : Nat) (trk : List Int) (N : Nat) (w : World) (h : PzAt w A p) (hx : IntsAt w A2 trk) (hmv : MvsOk N p.moves) (hm8 : p.moves.length ≤ 8) (hN : N ≤ 20) (ht : PtsOk N trk.length trk) (hne : 0 < trk.length) (hl : trk.length ≤ 1048576) :
    Calls Try.prog 118 #[.agg #[.int .i64 p.pts, .string p.names, .slice A p.moves.length c], .slice A2 trk.length c2] w fun e w' => ∃ A1 n1 c1 A3 n3 c3, e = .returned (.tuple #[.slice A1 n1 c1, .slice A3 n3 c3, .bool (searchB (mvsOf p.moves) trk).isSome]) ∧ Below w.heap.size w w' := by
  obtain ⟨R, hR⟩ : ∃ R, searchB (mvsOf p.moves) trk = R := ⟨_, rfl⟩
  rw [hR]
  have HRR := Lib.hid hR
  have hA2 : A2 ≠ none := fun e => by
    obtain ⟨b, off, e2, -⟩ := hx 0 hne
    rw [e] at e2; cases e2
  have HP := Lib.hid h
  have HX := Lib.hid hx
  have HMV := Lib.hid hmv
  have HT := Lib.hid ht
  have HALL := Lib.hid hmv.all
  clear hR h hx hmv ht
  obtain ⟨w0, hw0⟩ : ∃ w0, w.alloc (.cells #[.int .i64 p.pts, .string p.names, .slice A p.moves.length c] 29) = w0 := ⟨_, rfl⟩
  have hb0 : Below w.heap.size w w0 := by rw [← hw0]; exact (by repeat (first | exact Below.refl _ _ | assumption | refine Below.setCell ?_ (by first | omega | (simp <;> omega)) _ | refine Below.alloc ?_ (by first | omega | (simp <;> omega)) _ | refine Below.drew ?_))
  have hz0 : w0.heap.size = w.heap.size + 1 := by rw [← hw0]; simp
  have HR0 := Lib.hid (show w0.heap[w.heap.size]? = some (.cells #[.int .i64 p.pts, .string p.names, .slice A p.moves.length c] 29 (0, 0)) by rw [← hw0]; exact heap_alloc_new _ _)
  go_enter Try.func118, Try.ntmps118
  go_wp2_with fail
  clear hw0
  refine (cloneInts A2 c2 trk _ (HX.out.below hb0) hl hA2).mono ?_
  rintro e w1 ⟨v1, rfl, hF1, hb1⟩
  obtain ⟨A1, c1, hc1, rfl, hI1⟩ := hF1.capped
  have HF1 := Lib.hid hF1
  have HI1 := Lib.hid hI1
  obtain ⟨w3, hw3⟩ : ∃ w3, ((w1.alloc (.cells #[.slice A1 trk.length c1] 31)).alloc (.cells #[.int .i64 0] 2)).alloc (.map #[] 0) = w3 := ⟨_, rfl⟩
  have hb3 : Below w1.heap.size w1 w3 := by rw [← hw3]; exact (by repeat (first | exact Below.refl _ _ | assumption | refine Below.setCell ?_ (by first | omega | (simp <;> omega)) _ | refine Below.alloc ?_ (by first | omega | (simp <;> omega)) _ | refine Below.drew ?_))
  have hz3 : w3.heap.size = w1.heap.size + 3 := by rw [← hw3]; simp
  have HL3 := Lib.hid (show w3.heap[w1.heap.size]? = some (.cells #[.slice A1 trk.length c1] 31 (0, 0)) by rw [← hw3]; exact alloc3_0 _ _ _ _)
  have HD3 := Lib.hid (show w3.heap[w1.heap.size + 1]? = some (.cells #[.int .i64 0] 2 (0, 0)) by rw [← hw3]; exact alloc3_1 _ _ _ _)
  have HS3 := Lib.hid (show SeenAt w3 (w1.heap.size + 1 + 1) 0 [] by rw [← hw3]; have := SeenAt.made ((w1.alloc (.cells #[.slice A1 trk.length c1] 31)).alloc (.cells #[.int .i64 0] 2)); simpa using this)
  have hmm := @run_makeMap Try.prog
  clear hF1 hI1
  go_wp2_with fail
  clear hw3 hmm
  refine (keyOf A2 c2 trk _ ((HX.out.below hb0).below (belowStep hb3 hb1)) hl (HT.out.byt (by omega))).mono ?_
  rintro e w4 ⟨rfl, hb4⟩
  have HB4 := Lib.hid hb4
  have HS4 := Lib.hid (HS3.out.below hb4)
  obtain ⟨key, hkey⟩ : ∃ key, strOfNums trk = key := ⟨_, rfl⟩
  have hks : key.size ≤ maxLen := by rw [← hkey, strOfNums_size]; unfold maxLen; omega
  rw [hkey]
  have HKEY := Lib.hid hkey
  clear hb4 hkey HS3
  have HBX4 := Lib.hid (rowB HB4.out (rowB hb3 (rowB hb1 HR0.out)))
  have hz1 := hb1.size
  have hz4 := HB4.out.size
  go_wp2_with (first | (refine wpList_see rfl (.tmp 22) (.tmp 24) (.const (.bool true)) (Or.inr rfl) (w1.heap.size + 1 + 1) 0 [] key rfl rfl rfl HS4.out hks (by unfold maxLen; omega) ?_; intro w5 hS5 hg5; have HBX5 := Lib.hid (rowR hg5 HBX4.out (fun e => by injection e with e; omega)); have c5 := cell_of_row w5 w.heap.size 2 _ _ (0, 0) HBX5.out))
  clear c5
  refine (implLetters p.moves.length _ (by omega)).mono ?_
  rintro e w6 ⟨v6, rfl, hF6, hb6⟩
  obtain ⟨A6, c6, hc6, rfl, hI6⟩ := hF6.capped
  have HI6 := Lib.hid hI6
  have hl6 := letsOf_len p.moves.length
  rw [hl6] at hc6 hF6 ⊢
  have hz5 := hg5.size
  have hz6 := hb6.size
  have HBX6 := Lib.hid (rowB hb6 HBX5.out)
  have HB56 : Hid (Below w1.heap.size w1 w5) := (belowStep HB4.out hb3).grown hg5 (by omega) (fun b hb => by injection hb with hb; omega)
  have HBEL6 := Lib.hid (belowStep hb6 (belowStep HB56.out (belowStep hb1 hb0)))
  have HSEEN6 := Lib.hid (hS5.below hb6)
  have HLST6 : Hid (GrAt w0.heap.size (fun b => b = w1.heap.size + 1 + 1 ∨ b = w1.heap.size + 1 ∨ w6.heap.size ≤ b) w6 (.slice (some ⟨w1.heap.size, 0, none⟩) 1 1) [trk]) := by
    have hI : IntsAt w6 A1 trk := (HI1.out.below HB56.out).below hb6
    refine GrAt.one (rowB hb6 (rowR hg5 (rowB HB4.out HL3.out) (fun e => by injection e with e; omega))) (by omega) hc1 hI (by omega) fun g2 off s e => ?_
    have := (World.ownsRow.lt HF1.out g2 (by rw [e]; rfl)).2
    omega
  have HDEP6 : Hid (Fresh w0.heap.size w6 (.slice (some ⟨w1.heap.size + 1, 0, none⟩) 1 1) [0]) := Fresh.one0 (rowB hb6 (rowR hg5 (rowB HB4.out HD3.out) (fun e => by injection e with e; omega))) (by omega)
  clear hF6 hI6 hb6 hS5 hg5
  go_wp2_with fail
  obtain ⟨m, hm⟩ : ∃ m, p.moves.length = m := ⟨_, rfl⟩
  rw [hm] at hm8 hc6 HBX6 HI6 ⊢
  have HM := Lib.hid hm
  have hml : (mvsOf p.moves).length = 2 * m := by rw [mvsOf_len, hm]
  have HML := Lib.hid hml
  clear hm hml hl6 HBX5 HBX4 HR0 HL3 HD3 HS4 HB56 HB4
  go_loopw [10, 31] (fun vm i wr => ∃ k : Nat, k ≤ 2 * m ∧ i = .int .i64 k ∧ GrAt w6.heap.size (fun b => w0.heap.size ≤ b ∧ b < w6.heap.size) wr vm ((mvsOf p.moves).take k) ∧ Below w6.heap.size w6 wr) (fun _ i _ => 2 * m - (intOf i).toNat)
  case atStart => exact ⟨0, Nat.zero_le _, rfl, GrAt.nil _ _ _, Below.refl _ _⟩
  case round =>
    obtain ⟨k, hk, rfl, hG, hB⟩ := hrel
    have HB := Lib.hid hB
    have hzB := hB.size
    by_cases hlt : k < 2 * m
    · obtain ⟨b, off, hA6, hbl, hc0⟩ := (HI6.out.below hB) k (by rw [letsOf_len]; exact hlt)
      obtain ⟨y, hy⟩ : ∃ y, (letsOf m).getD k 0 = y := ⟨_, rfl⟩
      rw [hy] at hc0
      have HY := Lib.hid hy
      subst hA6
      have cbx := cell_of_row wr w.heap.size 2 _ _ (0, 0) (rowB hB HBX6.out)
      have p0 : (0 : Int) ≤ (k : Int) := by omega
      have p1 : (k : Int) < 2 * (m : Int) := by omega
      have HG := Lib.hid hG
      clear hG hB hy
      go_wp2_with fail
      have hcall := implLetterAt A c N p.moves k w wr HP.out.at_ (belowStep HB.out HBEL6.out) (by rw [HM.out]; exact hlt) (by rw [HM.out]; omega) HMV.out (by omega)
      rw [HM.out, HY.out] at hcall
      refine hcall.mono ?_
      rintro e w7 ⟨Ay, cy, rfl, hcy, hIy, hsep, hb7⟩
      obtain ⟨ys, hys⟩ : ∃ ys, (mvsOf p.moves).getD k [] = ys := ⟨_, rfl⟩
      rw [hys] at hcy hIy hsep ⊢
      have HYS := Lib.hid hys
      have HCY := Lib.hid hcy
      have HIY := Lib.hid hIy
      have HSEP := Lib.hid hsep
      obtain ⟨qs, hqs⟩ : ∃ qs, (mvsOf p.moves).take k = qs := ⟨_, rfl⟩
      have hql : qs.length = k := by rw [← hqs, List.length_take, HML.out]; omega
      rw [hqs] at HG
      have HQS := Lib.hid hqs
      have HG7 := Lib.hid (HG.out.below hb7)
      have HGO := Lib.hid HG.out.own
      have HB7 := Lib.hid hb7
      have hz7 := hb7.size
      clear hcall hys hcy hIy hsep hb7 cbx hc0 hqs
      have hq1 : qs.length ≤ 1048576 := by omega
      have HQL := Lib.hid hql
      clear hql
      go_wp2_with (first | (at_builtin; refine append_gr rfl (.tmp 35) (.tmp 40) rfl w6.heap.size _ u10 qs ys Ay cy rfl (HG7.out.below (by repeat (first | exact Below.refl _ _ | assumption | refine Below.setCell ?_ (by first | omega | (simp <;> omega)) _ | refine Below.alloc ?_ (by first | omega | (simp <;> omega)) _ | refine Below.drew ?_))) (fun b hb => by simp; omega) w7.heap.size rfl (by simp) HCY.out (HIY.out.below (by repeat (first | exact Below.refl _ _ | assumption | refine Below.setCell ?_ (by first | omega | (simp <;> omega)) _ | refine Below.alloc ?_ (by first | omega | (simp <;> omega)) _ | refine Below.drew ?_))) (fun h0 g off s e => ⟨fun h1 => by rcases HSEP.out h0 g off s e with h2 | h2 <;> omega, fun e2 => by have := HGO.out g e2; rcases HSEP.out h0 g off s e with h2 | h2 <;> omega⟩) hq1 (by simp; omega) ?_; intro A8 c8 w8 hG8 hg8 hat8))
      have hB8 : Below w6.heap.size w6 w8 := (((belowStep HB7.out HB.out).alloc (by omega) _).grown hg8 (by simp; omega) (fun b hb => (HGO.out b hb).1))
      go_roundw
      case rel => exact ⟨k + 1, by omega, by go_num, by rw [take_snocL _ _ (by rw [HML.out]; exact hlt), HQS.out, HYS.out]; exact hG8, hB8⟩
      case measure => simp [intOf]; omega
    · obtain rfl : k = 2 * m := by omega
      rw [List.take_of_length_le (by rw [HML.out]; omega)] at hG
      obtain ⟨Am, cm, hvm, hcm, -⟩ := hG.shape
      rw [HML.out] at hvm hcm
      subst hvm
      have HST : Hid (StAt NoZ w0.heap.size (w1.heap.size + 1 + 1) wr (.slice (some ⟨w1.heap.size, 0, none⟩) 1 1) (.slice (some ⟨w1.heap.size + 1, 0, none⟩) 1 1) (.slice Am (2 * m) cm) (mvsOf p.moves) [trk] [0] 1 [key]) := by
        have ho := hG.own
        refine ⟨(HLST6.out.below hB).weak (Nat.le_refl _) (fun b hb => ?_), (HDEP6.out.row (gB hB none) (fun b _ e => by cases e)), hG.weak (by omega) (fun b hb => ?_), HSEEN6.out.below hB, fun b hz => hz.elim, fun b _ hz => hz, fun hz => hz⟩
        · rcases hb with e | e | e | e
          · exact e.elim
          · exact .inl e
          · injection e with e; exact .inr (.inl e.symm)
          · exact .inr (.inr (ho b e).1)
        · rcases hb with e | e | e | e
          · exact e.elim
          · omega
          · injection e with e; simp only at e; omega
          · injection e with e; simp only at e; omega
      obtain ⟨mvs, hmvs⟩ : ∃ mvs, mvsOf p.moves = mvs := ⟨_, rfl⟩
      rw [hmvs] at HST HALL HML HRR
      obtain ⟨bm, hbm⟩ : ∃ bm, w1.heap.size + 1 + 1 = bm := ⟨_, rfl⟩
      obtain ⟨lo, hlo⟩ : ∃ lo, w0.heap.size = lo := ⟨_, rfl⟩
      have hwlo : w.heap.size ≤ lo := by omega
      have hwbm : w.heap.size ≤ bm := by omega
      have HP0 : Hid (PatRel lo bm w wr (.slice (some ⟨w1.heap.size, 0, none⟩) 1 1) (.slice (some ⟨w1.heap.size + 1, 0, none⟩) 1 1) (.slice Am (2 * m) cm) mvs N trk.length ⟨[trk], [0]⟩) := by
        refine ⟨⟨[key], by rw [← hbm, ← hlo]; exact HST.out, fun t => ?_⟩, ⟨rfl, by simp, fun i hi => ?_, fun i hi => ?_⟩, belowStep hB HBEL6.out⟩
        · rw [List.mem_singleton]
          exact ⟨fun e => ⟨trk, by simp, by rw [e, HKEY.out]⟩, fun ⟨x, h1, h2⟩ => by rw [List.mem_singleton] at h1; rw [← h2, h1, HKEY.out]⟩
        · obtain rfl : i = 0 := by simpa using hi
          exact HT.out
        · obtain rfl : i = 0 := by simpa using hi
          exact ⟨by simp, by simp⟩
      rw [hbm]
      clear hG hB HLST6 HDEP6 HSEEN6 HBEL6 HBX6 HI6 HF1 HI1 HST hmvs hbm hlo HB hzB hz6 hz5 hz4 hz3 hb3 hz1 hb1 HKEY hks hz0 hb0
      go_wp2_with fail
      go_loopw [7, 8, 13] (fun vl vd i wq => ∃ (k : Nat) (s : Bs), i = .int .i64 k ∧ PatRel lo bm w wq vl vd (.slice Am (2 * m) cm) mvs N trk.length s ∧ k ≤ s.ls.length ∧ Hid (bfsB mvs (3001 - k) k s = R)) (fun _ _ i _ => 3001 - (intOf i).toNat)
      case atStart => exact ⟨0, _, rfl, HP0.out, Nat.zero_le _, HRR⟩
      case round =>
        obtain ⟨k, s, rfl, hP, hks, HBF⟩ := hrel
        clear HP0
        obtain ⟨K, hST, hKO⟩ := hP.st
        obtain ⟨Al, cl, rfl, hcl, -⟩ := hST.lists.shape
        obtain ⟨Ad, cd, -, rfl, -⟩ := hST.deps.capped
        have hcap := hP.ok.cap
        have HP1 := Lib.hid hP
        clear hST hKO hP
        by_cases hlt : k < s.ls.length
        · have p0 : (k : Int) < (s.ls.length : Int) := by omega
          have HB0 : Hid (restB mvs k 0 s = R) := by unfold Hid; rw [← bfs_row hlt hcap]; exact HBF.out
          go_wp2_with fail
          go_loopw [7, 8, 51] (fun vl vd i wq => ∃ (j : Nat) (s : Bs), i = .int .i64 j ∧ j ≤ 2 * m ∧ PatRel lo bm w wq vl vd (.slice Am (2 * m) cm) mvs N trk.length s ∧ k < s.ls.length ∧ Hid (restB mvs k j s = R)) (fun _ _ i _ => 2 * m - (intOf i).toNat)
          case atStart => exact ⟨0, _, rfl, Nat.zero_le _, HP1.out, hlt, HB0⟩
          case round =>
            obtain ⟨j, s, rfl, hj, hP, hks, HR⟩ := hrel
            clear HP1 HB0 HBF hlt p0
            obtain ⟨K, hST, hKO⟩ := hP.st
            obtain ⟨Al, cl, rfl, hcl, -⟩ := hST.lists.shape
            obtain ⟨Ad, cd, hcd, rfl, hID⟩ := hST.deps.capped
            have hok := hP.ok
            have hcap := hok.cap
            have hdl := hok.len
            rw [hdl] at hP hST hcd ⊢
            obtain ⟨bd, od, rfl, hbd, -⟩ := hID k (by omega)
            have hdp := hok.depth hks
            obtain ⟨dk, hdk⟩ : ∃ dk, s.ds.getD k 0 = dk := ⟨_, rfl⟩
            have HDK := Lib.hid hdk
            have hdk1 : depOf k s = dk + 1 := by unfold depOf; rw [hdk]
            rw [hdk1] at hdp
            have HDK1 := Lib.hid hdk1
            have hwd : IntKind.i64.wrap (dk + 1) = dk + 1 := IntWalk.i64_in _ (by omega)
            clear hdk hdk1 hID
            have hlos : lo ≤ wr.heap.size := by
              obtain ⟨gl, Ax, cx, e1, g1, -⟩ := hST.lists.at_ hks
              have := (hST.lists.own gl (by rw [e1]; rfl)).1
              omega
            by_cases hlt : j < 2 * m
            · obtain ⟨gm, Av, cv, rfl, hgm, cmv, hcv, hIv, -⟩ := hST.moves.at_ (j := j) (by rw [HML.out]; exact hlt)
              obtain ⟨gl, Ap, cp, rfl, hgl, cpt, hcp, hIp, -⟩ := hST.lists.at_ hks
              have hpo := hok.rows k hks
              have hmo := HALL.out j (by rw [HML.out]; exact hlt)
              obtain ⟨mv, hmv⟩ : ∃ mv, mvs.getD j [] = mv := ⟨_, rfl⟩
              obtain ⟨pat, hpat⟩ : ∃ pat, s.ls.getD k [] = pat := ⟨_, rfl⟩
              obtain ⟨x, hxx⟩ : ∃ x, pickI mv pat = x := ⟨_, rfl⟩
              have HNX : Hid (nextOf k (mvs.getD j []) s = x) := by unfold Hid nextOf; rw [hpat, hmv, hxx]
              rw [hmv] at hmo cmv hIv
              rw [hpat] at hpo cpt hIp
              rw [hmo.1] at cmv
              rw [hpo.1] at cpt
              have hpx := hmo.pick hpo
              rw [hxx] at hpx
              have q0 : (0 : Int) ≤ (j : Int) := by omega
              have q1 : (j : Int) < 2 * (m : Int) := by omega
              have q2 : (0 : Int) ≤ (k : Int) := by omega
              have q3 : (k : Int) < (s.ls.length : Int) := by omega
              have HP := Lib.hid hP
              have HST := Lib.hid hST
              have HKO := Lib.hid hKO
              have HOK := Lib.hid hok
              have HPX := Lib.hid hpx
              have HMO := Lib.hid hmo
              have HPO := Lib.hid hpo
              clear hP hST hKO hok hpx hmo hpo hmv hpat
              go_wp2_with fail
              have hcall := implPicked Av Ap cv cp N trk.length mv pat wr hIv hIp HMO.out HPO.out hl
              rw [hxx] at hcall
              refine hcall.mono ?_
              rintro e w7 ⟨v7, rfl, hF7, hb7⟩
              obtain ⟨A7, c7, hc7, rfl, hI7⟩ := hF7.capped
              rw [HPX.out.1] at hc7 hF7 ⊢
              have HF7 := Lib.hid hF7
              have HI7 := Lib.hid hI7
              have HB7 := Lib.hid hb7
              have hz7 := hb7.size
              clear hcall hxx hF7 hI7 hb7 cmv hIv hIp
              go_wp2_with fail
              have hcall := keyOf A7 c7 x w7 HI7.out (by rw [HPX.out.1]; exact hl) (HPX.out.byt (by omega))
              rw [HPX.out.1] at hcall
              refine hcall.mono ?_
              rintro e w8 ⟨rfl, hb8⟩
              obtain ⟨key, hkey⟩ : ∃ key, strOfNums x = key := ⟨_, rfl⟩
              have hks8 : key.size ≤ maxLen := by rw [← hkey, strOfNums_size, HPX.out.1]; unfold maxLen; omega
              rw [hkey]
              have hhas := HKO.out.has HOK.out (by omega) HPX.out
              rw [hkey] at hhas
              have HHAS := Lib.hid hhas
              obtain ⟨b, hb⟩ : ∃ b, hasK K key = b := ⟨_, rfl⟩
              have HKB := Lib.hid hb
              have HST8 := Lib.hid ((HST.out.below HB7.out).below hb8)
              have HB8 := Lib.hid (belowStep hb8 HB7.out)
              have HB78 := Lib.hid hb8
              have HKEY := Lib.hid hkey
              have hz8 := hb8.size
              clear hcall hkey hhas hb8 hb
              have HBW := Lib.hid (belowStep HB8.out HP.out.bel)
              have hlo8 : lo ≤ w8.heap.size := by omega
              cases b with
              | true =>
                have hkb : hasK K key = true := HKB.out
                have HN : Hid (restB mvs k (j + 1) s = R) := by unfold Hid; rw [← HR.out]; exact (rest_old (by rw [HML.out]; exact hlt) (by rw [HNX.out, ← HHAS.out]; exact hkb)).symm
                go_wp2_with (first | (at_lookup; refine wpList_seen rfl (.tmp 63) (.tmp 64) rfl bm s.ls.length K key rfl rfl HST8.out.seen hks8 ?_))
                go_roundw
                case rel =>
                  (repeat apply Exists.intro)
                  refine ⟨?_, rfl⟩
                  exact ⟨j + 1, s, by go_num, by omega, ⟨⟨K, HST8.out, HKO.out⟩, HOK.out, HBW.out⟩, hks, HN⟩
                case measure => simp [intOf]; omega
              | false =>
                have hkb : hasK K key = false := HKB.out
                have HNF : Hid (inL s.ls (nextOf k (mvs.getD j []) s) = false) := by unfold Hid; rw [HNX.out, ← HHAS.out]; exact hkb
                by_cases hfull : s.ls.length = 3000
                · have HN : Hid (R = none) := by unfold Hid; rw [← HR.out]; exact rest_full (by rw [HML.out]; exact hlt) HNF.out hfull
                  have hfi : ((s.ls.length : Int) == 3000) = true := by rw [hfull]; rfl
                  go_wp2_with (first | (at_lookup; refine wpList_seen rfl (.tmp 63) (.tmp 64) rfl bm s.ls.length K key rfl rfl HST8.out.seen hks8 ?_))
                  go_ret3
                  first
                    | exact ⟨⟨_, _, _, _, _, _, by rw [HN.out]; rfl⟩, HBW.out⟩
                    | exact ⟨_, _, _, _, _, _, by rw [HN.out]; rfl, HBW.out⟩
                · have hfi : ¬ (s.ls.length : Int) = 3000 := by omega
                  have HNE := Lib.hid hfull
                  have hl1 : s.ls.length ≤ 1048576 := by omega
                  clear hfull
                  go_wp2_with (first
                    | (at_lookup; refine wpList_seen rfl (.tmp 63) (.tmp 64) rfl bm s.ls.length K key rfl rfl HST8.out.seen hks8 ?_)
                    | (at_mapUpdate; refine wpList_see rfl (.tmp 70) (.tmp 71) (.const (.bool true)) (Or.inl rfl) bm s.ls.length K key rfl rfl rfl HST8.out.seen hks8 (by unfold maxLen; omega) ?_; intro w9 hS9 hg9; have HST9 := Lib.hid (HST8.out.see hS9 hg9); have HG9 := Lib.hid hg9; have hz9 := hg9.size; have HI9 := Lib.hid ((HI7.out.below (by exact HB78.out)).kept hg9 (fun h0 g off s e e2 => by have g1 := (World.ownsRow.lt HF7.out g (by rw [e]; rfl)).1; injection e2 with e2; have g2 := HST.out.seen.lt; omega)); clear hS9 hg9)
                    | (at_builtin; refine append_gr rfl (.tmp 72) (.tmp 74) rfl lo (ZsOf NoZ bm (.slice (some ⟨bd, od, none⟩) s.ls.length cd) (.slice (some ⟨gm, 0, none⟩) (2 * m) cm)) (.slice (some ⟨gl, 0, none⟩) s.ls.length cl) s.ls x A7 c7 rfl (HST9.out.lists.below (by repeat (first | exact Below.refl _ _ | assumption | refine Below.setCell ?_ (by first | omega | (simp <;> omega)) _ | refine Below.alloc ?_ (by first | omega | (simp <;> omega)) _ | refine Below.drew ?_))) (fun b hb => by have := HST9.out.bound b hb; simp; omega) w9.heap.size rfl (by rw [HPX.out.1]; simp) (by rw [HPX.out.1]; exact hc7) (HI9.out.below (by repeat (first | exact Below.refl _ _ | assumption | refine Below.setCell ?_ (by first | omega | (simp <;> omega)) _ | refine Below.alloc ?_ (by first | omega | (simp <;> omega)) _ | refine Below.drew ?_))) (fun h0 g off s e => HST.out.apart (World.ownsRow.lt HF7.out g (by rw [e]; rfl)).1) hl1 (by simp; omega) ?_; intro A10 c10 w10 hG10 hg10 hat10; have HST10 := Lib.hid (StAt.list (HST9.out.below (by repeat (first | exact Below.refl _ _ | assumption | refine Below.setCell ?_ (by first | omega | (simp <;> omega)) _ | refine Below.alloc ?_ (by first | omega | (simp <;> omega)) _ | refine Below.drew ?_))) hG10 hg10 hat10); have HG10 := Lib.hid hg10; have hz10 := hg10.size; have cd10 : w10.cell? ⟨bd, od + k, none⟩ = some (.int .i64 dk) := (by obtain ⟨b', o', e, -, hc⟩ := HST10.out.deps.intsAt k (by omega); injection e with e; injection e with e1 e2; subst e1; subst e2; rw [hc, HDK.out]); clear hG10 hg10 hat10)
                    | (at_builtin; refine append_at rfl (.tmp 76) (.tmp 82) rfl lo (.slice (some ⟨bd, od, none⟩) s.ls.length cd) s.ds (dk + 1) rfl (by exact (HST10.out.below (by repeat (first | exact Below.refl _ _ | assumption | refine Below.setCell ?_ (by first | omega | (simp <;> omega)) _ | refine Below.alloc ?_ (by first | omega | (simp <;> omega)) _ | refine Below.drew ?_))).deps) w10.heap.size rfl (by simp) (by omega) (by simp at hz10 ⊢; omega) ?_; intro A11 c11 w11 hF11 hg11 hat11; have HST11 := Lib.hid (StAt.dep (HST10.out.below (by repeat (first | exact Below.refl _ _ | assumption | refine Below.setCell ?_ (by first | omega | (simp <;> omega)) _ | refine Below.alloc ?_ (by first | omega | (simp <;> omega)) _ | refine Below.drew ?_))) hF11 hg11 hat11); have HG11 := Lib.hid hg11; clear hF11 hg11 hat11))
                  have HN : Hid (restB mvs k (j + 1) ⟨s.ls ++ [x], s.ds ++ [dk + 1]⟩ = R) := by
                    unfold Hid
                    rw [← HR.out, rest_new (by rw [HML.out]; exact hlt) HNF.out HNE.out, HNX.out, HDK1.out]
                  have hso := HST9.out.lists.own
                  have hdo := HST10.out.deps.block
                  have hB11 : Below w.heap.size w w11 := (((((HBW.out.grown HG9.out (by omega) (fun b hb => by injection hb with hb; omega)).alloc (by omega) _).grown HG10.out (by simp; omega) (fun b hb => by have := (hso b hb).1; omega)).alloc (by simp at hz10; omega) _).grown HG11.out (by simp at hz10 ⊢; omega) (fun b hb => by have := hdo b hb; omega))
                  go_roundw
                  case rel =>
                    (repeat apply Exists.intro)
                    refine ⟨?_, rfl⟩
                    exact ⟨j + 1, ⟨s.ls ++ [x], s.ds ++ [dk + 1]⟩, by go_num, by omega, PatRel.more (by have h := HST11.out; rw [hdl] at h; exact h) HKEY.out HKO.out HOK.out HNE.out HPX.out hdp.1 hdp.2.1 hB11, by simp; omega, HN⟩
                  case measure => simp [intOf]; omega
            · obtain rfl : j = 2 * m := by omega
              have HP := Lib.hid hP
              have HN : Hid (bfsB mvs (3001 - (k + 1)) (k + 1) s = R) := by unfold Hid; rw [← HR.out]; exact (rest_end (by rw [HML.out]; omega)).symm
              clear hP hST hKO
              go_wp2_with fail
              go_roundw
              case rel => exact ⟨k + 1, s, by go_num, HP.out, by omega, HN⟩
              case measure => simp [intOf]; omega
        · have p0 : ¬ (k : Int) < (s.ls.length : Int) := by omega
          have HE : Hid (R = some s) := by unfold Hid; rw [← HBF.out]; exact bfs_end (by omega) (by omega)
          go_wp2_with fail
          go_ret3
          first
            | exact ⟨⟨_, _, _, _, _, _, by rw [HE.out]; rfl⟩, HP1.out.bel⟩
            | exact ⟨_, _, _, _, _, _, by rw [HE.out]; rfl, HP1.out.bel⟩
end
section
open Go.RowKit Grp

noncomputable def buildQ (p : Pz) (trk : List Int) : Bool := trkQ p trk && (searchB (mvsOf p.moves) trk).isSome
theorem mvs_of_gs {N : Nat} {ms : List (List Int)} {ps : List (List Nat)} (h : ms = ps.map natI) (hp : ∀ q, q ∈ ps → IsP N q) : MvsOk N ms := by
  intro i hi
  subst h
  rw [List.length_map] at hi
  refine ⟨ps[i], hp _ (List.getElem_mem hi), ?_⟩
  rw [List.getD_eq_getElem?_getD, List.getElem?_map, List.getElem?_eq_getElem hi]; rfl
theorem trk_parts {p : Pz} {trk : List Int} (h : trkQ p trk = true) : ∃ N : Nat, p.pts = (N : Int) ∧ N ≤ 20 ∧ MvsOk N p.moves ∧ p.moves.length ≤ 8 ∧ PtsOk N trk.length trk ∧ 0 < trk.length := by
  unfold trkQ at h
  rw [Bool.and_eq_true] at h
  obtain ⟨h1, h2⟩ := h
  unfold pzQ at h1
  rw [Bool.and_eq_true] at h1
  obtain ⟨N, ps, e1, n0, n1, e2, e3, e4⟩ := gs_perms h1.1
  obtain ⟨g1, g2⟩ := ptQ_iff.1 h2
  refine ⟨N, e1, n1, mvs_of_gs e2 e4, e3, ⟨rfl, fun j hj => ?_⟩, by omega⟩
  have := (g2 j hj)
  rw [e1] at this
  omega
set_option maxRecDepth 100000 in
set_option maxHeartbeats 1000000 in
theorem implReach (A : Option Addr) (c : Nat) (p : Pz) (A2 : Option Addr) (c2 : Nat) (trk : List Int) (w : World) (h : PzAt w A p) (hx : IntsAt w A2 trk) (hl : trk.length ≤ 1048576) :
    Calls Try.prog 84 #[.agg #[.int .i64 p.pts, .string p.names, .slice A p.moves.length c], .slice A2 trk.length c2] w fun e w' => ∃ A1 n1 c1 A3 n3 c3, e = .returned (.tuple #[.slice A1 n1 c1, .slice A3 n3 c3, .bool (buildQ p trk)]) ∧ Below w.heap.size w w' := by
  have HP := Lib.hid h
  have HX := Lib.hid hx
  obtain ⟨q, hq⟩ : ∃ q, trkQ p trk = q := ⟨_, rfl⟩
  have HQ := Lib.hid hq
  have HC := Lib.hid (fun wx hw hw2 => implTrk A c p A2 c2 trk wx hw hw2 hl)
  rw [hq] at HC
  clear hx h hq
  obtain ⟨w0, hw0⟩ : ∃ w0, w.alloc (.cells #[.int .i64 p.pts, .string p.names, .slice A p.moves.length c] 29) = w0 := ⟨_, rfl⟩
  have hb : Below w.heap.size w w0 := by rw [← hw0]; exact (by repeat (first | exact Below.refl _ _ | assumption | refine Below.setCell ?_ (by first | omega | (simp <;> omega)) _ | refine Below.alloc ?_ (by first | omega | (simp <;> omega)) _ | refine Below.drew ?_))
  have r0 : w0.heap[w.heap.size]? = some (.cells #[.int .i64 p.pts, .string p.names, .slice A p.moves.length c] 29 (0, 0)) := by rw [← hw0]; exact heap_alloc_new _ _
  obtain ⟨p0, p1, p2, -, -⟩ := row3 r0
  have HR0 := Lib.hid r0
  clear r0
  go_enter Try.func84, Try.ntmps84
  go_wp2_with fail
  clear hw0
  refine (HC.out _ (HP.out.below hb) (HX.out.below hb)).mono ?_
  rintro e w1 ⟨rfl, hb1⟩
  have hr1 := rowB hb1 HR0.out
  have hB1 := belowStep hb1 hb
  clear p0 p1 p2 hb1 hb
  obtain ⟨p0, p1, p2, -, -⟩ := row3 hr1
  clear hr1
  cases q with
  | false =>
    have HF : Hid (buildQ p trk = false) := by unfold Hid; rw [buildQ, HQ.out]; rfl
    go_wp2_with fail
    go_ret3
    first
      | exact ⟨⟨_, _, _, _, _, _, by rw [HF.out]; rfl⟩, hB1⟩
      | exact ⟨_, _, _, _, _, _, by rw [HF.out]; rfl, hB1⟩
  | true =>
    obtain ⟨N, hN, hN20, hmv, hm8, hpt, hne⟩ := trk_parts HQ.out
    have HF : Hid (buildQ p trk = (searchB (mvsOf p.moves) trk).isSome) := by unfold Hid; rw [buildQ, HQ.out]; rfl
    have HMV := Lib.hid hmv
    have HPT := Lib.hid hpt
    have HNN := Lib.hid hN
    clear hmv hpt hN
    go_wp2_with fail
    refine (implPats A c p A2 c2 trk N _ (HP.out.below hB1) (HX.out.below hB1) HMV.out hm8 hN20 HPT.out hne hl).mono ?_
    rintro e w2 ⟨B1, n1, k1, B3, n3, k3, rfl, hb2⟩
    have hB2 := belowStep hb2 hB1
    obtain ⟨b, hb⟩ : ∃ b, (searchB (mvsOf p.moves) trk).isSome = b := ⟨_, rfl⟩
    rw [hb] at HF ⊢
    clear hb hb2
    go_wp2_with fail
    go_ret3
    first
      | exact ⟨⟨_, _, _, _, _, _, by rw [HF.out]; rfl⟩, hB2⟩
      | exact ⟨_, _, _, _, _, _, by rw [HF.out]; rfl, hB2⟩
theorem row3S {w : World} {g : Nat} {a b c : Value} {T : TypeId} (h : w.heap[g]? = some (.cells #[a, b, c] T (0, 0))) (x y z : Value) : (((w.setCell ⟨g, 0, none⟩ x).setCell ⟨g, 1, none⟩ y).setCell ⟨g, 2, none⟩ z).heap[g]? = some (.cells #[x, y, z] T (0, 0)) := rowSet z (rowSet y (rowSet x h))
set_option maxRecDepth 100000 in
set_option maxHeartbeats 1000000 in
theorem implBuild (A : Option Addr) (c : Nat) (p : Pz) (A2 : Option Addr) (c2 : Nat) (trk : List Int) (w : World) (h : PzAt w A p) (hx : IntsAt w A2 trk) (hl : trk.length ≤ 1048576) :
    Calls Try.prog 50 #[.agg #[.int .i64 p.pts, .string p.names, .slice A p.moves.length c], .slice A2 trk.length c2] w fun e w' => ∃ A1 n1 c1 A2 n2 c2 A3 n3 c3, e = .returned (.tuple #[.agg #[.slice A1 n1 c1, .slice A2 n2 c2, .slice A3 n3 c3], .bool (buildQ p trk)]) ∧ Below w.heap.size w w' := by
  have HP := Lib.hid h
  have HX := Lib.hid hx
  have hA2 : buildQ p trk = true → A2 ≠ none := fun hq e => by
    unfold buildQ at hq
    rw [Bool.and_eq_true] at hq
    obtain ⟨N, -, -, -, -, -, hne⟩ := trk_parts hq.1
    obtain ⟨b, off, e2, -⟩ := hx 0 hne
    rw [e] at e2; cases e2
  obtain ⟨q, hq⟩ : ∃ q, buildQ p trk = q := ⟨_, rfl⟩
  have HQ := Lib.hid hq
  have HC := Lib.hid (fun wx hw hw2 => implReach A c p A2 c2 trk wx hw hw2 hl)
  rw [hq] at HC hA2 ⊢
  clear hx h hq
  obtain ⟨w0, hw0⟩ : ∃ w0, (w.alloc (.cells #[.int .i64 p.pts, .string p.names, .slice A p.moves.length c] 29)).alloc (.cells #[.slice none 0 0, .slice none 0 0, .slice none 0 0] 34) = w0 := ⟨_, rfl⟩
  have hb : Below w.heap.size w w0 := by rw [← hw0]; exact (by repeat (first | exact Below.refl _ _ | assumption | refine Below.setCell ?_ (by first | omega | (simp <;> omega)) _ | refine Below.alloc ?_ (by first | omega | (simp <;> omega)) _ | refine Below.drew ?_))
  have r0 : w0.heap[w.heap.size]? = some (.cells #[.int .i64 p.pts, .string p.names, .slice A p.moves.length c] 29 (0, 0)) := by rw [← hw0]; exact alloc2_0 _ _ _
  have r1 : w0.heap[w.heap.size + 1]? = some (.cells #[.slice none 0 0, .slice none 0 0, .slice none 0 0] 34 (0, 0)) := by rw [← hw0]; exact alloc2_1 _ _ _
  obtain ⟨p0, p1, p2, -, -⟩ := row3 r0
  have HR1 := Lib.hid r1
  clear r0 r1
  go_enter Try.func50, Try.ntmps50
  go_wp2_with fail
  clear hw0
  refine (HC.out _ (HP.out.below hb) (HX.out.below hb)).mono ?_
  rintro e w1 ⟨B1, n1, k1, B3, n3, k3, rfl, hb1⟩
  have hr1 := rowB hb1 HR1.out
  have hB1 := belowStep hb1 hb
  clear p0 p1 p2 hb1 hb
  obtain ⟨t0, t1, t2, tf, tl⟩ := row3 hr1
  cases q with
  | false =>
    clear HP HX HC
    obtain ⟨y0, y1, y2, -, -⟩ := row3 (row3S hr1 (.slice none 0 0) (.slice none 0 0) (.slice none 0 0))
    go_wp2_with fail
    refine bodyPost_ret (v := .tuple #[.agg #[.slice none 0 0, .slice none 0 0, .slice none 0 0], .bool false]) (by simp [results, Try.results50, go_sem, y0, y1, y2]) rfl ?_
    exact ⟨_, _, _, _, _, _, _, _, _, rfl, ((hB1.setCell (p := ⟨w.heap.size + 1, 0, none⟩) (by simp) _).setCell (p := ⟨w.heap.size + 1, 1, none⟩) (by simp) _).setCell (p := ⟨w.heap.size + 1, 2, none⟩) (by simp) _⟩
  | true =>
    have hne := hA2 rfl
    go_wp2_with fail
    refine (cloneInts A2 c2 trk _ (HX.out.below hB1) hl hne).mono ?_
    rintro e w2 ⟨v3, rfl, hF2, hb2⟩
    obtain ⟨B2, k2, -, rfl, -⟩ := hF2.capped
    have hr2 := rowB hb2 hr1
    have hB2 := belowStep hb2 hB1
    clear t0 t1 t2 tf tl hr1 hF2
    obtain ⟨t0, t1, t2, tf, tl⟩ := row3 hr2
    obtain ⟨y0, y1, y2, -, -⟩ := row3 (row3S hr2 (.slice B2 trk.length k2) (.slice B1 n1 k1) (.slice B3 n3 k3))
    go_wp2_with fail
    refine bodyPost_ret (v := .tuple #[.agg #[.slice B2 trk.length k2, .slice B1 n1 k1, .slice B3 n3 k3], .bool true]) (by simp [results, Try.results50, go_sem, y0, y1, y2]) rfl ?_
    exact ⟨_, _, _, _, _, _, _, _, _, rfl, ((hB2.setCell (p := ⟨w.heap.size + 1, 0, none⟩) (by simp) _).setCell (p := ⟨w.heap.size + 1, 1, none⟩) (by simp) _).setCell (p := ⟨w.heap.size + 1, 2, none⟩) (by simp) _⟩
end
end Go.Proofs.Ytfhdnanbhigpmaa
