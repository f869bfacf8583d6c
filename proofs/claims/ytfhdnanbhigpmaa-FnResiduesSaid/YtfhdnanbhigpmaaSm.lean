/- The search from a list on, spec. Conditions: the puzzle's moves and the list are valid. -/
import Derived.Test.YtfhdnanbhigpmaaSa
import Derived.Deep.RegionWith
namespace Go.Proofs.Ytfhdnanbhigpmaa
open Go.RowKit Grp

theorem specCopy (A : Option Addr) (c n : Nat) (xs : List Int) (w : World) (hx : IntsAt w A xs) (hn : xs.length = n) (hl : n ≤ 1048576) :
    Calls Try.prog 46 #[.slice A n c] w fun e w' => ∃ v, e = .returned v ∧ Fresh w.heap.size w' v xs ∧ Below w.heap.size w w' := by
  subst hn
  have hE : Fresh w.heap.size (w.alloc (.cells #[] 2)) (.slice (some ⟨w.heap.size, 0, none⟩) 0 0) [] := Fresh.empty (Nat.le_refl _)
  go_enter Try.func46, Try.ntmps46
  go_wp2_with (first | (at_builtin; refine append_ints rfl _ _ rfl w.heap.size _ [] xs rfl hE A xs.length c rfl rfl (by exact hx.below (by repeat (first | exact Below.refl _ _ | assumption | refine Below.setCell ?_ (by first | omega | (simp <;> omega)) _ | refine Below.alloc ?_ (by first | omega | (simp <;> omega)) _ | refine Below.drew ?_))) (by simpa using hl) (by simp) ?_; intro v1 w1 hF1 hg1 hb1))
  go_ret
  exact ⟨_, rfl, hF1, ((Below.refl _ _).alloc (Nat.le_refl _) _).trans hb1⟩
structure FromRel (lo B5 N L m : Nat) (Z : Nat → Prop) (w0 wr : World) (A6 : Option Addr) (vl vd vs : Value) (s : Bs) (srt : List Nat) : Prop where
  st : SrAt Z lo wr vl vd vs s.ls s.ds srt
  row : wr.heap[B5]? = some (.cells #[vl, vd, vs, .bool false] 77 (0, 0))
  ok : BsOk N L s
  so : SortOk L s.ls srt
  lets : IntsAt wr A6 (letsOf m)
  bel : Below lo w0 wr
theorem IntsAt.keep {w w' : World} {A : Option Addr} {xs : List Int} (h : IntsAt w A xs) (hz : w.heap.size ≤ w'.heap.size) (hk : 0 < xs.length → ∀ g off s, A = some ⟨g, off, s⟩ → w'.heap[g]? = w.heap[g]?) : IntsAt w' A xs := by
  intro k hk2
  obtain ⟨b, off, e, hb, hc⟩ := h k hk2
  exact ⟨b, off, e, by omega, (World.cell?_of_block (a := ⟨b, off + k, none⟩) (hk (by omega) b off none e)).trans hc⟩
/-- Lists wholly of the call's own. -/
def OwnL (lo : Nat) (w : World) (v : Value) (ls : List (List Int)) : Prop := GrAt lo (fun b => b < lo) w v ls
theorem OwnL.kept {lo g : Nat} {w w' : World} {v : Value} {ls : List (List Int)} (h : OwnL lo w v ls) (hg : w.grownBy w' (some g)) (hz : g < lo) : OwnL lo w' v ls := GrAt.kept h hg (fun g' e => by injection e with e; exact e ▸ hz)
theorem OwnL.below {lo : Nat} {w w' : World} {v : Value} {ls : List (List Int)} (h : OwnL lo w v ls) (hb : Below w.heap.size w w') : OwnL lo w' v ls := GrAt.below h hb
theorem OwnL.less {lo lo' : Nat} {w : World} {v : Value} {ls : List (List Int)} (h : OwnL lo w v ls) (hl : lo' ≤ lo) : OwnL lo' w v ls := GrAt.weak h hl (fun _ hb => Nat.lt_of_lt_of_le hb hl)
/-- What a search hands back: what it found, R where it came to its end. -/
theorem FromRel.below {lo B5 N L m : Nat} {Z : Nat → Prop} {w0 w w' : World} {A6 : Option Addr} {vl vd vs : Value} {s : Bs} {srt : List Nat} (h : FromRel lo B5 N L m Z w0 w A6 vl vd vs s srt) (hlo : lo ≤ B5) (hb : Below w.heap.size w w') : FromRel lo B5 N L m Z w0 w' A6 vl vd vs s srt :=
  ⟨h.st.below hb, rowB hb h.row, h.ok, h.so, h.lets.below hb, h.bel.trans (hb.mono (by have := row_lt h.row; omega))⟩
def FromPost (R : Option Bs) (L : Nat) (w : World) (e : Ending) (w' : World) : Prop :=
  ∃ Al cl Ad cd As ns cs ls ds, e = .returned (.agg #[.slice Al ls.length cl, .slice Ad ls.length cd, .slice As ns cs, .bool R.isSome]) ∧ OwnL w.heap.size w' (.slice Al ls.length cl) ls ∧ ls.length ≤ cl ∧ Fresh w.heap.size w' (.slice Ad ls.length cd) ds ∧ ds.length = ls.length ∧ ls.length ≤ cd ∧ ls.length ≤ 3000 ∧ (∀ i, i < ls.length → (ls.getD i []).length = L) ∧ (R = none ∨ R = some ⟨ls, ds⟩) ∧ Below w.heap.size w w'
theorem SrAt.shapes {Z : Nat → Prop} {lo : Nat} {w : World} {vl vd vs : Value} {ls : List (List Int)} {ds : List Int} {srt : List Nat} (h : SrAt Z lo w vl vd vs ls ds srt) {n : Nat} (h1 : ls.length = n) (h2 : ds.length = n) (h3 : srt.length = n) : ∃ Al cl Ad cd As cs, vl = .slice Al n cl ∧ vd = .slice Ad n cd ∧ vs = .slice As n cs ∧ n ≤ cl ∧ n ≤ cd ∧ n ≤ cs := by
  obtain ⟨Al, cl, rfl, hcl, -⟩ := h.lists.shape
  obtain ⟨Ad, cd, hcd, rfl, -⟩ := h.deps.capped
  obtain ⟨As, cs, rfl, hcs⟩ := h.srt.shape
  subst h1
  exact ⟨Al, cl, Ad, cd, As, cs, rfl, by rw [h2], by rw [h3], hcl, by omega, by omega⟩
theorem SrAt.kept4 {Z : Nat → Prop} {lo : Nat} {w : World} {vl vd vs : Value} {ls : List (List Int)} {ds : List Int} {srt : List Nat} (h : SrAt Z lo w vl vd vs ls ds srt) {g : Nat} (hz : Z g) (a b c d : Value) : SrAt Z lo ((((w.setCell ⟨g, 0, none⟩ a).setCell ⟨g, 1, none⟩ b).setCell ⟨g, 2, none⟩ c).setCell ⟨g, 3, none⟩ d) vl vd vs ls ds srt :=
  (((h.kept (setGrown w g 0 a) hz).kept (setGrown _ g 1 b) hz).kept (setGrown _ g 2 c) hz).kept (setGrown _ g 3 d) hz
theorem belSet4 {B g : Nat} {w w1 : World} (hB : Below B w w1) (h : B ≤ g) (x y z u : Value) : Below B w ((((w1.setCell ⟨g, 0, none⟩ x).setCell ⟨g, 1, none⟩ y).setCell ⟨g, 2, none⟩ z).setCell ⟨g, 3, none⟩ u) :=
  (((hB.setCell (p := ⟨g, 0, none⟩) h _).setCell (p := ⟨g, 1, none⟩) h _).setCell (p := ⟨g, 2, none⟩) h _).setCell (p := ⟨g, 3, none⟩) h _
theorem FromPost.mk {lo N L n cl cd cs : Nat} {Z : Nat → Prop} {w wf : World} {Al Ad As : Option Addr} {s : Bs} {srt : List Nat} {R : Option Bs} {bb : Bool} (h : SrAt Z lo wf (.slice Al s.ls.length cl) (.slice Ad s.ls.length cd) (.slice As n cs) s.ls s.ds srt) (ok : BsOk N L s) (hcl : s.ls.length ≤ cl) (hcd : s.ls.length ≤ cd) (hb : R.isSome = bb) (hR : R = none ∨ R = some s) (hlo : w.heap.size ≤ lo) (hzz : ∀ b, b < w.heap.size → Z b) (hbel : Below w.heap.size w wf) : FromPost R L w (.returned (.agg #[.slice Al s.ls.length cl, .slice Ad s.ls.length cd, .slice As n cs, .bool bb])) wf := by
  subst hb
  exact ⟨Al, cl, Ad, cd, As, n, cs, s.ls, s.ds, rfl, h.lists.weak hlo (fun b hb => .inl (hzz b hb)), hcl, h.deps.mono hlo, ok.len, hcd, ok.cap, fun i hi => (ok.rows i hi).1, hR, hbel⟩
set_option maxRecDepth 100000 in
set_option maxHeartbeats 8000000 in
theorem specFrom (A : Option Addr) (c : Nat) (p : Pz) (A2 : Option Addr) (c2 : Nat) (trk : List Int) (N L : Nat) (w : World) (h : PzAt w A p) (hx : IntsAt w A2 trk) (hmv : MvsOk N p.moves) (hm8 : p.moves.length ≤ 8) (hN : N ≤ 20) (ht : PtsOk N L trk) (hne : 0 < L) (hl : L ≤ 1048576) :
    Calls Try.prog 80 #[.agg #[.int .i64 p.pts, .string p.names, .slice A p.moves.length c], .slice A2 L c2] w (FromPost (searchB (mvsOf p.moves) trk) L w) := by
  obtain ⟨R, hR⟩ : ∃ R, searchB (mvsOf p.moves) trk = R := ⟨_, rfl⟩
  rw [hR]
  have HRR := Lib.hid hR
  have hN1 : 1 ≤ N := by have := ht.2 0 hne; omega
  have HP := Lib.hid h
  have HX := Lib.hid hx
  have HMV := Lib.hid hmv
  have HT := Lib.hid ht
  have HALL := Lib.hid hmv.all
  clear hR h hx hmv ht
  obtain ⟨w0, hw0⟩ : ∃ w0, (w.alloc (.cells #[.int .i64 p.pts, .string p.names, .slice A p.moves.length c] 29)).alloc (.cells #[.slice none 0 0, .slice none 0 0, .slice none 0 0, .bool false] 77) = w0 := ⟨_, rfl⟩
  have hb0 : Below w.heap.size w w0 := by rw [← hw0]; exact (by repeat (first | exact Below.refl _ _ | assumption | refine Below.setCell ?_ (by first | omega | (simp <;> omega)) _ | refine Below.alloc ?_ (by first | omega | (simp <;> omega)) _ | refine Below.drew ?_))
  have hz0 : w0.heap.size = w.heap.size + 2 := by rw [← hw0]; simp
  have R0 : Hid (w0.heap[w.heap.size]? = some (.cells #[.int .i64 p.pts, .string p.names, .slice A p.moves.length c] 29 (0, 0))) := by rw [← hw0]; exact alloc2_0 _ _ _
  have R1 : Hid (w0.heap[w.heap.size + 1]? = some (.cells #[.slice none 0 0, .slice none 0 0, .slice none 0 0, .bool false] 77 (0, 0))) := by rw [← hw0]; exact alloc2_1 _ _ _
  obtain ⟨m, hm⟩ : ∃ m, p.moves.length = m := ⟨_, rfl⟩
  rw [hm] at hm8 R0 hw0 ⊢
  have HM := Lib.hid hm
  have hml : (mvsOf p.moves).length = 2 * m := by rw [mvsOf_len, hm]
  have HML := Lib.hid hml
  have HB0 := Lib.hid hb0
  clear hm hml hb0
  go_enter Try.func80, Try.ntmps80
  go_wp2_with fail
  clear hw0
  refine (specCopy A2 c2 L trk w0 (HX.out.below HB0.out) HT.out.1 hl).mono ?_
  rintro e w1 ⟨v1, rfl, hF1, hb1⟩
  obtain ⟨A1, c1, hc1, rfl, hI1⟩ := hF1.capped
  rw [HT.out.1] at hc1 hF1 ⊢
  have HI1 := Lib.hid hI1
  have HNA : Hid (∀ g off s, A1 = some ⟨g, off, s⟩ → w0.heap.size ≤ g) := fun g off s e => (World.ownsRow.lt hF1 g (by rw [e]; rfl)).1
  have HB1 := Lib.hid hb1
  have hz1 := hb1.size
  have HS1 : Hid (SrAt (fun b => b < w0.heap.size) w0.heap.size w1 (.slice none 0 0) (.slice none 0 0) (.slice none 0 0) [] [] []) := ⟨GrAt.nil _ _ _, Fresh.nil _ _, SFr.nil _ _, fun b hb => by omega, fun b hb => by (cases hb), fun b hb => by (cases hb)⟩
  clear hF1 hI1 hb1
  go_wp2_with fail
  refine (specAdd (fun b => b < w0.heap.size) w0.heap.size c1 L (.slice none 0 0) (.slice none 0 0) (.slice none 0 0) [] [] [] trk A1 0 false w1 HS1.out hz1 HI1.out hc1 (fun _ g off s e => ⟨fun h => by have := HNA.out g off s e; omega, by simp [Value.ownBlock], by simp [Value.ownBlock], by simp [Value.ownBlock]⟩) (SortOk.nil L) rfl HT.out.1 hl rfl (by simp)).mono ?_
  rintro e w2 ⟨vl, vd, vs, srt, rfl, hS2, hSO2, -, hb2⟩
  simp only [List.nil_append] at hS2 hSO2
  obtain ⟨Al, cl, rfl, hcl, -⟩ := hS2.lists.shape
  obtain ⟨Ad, cd, hcd, rfl, -⟩ := hS2.deps.capped
  obtain ⟨As, cs, rfl, hcs⟩ := hS2.srt.shape
  have hsl : srt.length = 1 := hSO2.len
  rw [hsl] at hcs hS2 ⊢
  rw [show ([trk] : List (List Int)).length = 1 from rfl] at hcl hS2 ⊢
  rw [show ([0] : List Int).length = 1 from rfl] at hcd hS2 ⊢
  have HS2 := Lib.hid hS2
  have HSO2 := Lib.hid hSO2
  have HB2 := Lib.hid hb2
  have hz2 := hb2.size
  clear hS2 hSO2 hb2 hsl
  obtain ⟨w3, hw3⟩ : ∃ w3, w2.alloc (.cells #[.slice Al 1 cl, .slice Ad 1 cd, .slice As 1 cs, .bool false] 77) = w3 := ⟨_, rfl⟩
  have R3 : Hid (w3.heap[w2.heap.size]? = some (.cells #[.slice Al 1 cl, .slice Ad 1 cd, .slice As 1 cs, .bool false] 77 (0, 0))) := by rw [← hw3]; exact heap_alloc_new _ _
  have HB3 : Hid (Below w2.heap.size w2 w3) := by rw [← hw3]; exact (by repeat (first | exact Below.refl _ _ | assumption | refine Below.setCell ?_ (by first | omega | (simp <;> omega)) _ | refine Below.alloc ?_ (by first | omega | (simp <;> omega)) _ | refine Below.drew ?_))
  have hz3 : w3.heap.size = w2.heap.size + 1 := by rw [← hw3]; simp
  have HBW3 : Hid (Below w0.heap.size w0 w3) := (HB1.out.trans HB2.out).trans (HB3.out.mono (by omega))
  have R03 := Lib.hid (rowB (HB1.out.trans HB2.out) R0.out)
  have HW3 := Lib.hid hw3
  clear hw3
  obtain ⟨k0, k1, k2, -, kl⟩ := row3 R03.out
  go_wp2_with fail
  rw [HW3.out]
  have hcall := specLetters A c p w3 (by rw [HM.out]; omega)
  rw [HM.out] at hcall
  refine hcall.mono ?_
  rintro e w4 ⟨v6, rfl, hF6, hb6⟩
  obtain ⟨A6, c6, hc6, rfl, hI6⟩ := hF6.capped
  have hl6 := letsOf_len m
  rw [hl6] at hc6 hF6 ⊢
  have hz6 := hb6.size
  have HF6 := Lib.hid hF6
  obtain ⟨B5, hB5⟩ : ∃ B5, w2.heap.size = B5 := ⟨_, rfl⟩
  obtain ⟨lo, hlo⟩ : ∃ lo, w0.heap.size = lo := ⟨_, rfl⟩
  obtain ⟨Z, hZ⟩ : ∃ Z : Nat → Prop, Z = fun b => b < w0.heap.size ∨ (B5 ≤ b ∧ b < w4.heap.size) := ⟨_, rfl⟩
  have HZ := Lib.hid hZ
  have HB5 : Hid (lo ≤ B5) := by unfold Hid; omega
  have HZ5 : Hid (Z B5) := by unfold Hid; rw [hZ]; exact .inr ⟨Nat.le_refl _, by omega⟩
  have HZ1 : Hid (Z (w.heap.size + 1)) := by unfold Hid; rw [hZ]; exact .inl (by omega)
  have HZ0 : Hid (∀ b, b < w.heap.size → Z b) := fun b hb => by rw [hZ]; exact .inl (by omega)
  have HZL : Hid (∀ g off s, A6 = some ⟨g, off, s⟩ → Z g ∧ g ≠ B5) := fun g off s e => by
    have := World.ownsRow.lt HF6.out g (by rw [e]; rfl)
    rw [hZ]; exact ⟨.inr ⟨by omega, by omega⟩, by omega⟩
  have HFR : Hid (FromRel lo B5 N L m Z w0 w4 A6 (.slice Al 1 cl) (.slice Ad 1 cd) (.slice As 1 cs) ⟨[trk], [0]⟩ srt) := by
    refine ⟨?_, ?_, ⟨rfl, by simp, fun i hi => ?_, fun i hi => ?_⟩, HSO2.out, hI6, ?_⟩
    · rw [← hlo]
      refine HS2.out.zmore (belowStep hb6 HB3.out) (fun b hb => ?_) (fun b hb => ?_)
      · rw [hZ] at hb
        rcases hb with e | e
        · exact .inl e
        · exact .inr (by omega)
      · rw [hZ] at hb
        rcases hb with e | e
        · omega
        · exact e.2
    · rw [← hB5]; exact rowB hb6 R3.out
    · obtain rfl : i = 0 := by simpa using hi
      exact HT.out
    · obtain rfl : i = 0 := by simpa using hi
      exact ⟨by simp, by simp⟩
    · rw [← hlo]; exact HBW3.out.trans (hb6.mono (by omega))
  have HPW : Hid (PzAt w0 A p) := HP.out.below HB0.out
  have hloz : lo = w.heap.size + 2 := by omega
  rw [hB5]
  clear hcall hF6 hI6 hb6 k0 k1 k2 kl R03 HW3 HBW3 HB3 R3 HS2 HSO2 HB2 HB1 HS1 HI1 hZ HF6 hl6 hB5
  go_wp2_with fail
  have HH1 : Hid (w.heap.size + 1 < lo) := by unfold Hid; omega
  have HBW : Hid (∀ wr, Below lo w0 wr → Below w.heap.size w wr) := fun wr hb => HB0.out.trans (hb.mono (by omega))
  clear hz0 hz1 hz2 hz3 hz6 hlo hcl hcd hcs hc1 HZ hloz
  go_loopw [7] (fun i wr => ∃ (k : Nat) (vl vd vs : Value) (s : Bs) (srt : List Nat), i = .int .i64 k ∧ FromRel lo B5 N L m Z w0 wr A6 vl vd vs s srt ∧ k ≤ s.ls.length ∧ Hid (bfsB (mvsOf p.moves) (3001 - k) k s = R)) (fun i _ => 3001 - (intOf i).toNat)
  case atStart => exact ⟨0, _, _, _, _, _, rfl, HFR.out, Nat.zero_le _, HRR⟩
  case round =>
    obtain ⟨k, vl, vd, vs, s, srt, rfl, hF, hks, HBF⟩ := hrel
    clear HFR
    have hcap := hF.ok.cap
    have hdl := hF.ok.len
    obtain ⟨Al, cl, rfl, hcl, -⟩ := hF.st.lists.shape
    obtain ⟨Ad, cd, hcd, rfl, -⟩ := hF.st.deps.capped
    obtain ⟨As, cs, rfl, hcs⟩ := hF.st.srt.shape
    rw [hdl] at hF hcd
    have HF := Lib.hid hF
    obtain ⟨r0, r1, r2, r3, rf, rl⟩ := row4 hF.row
    clear hF
    by_cases hlt : k < s.ls.length
    · have p0 : (k : Int) < (s.ls.length : Int) := by omega
      have HR0 : Hid (restB (mvsOf p.moves) k 0 s = R) := by unfold Hid; rw [← bfs_row hlt hcap]; exact HBF.out
      go_wp2_with fail
      go_loopw [8] (fun i wr => ∃ (j : Nat) (vl vd vs : Value) (s : Bs) (srt : List Nat), i = .int .i64 j ∧ j ≤ 2 * m ∧ FromRel lo B5 N L m Z w0 wr A6 vl vd vs s srt ∧ k < s.ls.length ∧ Hid (restB (mvsOf p.moves) k j s = R)) (fun i _ => 2 * m - (intOf i).toNat)
      case atStart => exact ⟨0, _, _, _, _, _, rfl, Nat.zero_le _, HF.out, hlt, HR0⟩
      case round =>
        obtain ⟨j, vl, vd, vs, s, srt, rfl, hj, hF, hks, HR⟩ := hrel
        clear HF HR0 HBF hlt p0 r0 r1 r2 r3 rf rl hcl hcd hcs hcap hdl
        have hcap := hF.ok.cap
        have hdl := hF.ok.len
        obtain ⟨Al, cl, rfl, hcl, -⟩ := hF.st.lists.shape
        obtain ⟨Ad, cd, hcd, rfl, -⟩ := hF.st.deps.capped
        obtain ⟨As, cs, rfl, hcs⟩ := hF.st.srt.shape
        have hsl : srt.length = s.ls.length := hF.so.len
        rw [hdl, hsl] at hF
        rw [hdl] at hcd
        rw [hsl] at hcs
        have HF := Lib.hid hF
        obtain ⟨r0, r1, r2, r3, rf, rl⟩ := row4 hF.row
        have HROW := Lib.hid hF.row
        clear hF
        by_cases hlt : j < 2 * m
        · obtain ⟨b6, o6, hA6, hb6, hcl6⟩ := HF.out.lets j (by rw [letsOf_len]; exact hlt)
          obtain ⟨y, hy⟩ : ∃ y, (letsOf m).getD j 0 = y := ⟨_, rfl⟩
          rw [hy] at hcl6
          have HY := Lib.hid hy
          obtain ⟨gl, Ap, cp, hAl, hgl, cpt, hcp, hIp, -⟩ := HF.out.st.lists.at_ hks
          have hpo := HF.out.ok.rows k hks
          obtain ⟨pat, hpat⟩ : ∃ pat, s.ls.getD k [] = pat := ⟨_, rfl⟩
          obtain ⟨mv, hmv⟩ : ∃ mv, (mvsOf p.moves).getD j [] = mv := ⟨_, rfl⟩
          obtain ⟨x, hxx⟩ : ∃ x, pickI mv pat = x := ⟨_, rfl⟩
          have HNX : Hid (nextOf k ((mvsOf p.moves).getD j []) s = x) := by unfold Hid nextOf; rw [hpat, hmv, hxx]
          have hpx : PtsOk N L x := by
            rw [← hxx, ← hmv, ← hpat]
            exact (HALL.out j (by rw [HML.out]; exact hlt)).pick hpo
          rw [hpat] at hpo cpt hIp
          rw [hpo.1] at cpt
          have hBr := HBW.out wr HF.out.bel
          have hcall : ∀ wx, LAt wx A p.moves → IntsAt wx Ap pat → Calls Try.prog 113 #[.agg #[.int .i64 p.pts, .string p.names, .slice A m c], .slice Ap L cp, .int .i64 y] wx fun e w' => ∃ v, e = .returned v ∧ Fresh wx.heap.size w' v x ∧ Below wx.heap.size wx w' := fun wx g1 g2 => by
            have := specApply A Ap c cp N L p.pts p.names p.moves pat j wx g1 g2 hpo hl (by rw [HM.out]; exact hlt) (by rw [HM.out]; omega) HMV.out hN hN1
            rwa [HM.out, hy, hmv, hxx] at this
          have HCALL := Lib.hid hcall
          have HMA := Lib.hid (HP.out.below hBr).at_
          have HIP := Lib.hid hIp
          have HPX := Lib.hid hpx
          subst hA6 hAl
          have hHlt : w.heap.size < wr.heap.size := by have := HF.out.bel.size; have := row_lt R0.out; omega
          obtain ⟨k0, k1, k2, -, -⟩ := row3 ((HF.out.bel.block w.heap.size (by have := HH1.out; omega)).trans R0.out)
          have q0 : (0 : Int) ≤ (j : Int) := by omega
          have q1 : (j : Int) < 2 * (m : Int) := by omega
          have q2 : (0 : Int) ≤ (k : Int) := by omega
          have q3 : (k : Int) < (s.ls.length : Int) := by omega
          clear hcall hIp hpo hpx hy hmv hxx hpat hBr
          go_wp2_with fail
          go_region_held3 (fun w' => w'.cell? ⟨w.heap.size, 0, none⟩ = some (.int .i64 p.pts) ∧ w'.cell? ⟨w.heap.size, 1, none⟩ = some (.string p.names) ∧ w'.cell? ⟨w.heap.size, 2, none⟩ = some (.slice A m c) ∧ w'.cell? ⟨B5, 0, none⟩ = some (.slice (some ⟨gl, 0, none⟩) s.ls.length cl) ∧ w'.cell? ⟨gl, k, none⟩ = some (.slice Ap L cp) ∧ w'.cell? ⟨b6, o6 + j, none⟩ = some (.int .i64 y)) (first | go_keep | exact ⟨e0, e1, e2, e3, e4, e5⟩) ((go_at_call 113; refine (HCALL.out _ (by exact HMA.out) (by exact HIP.out)).mono ?_; rintro e w5 ⟨v5, rfl, hF5, hb5⟩; have hb5' : Below wr.heap.size wr w5 := ⟨hb5.os, hb5.tape, hb5.output, hb5.size, hb5.block⟩; have e0 := (hb5'.cell (p := ⟨w.heap.size, 0, none⟩) hHlt).trans k0; have e1 := (hb5'.cell (p := ⟨w.heap.size, 1, none⟩) hHlt).trans k1; have e2 := (hb5'.cell (p := ⟨w.heap.size, 2, none⟩) hHlt).trans k2; have e3 := (hb5'.cell (p := ⟨B5, 0, none⟩) rl).trans r0; have e4 := (hb5'.cell (p := ⟨gl, k, none⟩) hgl).trans cpt; have e5 := (hb5'.cell (p := ⟨b6, o6 + j, none⟩) hb6).trans hcl6))
          obtain ⟨A5, c5, hc5, rfl, hI5⟩ := hF5.capped
          rw [HPX.out.1] at hc5 hF5 ⊢
          have HF5 := Lib.hid (HF.out.below HB5.out hb5')
          have HOWN := Lib.hid HF.out.st.own
          have HZLT := Lib.hid HF.out.st.zlt
          have HNEW : Hid (∀ g off s', A5 = some ⟨g, off, s'⟩ → wr.heap.size ≤ g) := fun g off s' e => (World.ownsRow.lt hF5 g (by rw [e]; rfl)).1
          have HI5 := Lib.hid hI5
          have HH2 : Hid (w.heap.size + 1 < wr.heap.size) := by unfold Hid; have := HH1.out; have := HB5.out; omega
          clear r0 r1 r2 r3 rf k0 k1 k2 cpt hcl6 e0 e1 e2 e3 e4 e5 hF5 hI5
          obtain ⟨r0, r1, r2, r3, rf, rl5⟩ := row4 HF5.out.row
          go_wp2_with fail
          refine (specIndex (some ⟨gl, 0, none⟩) A5 As Ad cl c5 cs s.ls.length cd s.ls.length L false s.ls srt x w5 HF5.out.st.lists.lat HF5.out.st.srt.ints HI5.out HF5.out.so HPX.out.1 hl rfl hcap).mono ?_
          rintro e w6 ⟨r, rfl, hr, hb6w⟩
          have HF6 := Lib.hid (HF5.out.below HB5.out hb6w)
          have HI6 := Lib.hid (HI5.out.below hb6w)
          have hz56 := hb6w.size
          have hz5 := hb5'.size
          obtain ⟨bq, hbq⟩ : ∃ bq, inL s.ls x = bq := ⟨_, rfl⟩
          rw [hbq] at hr
          have HBQ := Lib.hid hbq
          clear hbq hb6w r0 r1 r2 r3 rf
          obtain ⟨r0, r1, r2, r3, rf, rl6⟩ := row4 HF6.out.row
          cases bq with
          | true =>
            have hr0 : 0 ≤ r := of_decide_eq_true hr
            have HN : Hid (restB (mvsOf p.moves) k (j + 1) s = R) := by unfold Hid; rw [← HR.out]; exact (rest_old (by rw [HML.out]; exact hlt) (by rw [HNX.out]; exact HBQ.out)).symm
            go_wp2_with fail
            go_roundw
            case rel => exact ⟨j + 1, _, _, _, s, srt, by go_num, by omega, HF6.out, hks, HN⟩
            case measure => simp [intOf]; omega
          | false =>
            have hr0 : ¬ 0 ≤ r := of_decide_eq_false hr
            have HNF : Hid (inL s.ls (nextOf k ((mvsOf p.moves).getD j []) s) = false) := by unfold Hid; rw [HNX.out]; exact HBQ.out
            by_cases hfull : s.ls.length = 3000
            · have HN : Hid (R = none) := by unfold Hid; rw [← HR.out]; exact rest_full (by rw [HML.out]; exact hlt) HNF.out hfull
              have hfi : ((s.ls.length : Int) == 3000) = true := by rw [hfull]; rfl
              have RR6 := Lib.hid ((HF6.out.bel.block (w.heap.size + 1) HH1.out).trans R1.out)
              obtain ⟨t0, t1, t2, t3, tf, tl⟩ := row4 RR6.out
              have HFULL := Lib.hid hfull
              clear hfull
              go_wp2_with fail
              obtain ⟨y0, y1, y2, y3, -, -⟩ := row4 (row4S RR6.out (.slice (some ⟨gl, 0, none⟩) s.ls.length cl) (.slice Ad s.ls.length cd) (.slice As s.ls.length cs) (.bool false))
              refine bodyPost_ret (v := .agg #[.slice (some ⟨gl, 0, none⟩) s.ls.length cl, .slice Ad s.ls.length cd, .slice As s.ls.length cs, .bool false]) (by simp [results, Try.results80, go_sem, y0, y1, y2, y3]) rfl ?_
              exact FromPost.mk (HF6.out.st.kept4 HZ1.out _ _ _ _) HF6.out.ok hcl hcd (by rw [HN.out]; rfl) (.inl HN.out) (by have := HH1.out; omega) HZ0.out (belSet4 (HBW.out _ HF6.out.bel) (Nat.le_succ _) _ _ _ _)
            · have hfi : ¬ (s.ls.length : Int) = 3000 := by omega
              have HNE := Lib.hid hfull
              obtain ⟨dk, hdk⟩ : ∃ dk, s.ds.getD k 0 = dk := ⟨_, rfl⟩
              have hdp := HF6.out.ok.depth hks
              obtain ⟨bd, od, hAd, hbd, hcd6⟩ := HF6.out.st.deps.intsAt k (by omega)
              rw [hdk] at hcd6
              have hdk1 : depOf k s = dk + 1 := by unfold depOf; rw [hdk]
              rw [hdk1] at hdp
              have HDP := Lib.hid hdp
              have HDK1 := Lib.hid hdk1
              have hwd : IntKind.i64.wrap (dk + 1) = dk + 1 := IntWalk.i64_in _ (by omega)
              have HN : Hid (restB (mvsOf p.moves) k (j + 1) ⟨s.ls ++ [x], s.ds ++ [dk + 1]⟩ = R) := by
                unfold Hid
                rw [← HR.out, rest_new (by rw [HML.out]; exact hlt) HNF.out HNE.out, HNX.out, HDK1.out]
              have hcall : ∀ wx, Below w6.heap.size w6 wx → Calls Try.prog 111 #[.agg #[.slice (some ⟨gl, 0, none⟩) s.ls.length cl, .slice Ad s.ls.length cd, .slice As s.ls.length cs, .bool false], .slice A5 L c5, .int .i64 (dk + 1)] wx (AddPost Z lo L false s.ls s.ds x (dk + 1) wx) := fun wx hb => by
                refine specAdd Z lo c5 L _ _ _ s.ls s.ds srt x A5 (dk + 1) false wx (HF6.out.st.below hb) (by have := hb.size; have := HB5.out; omega) (HI6.out.below hb) hc5 (fun h0 g off s' e => ?_) HF6.out.so HF6.out.ok.len HPX.out.1 hl HBQ.out hcap
                have hge := HNEW.out g off s' e
                refine ⟨fun hz => by have := HZLT.out g hz; omega, fun e2 => by have := (HOWN.out.1 g e2).2; omega, fun e2 => by have := (HOWN.out.2.1 g e2).2; omega, fun e2 => by have := (HOWN.out.2.2 g e2).2; omega⟩
              have HCALL2 := Lib.hid hcall
              subst hAd
              clear hcall hdp hdk hdk1 hfull
              go_wp2_with fail
              go_region_with (go_at_call 111; refine (HCALL2.out _ (by exact (by repeat (first | exact Below.refl _ _ | assumption | refine Below.setCell ?_ (by first | omega | (simp <;> omega)) _ | refine Below.alloc ?_ (by first | omega | (simp <;> omega)) _ | refine Below.drew ?_)))).mono ?_; rintro e w7 ⟨vl7, vd7, vs7, srt7, rfl, hS7, hSO7, hZ7, hb7⟩; obtain ⟨Al7, cl7, Ad7, cd7, As7, cs7, rfl, rfl, rfl, -, -, -⟩ := hS7.shapes (n := s.ls.length + 1) (by simp) (by simp; exact HF6.out.ok.len) (by rw [hSO7.len]; simp); have HR7 := Lib.hid ((hZ7 B5 HZ5.out).trans (show w6.drew.heap[B5]? = _ from HF6.out.row)); have HS7 := Lib.hid hS7; have HSO7 := Lib.hid hSO7; have HZ7 := Lib.hid hZ7; have HB7 := Lib.hid hb7; clear hS7 hSO7 hZ7 hb7; obtain ⟨g0, g1, g2, g3, gf, gl7⟩ := row4 HR7.out)
              all_goals
                have HFN : Hid (FromRel lo B5 N L m Z w0 ((((w7.setCell ⟨B5, 0, none⟩ (.slice Al7 (s.ls.length + 1) cl7)).setCell ⟨B5, 1, none⟩ (.slice Ad7 (s.ls.length + 1) cd7)).setCell ⟨B5, 2, none⟩ (.slice As7 (s.ls.length + 1) cs7)).setCell ⟨B5, 3, none⟩ (.bool false)) (some ⟨b6, o6, none⟩) (.slice Al7 (s.ls.length + 1) cl7) (.slice Ad7 (s.ls.length + 1) cd7) (.slice As7 (s.ls.length + 1) cs7) ⟨s.ls ++ [x], s.ds ++ [dk + 1]⟩ srt7) := by
                  refine ⟨HS7.out.kept4 HZ5.out _ _ _ _, row4S HR7.out _ _ _ _, HF6.out.ok.more HNE.out HPX.out HDP.out.1 HDP.out.2.1, HSO7.out, ?_, ?_⟩
                  · refine HF6.out.lets.keep (by have := HB7.out.size; simpa using this) (fun h0 g off s' e => ?_)
                    obtain ⟨z1, z2⟩ := HZL.out g off s' e
                    rw [heap_setCell_other _ _ g _ (by simpa using z2), heap_setCell_other _ _ g _ (by simpa using z2), heap_setCell_other _ _ g _ (by simpa using z2), heap_setCell_other _ _ g _ (by simpa using z2)]
                    exact HZ7.out g z1
                  · have hbl : lo ≤ B5 := HB5.out
                    exact belSet4 (HF6.out.bel.drew.trans HB7.out) hbl _ _ _ _
                go_wp2_with fail
                go_roundw
                case rel => exact ⟨j + 1, _, _, _, ⟨s.ls ++ [x], s.ds ++ [dk + 1]⟩, srt7, by go_num, by omega, HFN.out, by simp; omega, HN⟩
                case measure => simp [intOf]; omega
        · obtain rfl : j = 2 * m := by omega
          have HN : Hid (bfsB (mvsOf p.moves) (3001 - (k + 1)) (k + 1) s = R) := by unfold Hid; rw [← HR.out]; exact (rest_end (by rw [HML.out]; omega)).symm
          go_wp2_with fail
          go_roundw
          case rel => exact ⟨k + 1, _, _, _, s, srt, by go_num, HF.out, by omega, HN⟩
          case measure => simp [intOf]; omega
    · have p0 : ¬ (k : Int) < (s.ls.length : Int) := by omega
      have HE : Hid (R = some s) := by unfold Hid; rw [← HBF.out]; exact bfs_end (by omega) (by omega)
      have RR := Lib.hid ((HF.out.bel.block (w.heap.size + 1) HH1.out).trans R1.out)
      obtain ⟨t0, t1, t2, t3, tf, tl⟩ := row4 RR.out
      have hBH : B5 ≠ w.heap.size + 1 := by have := HB5.out; have := HH1.out; omega
      have hBH2 : w.heap.size + 1 ≠ B5 := fun e => hBH e.symm
      go_wp2_with fail
      obtain ⟨y0, y1, y2, y3, -, -⟩ := row4 (row4S (rowS RR.out (a := ⟨B5, 3, none⟩) (v := .bool true) hBH2) (.slice Al s.ls.length cl) (.slice Ad s.ls.length cd) (.slice As srt.length cs) (.bool true))
      refine bodyPost_ret (v := .agg #[.slice Al s.ls.length cl, .slice Ad s.ls.length cd, .slice As srt.length cs, .bool true]) (by simp [results, Try.results80, go_sem, y0, y1, y2, y3]) rfl ?_
      exact FromPost.mk ((HF.out.st.kept (setGrown wr B5 3 _) HZ5.out).kept4 HZ1.out _ _ _ _) HF.out.ok hcl hcd (by rw [HE.out]; rfl) (.inr HE.out) (by have := HH1.out; omega) HZ0.out (belSet4 ((HBW.out _ HF.out.bel).setCell (p := ⟨B5, 3, none⟩) (by have := HB5.out; have := HH1.out; simp; omega) _) (Nat.le_succ _) _ _ _ _)
end Go.Proofs.Ytfhdnanbhigpmaa
