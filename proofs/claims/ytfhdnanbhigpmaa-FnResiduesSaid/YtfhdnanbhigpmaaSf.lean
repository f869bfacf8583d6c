/- A new filler. Conditions: the puzzle and the tracked points are valid. Where a list stands in others, impl. Conditions: the lists are of one length. A new job, impl. Conditions: as each contract says. -/
import Derived.Test.YtfhdnanbhigpmaaRp
import Derived.Test.YtfhdnanbhigpmaaGf
import Derived.Test.YtfhdnanbhigpmaaMt
import Derived.Deep.RegionLaw
import Derived.Deep.RegionWith
namespace Go.Proofs.Ytfhdnanbhigpmaa
section
open Go.RowKit Grp

/-- A filler's memory: block f. -/
structure FlAt (lo f bm : Nat) (w : World) (vt vl vd vm : Value) (trk : List Int) (mvs ls : List (List Int)) (ds : List Int) (next : Int) (log : ByteArray) (syn : Int) (n : Nat) (K : List ByteArray) : Prop where
  row : w.heap[f]? = some (.cells #[vt, vl, vd, .int .i64 next, .string log, .int .i64 syn, vm, .map (some bm)] 96 (0, 0))
  st : StAt (fun b => b = f ∨ vt.ownBlock = some b) lo bm w vl vd vm mvs ls ds n K
  trk : Fresh lo w vt trk
  nef : vt.ownBlock ≠ some f
  lof : lo ≤ f
  own : RowF lo w vl ls
theorem setGrown (w : World) (g p : Nat) (v : Value) : w.grownBy (w.setCell ⟨g, p, none⟩ v) (some g) := ⟨rfl, rfl, rfl, by simp, fun k _ hne => heap_setCell_other _ _ k _ (fun e => hne (by rw [e]))⟩
theorem FlAt.below {lo f bm : Nat} {w w' : World} {vt vl vd vm : Value} {trk : List Int} {mvs ls : List (List Int)} {ds : List Int} {next : Int} {log : ByteArray} {syn : Int} {n : Nat} {K : List ByteArray} (h : FlAt lo f bm w vt vl vd vm trk mvs ls ds next log syn n K) (hb : Below w.heap.size w w') : FlAt lo f bm w' vt vl vd vm trk mvs ls ds next log syn n K :=
  ⟨rowB hb h.row, h.st.below hb, h.trk.row (gB hb none) (fun b _ e => by cases e), h.nef, h.lof, h.own.below h.st.lists hb⟩
theorem FlAt.pushMove {lo f bm : Nat} {w w' : World} {vt vl vd vm : Value} {trk : List Int} {mvs ls : List (List Int)} {ds : List Int} {next : Int} {log : ByteArray} {syn : Int} {n : Nat} {K : List ByteArray} (h : FlAt lo f bm w vt vl vd vm trk mvs ls ds next log syn n K) {vm' : Value} {mvs' : List (List Int)} (hM : GrAt lo (ZsOf (fun b => b = f ∨ vt.ownBlock = some b) bm vl vd) w' vm' mvs') (hg : w.grownBy w' vm.ownBlock) (hat : vm'.ownBlock = vm.ownBlock ∨ vm'.ownBlock = some w.heap.size) :
    FlAt lo f bm (w'.setCell ⟨f, 6, none⟩ vm') vt vl vd vm' trk mvs' ls ds next log syn n K := by
  have h1 := h.st.moves.own
  have hrow := rowR hg h.row (fun e => (h1 f e).2.2 (.inl (.inl rfl)))
  exact ⟨rowSet vm' hrow, (h.st.move hM hg hat).cell (g := f) (.inl rfl) (setGrown _ _ _ _), (h.trk.row hg (fun b hb e => (h1 b e).2.2 (.inl (.inr hb)))).row (setGrown w' f 6 vm') (fun b hb e => by injection e with e; exact h.nef (e ▸ hb)), h.nef, h.lof, (h.own.kept h.st.lists hg (fun g e => .inr (.inr (.inr e)))).kept (h.st.move hM hg hat).lists (setGrown w' f 6 vm') (fun g e => by injection e with e; exact .inl (.inl e.symm))⟩
theorem FlAt.zM {lo f bm : Nat} {w : World} {vt vl vd vm : Value} {trk : List Int} {mvs ls : List (List Int)} {ds : List Int} {next : Int} {log : ByteArray} {syn : Int} {n : Nat} {K : List ByteArray} (h : FlAt lo f bm w vt vl vd vm trk mvs ls ds next log syn n K) (hbm : lo ≤ bm) : ∀ b, ZsOf (fun b => b = f ∨ vt.ownBlock = some b) bm vl vd b → lo ≤ b ∧ b < w.heap.size := fun b hz => by
  rcases hz with e | e | e | e
  · refine ⟨?_, h.st.zlt b e⟩
    rcases e with e | e
    · have := h.lof; omega
    · exact (World.ownsRow.lt h.trk b e).1
  · have := h.st.seen.lt; omega
  · have := h.st.lists.own b e; omega
  · exact World.ownsRow.lt h.st.deps b e
theorem Fresh.keep {B : Nat} {w w' : World} {v : Value} {xs : List Int} (hF : Fresh B w v xs) (hk : ∀ b, v.ownBlock = some b → w'.heap[b]? = w.heap[b]?) : Fresh B w' v xs := by
  refine ⟨hF.1, ?_⟩
  rcases hF.2 with hn | ⟨g, cap, cur, rfl, hbg, hgg, rest⟩
  · exact .inl hn
  · exact .inr ⟨g, cap, cur, rfl, hbg, (hk g rfl).trans hgg, rest⟩
theorem FTb.keep {lo hi m1 m2 : Nat} {w w' : World} {A1 A2 A3 : Option Addr} {c1 c2 c3 : Nat} {t : Tb} (h : FTb lo hi w A1 c1 A2 c2 A3 c3 m1 m2 t) (hs : w.heap.size ≤ w'.heap.size) (hk : ∀ b, lo ≤ b → b < hi → w'.heap[b]? = w.heap[b]?) : FTb lo hi w' A1 c1 A2 c2 A3 c3 m1 m2 t := by
  obtain ⟨f1, b1, f2, b2, f3, b3, o1, o2, o3⟩ := h
  refine ⟨f1.keep fun b hb => hk b (f1.block b hb) (by have := b1 b hb; omega), b1, ?_, b2, f3.keep fun b hb => hk b (by have := f3.block b hb; omega) (b3 b hb), b3, o1, o2, o3⟩
  obtain ⟨A', c', V, B, e0, h2, h3, h4, h5⟩ := f2
  have eA : A2 = A' := by injection e0
  subst eA
  refine ⟨A2, c', V, B, e0, ⟨fun i hi => ?_, fun i hi => (h2.own i hi).keep fun b hb => hk b ?_ ?_, h2.cap, h2.up⟩, h3, h4, h5⟩
  · obtain ⟨g, e, g1, g2, g3⟩ := h2.row i hi
    have k1 := h5 g 0 none e
    have k2 := b2 g 0 none e
    exact ⟨g, e, Nat.lt_of_lt_of_le g1 hs, (World.cell?_of_block (a := ⟨g, i, none⟩) (hk g (by omega) (by omega))).trans g2, g3⟩
  · have k1 := (h2.own i hi).block b hb
    have k2 := h2.upij 0 i (Nat.zero_le _) (by omega)
    omega
  · have k1 := h2.cap i hi b hb
    have k2 := h2.upij (i + 1) t.pats.length (by omega) (Nat.le_refl _)
    omega
/-- A filler in the making. -/
def NewRel (w : World) (M f bm : Nat) (vt vl vd : Value) (trk : List Int) (key : ByteArray) (A : Option Addr) (m : Nat) (box : Obj) (wM : World) (qs : List (List Int)) (wx : World) (vm : Value) : Prop :=
  FlAt w.heap.size f bm wx vt vl vd vm trk qs [trk] [0] 0 ⟨#[]⟩ 0 1 [key] ∧ (∀ b, vm.ownBlock = some b → M ≤ b) ∧ IntsAt wx A (letsOf m) ∧ wx.heap[w.heap.size]? = some box ∧ Below w.heap.size w wx ∧ M ≤ wx.heap.size ∧ ∀ b, b < M → b ≠ f → wx.heap[b]? = wM.heap[b]?
theorem NewRel.below {w : World} {M f bm : Nat} {vt vl vd : Value} {trk : List Int} {key : ByteArray} {A : Option Addr} {m : Nat} {box : Obj} {wM : World} {qs : List (List Int)} {wx wy : World} {vm : Value} (h : NewRel w M f bm vt vl vd trk key A m box wM qs wx vm) (hb : Below wx.heap.size wx wy) : NewRel w M f bm vt vl vd trk key A m box wM qs wy vm :=
  ⟨h.1.below hb, h.2.1, h.2.2.1.below hb, rowB hb h.2.2.2.1, belowStep hb h.2.2.2.2.1, Nat.le_trans h.2.2.2.2.2.1 hb.size, fun b h1 h2 => (hb.block b (by have := h.2.2.2.2.2.1; omega)).trans (h.2.2.2.2.2.2 b h1 h2)⟩
theorem NewRel.push {w : World} {M f bm : Nat} {vt vl vd : Value} {trk : List Int} {key : ByteArray} {A : Option Addr} {m : Nat} {box : Obj} {wM : World} {qs : List (List Int)} {wx wy : World} {vm vm' : Value} (h : NewRel w M f bm vt vl vd trk key A m box wM qs wx vm) (hA : ∀ g off s, A = some ⟨g, off, s⟩ → g < M ∧ g ≠ f) (hw : w.heap.size < f) (hM : w.heap.size < M) (hMx : M ≤ wx.heap.size)
    {qs' : List (List Int)} (hG : GrAt w.heap.size (ZsOf (fun b => b = f ∨ vt.ownBlock = some b) bm vl vd) wy vm' qs') (hg : wx.grownBy wy vm.ownBlock) (hat : vm'.ownBlock = vm.ownBlock ∨ vm'.ownBlock = some wx.heap.size) :
    NewRel w M f bm vt vl vd trk key A m box wM qs' (wy.setCell ⟨f, 6, none⟩ vm') vm' := by
  obtain ⟨h1, h2, h3, h4, h5, h6, h7⟩ := h
  refine ⟨h1.pushMove hG hg hat, fun b hb => ?_, (h3.kept hg fun h0 g off s e e2 => ?_).kept (setGrown wy f 6 vm') (fun h0 g off s e e2 => ?_), rowR (setGrown wy f 6 vm') (rowR hg h4 fun e => ?_) (fun e => ?_), (h5.grown hg (by omega) fun b hb => ?_).setCell (by simp; omega) _, by simp; have := hg.size; omega, fun b k1 k2 => ((heap_setCell_other _ _ b _ (by simpa using k2)).trans (hg.block b (by omega) fun e => ?_)).trans (h7 b k1 k2)⟩
  · rcases hat with e | e
    · exact h2 b (e ▸ hb)
    · rw [e] at hb; injection hb with hb; omega
  · have := h2 g e2; have := hA g off s e; omega
  · injection e2 with e2; have := hA g off s e; omega
  · have := h2 _ e; omega
  · injection e with e; omega
  · have := h2 b hb; omega
  · have := h2 b e.symm; omega
set_option maxRecDepth 100000 in
set_option maxHeartbeats 8000000 in
theorem implNew (A : Option Addr) (c : Nat) (p : Pz) (A2 : Option Addr) (c2 : Nat) (trk : List Int) (N : Nat) (w : World) (h : PzAt w A p) (hx : IntsAt w A2 trk) (hmv : MvsOk N p.moves) (hm8 : p.moves.length ≤ 8) (hN : N ≤ 20) (ht : PtsOk N trk.length trk) (hne : 0 < trk.length) (hl : trk.length ≤ 1048576) :
    Calls Try.prog 94 #[.agg #[.int .i64 p.pts, .string p.names, .slice A p.moves.length c], .slice A2 trk.length c2] w fun e w' => ∃ f bm At ct Al Ad vm m1 m2 hi, e = .returned (.pointer (some ⟨f, 0, none⟩)) ∧ w.heap.size ≤ bm ∧ FlAt w.heap.size f bm w' (.slice At trk.length ct) (.slice Al 1 1) (.slice Ad 1 1) vm trk (mvsOf p.moves) [trk] [0] 0 ⟨#[]⟩ 0 1 [strOfNums trk] ∧ FTb (f + 1) hi w' At ct Al 1 Ad 1 m1 m2 ⟨trk, [trk], [0]⟩ ∧ hi ≤ w'.heap.size ∧ Below w.heap.size w w' := by
  have hA2 : A2 ≠ none := fun e => by
    obtain ⟨b, off, e2, -⟩ := hx 0 hne
    rw [e] at e2; cases e2
  have HP := Lib.hid h
  have HX := Lib.hid hx
  have HMV := Lib.hid hmv
  have HT := Lib.hid ht
  have HALL := Lib.hid hmv.all
  clear h hx hmv ht
  obtain ⟨w0, hw0⟩ : ∃ w0, (w.alloc (.cells #[.int .i64 p.pts, .string p.names, .slice A p.moves.length c] 29)).alloc (.map #[] 0) = w0 := ⟨_, rfl⟩
  have hb0 : Below w.heap.size w w0 := by rw [← hw0]; exact (by repeat (first | exact Below.refl _ _ | assumption | refine Below.setCell ?_ (by first | omega | (simp <;> omega)) _ | refine Below.alloc ?_ (by first | omega | (simp <;> omega)) _ | refine Below.drew ?_))
  have hz0 : w0.heap.size = w.heap.size + 2 := by rw [← hw0]; simp
  have HR0 := Lib.hid (show w0.heap[w.heap.size]? = some (.cells #[.int .i64 p.pts, .string p.names, .slice A p.moves.length c] 29 (0, 0)) by rw [← hw0]; exact alloc2_0 _ _ _)
  have HS0 := Lib.hid (show SeenAt w0 (w.heap.size + 1) 0 [] by rw [← hw0]; have := SeenAt.made (w.alloc (.cells #[.int .i64 p.pts, .string p.names, .slice A p.moves.length c] 29)); simpa using this)
  have hmm := @run_makeMap Try.prog
  go_enter Try.func94, Try.ntmps94
  go_wp2_with fail
  clear hw0 hmm
  refine (keyOf A2 c2 trk _ (HX.out.below hb0) hl (HT.out.byt (by omega))).mono ?_
  rintro e w4 ⟨rfl, hb4⟩
  have hB4 := Lib.hid (belowStep hb4 hb0)
  have HS4 := Lib.hid (HS0.out.below hb4)
  have HR4 := Lib.hid (rowB hb4 HR0.out)
  have hz4 := hb4.size
  obtain ⟨key, hkey⟩ : ∃ key, strOfNums trk = key := ⟨_, rfl⟩
  have hks : key.size ≤ maxLen := by rw [← hkey, strOfNums_size]; unfold maxLen; omega
  rw [hkey]
  have HKEY := Lib.hid hkey
  clear hb4 hkey HS0
  have hz4b := hB4.out.size
  go_wp2_with (first | (refine wpList_see rfl (.tmp 8) (.tmp 10) (.const (.bool true)) (Or.inr rfl) (w.heap.size + 1) 0 [] key rfl rfl rfl HS4.out hks (by unfold maxLen; omega) ?_; intro w5 hS5 hg5; obtain ⟨w6, hw6⟩ : ∃ w6, w5.alloc (.cells #[.slice none 0 0, .slice none 0 0, .slice none 0 0, .int .i64 0, .string ⟨#[]⟩, .int .i64 0, .slice none 0 0, .map (some (w.heap.size + 1))] 96) = w6 := ⟨_, rfl⟩))
  have hz5 := hg5.size
  obtain ⟨f, hf⟩ : ∃ f, w5.heap.size = f := ⟨_, rfl⟩
  have hz6 : w6.heap.size = f + 1 := by rw [← hw6, ← hf]; simp
  have HF6 := Lib.hid (show w6.heap[f]? = some (.cells #[.slice none 0 0, .slice none 0 0, .slice none 0 0, .int .i64 0, .string ⟨#[]⟩, .int .i64 0, .slice none 0 0, .map (some (w.heap.size + 1))] 96 (0, 0)) by rw [← hw6, ← hf]; exact heap_alloc_new _ _)
  have hb56 : Below w5.heap.size w5 w6 := by rw [← hw6]; exact (by repeat (first | exact Below.refl _ _ | assumption | refine Below.setCell ?_ (by first | omega | (simp <;> omega)) _ | refine Below.alloc ?_ (by first | omega | (simp <;> omega)) _ | refine Below.drew ?_))
  have HS6 := Lib.hid (hS5.below hb56)
  have HB6 := Lib.hid (belowStep hb56 (hB4.out.grown hg5 (by omega) (fun b hb => by injection hb with hb; omega)))
  have HR6 := Lib.hid (rowB hb56 (rowR hg5 HR4.out (fun e => by injection e with e; omega)))
  rw [hf] at hz5 ⊢
  clear hw6 hf hb56 hS5 hg5 HR4 HS4 HR0
  refine (cloneInts A2 c2 trk _ (HX.out.below HB6.out) hl hA2).mono ?_
  rintro e w7 ⟨v7, rfl, hF7, hb7⟩
  obtain ⟨At, ct, hct, rfl, -⟩ := hF7.capped
  have HF7 := Lib.hid hF7
  have HB7 := Lib.hid hb7
  have HBW7 := Lib.hid (belowStep hb7 HB6.out)
  have hz7 := hb7.size
  clear hF7 hb7
  go_wp2_with fail
  refine (cloneInts A2 c2 trk _ (HX.out.below HBW7.out) hl hA2).mono ?_
  rintro e w8 ⟨v8, rfl, hF8, hb8⟩
  obtain ⟨A1, c1, hc1, rfl, hI8⟩ := hF8.capped
  have HF8 := Lib.hid hF8
  have HI8 := Lib.hid hI8
  have HB8 := Lib.hid (belowStep hb8 HB7.out)
  have HB78 := Lib.hid hb8
  have hz8 := hb8.size
  clear hF8 hb8 hI8
  obtain ⟨w9, hw9⟩ : ∃ w9, (w8.alloc (.cells #[.slice A1 trk.length c1] 31)).alloc (.cells #[.int .i64 0] 2) = w9 := ⟨_, rfl⟩
  have hb9 : Below w8.heap.size w8 w9 := by rw [← hw9]; exact (by repeat (first | exact Below.refl _ _ | assumption | refine Below.setCell ?_ (by first | omega | (simp <;> omega)) _ | refine Below.alloc ?_ (by first | omega | (simp <;> omega)) _ | refine Below.drew ?_))
  have hz9 : w9.heap.size = w8.heap.size + 2 := by rw [← hw9]; simp
  have HL9 := Lib.hid (show w9.heap[w8.heap.size]? = some (.cells #[.slice A1 trk.length c1] 31 (0, 0)) by rw [← hw9]; exact alloc2_0 _ _ _)
  have HD9 := Lib.hid (show w9.heap[w8.heap.size + 1]? = some (.cells #[.int .i64 0] 2 (0, 0)) by rw [← hw9]; exact alloc2_1 _ _ _)
  have hF9 := rowB hb9 (rowB HB8.out HF6.out)
  have HB69 := Lib.hid (belowStep hb9 HB8.out)
  have HB89 := Lib.hid hb9
  have k0 := cell_of_row w9 f 0 _ _ (0, 0) hF9
  have k1 := cell_of_row w9 f 1 _ _ (0, 0) hF9
  have k2 := cell_of_row w9 f 2 _ _ (0, 0) hF9
  have kf : ∀ p, w9.frozen? ⟨f, p, none⟩ = false := fun p => row_free hF9
  obtain ⟨w10, hw10⟩ : ∃ w10, (((w9.setCell ⟨f, 0, none⟩ (.slice At trk.length ct)).setCell ⟨f, 1, none⟩ (.slice (some ⟨w8.heap.size, 0, none⟩) 1 1)).setCell ⟨f, 2, none⟩ (.slice (some ⟨w8.heap.size + 1, 0, none⟩) 1 1)) = w10 := ⟨_, rfl⟩
  have HF10 := Lib.hid (show w10.heap[f]? = some (.cells #[.slice At trk.length ct, .slice (some ⟨w8.heap.size, 0, none⟩) 1 1, .slice (some ⟨w8.heap.size + 1, 0, none⟩) 1 1, .int .i64 0, .string ⟨#[]⟩, .int .i64 0, .slice none 0 0, .map (some (w.heap.size + 1))] 96 (0, 0)) by rw [← hw10]; exact rowSet _ (rowSet _ (rowSet _ hF9)))
  have HG10 : Hid (w9.grownBy w10 (some f)) := by
    unfold Hid
    rw [← hw10]
    exact ((setGrown w9 f 0 _).trans (setGrown _ f 1 _)).trans (setGrown _ f 2 _)
  have hz10 := HG10.out.size
  have HR10 := Lib.hid (rowR HG10.out (rowB (belowStep hb9 HB8.out) HR6.out) (fun e => by injection e with e; omega))
  have cbx := cell_of_row w10 w.heap.size 2 _ _ (0, 0) HR10.out
  clear hF9 hb9
  go_wp2_with fail
  clear hw9 hw10 k0 k1 k2 kf cbx
  refine (implLetters p.moves.length _ (by omega)).mono ?_
  rintro e w11 ⟨v11, rfl, hF11, hb11⟩
  obtain ⟨A11, c11, hc11, rfl, hI11⟩ := hF11.capped
  have HI11 := Lib.hid hI11
  have hl11 := letsOf_len p.moves.length
  rw [hl11] at hc11 hF11 ⊢
  have hz11 := hb11.size
  have HLB11 : ∀ g off s, A11 = some ⟨g, off, s⟩ → w10.heap.size ≤ g := fun g off s e => (World.ownsRow.lt hF11 g (by rw [e]; rfl)).1
  have HR11 := Lib.hid (rowB hb11 HR10.out)
  have HBW10 := Lib.hid ((belowStep HB89.out (belowStep HB78.out HBW7.out)).grown HG10.out (by omega) (fun b hb => by injection hb with hb; omega))
  have HBW11 := Lib.hid (belowStep hb11 HBW10.out)
  have ht1 : ∀ g off s, A1 = some ⟨g, off, s⟩ → w7.heap.size ≤ g ∧ g < w8.heap.size := fun g off s e => World.ownsRow.lt HF8.out g (by rw [e]; rfl)
  have ht2 : ∀ b, (Value.slice At trk.length ct).ownBlock = some b → f + 1 ≤ b ∧ b < w7.heap.size := fun b hb => by have := World.ownsRow.lt HF7.out b hb; omega
  have HFL0 : Hid (FlAt w.heap.size f (w.heap.size + 1) w11 (.slice At trk.length ct) (.slice (some ⟨w8.heap.size, 0, none⟩) 1 1) (.slice (some ⟨w8.heap.size + 1, 0, none⟩) 1 1) (.slice none 0 0) trk [] [trk] [0] 0 ⟨#[]⟩ 0 1 [key]) := by
    have hI : IntsAt w11 A1 trk := ((HI8.out.below HB89.out).kept HG10.out (fun h0 g off s e e2 => by have := ht1 g off s e; injection e2 with e2; omega)).below hb11
    refine ⟨rowB hb11 HF10.out, ⟨?_, ?_, GrAt.nil _ _ _, ?_, ?_, ?_, ?_⟩, ?_, ?_, by omega, ?_⟩
    · refine GrAt.one (rowB hb11 (rowR HG10.out HL9.out (fun e => by injection e with e; omega))) (by omega) hc1 hI (fun hz => ?_) fun g2 off s e => ⟨fun hz => ?_, ?_⟩
      · rcases hz with (e | e) | e | e | e
        · omega
        · have := ht2 _ e; omega
        · omega
        · injection e with e; simp only at e; omega
        · cases e
      · have h1 := ht1 g2 off s e
        rcases hz with (e | e) | e | e | e
        · omega
        · have := ht2 _ e; omega
        · omega
        · injection e with e; simp only at e; omega
        · cases e
      · have h1 := ht1 g2 off s e
        omega
    · exact Fresh.one0 (rowB hb11 (rowR HG10.out HD9.out (fun e => by injection e with e; omega))) (by omega)
    · exact ((HS6.out.below HB69.out).kept HG10.out (fun e => by injection e with e; omega)).below hb11
    · intro b hz
      rcases hz with e | e
      · omega
      · have := ht2 _ e; omega
    · intro b hb hz
      injection hb with hb
      simp only at hb
      rcases hz with e | e
      · omega
      · have := ht2 _ e; omega
    · intro hz
      rcases hz with e | e
      · omega
      · have := ht2 _ e; omega
    · have h7 : Fresh (f + 1) w7 (.slice At trk.length ct) trk := by rw [← hz6]; exact HF7.out
      have h8 : Fresh w.heap.size w7 (.slice At trk.length ct) trk := h7.mono (by omega)
      exact ((h8.row (gB (belowStep HB89.out HB78.out) none) (fun b _ e => by cases e)).row HG10.out (fun b hb e => by injection e with e; have := ht2 b hb; omega)).row (gB hb11 none) (fun b _ e => by cases e)
    · intro e
      have := ht2 _ e; omega
    · have h8 : Fresh w.heap.size w11 (.slice A1 trk.length c1) trk := (((HF8.out.row (gB HB89.out none) (fun b _ e => by cases e)).row HG10.out (fun b hb e => by injection e with e; have := World.ownsRow.lt HF8.out b hb; omega)).row (gB hb11 none) (fun b _ e => by cases e)).mono (by omega)
      exact RowF.one (cell_of_row w11 _ 0 _ _ (0, 0) (rowB hb11 (rowR HG10.out HL9.out (fun e => by injection e with e; omega)))) h8
  have HTB : Hid (FTb (f + 1) (w8.heap.size + 2) w11 At ct (some ⟨w8.heap.size, 0, none⟩) 1 (some ⟨w8.heap.size + 1, 0, none⟩) 1 w7.heap.size (w8.heap.size + 1) ⟨trk, [trk], [0]⟩) := by
    have h7 : Fresh (f + 1) w7 (.slice At trk.length ct) trk := by rw [← hz6]; exact HF7.out
    have h8 : Fresh w7.heap.size w11 (.slice A1 trk.length c1) trk := ((HF8.out.row (gB HB89.out none) (fun b _ e => by cases e)).row HG10.out (fun b hb e => by injection e with e; have := World.ownsRow.lt HF8.out b hb; omega)).row (gB hb11 none) (fun b _ e => by cases e)
    have hl8 := rowB hb11 (rowR HG10.out HL9.out (fun e => by injection e with e; omega))
    refine ⟨((h7.row (gB (belowStep HB89.out HB78.out) none) (fun b _ e => by cases e)).row HG10.out (fun b hb e => by injection e with e; have := ht2 b hb; omega)).row (gB hb11 none) (fun b _ e => by cases e), fun b hb => (ht2 b hb).2, ?_, fun g off s e => by injection e with e; injection e with e; omega, Fresh.one0 (rowB hb11 (rowR HG10.out HD9.out (fun e => by injection e with e; omega))) (Nat.le_refl _), fun b hb => by injection hb with hb; simp only at hb; omega, by omega, by omega, by omega⟩
    refine ⟨_, _, fun _ => .slice A1 trk.length c1, fun j => if j = 0 then w7.heap.size else w8.heap.size, rfl, ⟨fun i hi => ?_, fun i hi => ?_, fun i hi b hb => ?_, fun i hi => ?_⟩, Nat.le_refl _, ?_, fun g off s e => ?_⟩
    · obtain rfl : i = 0 := by simpa using hi
      refine ⟨w8.heap.size, rfl, by omega, cell_of_row w11 _ 0 _ _ (0, 0) hl8, fun j hj e => ?_⟩
      have := (World.ownsRow.lt HF8.out _ e).2
      omega
    · obtain rfl : i = 0 := by simpa using hi
      exact h8
    · obtain rfl : i = 0 := by simpa using hi
      exact (World.ownsRow.lt HF8.out b hb).2
    · obtain rfl : i = 0 := by simpa using hi
      simpa using hz8
    · simp
    · injection e with e
      injection e with e
      omega
  obtain ⟨m, hm⟩ : ∃ m, p.moves.length = m := ⟨_, rfl⟩
  rw [hm] at hm8 hc11 HI11 HR11 ⊢
  have HM := Lib.hid hm
  have hml : (mvsOf p.moves).length = 2 * m := by rw [mvsOf_len, hm]
  have HML := Lib.hid hml
  clear hF11 hI11 hb11 hm hml hl11 HF10 HG10 HR10 HBW10 HL9 HD9 HB69 HB89 HB78 HB8 HS6 HF6 HB6 HR6 HF8 HI8 HF7 HB7 HBW7 ht1 ht2
  obtain ⟨vt, hvt⟩ : ∃ vt, Value.slice At trk.length ct = vt := ⟨_, rfl⟩
  obtain ⟨M, hMM⟩ : ∃ M, w11.heap.size = M := ⟨_, rfl⟩
  have hA11 : ∀ g off s, A11 = some ⟨g, off, s⟩ → 0 < (letsOf m).length → g < M ∧ g ≠ f := fun g off s e h0 => by
    have := HI11.out.first h0 e
    have := HLB11 g off s e
    omega
  have hw1 : w.heap.size < f := by omega
  have hw2 : w.heap.size < M := by omega
  have HVT := Lib.hid hvt
  rw [hvt] at HFL0
  clear hvt
  have HN0 : Hid (NewRel w M f (w.heap.size + 1) vt (.slice (some ⟨w8.heap.size, 0, none⟩) 1 1) (.slice (some ⟨w8.heap.size + 1, 0, none⟩) 1 1) trk key A11 m (.cells #[.int .i64 p.pts, .string p.names, .slice A m c] 29 (0, 0)) w11 [] w11 (.slice none 0 0)) := ⟨HFL0.out, (fun b hb => by cases hb), HI11.out, HR11.out, HBW11.out, by omega, fun _ _ _ => rfl⟩
  clear HFL0 HR11 HI11 HBW11
  go_wp2_with fail
  go_loopw [30] (fun i wr => ∃ (k : Nat) (vm : Value), i = .int .i64 k ∧ k ≤ 2 * m ∧ NewRel w M f (w.heap.size + 1) vt (.slice (some ⟨w8.heap.size, 0, none⟩) 1 1) (.slice (some ⟨w8.heap.size + 1, 0, none⟩) 1 1) trk key A11 m (.cells #[.int .i64 p.pts, .string p.names, .slice A m c] 29 (0, 0)) w11 ((mvsOf p.moves).take k) wr vm ∧ M ≤ wr.heap.size) (fun i _ => 2 * m - (intOf i).toNat)
  case atStart => exact ⟨0, _, rfl, Nat.zero_le _, HN0.out, by omega⟩
  case round =>
    obtain ⟨k, vm, rfl, hk, hN, hMr⟩ := hrel
    clear HN0
    have HN := Lib.hid hN
    by_cases hlt : k < 2 * m
    · obtain ⟨b, off, rfl, hbl, hc0⟩ := hN.2.2.1 k (by rw [letsOf_len]; exact hlt)
      have HA := Lib.hid (fun g off2 s e => hA11 g off2 s e (by rw [letsOf_len]; omega))
      obtain ⟨y, hy⟩ : ∃ y, (letsOf m).getD k 0 = y := ⟨_, rfl⟩
      rw [hy] at hc0
      have HCALL := Lib.hid (fun (wx : World) (hb : Below w.heap.size w wx) => implLetterAt A c N p.moves k w wx HP.out.at_ hb (by rw [HM.out]; exact hlt) (by rw [HM.out]; omega) HMV.out (by omega))
      rw [HM.out, hy] at HCALL
      obtain ⟨ys, hys⟩ : ∃ ys, (mvsOf p.moves).getD k [] = ys := ⟨_, rfl⟩
      obtain ⟨qs, hqs⟩ : ∃ qs, (mvsOf p.moves).take k = qs := ⟨_, rfl⟩
      have HQN : Hid ((mvsOf p.moves).take (k + 1) = qs ++ [ys]) := by unfold Hid; rw [take_snocL _ _ (by rw [HML.out]; exact hlt), hqs, hys]
      have hql : qs.length ≤ 1048576 := by rw [← hqs, List.length_take]; omega
      rw [hys] at HCALL
      rw [hqs] at HN
      have p0 : (0 : Int) ≤ (k : Int) := by omega
      have p1 : (k : Int) < 2 * (m : Int) := by omega
      clear hN hy hys hqs hA11
      have c6 : wr.cell? ⟨f, 6, none⟩ = some vm := cell_of_row wr f 6 _ _ (0, 0) HN.out.1.row
      have cb2 : wr.cell? ⟨w.heap.size, 2, none⟩ = some (.slice A m c) := cell_of_row wr w.heap.size 2 _ _ (0, 0) HN.out.2.2.2.1
      go_upto_region 6 with fail
      go_region_law (first
        | (refine step_append_gr (by rfl) _ _ (by rfl) w.heap.size _ vm qs ys Ay cy (by rfl) (by exact HN12.out.1.st.moves.below (by repeat (first | exact Below.refl _ _ | assumption | refine Below.setCell ?_ (by first | omega | (simp <;> omega)) _ | refine Below.alloc ?_ (by first | omega | (simp <;> omega)) _ | refine Below.drew ?_))) (fun b hb => by have := HN12.out.1.zM (by omega) b hb; simp; omega) w12.heap.size (by rfl) (by simp) HCY.out (by exact HIY.out.below (by repeat (first | exact Below.refl _ _ | assumption | refine Below.setCell ?_ (by first | omega | (simp <;> omega)) _ | refine Below.alloc ?_ (by first | omega | (simp <;> omega)) _ | refine Below.drew ?_))) (fun h0 g off s e => ⟨fun h1 => by have := HZ.out g h1; rcases HSEP.out h0 g off s e with h2 | h2 <;> omega, fun e2 => by have := HMO.out g e2; rcases HSEP.out h0 g off s e with h2 | h2 <;> omega⟩) hql (by simp; omega) ?_; intro A13 c13 w13 hG13 hg13 hat13
            ; have hr13 := rowR hg13 (rowB (by exact (by repeat (first | exact Below.refl _ _ | assumption | refine Below.setCell ?_ (by first | omega | (simp <;> omega)) _ | refine Below.alloc ?_ (by first | omega | (simp <;> omega)) _ | refine Below.drew ?_))) HN12.out.1.row) (fun e => (HMO.out f e).2.2 (.inl (.inl rfl)))
            ; have k6 := cell_of_row w13 f 6 _ _ (0, 0) hr13
            ; have kf : w13.frozen? ⟨f, 6, none⟩ = false := row_free hr13
            ; have HFIN := Lib.hid (NewRel.push (HN12.out.below (by exact (by repeat (first | exact Below.refl _ _ | assumption | refine Below.setCell ?_ (by first | omega | (simp <;> omega)) _ | refine Below.alloc ?_ (by first | omega | (simp <;> omega)) _ | refine Below.drew ?_)))) HA.out hw1 hw2 (by simp; omega) hG13 hg13 hat13)
            ; have hz13 := hg13.size
            ; clear hG13 hg13 hat13 hr13)
        | (go_simp; go_at_call 89; refine (HCALL.out _ (by exact HN.out.2.2.2.2.1.drew)).mono ?_; rintro e w12 ⟨Ay, cy, rfl, hcy, hIy, hsep, hb12⟩
            ; have HCY := Lib.hid hcy
            ; have HIY := Lib.hid hIy
            ; have HSEP : Hid (0 < ys.length → ∀ g off s, Ay = some ⟨g, off, s⟩ → g < w.heap.size ∨ wr.heap.size ≤ g) := hsep
            ; have HN12 := Lib.hid ((HN.out.below (by exact (by repeat (first | exact Below.refl _ _ | assumption | refine Below.setCell ?_ (by first | omega | (simp <;> omega)) _ | refine Below.alloc ?_ (by first | omega | (simp <;> omega)) _ | refine Below.drew ?_)))).below hb12)
            ; have HZ := Lib.hid (HN.out.1.zM (by omega))
            ; have HMO := Lib.hid HN.out.1.st.moves.own
            ; have hz12 : wr.heap.size ≤ w12.heap.size := hb12.size
            ; have j6 : w12.cell? ⟨f, 6, none⟩ = some vm := cell_of_row w12 f 6 _ _ (0, 0) HN12.out.1.row
            ; have jf : w12.frozen? ⟨f, 6, none⟩ = false := row_free HN12.out.1.row
            ; have jn := World.new_ne _ _ j6
            ; have jl := World.block_lt_of_cell? _ _ j6
            ; dsimp only at jn jl
            ; clear hcy hIy hsep hb12))
      all_goals
        clear c6 cb2 k6 kf j6 jf
        go_wp2_with fail
        go_roundw
        case rel => exact ⟨k + 1, _, by go_num, by omega, by rw [HQN.out]; exact HFIN.out, by simp at hz13 ⊢; omega⟩
        case measure => simp [intOf]; omega
    · obtain rfl : k = 2 * m := by omega
      rw [List.take_of_length_le (by rw [HML.out]; omega)] at HN
      clear hN hA11
      go_wp2_with fail
      go_ret
      exact ⟨_, w.heap.size + 1, _, _, _, _, _, _, _, _, rfl, Nat.le_succ _, by rw [HKEY.out, HVT.out]; exact HN.out.1, HTB.out.keep (by omega) (fun b b1 b2 => HN.out.2.2.2.2.2.2 b (by omega) (by omega)), by omega, HN.out.2.2.2.2.1⟩
end
section
open Go.RowKit Grp

set_option maxRecDepth 3000 in
set_option maxHeartbeats 1000000 in
theorem eqI (A B : Option Addr) (c d n : Nat) (xs ys : List Int) (w : World) (hx : IntsAt w A xs) (hy : IntsAt w B ys) (hxl : xs.length = n) (hyl : ys.length = n) (hn : n ≤ 1048576) :
    Calls Try.prog 120 #[.slice A n c, .slice B n d] w (Quiet (.bool (decide (xs = ys))) w) := by
  obtain ⟨b0, hb0⟩ : ∃ b0, decide (xs = ys) = b0 := ⟨_, rfl⟩
  rw [hb0]
  have HB0 := Lib.hid hb0
  have HXL := Lib.hid hxl
  have HYL := Lib.hid hyl
  clear hb0
  go_enter Try.func120, Try.ntmps120
  go_wp2_with fail
  go_loopw [13] (fun z wr => ∃ (k nd : Nat), k ≤ n ∧ z = .int .i64 (k : Int) ∧ Hid (EqAt xs ys k) ∧ wr = w.drewN nd) (fun z _ => n - (intOf z).toNat)
  case atStart => exact ⟨0, 0, Nat.zero_le _, rfl, fun j hj => absurd hj (Nat.not_lt_zero _), rfl⟩
  case round =>
    obtain ⟨k, nd, hk, rfl, HE, hwr⟩ := hrel
    have HD : Hid (∀ m, ∃ l, wr.drewN m = w.drewN l) := fun m => ⟨nd + m, by rw [hwr, World.drewN_drewN]⟩
    by_cases hlt : k < n
    · obtain ⟨b, off, x, rfl, hb, hc0, HX⟩ := hx.at_ (k := k) (by omega)
      obtain ⟨b', off', y, rfl, hb', hc0', HY⟩ := hy.at_ (k := k) (by omega)
      have hcx : wr.cell? ⟨b, off + k, none⟩ = some (.int .i64 x) := by rw [hwr]; exact hc0
      have hcy : wr.cell? ⟨b', off' + k, none⟩ = some (.int .i64 y) := by rw [hwr]; exact hc0'
      have p0 : (0 : Int) ≤ (k : Int) := by omega
      have p1 : (k : Int) < (n : Int) := by omega
      clear hwr hxl hyl
      by_cases he : x = y
      · subst he
        have HE2 : Hid (EqAt xs ys (k + 1)) := HE.out.more (by rw [HX.out, HY.out])
        go_wp2_with fail
        go_quiet (fail)
        go_wp2_with fail
        go_roundw
        case rel => exact ⟨k + 1, (HD.out _).choose, by omega, by go_num, HE2, (HD.out _).choose_spec⟩
        case measure => simp [intOf]; omega
      · have hne : (x == y) = false := by simpa using he
        have HF : Hid (false = b0) := by
          unfold Hid
          rw [← HB0.out]
          exact (decide_eq_false (fun e => he (by rw [← HX.out, ← HY.out, e]))).symm
        go_wp2_with fail
        go_quiet (fail)
        go_wp2_with fail
        go_ret
        exact ⟨ret_bool HF.out, HD.out _⟩
    · obtain rfl : k = n := by omega
      have HT : Hid (true = b0) := by
        unfold Hid
        rw [← HB0.out]
        exact (decide_eq_true (eq_of_getD (by rw [HXL.out, HYL.out]) (by rw [HXL.out]; exact HE.out))).symm
      clear hwr
      go_wp2_with fail
      go_ret
      exact ⟨ret_bool HT.out, by have := HD.out 0; rwa [World.drewN_zero] at this⟩
theorem inL_no {ls : List (List Int)} {x : List Int} (h : ∀ j, j < ls.length → ls.getD j [] ≠ x) : inL ls x = false := by
  rw [← Bool.not_eq_true, inL_iff]
  intro hm
  obtain ⟨i, h1, h2⟩ := List.mem_iff_getElem.1 hm
  refine h i h1 ?_
  rw [List.getD_eq_getElem?_getD, List.getElem?_eq_getElem h1]
  exact h2
theorem inL_at {ls : List (List Int)} {x : List Int} {i : Nat} (hi : i < ls.length) (h : ls.getD i [] = x) : inL ls x = true := by
  rw [inL_iff, ← h, List.getD_eq_getElem?_getD, List.getElem?_eq_getElem hi]
  exact List.getElem_mem hi
set_option maxRecDepth 100000 in
set_option maxHeartbeats 1000000 in
theorem idxClo (Ai Ax : Option Addr) (ci cx L g : Nat) (y x : List Int) (w : World) (hy : IntsAt w Ai y) (hx : IntsAt w Ax x) (hyl : y.length = L) (hxl : x.length = L) (hL : L ≤ 1048576) (hbox : w.cell? ⟨g, 0, none⟩ = some (.slice Ax L cx)) :
    Calls Try.prog 123 #[.slice Ai L ci, .pointer (some ⟨g, 0, none⟩)] w (Quiet (.bool (decide (y = x))) w) := by
  have HC := Lib.hid (eqI Ai Ax ci cx L y x w hy hx hyl hxl hL)
  clear hy hx
  go_enter Try.func123, Try.ntmps123
  go_wp2_with fail
  refine HC.out.mono ?_
  rintro e w1 ⟨rfl, n1, rfl⟩
  go_wp2_with fail
  go_ret
  exact ⟨rfl, n1, rfl⟩
def IdxPost (ls : List (List Int)) (x : List Int) (w : World) (e : Ending) (w' : World) : Prop := ∃ r : Int, e = .returned (.int .i64 r) ∧ decide (0 ≤ r) = inL ls x ∧ Below w.heap.size w w'
set_option maxRecDepth 100000 in
set_option maxHeartbeats 1000000 in
theorem idxFunc (A Ax : Option Addr) (c cx n L g : Nat) (ls : List (List Int)) (x : List Int) (w : World) (hl : LAt w A ls) (hx : IntsAt w Ax x) (hn : ls.length = n) (hn1 : n ≤ 1048576) (hr : ∀ i, i < n → (ls.getD i []).length = L) (hxl : x.length = L) (hL : L ≤ 1048576) (hg : g < w.heap.size) (hbox : w.cell? ⟨g, 0, none⟩ = some (.slice Ax L cx)) :
    Calls Try.prog 122 #[.slice A n c, .func (.func 123) #[] #[.pointer (some ⟨g, 0, none⟩)]] w (IdxPost ls x w) := by
  have HL := Lib.hid hl
  have HX := Lib.hid hx
  have HN := Lib.hid hn
  have HR := Lib.hid hr
  have HXL := Lib.hid hxl
  have HBOX := Lib.hid hbox
  clear hl hx hn hr hxl hbox
  go_enter Try.func122, Try.ntmps122
  go_wp2_with fail
  go_loopw [5, 8] (fun i j wr => ∃ k : Nat, k ≤ n ∧ j = .int .i64 k ∧ Hid (∀ i, i < k → ls.getD i [] ≠ x) ∧ Below w.heap.size w wr) (fun _ j _ => n - (intOf j).toNat)
  case atStart => exact ⟨0, Nat.zero_le _, rfl, fun i hi => by omega, Below.refl _ _⟩
  case round =>
    obtain ⟨k, hk, rfl, HNO, hB⟩ := hrel
    by_cases hlt : k < n
    · obtain ⟨b, off, Ai, ci, rfl, h1, h2, h3, h4⟩ := (HL.out.below hB) k (by rw [HN.out]; exact hlt)
      rw [HR.out k hlt] at h2 h3
      obtain ⟨y, hy⟩ : ∃ y, ls.getD k [] = y := ⟨_, rfl⟩
      have hyl : y.length = L := by rw [← hy]; exact HR.out k hlt
      rw [hy] at h4
      have q0 : (0 : Int) ≤ (k : Int) := by omega
      have q1 : (k : Int) < (n : Int) := by omega
      have HCL := Lib.hid (idxClo Ai Ax ci cx L g y x wr h4 (HX.out.below hB) hyl HXL.out hL ((hB.cell (p := ⟨g, 0, none⟩) hg).trans HBOX.out))
      have HYY := Lib.hid hy
      have HB := Lib.hid hB
      clear h4 hyl hy hB
      by_cases he : y = x
      · have hq : decide (y = x) = true := decide_eq_true he
        rw [hq] at HCL
        have HIN : Hid (inL ls x = true) := inL_at (by rw [HN.out]; exact hlt) (HYY.out.trans he)
        clear he hq
        go_wp2_with (first | (go_at_call 123; refine HCL.out.mono ?_; rintro e w1 ⟨rfl, n1, rfl⟩))
        go_ret
        exact ⟨k, rfl, by rw [HIN.out]; exact decide_eq_true q0, belowDrewN HB.out _⟩
      · have hq : decide (y = x) = false := decide_eq_false he
        rw [hq] at HCL
        have HNE : Hid (y ≠ x) := he
        clear he hq
        go_wp2_with (first | (go_at_call 123; refine HCL.out.mono ?_; rintro e w1 ⟨rfl, n1, rfl⟩))
        go_roundw
        case rel =>
          refine ⟨k + 1, by omega, by go_num, fun i hi => ?_, belowDrewN HB.out _⟩
          by_cases e : i = k
          · rw [e, HYY.out]; exact HNE.out
          · exact HNO.out i (by omega)
        case measure => simp [intOf]; omega
    · obtain rfl : k = n := by omega
      have HOUT : Hid (inL ls x = false) := inL_no (by rw [HN.out]; exact HNO.out)
      go_wp2
      go_ret
      exact ⟨-1, rfl, HOUT.out.symm, hB⟩
set_option maxRecDepth 100000 in
set_option maxHeartbeats 1000000 in
theorem implIdx (A Ax : Option Addr) (c cx n L : Nat) (ls : List (List Int)) (x : List Int) (w : World) (hl : LAt w A ls) (hx : IntsAt w Ax x) (hn : ls.length = n) (hn1 : n ≤ 1048576) (hr : ∀ i, i < n → (ls.getD i []).length = L) (hxl : x.length = L) (hL : L ≤ 1048576) :
    Calls Try.prog 97 #[.slice A n c, .slice Ax L cx] w (IdxPost ls x w) := by
  have hb : Below w.heap.size w (w.alloc (.cells #[.slice Ax L cx] 31)) := (by repeat (first | exact Below.refl _ _ | assumption | refine Below.setCell ?_ (by first | omega | (simp <;> omega)) _ | refine Below.alloc ?_ (by first | omega | (simp <;> omega)) _ | refine Below.drew ?_))
  have HC := Lib.hid (idxFunc A Ax c cx n L w.heap.size ls x (w.alloc (.cells #[.slice Ax L cx] 31)) (hl.below hb) (hx.below hb) hn hn1 hr hxl hL (by simp) (by simp))
  have HB := Lib.hid hb
  clear hl hx hn hr hxl hb
  go_enter Try.func97, Try.ntmps97
  go_wp2_with (first | (go_at_call 122; refine HC.out.mono ?_; rintro e w1 ⟨r, rfl, hr, hb1⟩; have HR := Lib.hid hr; clear hr))
  go_ret
  exact ⟨r, rfl, HR.out, belowStep hb1 HB.out⟩
end
section
open Go.RowKit Grp

def StartYes (p : Pz) (trk : List Int) (w : World) (e : Ending) (w' : World) : Prop :=
  ∃ lo f bm At ct Al Ad vm m1 m2 hi, w.heap.size ≤ lo ∧ lo ≤ bm ∧ e = .returned (.tuple #[.pointer (some ⟨f, 0, none⟩), .bool true]) ∧ FlAt lo f bm w' (.slice At trk.length ct) (.slice Al 1 1) (.slice Ad 1 1) vm trk (mvsOf p.moves) [trk] [0] 0 ⟨#[]⟩ 0 1 [strOfNums trk] ∧ FTb (f + 1) hi w' At ct Al 1 Ad 1 m1 m2 ⟨trk, [trk], [0]⟩ ∧ hi ≤ w'.heap.size ∧ Below w.heap.size w w'
def StartNo (w : World) (e : Ending) (w' : World) : Prop := e = .returned (.tuple #[.pointer none, .bool false]) ∧ Below w.heap.size w w'
theorem build_parts {p : Pz} {trk : List Int} (h : buildQ p trk = true) : ∃ N : Nat, p.pts = (N : Int) ∧ N ≤ 20 ∧ MvsOk N p.moves ∧ p.moves.length ≤ 8 ∧ PtsOk N trk.length trk ∧ 0 < trk.length := by
  unfold buildQ at h
  rw [Bool.and_eq_true] at h
  exact trk_parts h.1
set_option maxRecDepth 100000 in
set_option maxHeartbeats 1000000 in
theorem implStart (A : Option Addr) (c : Nat) (p : Pz) (A2 : Option Addr) (c2 : Nat) (trk : List Int) (w : World) (h : PzAt w A p) (hx : IntsAt w A2 trk) (hl : trk.length ≤ 1048576) :
    Calls Try.prog 58 #[.agg #[.int .i64 p.pts, .string p.names, .slice A p.moves.length c], .slice A2 trk.length c2] w fun e w' => if buildQ p trk = true then StartYes p trk w e w' else StartNo w e w' := by
  have HP := Lib.hid h
  have HX := Lib.hid hx
  obtain ⟨q, hq⟩ : ∃ q, buildQ p trk = q := ⟨_, rfl⟩
  have HQ := Lib.hid hq
  have HC := Lib.hid (fun wx hw hw2 => implBuild A c p A2 c2 trk wx hw hw2 hl)
  rw [hq] at HC ⊢
  clear hx h hq
  obtain ⟨w0, hw0⟩ : ∃ w0, w.alloc (.cells #[.int .i64 p.pts, .string p.names, .slice A p.moves.length c] 29) = w0 := ⟨_, rfl⟩
  have hb : Below w.heap.size w w0 := by rw [← hw0]; exact (by repeat (first | exact Below.refl _ _ | assumption | refine Below.setCell ?_ (by first | omega | (simp <;> omega)) _ | refine Below.alloc ?_ (by first | omega | (simp <;> omega)) _ | refine Below.drew ?_))
  have r0 : w0.heap[w.heap.size]? = some (.cells #[.int .i64 p.pts, .string p.names, .slice A p.moves.length c] 29 (0, 0)) := by rw [← hw0]; exact heap_alloc_new _ _
  obtain ⟨p0, p1, p2, -, -⟩ := row3 r0
  have HR0 := Lib.hid r0
  clear r0
  go_enter Try.func58, Try.ntmps58
  go_wp2_with fail
  clear hw0
  refine (HC.out _ (HP.out.below hb) (HX.out.below hb)).mono ?_
  rintro e w1 ⟨B1, n1, k1, B2, n2, k2, B3, n3, k3, rfl, hb1⟩
  obtain ⟨w2, hw2⟩ : ∃ w2, w1.alloc (.cells #[.slice B1 n1 k1, .slice B2 n2 k2, .slice B3 n3 k3] 34) = w2 := ⟨_, rfl⟩
  have hb2 : Below w1.heap.size w1 w2 := by rw [← hw2]; exact (by repeat (first | exact Below.refl _ _ | assumption | refine Below.setCell ?_ (by first | omega | (simp <;> omega)) _ | refine Below.alloc ?_ (by first | omega | (simp <;> omega)) _ | refine Below.drew ?_))
  have hr2 := rowB hb2 (rowB hb1 HR0.out)
  have hB2 := belowStep hb2 (belowStep hb1 hb)
  clear p0 p1 p2 hb1 hb hb2
  obtain ⟨p0, p1, p2, -, -⟩ := row3 hr2
  clear hr2
  cases q with
  | false =>
    go_wp2_with fail
    go_ret2
    exact ⟨rfl, hB2⟩
  | true =>
    obtain ⟨N, hN, hN20, hmv, hm8, hpt, hne⟩ := build_parts HQ.out
    have HMV := Lib.hid hmv
    have HPT := Lib.hid hpt
    clear hmv hpt hN
    go_wp2_with fail
    refine (implNew A c p A2 c2 trk N _ (HP.out.below hB2) (HX.out.below hB2) HMV.out hm8 hN20 HPT.out hne hl).mono ?_
    rintro e w3 ⟨f, bm, At, ct, Al, Ad, vm, m1, m2, hi, rfl, hbm, hFL, hTB, hhi, hb3⟩
    have hB3 := belowStep hb3 hB2
    have hz2 := hB2.size
    have HFL := Lib.hid hFL
    have HTB := Lib.hid hTB
    clear hFL hTB hb3
    go_wp2_with fail
    go_ret2
    exact ⟨_, f, bm, At, ct, Al, Ad, vm, m1, m2, hi, hz2, hbm, rfl, HFL.out, HTB.out, hhi, hB3⟩
/-- A new job. -/
def JobYes (trk : List Int) (w : World) (e : Ending) (w' : World) : Prop :=
  ∃ At ct Al Ad lo m1 m2 hi, w.heap.size ≤ lo ∧ e = .returned (.tuple #[.agg #[.slice At trk.length ct, .slice Al 1 1, .slice Ad 1 1, .int .i64 0, .string ⟨#[]⟩, .int .i64 0], .bool true]) ∧ FTb lo hi w' At ct Al 1 Ad 1 m1 m2 ⟨trk, [trk], [0]⟩ ∧ hi ≤ w'.heap.size ∧ Below w.heap.size w w'
def JobNo (w : World) (e : Ending) (w' : World) : Prop := e = .returned (.tuple #[.agg #[.slice none 0 0, .slice none 0 0, .slice none 0 0, .int .i64 0, .string ⟨#[]⟩, .int .i64 0], .bool false]) ∧ Below w.heap.size w w'
theorem row6S {w : World} {g : Nat} {a b c d e f : Value} {T : TypeId} (h : w.heap[g]? = some (.cells #[a, b, c, d, e, f] T (0, 0))) (x y z u v t : Value) : ((((((w.setCell ⟨g, 0, none⟩ x).setCell ⟨g, 1, none⟩ y).setCell ⟨g, 2, none⟩ z).setCell ⟨g, 3, none⟩ u).setCell ⟨g, 4, none⟩ v).setCell ⟨g, 5, none⟩ t).heap[g]? = some (.cells #[x, y, z, u, v, t] T (0, 0)) := rowSet t (rowSet v (rowSet u (rowSet z (rowSet y (rowSet x h)))))
theorem row6 {w : World} {g : Nat} {a b c d e f : Value} {T : TypeId} (h : w.heap[g]? = some (.cells #[a, b, c, d, e, f] T (0, 0))) : w.cell? ⟨g, 0, none⟩ = some a ∧ w.cell? ⟨g, 1, none⟩ = some b ∧ w.cell? ⟨g, 2, none⟩ = some c ∧ w.cell? ⟨g, 3, none⟩ = some d ∧ w.cell? ⟨g, 4, none⟩ = some e ∧ w.cell? ⟨g, 5, none⟩ = some f ∧ (∀ p, w.frozen? ⟨g, p, none⟩ = false) ∧ g < w.heap.size :=
  ⟨cell_of_row w g 0 _ _ (0, 0) h, cell_of_row w g 1 _ _ (0, 0) h, cell_of_row w g 2 _ _ (0, 0) h, cell_of_row w g 3 _ _ (0, 0) h, cell_of_row w g 4 _ _ (0, 0) h, cell_of_row w g 5 _ _ (0, 0) h, fun _ => row_free h, row_lt h⟩
theorem belSet6 {B g : Nat} {w w1 : World} (hB : Below B w w1) (h : B ≤ g) (x y z u v t : Value) : Below B w ((((((w1.setCell ⟨g, 0, none⟩ x).setCell ⟨g, 1, none⟩ y).setCell ⟨g, 2, none⟩ z).setCell ⟨g, 3, none⟩ u).setCell ⟨g, 4, none⟩ v).setCell ⟨g, 5, none⟩ t) :=
  (((((hB.setCell (p := ⟨g, 0, none⟩) h _).setCell (p := ⟨g, 1, none⟩) h _).setCell (p := ⟨g, 2, none⟩) h _).setCell (p := ⟨g, 3, none⟩) h _).setCell (p := ⟨g, 4, none⟩) h _).setCell (p := ⟨g, 5, none⟩) h _
set_option maxRecDepth 100000 in
set_option maxHeartbeats 8000000 in
theorem implStartFill (A : Option Addr) (c : Nat) (p : Pz) (A2 : Option Addr) (c2 : Nat) (trk : List Int) (w : World) (h : PzAt w A p) (hx : IntsAt w A2 trk) (hl : trk.length ≤ 1048576) :
    Calls Try.prog 22 #[.agg #[.int .i64 p.pts, .string p.names, .slice A p.moves.length c], .slice A2 trk.length c2] w fun e w' => if buildQ p trk = true then JobYes trk w e w' else JobNo w e w' := by
  have HP := Lib.hid h
  have HX := Lib.hid hx
  obtain ⟨q, hq⟩ : ∃ q, buildQ p trk = q := ⟨_, rfl⟩
  have HQ := Lib.hid hq
  have HC := Lib.hid (fun wx hw hw2 => implStart A c p A2 c2 trk wx hw hw2 hl)
  rw [hq] at HC ⊢
  clear hx h hq
  obtain ⟨w0, hw0⟩ : ∃ w0, (w.alloc (.cells #[.int .i64 p.pts, .string p.names, .slice A p.moves.length c] 29)).alloc (.cells #[.slice none 0 0, .slice none 0 0, .slice none 0 0, .int .i64 0, .string ⟨#[]⟩, .int .i64 0] 45) = w0 := ⟨_, rfl⟩
  have hb : Below w.heap.size w w0 := by rw [← hw0]; exact (by repeat (first | exact Below.refl _ _ | assumption | refine Below.setCell ?_ (by first | omega | (simp <;> omega)) _ | refine Below.alloc ?_ (by first | omega | (simp <;> omega)) _ | refine Below.drew ?_))
  have hz0 : w0.heap.size = w.heap.size + 2 := by rw [← hw0]; simp
  have r0 : w0.heap[w.heap.size]? = some (.cells #[.int .i64 p.pts, .string p.names, .slice A p.moves.length c] 29 (0, 0)) := by rw [← hw0]; exact alloc2_0 _ _ _
  have r1 : w0.heap[w.heap.size + 1]? = some (.cells #[.slice none 0 0, .slice none 0 0, .slice none 0 0, .int .i64 0, .string ⟨#[]⟩, .int .i64 0] 45 (0, 0)) := by rw [← hw0]; exact alloc2_1 _ _ _
  obtain ⟨p0, p1, p2, -, -⟩ := row3 r0
  have HR1 := Lib.hid r1
  clear r0 r1
  go_enter Try.func22, Try.ntmps22
  go_wp2_with fail
  clear hw0 p0 p1 p2
  refine (HC.out _ (HP.out.below hb) (HX.out.below hb)).mono ?_
  intro e w1 hpost
  cases q with
  | false =>
    obtain ⟨rfl, hb1⟩ := hpost
    have hr1 := rowB hb1 HR1.out
    have hB1 := belowStep hb1 hb
    obtain ⟨k0, k1, k2, k3, k4, k5, kf, kl⟩ := row6 hr1
    have HR := Lib.hid hr1
    clear HP HX HC hr1
    go_wp2_with fail
    obtain ⟨y0, y1, y2, y3, y4, y5, -, -⟩ := row6 (row6S HR.out (.slice none 0 0) (.slice none 0 0) (.slice none 0 0) (.int .i64 0) (.string ⟨#[]⟩) (.int .i64 0))
    refine bodyPost_ret (v := .tuple #[.agg #[.slice none 0 0, .slice none 0 0, .slice none 0 0, .int .i64 0, .string ⟨#[]⟩, .int .i64 0], .bool false]) (by simp [results, Try.results22, go_sem, y0, y1, y2, y3, y4, y5]) rfl ?_
    exact ⟨rfl, belSet6 hB1 (by omega) _ _ _ _ _ _⟩
  | true =>
    obtain ⟨lo, f, bm, At, ct, Al, Ad, vm, m1, m2, hi, hlo, -, rfl, hFL, hTB, hhi, hb1⟩ := hpost
    have hr1 := rowB hb1 HR1.out
    have hB1 := belowStep hb1 hb
    have hrf := hFL.row
    have hfl := hFL.lof
    have g0 := cell_of_row w1 f 0 _ _ (0, 0) hrf
    have g1 := cell_of_row w1 f 1 _ _ (0, 0) hrf
    have g2 := cell_of_row w1 f 2 _ _ (0, 0) hrf
    have g3 := cell_of_row w1 f 3 _ _ (0, 0) hrf
    have g4 := cell_of_row w1 f 4 _ _ (0, 0) hrf
    have g5 := cell_of_row w1 f 5 _ _ (0, 0) hrf
    obtain ⟨k0, k1, k2, k3, k4, k5, kf, kl⟩ := row6 hr1
    have HR := Lib.hid hr1
    have HTB := Lib.hid hTB
    clear HP HX HC hFL hTB hrf hr1
    go_wp2_with fail
    obtain ⟨y0, y1, y2, y3, y4, y5, -, -⟩ := row6 (row6S HR.out (.slice At trk.length ct) (.slice Al 1 1) (.slice Ad 1 1) (.int .i64 0) (.string ⟨#[]⟩) (.int .i64 0))
    refine bodyPost_ret (v := .tuple #[.agg #[.slice At trk.length ct, .slice Al 1 1, .slice Ad 1 1, .int .i64 0, .string ⟨#[]⟩, .int .i64 0], .bool true]) (by simp [results, Try.results22, go_sem, y0, y1, y2, y3, y4, y5]) rfl ?_
    refine ⟨At, ct, Al, Ad, f + 1, m1, m2, hi, by omega, rfl, HTB.out.keep (by simp) (fun b h1 h2 => ?_), by simpa using hhi, belSet6 hB1 (by omega) _ _ _ _ _ _⟩
    have hne : ∀ (wx : World) (p : Nat) (v : Value), (wx.setCell ⟨w.heap.size + 1, p, none⟩ v).heap[b]? = wx.heap[b]? := fun wx p v => heap_setCell_other _ _ b _ (by simp; omega)
    simp only [hne]
end
end Go.Proofs.Ytfhdnanbhigpmaa
