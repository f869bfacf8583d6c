/- Plain facts on the fill jobs of drawn puzzles. Conditions: as each theorem says. Where the laws on drawn fill jobs keep what they have drawn. Conditions: as each theorem says. A drawn fill job synced, crashed and finished. Conditions: as each theorem says. -/
import Derived.Test.YtfhdnanbhigpmaaPf
import Derived.Test.YtfhdnanbhigpmaaYp
import Derived.Test.YtfhdnanbhigpmaaXv
import Derived.Test.YtfhdnanbhigpmaaRw
import Derived.Test.YtfhdnanbhigpmaaXt
namespace Go.Proofs.Ytfhdnanbhigpmaa
section
open Go.RowKit Grp

theorem valid_ch {p : Pz} {trk : List Int} {i : Nat} {sy : Int} (hq : buildQ p trk = true) (hi : chOk (mvsOf p.moves) trk i) (hs : (chF (mvsOf p.moves) trk i).2.size ≤ 60000) (h0 : 0 ≤ sy) (h1 : sy ≤ ((chF (mvsOf p.moves) trk i).2.size : Int)) : validF p (chT p trk i) (i : Int) (chF (mvsOf p.moves) trk i).2 sy = true :=
  validF_iff.2 ⟨hs, by omega, h0, h1, hq, by simpa [chT] using hi, by simp [chT], by simp [chT], by simp [chT]⟩
theorem short_ch {p : Pz} {trk : List Int} {i : Nat} (hq : buildQ p trk = true) (hi : chOk (mvsOf p.moves) trk i) : ShortT (chT p trk i) := by
  obtain ⟨N, g1, g2, g3, g4, g5, g6⟩ := ch_full hq
  have := (g6 i hi).1
  unfold chT
  exact ⟨by dsimp only; omega, by dsimp only; have := this.cap; omega, fun j hj => by dsimp only at hj ⊢; have := (this.rows j hj).1; omega, by dsimp only; rw [this.len]; have := this.cap; omega⟩
theorem ch_zero {p : Pz} {trk : List Int} : chT p trk 0 = ⟨trk, [trk], [0]⟩ := rfl
theorem pref_cut (b : ByteArray) (k : Nat) : prefB (b.extract 0 k) b := by
  unfold prefB
  rw [ba_ext, List.drop_zero]
  exact List.take_prefix _ _
/-- The whole log gives back its job. -/
theorem rec_self {mvs : List (List Int)} {trk : List Int} {i : Nat} (hi : chOk mvs trk i) : RecAt mvs trk (chF mvs trk i).2 i :=
  ⟨hi, pref_self _, fun q => by have := q.2.size; have := ch_grow (mvs := mvs) (trk := trk) i; omega⟩
/-- What a cut log gives is no more than what the log gives, its log lies in both. -/
theorem rec_cut {mvs : List (List Int)} {trk : List Int} {i k m : Nat} (hi : chOk mvs trk i) (hk : k ≤ (chF mvs trk i).2.size) (h : RecAt mvs trk ((chF mvs trk i).2.extract 0 k) m) : m ≤ i ∧ (chF mvs trk m).2.size ≤ k ∧ (chF mvs trk i).2.extract 0 (chF mvs trk m).2.size = (chF mvs trk m).2 := by
  have h1 : prefB (chF mvs trk m).2 (chF mvs trk i).2 := h.pre.trans (pref_cut _ _)
  refine ⟨(rec_self hi).max h.ok h1, ?_, (pref_take.1 h1).2⟩
  have := h.pre.size
  rw [ByteArray.size_extract] at this
  omega
end
section
open Go.RowKit Grp

def KP (g lim : Nat) : Nat → Prop := fun b => b = g ∨ lim ≤ b
theorem onlyGrown {P : Nat → Prop} {w w' : World} {g : Nat} (h : w.grownBy w' (some g)) (hg : P g) : OnlyP P w w' :=
  ⟨h.os, h.tape, h.output, h.size, fun k hk hn => h.block k hk (fun e => by injection e with e; subst e; exact hn hg)⟩
/-- The law has rolled its dice (block g), all that it keeps for good lies below lim and says what F says. -/
structure LawK (w0 : World) (g lim : Nat) (A : Option Addr) (c : Nat) (xs : List Int) (F : World → Prop) (wx : World) : Prop where
  bel : Below w0.heap.size w0 wx
  low : w0.heap.size ≤ g
  glt : g < lim
  limle : lim ≤ wx.heap.size
  by0 : BytesAt w0 A xs
  dice : DiceAt wx g A c xs
  keep : ∀ w2, OnlyP (KP g lim) wx w2 → F w2
section
variable {w0 wx wy : World} {g lim : Nat} {A : Option Addr} {c : Nat} {xs : List Int} {F : World → Prop}
theorem LawK.belo (h : LawK w0 g lim A c xs F wx) (ho : OnlyP (KP g lim) wx wy) : Below w0.heap.size w0 wy :=
  ⟨ho.os.trans h.bel.os, ho.tape.trans h.bel.tape, ho.output.trans h.bel.output, Nat.le_trans h.bel.size ho.size, fun k hk => (ho.block k (Nat.lt_of_lt_of_le hk h.bel.size) (fun q => by
    have := h.low
    have := h.glt
    rcases q with q | q <;> omega)).trans (h.bel.block k hk)⟩
theorem LawK.at_ (h : LawK w0 g lim A c xs F wx) : F wx := h.keep wx (onlyOf (Below.refl _ _))
theorem LawK.step (h : LawK w0 g lim A c xs F wx) (ho : OnlyP (KP g lim) wx wy) (hd : DiceAt wy g A c xs) : LawK w0 g lim A c xs F wy :=
  ⟨h.belo ho, h.low, h.glt, Nat.le_trans h.limle ho.size, h.by0, hd, fun w2 h2 => h.keep w2 (ho.trans h2)⟩
theorem LawK.below (h : LawK w0 g lim A c xs F wx) (hb : Below wx.heap.size wx wy) : LawK w0 g lim A c xs F wy := h.step (onlyOf hb) (h.dice.below hb)
theorem LawK.roll (h : LawK w0 g lim A c xs F wx) (hd : DiceAt wy g A c xs) (hg : wx.grownBy wy (some g)) : LawK w0 g lim A c xs F wy := h.step (onlyGrown hg (.inl rfl)) hd
theorem LawK.put (h : LawK w0 g lim A c xs F wx) {J : Nat} (hg : wx.grownBy wy (some J)) (hJ : lim ≤ J) : LawK w0 g lim A c xs F wy := by
  have ho : OnlyP (KP g lim) wx wy := onlyGrown hg (.inr hJ)
  have h1 := h.glt
  exact h.step ho (h.dice.move (hg.block g (Nat.lt_of_lt_of_le h1 h.limle) (fun e => by injection e with e; omega)) (h.by0.below (h.belo ho)))
theorem LawK.gsz (h : LawK w0 g lim A c xs F wx) : g < wx.heap.size := Nat.lt_of_lt_of_le h.glt h.limle
/-- A table whose lists lie in blocks from lo on. -/
def TbS (lo : Nat) (A1 A2 A3 : Option Addr) (t : Tb) (w : World) : Prop := ∀ w2, OnlyP (fun b => b < lo) w w2 → IntsAt w2 A1 t.trk ∧ LAt w2 A2 t.pats ∧ IntsAt w2 A3 t.dist
theorem TbS.at_ {lo : Nat} {A1 A2 A3 : Option Addr} {t : Tb} (h : TbS lo A1 A2 A3 t wx) : IntsAt wx A1 t.trk ∧ LAt wx A2 t.pats ∧ IntsAt wx A3 t.dist := h wx (onlyOf (Below.refl _ _))
theorem TbS.below {lo : Nat} {A1 A2 A3 : Option Addr} {t : Tb} (h : TbS lo A1 A2 A3 t wx) (hb : Below wx.heap.size wx wy) : TbS lo A1 A2 A3 t wy := fun w2 h2 => h w2 ((onlyOf hb).trans h2)
theorem TbS.roll {lo J : Nat} {A1 A2 A3 : Option Addr} {t : Tb} (h : TbS lo A1 A2 A3 t wx) (hg : wx.grownBy wy (some J)) (hJ : J < lo) : TbS lo A1 A2 A3 t wy := fun w2 h2 => h w2 ((onlyGrown hg hJ).trans h2)
theorem TbS.less {lo lo' : Nat} {A1 A2 A3 : Option Addr} {t : Tb} (h : TbS lo A1 A2 A3 t wx) (hl : lo' ≤ lo) : TbS lo' A1 A2 A3 t wx := fun w2 h2 => h w2 (h2.weak fun _ hb => Nat.lt_of_lt_of_le hb hl)
theorem FTo.safe {lo : Nat} {A1 A2 A3 : Option Addr} {c1 c3 : Nat} {t : Tb} (h : FTo lo wx A1 c1 A2 A3 c3 t) : TbS lo A1 A2 A3 t wx := fun w2 h2 =>
  have h3 : FTo lo w2 A1 c1 A2 A3 c3 t := h.only (lo' := 0) (hi' := lo) ⟨h2.os, h2.tape, h2.output, h2.size, fun k hk hc => h2.block k hk (fun q => by rcases hc with hc | hc <;> omega)⟩ (Nat.le_refl _)
  ⟨h3.at1, h3.at2, h3.at3⟩
theorem FTb.safe {lo hi m1 m2 : Nat} {A1 A2 A3 : Option Addr} {c1 c2 c3 : Nat} {t : Tb} (h : FTb lo hi wx A1 c1 A2 c2 A3 c3 m1 m2 t) (hh : hi ≤ wx.heap.size) : TbS lo A1 A2 A3 t wx := fun w2 h2 =>
  have h3 := h.keep h2.size (fun b hb1 hb2 => h2.block b (by omega) (by omega))
  ⟨h3.f1.intsAt, h3.f2.lat, h3.f3.intsAt⟩
end
/-- The drawn puzzle and its tracked points, in memory; the puzzle's box is P. -/
structure DrP (P : Nat) (AP : Option Addr) (cP : Nat) (p : Pz) (AT : Option Addr) (trk : List Int) (w : World) : Prop where
  pz : PzAt w AP p
  tr : IntsAt w AT trk
  row : w.heap[P]? = some (.cells #[.int .i64 p.pts, .string p.names, .slice AP p.moves.length cP] 29 (0, 0))
structure DrQ (p : Pz) (trk : List Int) : Prop where
  bld : buildQ p trk = true
  can : ∀ i, chOk (mvsOf p.moves) trk i → i < (chF (mvsOf p.moves) trk i).1.ls.length → canF (mvsOf p.moves) trk i
  len : trk.length ≤ 2
theorem drawn_q {n : Nat} {nm : ByteArray} {ms : List (List Int)} {l : List Int} (hn : 3 ≤ n) (hn5 : n ≤ 5) (hlm : ms.length = nm.size) (h1 : 1 ≤ nm.size) (h3 : nm.size ≤ 3) (hnm : nm = (⟨#[65, 66, 67]⟩ : ByteArray).extract 0 nm.size) (h : ∀ i, i < ms.length → IsMv n (ms.getD i [])) (hl : IsTrk l) : DrQ ⟨(n : Int), nm, ms⟩ l := by
  have hb := build_drawn hn hn5 hlm h1 h3 hnm h hl
  refine ⟨hb, fun i hi h => (can_drawn hn5 hb hl hi).2 h, ?_⟩
  rcases hl with ⟨x, rfl, -⟩ | ⟨x, rfl, -⟩ <;> simp
theorem drawn_rows {n : Nat} {ms : List (List Int)} (hn5 : n ≤ 5) (h : ∀ i, i < ms.length → IsMv n (ms.getD i [])) : ShortL ms := fun i hi => by
  obtain ⟨l, hp, e⟩ := h i hi
  rw [e, natI_len, hp.len]
  omega
def DrJ (J : Nat) (p : Pz) (trk : List Int) (i : Nat) (sy : Int) (lo : Nat) (A1 : Option Addr) (c1 : Nat) (A2 : Option Addr) (c2 : Nat) (A3 : Option Addr) (c3 : Nat) (wx : World) : Prop :=
  wx.heap[J]? = some (.cells #[.slice A1 (chT p trk i).trk.length c1, .slice A2 (chT p trk i).pats.length c2, .slice A3 (chT p trk i).dist.length c3, .int .i64 (i : Int), .string (chF (mvsOf p.moves) trk i).2, .int .i64 sy] 45 (0, 0)) ∧ TbS lo A1 A2 A3 (chT p trk i) wx
theorem rollG (A : Option Addr) (c : Nat) (xs : List Int) (s : Int) (w : World) (hx : BytesAt w A xs) (hl : xs.length ≤ 4096) :
    Calls Try.prog 11 #[.slice A xs.length c, .int .u64 s] w fun e w' => ∃ g, w.heap.size ≤ g ∧ e = .returned (.pointer (some ⟨g, 0, none⟩)) ∧ DiceAt w' g A c xs ∧ g < w'.heap.size ∧ Below w.heap.size w w' :=
  (roll_any A c xs s w hx hl).mono fun _ _ h => ⟨_, Nat.le_refl _, h.1, h.2.1, h.2.1.lt, h.2.2⟩
/-- The puzzle and the points are drawn: what is kept from there on. -/
theorem lawK_drawn {w0 w1 w2 w3 w4 : World} {g P : Nat} {A AP AT : Option Addr} {c cP cT : Nat} {xs trk : List Int} {p : Pz} (hby : BytesAt w0 A xs) (hg : w0.heap.size ≤ g) (h1 : g < w1.heap.size) (hb : Below w0.heap.size w0 w1)
    (h12 : w1.grownBy w2 (some g)) (hG : GrAt w1.heap.size (fun b => b < w1.heap.size) w2 (.slice AP p.moves.length cP) p.moves) (hb3 : Below w2.heap.size w2 w3) (hP : P = w2.heap.size) (hrow : w3.heap[P]? = some (.cells #[.int .i64 p.pts, .string p.names, .slice AP p.moves.length cP] 29 (0, 0)))
    (h34 : w3.grownBy w4 (some g)) (hT : Fresh w3.heap.size w4 (.slice AT trk.length cT) trk) (hd : DiceAt w4 g A c xs) (hl : p.moves.length ≤ 1048576) (hs : ShortL p.moves) (hn : p.names.size ≤ 1048576) :
    LawK w0 g w4.heap.size A c xs (DrP P AP cP p AT trk) w4 := by
  have z12 := h12.size
  have z23 := hb3.size
  have z34 := h34.size
  have ho24 : OnlyP (fun b => b = g) w2 w4 := (onlyOf hb3).trans (onlyGrown h34 rfl)
  have hlow : ∀ w5, OnlyP (KP g w4.heap.size) w4 w5 → OnlyP (fun b => b = g) w4 w5 := fun w5 h => ⟨h.os, h.tape, h.output, h.size, fun k hk hn => h.block k hk (fun q => by rcases q with q | q; exact hn q; omega)⟩
  refine ⟨((hb.grown h12 hb.size (fun b e => by injection e with e; omega)).trans (hb3.mono (by have := hb.size; omega))).grown h34 (by have := hb.size; omega) (fun b e => by injection e with e; omega), hg, by omega, Nat.le_refl _, hby, hd, fun w5 h5 => ?_⟩
  have h45 := hlow w5 h5
  refine ⟨⟨hG.onlyHi (fun x hx => hx) (ho24.trans h45) (fun b e => by omega), hl, hs, hn⟩, (hT.onlyP h45 (fun b e => by omega)).intsAt, ?_⟩
  have hPl := row_lt hrow
  rw [h45.block P (by omega) (by omega), h34.block P hPl (fun e => by injection e with e; omega)]
  exact hrow
/-- A job is run on: how far it comes. -/
def RunK (p : Pz) (trk : List Int) (i0 : Nat) (sy steps : Int) (w : World) (e : Ending) (w' : World) : Prop :=
  ∃ (c i : Nat) (A1 : Option Addr) (c1 : Nat) (A2 : Option Addr) (c2 : Nat) (A3 : Option Addr) (c3 : Nat), i = i0 + c ∧ (c : Int) ≤ steps ∧ chOk (mvsOf p.moves) trk i ∧ (chF (mvsOf p.moves) trk i).2.size ≤ 60000 ∧ ((c : Int) = steps ∨ (chF (mvsOf p.moves) trk i).1.ls.length ≤ i) ∧
    e = .returned (.tuple #[jobV A1 A2 A3 c1 c2 c3 (chT p trk i) (i : Int) (chF (mvsOf p.moves) trk i).2 sy, .int .i64 (c : Int)]) ∧ TbS w.heap.size A1 A2 A3 (chT p trk i) w' ∧ Below w.heap.size w w'
theorem runK {A : Option Addr} {c : Nat} {p : Pz} {trk : List Int} (hQ : DrQ p trk) (i0 : Nat) (sy steps : Int) (A1 A2 A3 : Option Addr) (c1 c2 c3 : Nat) {lo : Nat} {w : World} (h : PzAt w A p) (ht : TbS lo A1 A2 A3 (chT p trk i0) w) (hi : chOk (mvsOf p.moves) trk i0) (hs : (chF (mvsOf p.moves) trk i0).2.size ≤ 60000) (h0 : 0 ≤ sy) (h1 : sy ≤ ((chF (mvsOf p.moves) trk i0).2.size : Int)) (h2 : 0 ≤ steps) :
    Calls Try.prog 30 #[.agg #[.int .i64 p.pts, .string p.names, .slice A p.moves.length c], jobV A1 A2 A3 c1 c2 c3 (chT p trk i0) (i0 : Int) (chF (mvsOf p.moves) trk i0).2 sy, .int .i64 steps] w (RunK p trk i0 sy steps w) := by
  obtain ⟨t1, t2, t3⟩ := ht.at_
  have hle := ch_le hQ.bld hi
  refine implRunFillQ A c p A1 A2 A3 c1 c2 c3 (chT p trk i0) (i0 : Int) (chF (mvsOf p.moves) trk i0).2 sy steps w h t1 t2 t3 (short_ch hQ.bld hi) ⟨by omega, by omega⟩ (by omega) _ (fun _ e w' k => ?_) (fun k => absurd ⟨valid_ch hQ.bld hi hs h0 h1, h2⟩ k)
  obtain ⟨n, E1, e1, E2, e2, E3, e3, k1, k2, k3, k4, k5, k6, k7⟩ := k
  rw [Int.toNat_natCast] at k2 k3 k4 k5 k6
  have e0 : (chT p trk i0).trk = trk := rfl
  rw [e0] at k2 k3 k4 k5 k6
  refine ⟨n, i0 + n, E1, e1, E2, e2, E3, e3, rfl, k1, k2, k3, ?_, k5, k6.safe, k7⟩
  rcases k4 with k4 | k4
  · exact .inl k4
  · refine .inr (Nat.le_of_not_lt fun q => k4 (hQ.can _ k2 q))
def RecK (p : Pz) (trk : List Int) (log : ByteArray) (w : World) (e : Ending) (w' : World) : Prop :=
  ∃ (i : Nat) (A1 : Option Addr) (c1 : Nat) (A2 : Option Addr) (c2 : Nat) (A3 : Option Addr) (c3 : Nat), RecAt (mvsOf p.moves) trk log i ∧
    e = .returned (.tuple #[jobV A1 A2 A3 c1 c2 c3 (chT p trk i) (i : Int) (chF (mvsOf p.moves) trk i).2 ((chF (mvsOf p.moves) trk i).2.size : Int), .bool true]) ∧ TbS w.heap.size A1 A2 A3 (chT p trk i) w' ∧ Below w.heap.size w w'
theorem RecYes.k {p : Pz} {trk : List Int} {log : ByteArray} {w w' : World} {e : Ending} (h : RecYes p trk log w e w') : RecK p trk log w e w' := by
  obtain ⟨i, E1, e1, E2, e2, E3, e3, h1, h2, h3, h4⟩ := h
  exact ⟨i, E1, e1, E2, e2, E3, e3, h1, h2, h3.safe, h4⟩
theorem recK {A : Option Addr} {c : Nat} {p : Pz} {trk : List Int} (hQ : DrQ p trk) (A1 : Option Addr) (c1 : Nat) (log : ByteArray) {w : World} (h : PzAt w A p) (h1 : IntsAt w A1 trk) (hl : log.size ≤ 60000) :
    Calls Try.prog 36 #[.agg #[.int .i64 p.pts, .string p.names, .slice A p.moves.length c], .slice A1 trk.length c1, .string log] w (RecK p trk log w) :=
  (implRecover A c p A1 c1 trk log w h h1 (by have := hQ.len; omega) hl hQ.bld).mono fun _ _ k => k.k
theorem validK {A : Option Addr} {c : Nat} {p : Pz} {trk : List Int} (hQ : DrQ p trk) (i : Nat) (sy : Int) (A1 A2 A3 : Option Addr) (c1 c2 c3 : Nat) {lo : Nat} {w : World} (h : PzAt w A p) (ht : TbS lo A1 A2 A3 (chT p trk i) w) (hi : chOk (mvsOf p.moves) trk i) (hs : (chF (mvsOf p.moves) trk i).2.size ≤ 60000) (h0 : 0 ≤ sy) (h1 : sy ≤ ((chF (mvsOf p.moves) trk i).2.size : Int)) :
    Calls Try.prog 37 #[.agg #[.int .i64 p.pts, .string p.names, .slice A p.moves.length c], jobV A1 A2 A3 c1 c2 c3 (chT p trk i) (i : Int) (chF (mvsOf p.moves) trk i).2 sy] w (ReadsBool true w) := by
  obtain ⟨t1, t2, t3⟩ := ht.at_
  have hle := ch_le hQ.bld hi
  have := specValid A c p A1 A2 A3 c1 c2 c3 (chT p trk i) (i : Int) (chF (mvsOf p.moves) trk i).2 sy w h t1 t2 t3 (short_ch hQ.bld hi) ⟨by omega, by omega⟩ (by omega)
  rwa [valid_ch hQ.bld hi hs h0 h1] at this
theorem sameK {t : Tb} (hs : ShortT t) (A1 A2 A3 B1 B2 B3 : Option Addr) (c1 c2 c3 d1 d2 d3 : Nat) {lo lo' : Nat} {w : World} (h : TbS lo A1 A2 A3 t w) (g : TbS lo' B1 B2 B3 t w) :
    Calls Try.prog 35 #[.agg #[.slice A1 t.trk.length c1, .slice A2 t.pats.length c2, .slice A3 t.dist.length c3], .agg #[.slice B1 t.trk.length d1, .slice B2 t.pats.length d2, .slice B3 t.dist.length d3]] w (ReadsBool true w) := by
  obtain ⟨t1, t2, t3⟩ := h.at_
  obtain ⟨g1, g2, g3⟩ := g.at_
  have := specSameT A1 A2 A3 B1 B2 B3 c1 c2 c3 d1 d2 d3 t t w t1 t2 t3 g1 g2 g3 hs
  have e : eqT t t = true := by simp [eqT]
  rwa [e] at this
end
section
open Go.RowKit Grp

section
variable {w0 wx wy : World} {g lim : Nat} {A : Option Addr} {c : Nat} {xs : List Int} {F : World → Prop}
theorem LawK.table (h : LawK w0 g lim A c xs F wx) {lo W : Nat} {A1 A2 A3 : Option Addr} {t : Tb} {o : Obj} (hT : TbS lo A1 A2 A3 t wx) (hlo : g < lo) (hrow : wx.heap[W]? = some o) (hW : W ≠ g) : LawK w0 g wx.heap.size A c xs (fun w => F w ∧ w.heap[W]? = some o ∧ TbS lo A1 A2 A3 t w) wx := by
  have h1 := h.gsz
  have h2 := h.limle
  refine ⟨h.bel, h.low, h1, Nat.le_refl _, h.by0, h.dice, fun w2 ho => ?_⟩
  have hg : OnlyP (fun b => b = g) wx w2 := ⟨ho.os, ho.tape, ho.output, ho.size, fun k hk hn => ho.block k hk (fun q => by rcases q with q | q; exact hn q; omega)⟩
  exact ⟨h.keep w2 (ho.weak fun b q => by rcases q with q | q; exact .inl q; exact .inr (by omega)), (hg.block W (row_lt hrow) hW).trans hrow, fun w3 h3 => hT w3 ((hg.weak fun b q => by omega).trans h3)⟩
end
def SyncK (p : Pz) (trk : List Int) (i : Nat) (w : World) (e : Ending) (w' : World) : Prop :=
  ∃ (A1 : Option Addr) (c1 : Nat) (A2 : Option Addr) (c2 : Nat) (A3 : Option Addr) (c3 : Nat),
    e = .returned (.tuple #[jobV A1 A2 A3 c1 c2 c3 (chT p trk i) (i : Int) (chF (mvsOf p.moves) trk i).2 ((chF (mvsOf p.moves) trk i).2.size : Int), .bool true]) ∧ TbS w.heap.size A1 A2 A3 (chT p trk i) w' ∧ Below w.heap.size w w'
section
variable {A : Option Addr} {c : Nat} {p : Pz} {trk : List Int}
theorem syncK (hQ : DrQ p trk) (i : Nat) (sy : Int) (A1 A2 A3 : Option Addr) (c1 c2 c3 : Nat) {lo : Nat} {w : World} (h : PzAt w A p) (ht : TbS lo A1 A2 A3 (chT p trk i) w) (hi : chOk (mvsOf p.moves) trk i) (hs : (chF (mvsOf p.moves) trk i).2.size ≤ 60000) (h0 : 0 ≤ sy) (h1 : sy ≤ ((chF (mvsOf p.moves) trk i).2.size : Int)) :
    Calls Try.prog 32 #[.agg #[.int .i64 p.pts, .string p.names, .slice A p.moves.length c], jobV A1 A2 A3 c1 c2 c3 (chT p trk i) (i : Int) (chF (mvsOf p.moves) trk i).2 sy] w (SyncK p trk i w) := by
  obtain ⟨t1, t2, t3⟩ := ht.at_
  have hle := ch_le hQ.bld hi
  refine (implSyncFill A c p A1 A2 A3 c1 c2 c3 (chT p trk i) (i : Int) (chF (mvsOf p.moves) trk i).2 sy w h t1 t2 t3 (short_ch hQ.bld hi) ⟨by omega, by omega⟩ (by omega) (valid_ch hQ.bld hi hs h0 h1)).mono ?_
  rintro e w' ⟨E1, e1, E2, e2, E3, e3, k1, k2, k3⟩
  exact ⟨E1, e1, E2, e2, E3, e3, k1, k2.safe, k3⟩
theorem crashK (hQ : DrQ p trk) (i : Nat) (sy : Int) (A1 A2 A3 : Option Addr) (c1 c2 c3 k : Nat) {lo : Nat} {w : World} (h : PzAt w A p) (ht : TbS lo A1 A2 A3 (chT p trk i) w) (hi : chOk (mvsOf p.moves) trk i) (hs : (chF (mvsOf p.moves) trk i).2.size ≤ 60000) (h0 : 0 ≤ sy) (h1 : sy ≤ ((chF (mvsOf p.moves) trk i).2.size : Int)) (hk0 : sy ≤ (k : Int)) (hk1 : k ≤ (chF (mvsOf p.moves) trk i).2.size) :
    Calls Try.prog 33 #[.agg #[.int .i64 p.pts, .string p.names, .slice A p.moves.length c], jobV A1 A2 A3 c1 c2 c3 (chT p trk i) (i : Int) (chF (mvsOf p.moves) trk i).2 sy, .int .i64 (k : Int)] w (RecK p trk ((chF (mvsOf p.moves) trk i).2.extract 0 k) w) := by
  obtain ⟨t1, t2, t3⟩ := ht.at_
  have hle := ch_le hQ.bld hi
  exact (implCrash A c p A1 A2 A3 c1 c2 c3 (chT p trk i) (i : Int) (chF (mvsOf p.moves) trk i).2 sy k w h t1 t2 t3 (short_ch hQ.bld hi) ⟨by omega, by omega⟩ (by omega) (valid_ch hQ.bld hi hs h0 h1) hk0 hk1).mono fun _ _ k => k.k
def FinK (t : Tb) (w : World) (e : Ending) (w' : World) : Prop :=
  ∃ (A1 : Option Addr) (c1 : Nat) (A2 : Option Addr) (c2 : Nat) (A3 : Option Addr) (c3 : Nat), e = .returned (.tuple #[.agg #[.slice A1 t.trk.length c1, .slice A2 t.pats.length c2, .slice A3 t.dist.length c3], .bool true]) ∧ TbS w.heap.size A1 A2 A3 t w' ∧ Below w.heap.size w w'
theorem finK (hQ : DrQ p trk) (i : Nat) (sy : Int) (A1 A2 A3 : Option Addr) (c1 c2 c3 : Nat) {lo : Nat} {w : World} (h : PzAt w A p) (ht : TbS lo A1 A2 A3 (chT p trk i) w) (hi : chOk (mvsOf p.moves) trk i) (hs : (chF (mvsOf p.moves) trk i).2.size ≤ 60000) (h0 : 0 ≤ sy) (h1 : sy ≤ ((chF (mvsOf p.moves) trk i).2.size : Int)) (hn : i = (chF (mvsOf p.moves) trk i).1.ls.length) :
    Calls Try.prog 34 #[.agg #[.int .i64 p.pts, .string p.names, .slice A p.moves.length c], jobV A1 A2 A3 c1 c2 c3 (chT p trk i) (i : Int) (chF (mvsOf p.moves) trk i).2 sy] w (FinK (chT p trk i) w) := by
  obtain ⟨t1, t2, t3⟩ := ht.at_
  have hle := ch_le hQ.bld hi
  refine implFinQ A c p A1 A2 A3 c1 c2 c3 (chT p trk i) (i : Int) (chF (mvsOf p.moves) trk i).2 sy w h t1 t2 t3 (short_ch hQ.bld hi) ⟨by omega, by omega⟩ (by omega) _ (fun _ e w' k => ?_) (fun k => absurd ⟨valid_ch hQ.bld hi hs h0 h1, by unfold chT; dsimp only; omega⟩ k)
  obtain ⟨E1, e1, E2, e2, E3, e3, k1, k2, k3⟩ := k
  exact ⟨E1, e1, E2, e2, E3, e3, k1, k2.safe, k3⟩
end
/-- The table that the reference builds. -/
theorem builtK {A : Option Addr} {c : Nat} {p : Pz} {trk : List Int} (hQ : DrQ p trk) (A2 : Option Addr) (c2 : Nat) {w : World} (h : PzAt w A p) (hx : IntsAt w A2 trk) :
    Calls Try.prog 14 #[.agg #[.int .i64 p.pts, .string p.names, .slice A p.moves.length c], .slice A2 trk.length c2] w fun e w' => ∃ (r : Bs) (B1 : Option Addr) (b1 : Nat) (B2 : Option Addr) (b2 : Nat) (B3 : Option Addr) (b3 : Nat), searchB (mvsOf p.moves) trk = some r ∧ e = .returned (.tuple #[.agg #[.slice B1 trk.length b1, .slice B2 r.ls.length b2, .slice B3 r.ds.length b3], .bool true]) ∧ TbS w.heap.size B1 B2 B3 ⟨trk, r.ls, r.ds⟩ w' ∧ Below w.heap.size w w' := by
  refine (specBuild A c p A2 c2 trk w h hx (by have := hQ.len; omega)).mono ?_
  rintro e w' ⟨B1, n1, b1, B2, n2, b2, B3, n3, b3, rfl, hyes, hb⟩
  obtain ⟨rfl, hF1, ls, ds, rfl, rfl, hO, hF3, hdl, -, -, hs⟩ := hyes hQ.bld
  refine ⟨⟨ls, ds⟩, B1, b1, B2, b2, B3, b3, hs, by rw [hQ.bld, ← hdl], fun w2 h2 => ⟨(hF1.onlyP h2 fun _ q => q).intsAt, GrAt.onlyHi hO (fun _ q => q) h2 fun _ q => q, (hF3.onlyP h2 fun _ q => q).intsAt⟩, hb⟩
/-- Where the jobs of the law with crashes stand. -/
def CrI (w : World) (g lim : Nat) (A : Option Addr) (c : Nat) (xs : List Int) (F : World → Prop) (J : Nat) (p : Pz) (trk : List Int) (wr : World) : Prop :=
  ∃ (i : Nat) (sy : Int) (lo : Nat) (A1 : Option Addr) (c1 : Nat) (A2 : Option Addr) (c2 : Nat) (A3 : Option Addr) (c3 : Nat), chOk (mvsOf p.moves) trk i ∧ (chF (mvsOf p.moves) trk i).2.size ≤ 60000 ∧ 0 ≤ sy ∧ sy ≤ ((chF (mvsOf p.moves) trk i).2.size : Int) ∧ g < lo ∧ DrJ J p trk i sy lo A1 c1 A2 c2 A3 c3 wr ∧ LawK w g lim A c xs F wr
theorem CrI.of {w wx : World} {g lim : Nat} {A : Option Addr} {c : Nat} {xs : List Int} {F : World → Prop} {J lo i : Nat} {p : Pz} {trk : List Int} {sy : Int} {B1 B2 B3 : Option Addr} {b1 b2 b3 m1 m2 m3 : Nat} {lg : ByteArray} {a0 a1 a2 a3 a4 a5 : Value}
    (hK : LawK w g lim A c xs F wx) (hJ : lim ≤ J) (hrow : wx.heap[J]? = some (.cells #[a0, a1, a2, a3, a4, a5] 45 (0, 0))) (hT : TbS lo B1 B2 B3 (chT p trk i) wx) (hlo : J < lo) (hok : chOk (mvsOf p.moves) trk i) (hs : (chF (mvsOf p.moves) trk i).2.size ≤ 60000) (h0 : 0 ≤ sy) (h1 : sy ≤ (lg.size : Int)) (e1 : (chT p trk i).trk.length = m1) (e2 : (chT p trk i).pats.length = m2) (e3 : (chT p trk i).dist.length = m3) (e4 : (chF (mvsOf p.moves) trk i).2 = lg) :
    CrI w g lim A c xs F J p trk ((((((wx.setCell ⟨J, 0, none⟩ (.slice B1 m1 b1)).setCell ⟨J, 1, none⟩ (.slice B2 m2 b2)).setCell ⟨J, 2, none⟩ (.slice B3 m3 b3)).setCell ⟨J, 3, none⟩ (.int .i64 (i : Int))).setCell ⟨J, 4, none⟩ (.string lg)).setCell ⟨J, 5, none⟩ (.int .i64 sy)) := by
  subst e1 e2 e3 e4
  exact ⟨i, sy, lo, B1, b1, B2, b2, B3, b3, hok, hs, h0, h1, by have := hK.glt; omega, ⟨row6S hrow _ _ _ _ _ _, hT.roll (grown6 _ _ _ _ _ _ _ _) hlo⟩, hK.put (grown6 _ _ _ _ _ _ _ _) hJ⟩
theorem rowKeep {w : World} {g k : Nat} {a0 a1 a2 a3 a4 a5 : Value} {T : TypeId} {o : Obj} (_h : w.heap[g]? = some (.cells #[a0, a1, a2, a3, a4, a5] T (0, 0))) (hk : w.heap[k]? = some o) (hne : k ≠ g) (x y z u v t : Value) : ((((((w.setCell ⟨g, 0, none⟩ x).setCell ⟨g, 1, none⟩ y).setCell ⟨g, 2, none⟩ z).setCell ⟨g, 3, none⟩ u).setCell ⟨g, 4, none⟩ v).setCell ⟨g, 5, none⟩ t).heap[k]? = some o :=
  rowR (grown6 w g x y z u v t) hk (fun e => by injection e with e; exact hne e.symm)
end
end Go.Proofs.Ytfhdnanbhigpmaa
