/- Lists of lists of the call's own, each in blocks of its own: made, written over with running numbers, read again. Conditions: as each contract says. -/
import Derived.Test.YtfhdnanbhigpmaaLs
namespace Go.Proofs.Ytfhdnanbhigpmaa
open Go.RowKit

/-- w' is w but for the blocks from lo on and below hi, and new ones. -/
structure OnlyIn (lo hi : Nat) (w w' : World) : Prop where
  os : w'.os = w.os
  tape : w'.tape = w.tape
  output : w'.output = w.output
  size : w.heap.size ≤ w'.heap.size
  block : ∀ k, k < w.heap.size → k < lo ∨ hi ≤ k → w'.heap[k]? = w.heap[k]?
theorem OnlyIn.refl (lo hi : Nat) (w : World) : OnlyIn lo hi w w := ⟨rfl, rfl, rfl, Nat.le_refl _, fun _ _ _ => rfl⟩
theorem OnlyIn.grown {lo hi : Nat} {w w1 w2 : World} {row : Option Nat} (h : OnlyIn lo hi w w1) (hg : w1.grownBy w2 row) (hr : ∀ g, row = some g → lo ≤ g ∧ g < hi) : OnlyIn lo hi w w2 :=
  ⟨hg.os.trans h.os, hg.tape.trans h.tape, hg.output.trans h.output, Nat.le_trans h.size hg.size, fun k hk hc => (hg.block k (Nat.lt_of_lt_of_le hk h.size) (fun e => by have := hr k e.symm; omega)).trans (h.block k hk hc)⟩
theorem OnlyIn.below {lo hi B : Nat} {a w w' : World} (h : OnlyIn lo hi w w') (hb : Below B a w) (hB : B ≤ lo) (hB2 : B ≤ w.heap.size) : Below B a w' :=
  ⟨h.os.trans hb.os, h.tape.trans hb.tape, h.output.trans hb.output, Nat.le_trans hb.size h.size, fun k hk => (h.block k (by omega) (.inl (by omega))).trans (hb.block k hk)⟩
theorem Fresh.onlyHi {lo hi B : Nat} {w w' : World} {v : Value} {xs : List Int} (hF : Fresh B w v xs) (h : OnlyIn lo hi w w') (hB : hi ≤ B) : Fresh B w' v xs := by
  refine ⟨hF.1, ?_⟩
  rcases hF.2 with hn | ⟨g, cap, cur, rfl, hbg, hgg, rest⟩
  · exact .inl hn
  · exact .inr ⟨g, cap, cur, rfl, hbg, by rw [h.block g (Array.getElem?_eq_some_iff.1 hgg).1 (.inr (by omega))]; exact hgg, rest⟩
theorem IntsAt.onlyLo {lo hi : Nat} {w0 w w' : World} {A : Option Addr} {xs : List Int} (h0 : IntsAt w0 A xs) (h1 : IntsAt w A xs) (hlo : w0.heap.size ≤ lo) (h : OnlyIn lo hi w w') : IntsAt w' A xs := by
  intro k hk
  obtain ⟨b, off, e, hb, hc⟩ := h1 k hk
  obtain ⟨b', off', e', hb', _⟩ := h0 k hk
  rw [e] at e'
  injection e' with e'
  injection e' with e1 e2
  subst e1
  exact ⟨b, off, e, Nat.lt_of_lt_of_le hb h.size, (World.cell?_of_block (a := ⟨b, off + k, none⟩) (h.block b hb (.inl (by omega)))).trans hc⟩
/-- The lists ls, each in blocks of its own: list i from B i on and below B (i + 1). -/
structure LsAt (w : World) (A : Option Addr) (ls : List (List Int)) (V : Nat → Value) (B : Nat → Nat) : Prop where
  row : ∀ i, i < ls.length → ∃ g, A = some ⟨g, 0, none⟩ ∧ g < w.heap.size ∧ w.cell? ⟨g, i, none⟩ = some (V i) ∧ ∀ j, j < ls.length → (V j).ownBlock ≠ some g
  own : ∀ i, i < ls.length → Fresh (B i) w (V i) (ls.getD i [])
  cap : ∀ i, i < ls.length → ∀ h, (V i).ownBlock = some h → h < B (i + 1)
  up : ∀ i, i < ls.length → B i ≤ B (i + 1)
theorem LsAt.upij {w : World} {A : Option Addr} {ls : List (List Int)} {V : Nat → Value} {B : Nat → Nat} (h : LsAt w A ls V B) (i : Nat) : ∀ j, i ≤ j → j ≤ ls.length → B i ≤ B j := by
  intro j
  induction j with
  | zero => intro h1 _; rw [show i = 0 from by omega]; exact Nat.le_refl _
  | succ j ih =>
    intro h1 h2
    rcases Nat.lt_or_ge i (j + 1) with h3 | h3
    · exact Nat.le_trans (ih (by omega) (by omega)) (h.up j (by omega))
    · rw [show i = j + 1 from by omega]; exact Nat.le_refl _
/-- v is a slice of the call's own lists ls, all in blocks from lo on and below hi. -/
def FLs (lo hi : Nat) (w : World) (v : Value) (ls : List (List Int)) : Prop := ∃ A c V B, v = .slice A ls.length c ∧ LsAt w A ls V B ∧ lo ≤ B 0 ∧ B ls.length ≤ hi ∧ ∀ g off s, A = some ⟨g, off, s⟩ → lo ≤ g
theorem LsAt.below {w w' : World} {A : Option Addr} {ls : List (List Int)} {V : Nat → Value} {B : Nat → Nat} (h : LsAt w A ls V B) (hb : Below w.heap.size w w') : LsAt w' A ls V B :=
  ⟨fun i hi => by
    obtain ⟨g, e, h1, h2, h3⟩ := h.row i hi
    exact ⟨g, e, Nat.lt_of_lt_of_le h1 hb.size, (hb.cell (p := ⟨g, i, none⟩) h1).trans h2, h3⟩, fun i hi => (h.own i hi).below hb, h.cap, h.up⟩
theorem FLs.below {lo hi : Nat} {w w' : World} {v : Value} {ls : List (List Int)} (h : FLs lo hi w v ls) (hb : Below w.heap.size w w') : FLs lo hi w' v ls := by
  obtain ⟨A, c, V, B, h1, h2, h3⟩ := h
  exact ⟨A, c, V, B, h1, h2.below hb, h3⟩
theorem FLs.weak {lo hi lo' hi' : Nat} {w : World} {v : Value} {ls : List (List Int)} (h : FLs lo hi w v ls) (h1 : lo' ≤ lo) (h2 : hi ≤ hi') : FLs lo' hi' w v ls := by
  obtain ⟨A, c, V, B, a, b, c1, c2, c3⟩ := h
  exact ⟨A, c, V, B, a, b, Nat.le_trans h1 c1, Nat.le_trans c2 h2, fun g off s e => Nat.le_trans h1 (c3 g off s e)⟩
theorem LsAt.lat {w : World} {A : Option Addr} {ls : List (List Int)} {V : Nat → Value} {B : Nat → Nat} (h : LsAt w A ls V B) : LAt w A ls := fun i hi => by
  obtain ⟨g, e, h1, h2, -⟩ := h.row i hi
  obtain ⟨Ai, ci, h3, h4, h5⟩ := (h.own i hi).capped
  exact ⟨g, 0, Ai, ci, e, h1, h3, by rw [Nat.zero_add, h2, h4], h5⟩
theorem FLs.lat {lo hi : Nat} {w : World} {A : Option Addr} {n c : Nat} {ls : List (List Int)} (h : FLs lo hi w (.slice A n c) ls) : LAt w A ls := by
  obtain ⟨A', c', V, B, e, h2, -⟩ := h
  injection e with e1 e2 e3
  subst e1
  exact h2.lat
theorem FLs.onlyHi {lo hi lo' hi' : Nat} {w w' : World} {v : Value} {ls : List (List Int)} (h : FLs lo' hi' w v ls) (ho : OnlyIn lo hi w w') (hB : hi ≤ lo') : FLs lo' hi' w' v ls := by
  obtain ⟨A, c, V, B, h1, h2, h3, h4, h5⟩ := h
  refine ⟨A, c, V, B, h1, ⟨fun i hi => ?_, fun i hi => (h2.own i hi).onlyHi ho (Nat.le_trans hB (Nat.le_trans h3 (h2.upij 0 i (Nat.zero_le _) (by omega)))), h2.cap, h2.up⟩, h3, h4, h5⟩
  obtain ⟨g, e, g1, g2, g3⟩ := h2.row i hi
  have := h5 g 0 none e
  exact ⟨g, e, Nat.lt_of_lt_of_le g1 ho.size, (World.cell?_of_block (a := ⟨g, i, none⟩) (ho.block g g1 (.inr (by omega)))).trans g2, g3⟩
theorem FLs.shape {lo hi : Nat} {w : World} {v : Value} {ls : List (List Int)} (h : FLs lo hi w v ls) : ∃ A c, v = .slice A ls.length c := by
  obtain ⟨A', c', V, B, e, -⟩ := h
  exact ⟨A', c', e⟩
/-! Running numbers. -/
def totTo (ls : List (List Int)) (i : Nat) : Nat := ((ls.take i).map List.length).sum
theorem totTo_zero (ls : List (List Int)) : totTo ls 0 = 0 := by simp [totTo]
theorem totTo_more {ls : List (List Int)} {i : Nat} (h : i < ls.length) : totTo ls (i + 1) = totTo ls i + (ls.getD i []).length := by
  unfold totTo
  rw [List.take_add_one, List.getElem?_eq_getElem h, List.getD_eq_getElem?_getD, List.getElem?_eq_getElem h]
  simp only [List.map_append, List.sum_append, Option.toList_some, List.map_cons, List.map_nil, List.sum_cons, List.sum_nil, Option.getD_some, Nat.add_zero]
def mrkL (k : Int) (ls : List (List Int)) : List (List Int) := (List.range ls.length).map fun i => marks (k + totTo ls i) (ls.getD i []).length
theorem mrkL_len (k : Int) (ls : List (List Int)) : (mrkL k ls).length = ls.length := by simp [mrkL]
theorem mrkL_at {k : Int} {ls : List (List Int)} {i : Nat} (h : i < ls.length) : (mrkL k ls).getD i [] = marks (k + totTo ls i) (ls.getD i []).length := by
  unfold mrkL
  rw [List.getD_eq_getElem?_getD, List.getElem?_map, List.getElem?_range h]
  rfl
def MarkL (lo hi : Nat) (A : Option Addr) (ls : List (List Int)) (k0 : Int) (w : World) (e : Ending) (w' : World) : Prop := e = .returned (.int .i64 (k0 + totTo ls ls.length)) ∧ OnlyIn lo hi w w' ∧ LAt w' A (mrkL k0 ls) ∧ ∀ c, FLs lo hi w' (.slice A ls.length c) (mrkL k0 ls)
theorem totTo_le {ls : List (List Int)} (hs : ShortL ls) : ∀ i, i ≤ ls.length → totTo ls i ≤ i * 1048576 := by
  intro i
  induction i with
  | zero => intro _; rw [totTo_zero]; exact Nat.zero_le _
  | succ i ih =>
    intro hi
    rw [totTo_more (by omega), Nat.succ_mul]
    have := ih (by omega)
    have := hs i (by omega)
    omega
set_option maxRecDepth 3000 in
set_option maxHeartbeats 2000000 in
theorem markLists (lo hi : Nat) (A : Option Addr) (c : Nat) (ls : List (List Int)) (k0 : Int) (w : World) (hf : FLs lo hi w (.slice A ls.length c) ls) (hl : ls.length ≤ 1048576) (hs : ShortL ls) (h0 : 0 ≤ k0) (h1 : k0 ≤ 1048576) :
    Calls Try.prog 61 #[.slice A ls.length c, .int .i64 k0] w (MarkL lo hi A ls k0 w) := by
  obtain ⟨A', c', V, B, e, hL, hlo, hhi, hout⟩ := hf
  injection e with e1 e2 e3
  subst e1
  have HOUT := Lib.hid hout
  clear hout
  have HL := Lib.hid hL
  have HS := Lib.hid hs
  have HT := Lib.hid (totTo_le hs)
  have HK0 : Hid (k0 + (totTo ls 0 : Nat) = k0) := by unfold Hid; rw [totTo_zero]; simp
  have HF0 : Hid (∀ j, 0 ≤ j → j < ls.length → Fresh (B j) w (V j) (ls.getD j [])) := fun j _ hj => hL.own j hj
  have HM0 : Hid (∀ j, j < 0 → Fresh (B j) w (V j) (marks (k0 + totTo ls j) (ls.getD j []).length)) := fun j hj => absurd hj (Nat.not_lt_zero _)
  clear hs hL e3
  go_enter Try.func61, Try.ntmps61
  go_wp2_with fail
  go_loopw [1, 5] (fun q i wr => ∃ (k : Nat) (x : Int), k ≤ ls.length ∧ i = .int .i64 k ∧ q = .int .i64 x ∧ Hid (k0 + (totTo ls k : Nat) = x) ∧ Hid (∀ j, k ≤ j → j < ls.length → Fresh (B j) wr (V j) (ls.getD j [])) ∧ Hid (∀ j, j < k → Fresh (B j) wr (V j) (marks (k0 + totTo ls j) (ls.getD j []).length)) ∧
      Hid (∀ i, i < ls.length → ∃ g, A = some ⟨g, 0, none⟩ ∧ g < wr.heap.size ∧ wr.cell? ⟨g, i, none⟩ = some (V i) ∧ ∀ j, j < ls.length → (V j).ownBlock ≠ some g) ∧ OnlyIn lo hi w wr) (fun _ i _ => ls.length - (intOf i).toNat)
  case atStart => exact ⟨0, k0, Nat.zero_le _, rfl, rfl, HK0, HF0, HM0, HL.out.row, OnlyIn.refl _ _ _⟩
  case round =>
    obtain ⟨k, x, hk, rfl, rfl, HK, HF, HM, HR, hon⟩ := hrel
    clear HK0 HF0 HM0
    have htk := HT.out k hk
    have hkx := HK.out
    by_cases hlt : k < ls.length
    · obtain ⟨g, rfl, hgl, hc, hsep⟩ := HR.out k hlt
      have hFk := HF.out k (Nat.le_refl _) hlt
      obtain ⟨xs, hxs⟩ : ∃ xs, ls.getD k [] = xs := ⟨_, rfl⟩
      have hxl : xs.length ≤ 1048576 := by rw [← hxs]; exact HS.out k hlt
      rw [hxs] at hFk
      have HXS := Lib.hid hxs
      obtain ⟨tv, htv⟩ : ∃ tv, V k = tv := ⟨_, rfl⟩
      rw [htv] at hc hFk
      have HTV := Lib.hid htv
      have hblk := hFk.block
      have p0 : (0 : Int) ≤ (k : Int) := by omega
      have p1 : (k : Int) < (ls.length : Int) := by omega
      have HCALL := Lib.hid (markInts (B k) tv xs x wr hFk hxl (by omega) (by omega))
      have hkx2 : x + (xs.length : Int) ≤ 9223372036854775807 := by omega
      have HSEP := Lib.hid hsep
      have HBLK := Lib.hid hblk
      clear hxs htv hFk hkx htk hsep hblk
      go_wp2_with fail
      refine HCALL.out.mono ?_
      rintro e w2 ⟨rfl, hF2, hg2⟩
      have hrow : ∀ h, tv.ownBlock = some h → B k ≤ h ∧ h < B (k + 1) := fun h hh => ⟨HBLK.out h hh, HL.out.cap k hlt h (by rw [HTV.out]; exact hh)⟩
      have HKN : Hid (k0 + (totTo ls (k + 1) : Nat) = x + (xs.length : Int)) := by
        have := HK.out
        unfold Hid
        rw [totTo_more hlt, HXS.out]
        omega
      have HFN : Hid (∀ j, k + 1 ≤ j → j < ls.length → Fresh (B j) w2 (V j) (ls.getD j [])) := fun j hj1 hj2 => (HF.out j (by omega) hj2).grownNew hg2 fun h hh => by
        have := (hrow h hh).2
        have := HL.out.upij (k + 1) j hj1 (by omega)
        omega
      have HMN : Hid (∀ j, j < k + 1 → Fresh (B j) w2 (V j) (marks (k0 + totTo ls j) (ls.getD j []).length)) := fun j hj => by
        rcases Nat.lt_or_ge j k with h3 | h3
        · have h4 := HM.out j h3
          refine World.ownsRow.kept h4 hg2 ?_
          cases hv : (V j).ownBlock with
          | none => exact .inl rfl
          | some b =>
            refine .inr fun e => ?_
            have h5 := (hrow b e.symm).1
            have h6 := HL.out.cap j (by omega) b hv
            have := HL.out.upij (j + 1) k (by omega) (by omega)
            omega
        · obtain rfl : j = k := by omega
          rw [HTV.out, HXS.out, HK.out]
          exact hF2
      have HRN : Hid (∀ i, i < ls.length → ∃ g', some (⟨g, 0, none⟩ : Addr) = some ⟨g', 0, none⟩ ∧ g' < w2.heap.size ∧ w2.cell? ⟨g', i, none⟩ = some (V i) ∧ ∀ j, j < ls.length → (V j).ownBlock ≠ some g') := fun i hi => by
        obtain ⟨g', e', h1, h2, h3⟩ := HR.out i hi
        refine ⟨g', e', Nat.lt_of_lt_of_le h1 hg2.size, (World.cell?_of_block (a := ⟨g', i, none⟩) (hg2.block g' h1 fun e => h3 k hlt (by rw [HTV.out]; exact e.symm))).trans h2, h3⟩
      have hon2 := hon.grown hg2 (fun h hh => by
        have h1 := hrow h hh
        have h2 := HL.out.upij 0 k (Nat.zero_le _) (by omega)
        have h3 := HL.out.upij (k + 1) ls.length (by omega) (Nat.le_refl _)
        omega)
      clear hF2 hg2 hrow HCALL
      go_wp2_with fail
      go_roundw
      case rel => exact ⟨k + 1, _, by omega, by go_num, rfl, HKN, HFN, HMN, HRN, hon2⟩
      case measure => simp [intOf]; omega
    · obtain rfl : k = ls.length := by omega
      clear hkx htk
      go_wp2_with fail
      go_ret
      refine ⟨ret_int HK.out.symm, hon, fun i hi => ?_, fun cc => ⟨A, cc, V, B, by rw [mrkL_len], ⟨fun i hi => ?_, fun i hi => ?_, fun i hi => ?_, fun i hi => ?_⟩, hlo, by rw [mrkL_len]; exact hhi, HOUT.out⟩⟩
      rotate_left
      · rw [mrkL_len] at hi ⊢; exact HR.out i hi
      · rw [mrkL_len] at hi; rw [mrkL_at hi]; exact HM.out i hi
      · rw [mrkL_len] at hi; exact HL.out.cap i hi
      · rw [mrkL_len] at hi; exact HL.out.up i hi
      rw [mrkL_len] at hi
      obtain ⟨g, e, h1, h2, -⟩ := HR.out i hi
      obtain ⟨Ai, ci, h3, h4, h5⟩ := (HM.out i hi).capped
      rw [mrkL_at hi]
      exact ⟨g, 0, Ai, ci, e, h1, h3, by rw [Nat.zero_add, h2, h4], h5⟩
set_option maxRecDepth 3000 in
set_option maxHeartbeats 2000000 in
theorem heldLists (A : Option Addr) (c m : Nat) (ls : List (List Int)) (k0 : Int) (w : World) (hm : ls.length = m) (hx : LAt w A (mrkL k0 ls)) (hl : ls.length ≤ 1048576) (hs : ShortL ls) (h0 : 0 ≤ k0) (h1 : k0 ≤ 1048576) :
    Calls Try.prog 95 #[.slice A m c, .int .i64 k0] w fun e w' => e = .returned (.int .i64 (k0 + totTo ls ls.length)) ∧ w = w' := by
  subst hm
  have HS := Lib.hid hs
  have HT := Lib.hid (totTo_le hs)
  have HX := Lib.hid hx
  have HK0 : Hid (k0 + (totTo ls 0 : Nat) = k0) := by unfold Hid; rw [totTo_zero]; simp
  clear hs hx
  go_enter Try.func95, Try.ntmps95
  go_wp2_with fail
  go_loop [1, 5] (fun q i => ∃ (k : Nat) (x : Int), k ≤ ls.length ∧ i = .int .i64 k ∧ q = .int .i64 x ∧ Hid (k0 + (totTo ls k : Nat) = x)) (fun _ i => ls.length - (intOf i).toNat)
  case atStart => exact ⟨0, k0, Nat.zero_le _, rfl, rfl, HK0⟩
  case round =>
    obtain ⟨k, x, hk, rfl, rfl, HK⟩ := hrel
    clear HK0
    have htk := HT.out k hk
    have hkx := HK.out
    by_cases hlt : k < ls.length
    · obtain ⟨b, off, Ai, ci, ys, rfl, hb, hcap, hc0, hI, HYS⟩ := HX.out.at_ (i := k) (by rw [mrkL_len]; exact hlt)
      have hys := HYS.out
      rw [mrkL_at hlt, HK.out] at hys
      obtain ⟨z, hz⟩ : ∃ z, (ls.getD k []).length = z := ⟨_, rfl⟩
      have hzl : z ≤ 1048576 := by rw [← hz]; exact HS.out k hlt
      rw [hz] at hys
      subst hys
      have hml : (marks x z).length = z := marks_length _ _
      rw [hml] at hc0
      have HCALL := Lib.hid (heldInts Ai ci z x w hI hzl (by omega) (by omega))
      have p0 : (0 : Int) ≤ (k : Int) := by omega
      have p1 : (k : Int) < (ls.length : Int) := by omega
      have p2 : ¬ x + (z : Int) < 0 := by omega
      have HKN : Hid (k0 + (totTo ls (k + 1) : Nat) = x + (z : Int)) := by
        have := HK.out
        unfold Hid
        rw [totTo_more hlt, hz]
        omega
      clear hz hkx htk hI hml HYS hcap
      go_wp2_with fail
      refine HCALL.out.mono ?_
      rintro e w2 ⟨rfl, rfl⟩
      go_wp2_with fail
      go_round
      case rel => exact ⟨k + 1, _, by omega, by go_num, rfl, HKN⟩
      case measure => simp [intOf]; omega
    · obtain rfl : k = ls.length := by omega
      clear hkx htk
      go_wp2_with fail
      go_ret
      exact ⟨ret_int HK.out.symm, rfl⟩
def ToLs (ls : List (List Int)) (w : World) (e : Ending) (w' : World) : Prop := ∃ g, e = .returned (.slice (some ⟨g, 0, none⟩) ls.length ls.length) ∧ LOwn w' g ls ∧ FLs w.heap.size w'.heap.size w' (.slice (some ⟨g, 0, none⟩) ls.length ls.length) ls ∧ Below w.heap.size w w'
set_option maxRecDepth 3000 in
set_option maxHeartbeats 2000000 in
theorem toListsB (A : Option Addr) (c : Nat) (ls : List (List Int)) (w : World) (hx : LAt w A ls) (hl : ls.length ≤ 1048576) (hs : ShortL ls) :
    Calls Try.prog 57 #[.slice A ls.length c] w (ToLs ls w) := by
  obtain ⟨i1, hi1, hy0, hy1, hy2⟩ := info_parts listInfo
  have HS := Lib.hid hs
  clear hs
  go_enter Try.func57, Try.ntmps57
  go_wp2_with (first | (at_make; refine wpList_make_full _ rfl _ _ 27 rfl w.heap.size 31 i1 (.slice none 0 0) 1 Try.underlying27 hi1 hy0 hy1 _ _ _ _ ls.length rfl rfl rfl rfl ?_ ?_ ?_ ?_))
  · rw [hy2]; omega
  · unfold maxLen; omega
  · simp
  intro w1 hown hgrow
  rw [made_nil] at hown
  have hB1 : Below w.heap.size w w1 := (Below.refl _ _).grown hgrow (Nat.le_refl _) (by simp)
  have hr1 := made_whole hown
  have hgs : w.heap.size < w1.heap.size := row_lt hr1
  clear hown hgrow
  go_wp2_with fail
  go_loopw [4] (fun i wr => ∃ (k : Nat) (cs : List Value) (V : Nat → Value) (B : Nat → Nat), k ≤ ls.length ∧ i = .int .i64 k ∧ wr.heap[w.heap.size]? = some (.cells cs.toArray 31 (0, 0)) ∧ cs.length = ls.length ∧ w.heap.size < B 0 ∧ B k ≤ wr.heap.size ∧
      Hid (∀ j, j < k → cs[j]? = some (V j) ∧ Fresh (B j) wr (V j) (ls.getD j []) ∧ (∀ h, (V j).ownBlock = some h → h < B (j + 1)) ∧ B j ≤ B (j + 1)) ∧ Hid (∀ j, j ≤ k → B 0 ≤ B j) ∧ Below w.heap.size w wr) (fun i _ => ls.length - (intOf i).toNat)
  case atStart => exact ⟨0, _, fun _ => .slice none 0 0, fun _ => w.heap.size + 1, Nat.zero_le _, rfl, hr1, by simp, Nat.lt_succ_self _, hgs, fun j hj => absurd hj (Nat.not_lt_zero _), fun j _ => Nat.le_refl _, hB1⟩
  case round =>
    obtain ⟨k, cs, V, B, hk, rfl, hr, hcl, hlo, htop, HF, HUP, hB⟩ := hrel
    clear hB1 hr1 hgs
    by_cases hlt : k < ls.length
    · obtain ⟨b, off, Ai, ci, ys, rfl, hb, hcap, hc0, hI, HX⟩ := (hx.below hB).at_ hlt
      have p0 : (0 : Int) ≤ (k : Int) := by omega
      have p1 : (k : Int) < (ls.length : Int) := by omega
      have hyl : ys.length ≤ 1048576 := by have := HS.out k hlt; rw [HX.out] at this; exact this
      have HR := Lib.hid hr
      have hgw := row_lt hr
      clear hr
      go_wp2_with fail
      refine (toInts Ai ci ys _ hI hyl).mono ?_
      rintro e w2 ⟨v2, rfl, hF2, hb2⟩
      have hr2 := rowB hb2 HR.out
      have hck : cs[k]? = some cs[k] := List.getElem?_eq_getElem (by omega)
      have c1 : w2.cell? ⟨w.heap.size, k, none⟩ = some cs[k] := list_cell hr2 hck
      have f1 : w2.frozen? ⟨w.heap.size, k, none⟩ = false := row_free hr2
      have hB2 := belowStep hb2 hB
      obtain ⟨A2, c2, rfl, -, -⟩ := hF2.ints
      have hund := hF2.under
      have HR3 := Lib.hid (list_store (p := k) (.slice A2 ys.length c2) hr2)
      have hb2z := hb2.size
      have HF3 : Hid (∀ j, j < k + 1 → (cs.set k (.slice A2 ys.length c2))[j]? = some ((fun j => if j = k then Value.slice A2 ys.length c2 else V j) j) ∧ Fresh ((fun j => if j = k + 1 then w2.heap.size else B j) j) (w2.setCell ⟨w.heap.size, k, none⟩ (.slice A2 ys.length c2)) ((fun j => if j = k then Value.slice A2 ys.length c2 else V j) j) (ls.getD j []) ∧
          (∀ h, ((fun j => if j = k then Value.slice A2 ys.length c2 else V j) j).ownBlock = some h → h < (fun j => if j = k + 1 then w2.heap.size else B j) (j + 1)) ∧ (fun j => if j = k + 1 then w2.heap.size else B j) j ≤ (fun j => if j = k + 1 then w2.heap.size else B j) (j + 1)) := by
        intro j hj
        by_cases e : j = k
        · subst e
          simp only [if_true, show ¬ j = j + 1 from by omega, if_false]
          refine ⟨by rw [List.getElem?_set, if_pos rfl, if_pos (by omega)], ?_, hund, by omega⟩
          rw [HX.out]
          refine (hF2.mono htop).setCell (a := ⟨w.heap.size, j, none⟩) ?_ _
          have := HUP.out j (Nat.le_refl _)
          dsimp only
          omega
        · obtain ⟨h1, h2, h3, h4⟩ := HF.out j (by omega)
          simp only [e, if_false, show ¬ j = k + 1 from by omega, show ¬ j + 1 = k + 1 from by omega]
          refine ⟨by rw [List.getElem?_set, if_neg (fun e2 => e e2.symm)]; exact h1, (h2.below hb2).setCell (a := ⟨w.heap.size, k, none⟩) ?_ _, h3, h4⟩
          have := HUP.out j (by omega)
          dsimp only
          omega
      have HUP3 : Hid (∀ j, j ≤ k + 1 → (fun j => if j = k + 1 then w2.heap.size else B j) 0 ≤ (fun j => if j = k + 1 then w2.heap.size else B j) j) := by
        intro j hj
        simp only [show ¬ 0 = k + 1 from by omega, if_false]
        by_cases e : j = k + 1
        · simp only [e, if_true]
          have := HUP.out k (Nat.le_refl _)
          omega
        · simp only [e, if_false]
          exact HUP.out j (by omega)
      clear hr2 hF2 hb2 hck HR hund
      obtain ⟨cv, hcv⟩ : ∃ cv, cs[k] = cv := ⟨_, rfl⟩
      rw [hcv] at c1
      clear hcv
      go_wp2_with fail
      exact ⟨⟨k + 1, _, _, _, by omega, by go_num, HR3.out, by rw [List.length_set]; exact hcl, by simpa using hlo, by simp, HF3, HUP3, hB2.setCell (by simp) _⟩, by simp [intOf]; omega⟩
    · obtain rfl : k = ls.length := by omega
      have hgw := row_lt hr
      go_wp2_with fail
      go_ret
      have hLs : LsAt wr (some ⟨w.heap.size, 0, none⟩) ls V B := ⟨fun i hi => ⟨w.heap.size, rfl, hgw, list_cell hr (HF.out i hi).1, fun j hj e => by
          have h1 := ((HF.out j hj).2.1).block _ e
          have h2 := HUP.out j (by omega)
          omega⟩, fun i hi => (HF.out i hi).2.1, fun i hi => (HF.out i hi).2.2.1, fun i hi => (HF.out i hi).2.2.2⟩
      exact ⟨w.heap.size, rfl, ⟨hgw, fun i hi => ⟨V i, list_cell hr (HF.out i hi).1, (HF.out i hi).2.1.mono (Nat.zero_le _)⟩⟩, ⟨_, _, V, B, rfl, hLs, Nat.le_of_lt hlo, htop, fun g off s e => by injection e with e; injection e with e; omega⟩, hB⟩
end Go.Proofs.Ytfhdnanbhigpmaa
