/- The source of a test case's choices: in memory of its own; what it draws lies in the range that was asked. -/
import Derived.Test.YtmfmkalgalmbcaaDice
import Derived.Laws.Closers25b
namespace Go.Proofs.Ytmfmkalgalmbcaa
open Go.RowKit

def SrcAt (w : World) (g : Nat) (A : Option Addr) (c : Nat) (xs : List Int) : Prop :=
  ∃ (at_ : Nat) (st : Int), w.heap[g]? = some (.cells #[.slice A xs.length c, .int .i64 at_, .int .i64 st] 62 (0, 0)) ∧ at_ ≤ xs.length ∧ BytesAt w A xs ∧ (∀ b off, A = some ⟨b, off, none⟩ → 0 < xs.length → b ≠ g)
theorem and255 (y : Int) : ∃ x, bits BinOp.and IntKind.i64 y 255 = x ∧ 0 ≤ x ∧ x ≤ 255 := by
  refine ⟨_, rfl, ?_⟩
  have e : bits BinOp.and IntKind.i64 y 255 = IntKind.i64.wrap (((BitVec.ofInt 64 y).toNat &&& 255 : Nat) : Int) := by
    unfold bits
    simp only [BitVec.toNat_and]
    rfl
  have h : (BitVec.ofInt 64 y).toNat &&& 255 ≤ 255 := Nat.and_le_right
  rw [e, IntWalk.i64_in _ (by omega)]
  omega
theorem andBig (y : Int) : ∃ x, bits BinOp.and IntKind.i64 y 1073741823 = x ∧ 0 ≤ x ∧ x ≤ 1073741823 := by
  refine ⟨_, rfl, ?_⟩
  have e : bits BinOp.and IntKind.i64 y 1073741823 = IntKind.i64.wrap (((BitVec.ofInt 64 y).toNat &&& 1073741823 : Nat) : Int) := by
    unfold bits
    simp only [BitVec.toNat_and]
    rfl
  have h : (BitVec.ofInt 64 y).toNat &&& 1073741823 ≤ 1073741823 := Nat.and_le_right
  rw [e, IntWalk.i64_in _ (by omega)]
  omega
set_option maxHeartbeats 1000000 in
theorem newSrc (A : Option Addr) (c : Nat) (xs : List Int) (w : World) (hx : BytesAt w A xs) (hl : xs.length ≤ 4096) :
    Calls Try.prog 22 #[.slice A xs.length c] w fun e w' => e = .returned (.pointer (some ⟨w.heap.size, 0, none⟩)) ∧ SrcAt w' w.heap.size A c xs ∧ Below w.heap.size w w' := by
  go_enter Try.func22, Try.ntmps22
  go_wp2_with fail
  go_loop [3, 4] (fun h i => ∃ (k : Nat) (st : Int), k ≤ xs.length ∧ i = .int .i64 k ∧ h = .int .i64 st ∧ 0 ≤ st ∧ st ≤ 1073741823) (fun _ i => xs.length - (intOf i).toNat)
  case atStart => exact ⟨0, _, Nat.zero_le _, rfl, rfl, by omega, by omega⟩
  case round =>
    obtain ⟨k, st, hk, rfl, rfl, s0, s1⟩ := hrel
    by_cases hlt : k < xs.length
    · obtain ⟨b, off, y, rfl, hb, hc, y0, y1, HY⟩ := hx.at_ hlt
      have p0 : (0 : Int) ≤ (k : Int) := by omega
      have p1 : (k : Int) < (xs.length : Int) := by omega
      obtain ⟨x0, hx0, b0, b1⟩ := andBig (st * 337 + y + 11)
      go_wp2_with fail
      go_round
      case rel => exact ⟨k + 1, _, by omega, by go_num, rfl, b0, b1⟩
      case measure => simp [intOf]; omega
    · go_wp2_with fail
      go_ret
      refine ⟨rfl, ⟨0, st, by rw [heap_alloc_new]; rfl, Nat.zero_le _, hx.below (by repeat (first | exact Below.refl _ _ | assumption | refine Below.setCell ?_ (by first | omega | (simp <;> omega)) _ | refine Below.alloc ?_ (by first | omega | (simp <;> omega)) _ | refine Below.drew ?_)), fun b off e hp => ?_⟩, (by repeat (first | exact Below.refl _ _ | assumption | refine Below.setCell ?_ (by first | omega | (simp <;> omega)) _ | refine Below.alloc ?_ (by first | omega | (simp <;> omega)) _ | refine Below.drew ?_))⟩
      obtain ⟨b', off', e', hb', _⟩ := hx 0 hp
      rw [e] at e'
      injection e' with e'
      injection e' with e1 _
      omega
theorem SrcAt.step {w : World} {g : Nat} {A : Option Addr} {c at_ nq : Nat} {xs : List Int} {st S : Int} (k : Nat) (hg : w.heap[g]? = some (.cells #[.slice A xs.length c, .int .i64 at_, .int .i64 st] 62 (0, 0)))
    (hat : at_ + k ≤ xs.length) (hby : BytesAt w A xs) (hne : ∀ b off, A = some ⟨b, off, none⟩ → 0 < xs.length → b ≠ g) :
    SrcAt (((w.setCell ⟨g, 2, none⟩ (.int .i64 S)).drewN nq).setCell ⟨g, 1, none⟩ (.int .i64 ((at_ + k : Nat) : Int))) g A c xs := by
  have h1 := heap_setCell_same w g 2 _ _ (.int .i64 S) hg
  have h2 := heap_setCell_same ((w.setCell ⟨g, 2, none⟩ (.int .i64 S)).drewN nq) g 1 _ _ (.int .i64 ((at_ + k : Nat) : Int)) h1
  refine ⟨at_ + k, S, by simpa using h2, hat, fun j hj => ?_, hne⟩
  obtain ⟨b, off, e, hb, hc, h⟩ := hby j hj
  have hbg := hne b off e (by omega)
  refine ⟨b, off, e, by simpa using hb, ?_, h⟩
  rw [World.cell?_setCell_other _ _ _ _ (fun e => hbg (by injection e with e _; exact e.symm))]
  show ((w.setCell ⟨g, 2, none⟩ (.int .i64 S))).cell? _ = _
  rw [World.cell?_setCell_other _ _ _ _ (fun e => hbg (by injection e with e _; exact e.symm))]
  exact hc
theorem SrcAt.step0 {w : World} {g : Nat} {A : Option Addr} {c at_ nq : Nat} {xs : List Int} {st S : Int} (hg : w.heap[g]? = some (.cells #[.slice A xs.length c, .int .i64 at_, .int .i64 st] 62 (0, 0)))
    (hat : at_ ≤ xs.length) (hby : BytesAt w A xs) (hne : ∀ b off, A = some ⟨b, off, none⟩ → 0 < xs.length → b ≠ g) :
    SrcAt ((w.setCell ⟨g, 2, none⟩ (.int .i64 S)).drewN nq) g A c xs := by
  have h1 := heap_setCell_same w g 2 _ _ (.int .i64 S) hg
  refine ⟨at_, S, by simpa using h1, hat, fun j hj => ?_, hne⟩
  obtain ⟨b, off, e, hb, hc, h⟩ := hby j hj
  have hbg := hne b off e (by omega)
  refine ⟨b, off, e, by simpa using hb, ?_, h⟩
  show ((w.setCell ⟨g, 2, none⟩ (.int .i64 S))).cell? _ = _
  rw [World.cell?_setCell_other _ _ _ _ (fun e => hbg (by injection e with e _; exact e.symm))]
  exact hc
theorem srcGrown0 (w : World) (g nq : Nat) (u : Value) : w.grownBy ((w.setCell ⟨g, 2, none⟩ u).drewN nq) (some g) :=
  ⟨rfl, rfl, rfl, by simp, fun k _ hne => heap_setCell_other w ⟨g, 2, none⟩ k u (fun e => hne (by rw [e]))⟩
theorem SrcAt.lt {w : World} {g : Nat} {A : Option Addr} {c : Nat} {xs : List Int} (h : SrcAt w g A c xs) : g < w.heap.size := by
  obtain ⟨_, _, h, _⟩ := h
  exact (Array.getElem?_eq_some_iff.1 h).1
theorem SrcAt.move {w w' : World} {g : Nat} {A : Option Addr} {c : Nat} {xs : List Int} (h : SrcAt w g A c xs) (hg : w'.heap[g]? = w.heap[g]?) (hby : BytesAt w' A xs) : SrcAt w' g A c xs := by
  obtain ⟨a, s, h1, h2, _, h4⟩ := h
  exact ⟨a, s, hg.trans h1, h2, hby, h4⟩
theorem SrcAt.bytes {w : World} {g : Nat} {A : Option Addr} {c : Nat} {xs : List Int} (h : SrcAt w g A c xs) : BytesAt w A xs := by
  obtain ⟨_, _, _, _, h, _⟩ := h
  exact h
theorem SrcAt.below {w w' : World} {g : Nat} {A : Option Addr} {c : Nat} {xs : List Int} (h : SrcAt w g A c xs) (hb : Below w.heap.size w w') : SrcAt w' g A c xs :=
  h.move (hb.block g h.lt) (h.bytes.below hb)
theorem srcGrown (w : World) (g nq : Nat) (u v : Value) : w.grownBy (((w.setCell ⟨g, 2, none⟩ u).drewN nq).setCell ⟨g, 1, none⟩ v) (some g) :=
  ⟨rfl, rfl, rfl, by simp, fun k _ hne => by
    have hk : k ≠ g := fun e => hne (by rw [e])
    rw [heap_setCell_other _ ⟨g, 1, none⟩ k v hk]
    exact heap_setCell_other w ⟨g, 2, none⟩ k u hk⟩

set_option maxRecDepth 100000 in
set_option maxHeartbeats 2000000 in
theorem nextByte (g : Nat) (A : Option Addr) (c : Nat) (xs : List Int) (w : World) (hd : SrcAt w g A c xs) (hl : xs.length ≤ 4096) :
    Calls Try.prog 44 #[.pointer (some ⟨g, 0, none⟩)] w fun e w' => ∃ x : Int, e = .returned (.int .i64 x) ∧ 0 ≤ x ∧ x ≤ 255 ∧ SrcAt w' g A c xs ∧ w.grownBy w' (some g) := by
  obtain ⟨at_, st, hg, hat, hby, hne⟩ := hd
  have g0 : w.cell? ⟨g, 0, none⟩ = some (.slice A xs.length c) := cell_of_row w g 0 _ _ (0, 0) hg
  have g1 : w.cell? ⟨g, 1, none⟩ = some (.int .i64 at_) := cell_of_row w g 1 _ _ (0, 0) hg
  have g2 : w.cell? ⟨g, 2, none⟩ = some (.int .i64 st) := cell_of_row w g 2 _ _ (0, 0) hg
  have f2 : w.frozen? ⟨g, 2, none⟩ = false := by simp [World.frozen?, hg]
  have f1 : w.frozen? ⟨g, 1, none⟩ = false := by simp [World.frozen?, hg]
  have HG := Lib.hid hg
  clear hg
  by_cases hlt : at_ < xs.length
  · have p1 : (at_ : Int) < (xs.length : Int) := by omega
    have p0 : (0 : Int) ≤ (at_ : Int) := by omega
    obtain ⟨b, off, y, rfl, hb, hc, y0, y1, HY⟩ := hby.at_ hlt
    go_enter Try.func44, Try.ntmps44
    go_wp2_with fail
    generalize wrap64 (wrap64 (st * 6364136223846793005) + 1442695040888963407) = S
    obtain ⟨x0, hx0, b0, b1⟩ := and255 (bits BinOp.xor IntKind.i64 (S / 8589934592) (S / 35184372088832))
    have hcS : (w.setCell ⟨g, 2, none⟩ (.int .i64 S)).cell? ⟨b, off + at_, none⟩ = some (.int .u8 y) := by
      rw [World.cell?_setCell_other _ _ _ _ (fun e => hne b off rfl (by omega) (by injection e with e _; exact e.symm))]
      exact hc
    go_quiet (fail)
    clear hx0
    go_wp2_with fail
    go_quiet (fail)
    go_wp2_with fail
    have hw : IntKind.i64.wrap (x0 + y) = x0 + y := IntWalk.i64_in _ (by omega)
    have hw2 : IntKind.i64.wrap y = y := IntWalk.i64_in _ (by omega)
    obtain ⟨x1, hx1, c0, c1⟩ := and255 (x0 + y)
    go_quiet (fail)
    clear hw hw2 hx1
    go_wp2_with fail
    go_ret
    refine ⟨x1, rfl, c0, c1, ?_, ?_⟩
    · exact SrcAt.step (k := 1) HG.out (by omega) hby hne
    · exact srcGrown _ _ _ _ _
  · have p1 : ¬ (at_ : Int) < (xs.length : Int) := by omega
    go_enter Try.func44, Try.ntmps44
    go_wp2_with fail
    generalize wrap64 (wrap64 (st * 6364136223846793005) + 1442695040888963407) = S
    obtain ⟨x0, hx0, b0, b1⟩ := and255 (bits BinOp.xor IntKind.i64 (S / 8589934592) (S / 35184372088832))
    go_quiet (fail)
    clear hx0
    go_wp2_with fail
    go_quiet (fail)
    go_wp2_with fail
    go_ret
    refine ⟨x0, rfl, b0, b1, ?_, ?_⟩
    · rw [World.drewN_drewN]; exact SrcAt.step0 HG.out hat hby hne
    · rw [World.drewN_drewN]; exact srcGrown0 _ _ _ _

set_option maxHeartbeats 1000000 in
theorem srcBelow (g : Nat) (A : Option Addr) (c : Nat) (xs : List Int) (n : Int) (w : World) (hd : SrcAt w g A c xs) (hl : xs.length ≤ 4096) (h0 : 1 ≤ n) (h1 : n ≤ 256) :
    Calls Try.prog 37 #[.pointer (some ⟨g, 0, none⟩), .int .i64 n] w fun e w' => ∃ x : Int, e = .returned (.int .i64 x) ∧ 0 ≤ x ∧ x < n ∧ SrcAt w' g A c xs ∧ w.grownBy w' (some g) := by
  go_enter Try.func37, Try.ntmps37
  go_wp2_with fail
  refine (nextByte g A c xs _ hd hl).mono ?_
  rintro e w1 ⟨x, rfl, x0, x1, hd1, hg1⟩
  go_wp2_with fail
  go_ret
  exact ⟨_, rfl, Int.emod_nonneg _ (by omega), Int.emod_lt_of_pos _ (by omega), hd1, hg1⟩
set_option maxHeartbeats 1000000 in
theorem srcOneIn (g : Nat) (A : Option Addr) (c : Nat) (xs : List Int) (n : Int) (w : World) (hd : SrcAt w g A c xs) (hl : xs.length ≤ 4096) (h0 : 1 ≤ n) (h1 : n ≤ 256) :
    Calls Try.prog 36 #[.pointer (some ⟨g, 0, none⟩), .int .i64 n] w fun e w' => ∃ b : Bool, e = .returned (.bool b) ∧ SrcAt w' g A c xs ∧ w.grownBy w' (some g) := by
  go_enter Try.func36, Try.ntmps36
  go_wp2_with fail
  refine (srcBelow g A c xs n _ hd hl h0 h1).mono ?_
  rintro e w1 ⟨x, rfl, x0, x1, hd1, hg1⟩
  go_wp2_with fail
  go_ret
  exact ⟨_, rfl, hd1, hg1⟩
set_option maxHeartbeats 1000000 in
theorem srcBetween (g : Nat) (A : Option Addr) (c : Nat) (xs : List Int) (lo hi : Int) (w : World) (hd : SrcAt w g A c xs) (hl : xs.length ≤ 4096) (h0 : -1000 ≤ lo) (h1 : lo ≤ hi) (h2 : hi ≤ lo + 255) (h3 : lo ≤ 1000000) :
    Calls Try.prog 38 #[.pointer (some ⟨g, 0, none⟩), .int .i64 lo, .int .i64 hi] w fun e w' => ∃ x : Int, e = .returned (.int .i64 x) ∧ lo ≤ x ∧ x ≤ hi ∧ SrcAt w' g A c xs ∧ w.grownBy w' (some g) := by
  go_enter Try.func38, Try.ntmps38
  go_wp2_with fail
  refine (srcBelow g A c xs (hi - lo + 1) _ hd hl (by omega) (by omega)).mono ?_
  rintro e w1 ⟨x, rfl, x0, x1, hd1, hg1⟩
  go_wp2_with fail
  go_ret
  exact ⟨_, rfl, by omega, by omega, hd1, hg1⟩
theorem SrcAt.keep {w1 w2 : World} {B g : Nat} {A : Option Addr} {c : Nat} {xs : List Int} (h : SrcAt w1 g A c xs) (hb : Below B w1 w2) (hg : g < B) (hA : ∀ b off, A = some ⟨b, off, none⟩ → 0 < xs.length → b < B) : SrcAt w2 g A c xs := by
  obtain ⟨a, s, h1, h2, h3, h4⟩ := h
  refine ⟨a, s, (hb.block g hg).trans h1, h2, fun k hk => ?_, h4⟩
  obtain ⟨b, off, e, hlt, hc, hr⟩ := h3 k hk
  have := hA b off e (by omega)
  exact ⟨b, off, e, Nat.lt_of_lt_of_le hlt hb.size, (hb.cell (p := ⟨b, off + k, none⟩) this).trans hc, hr⟩
theorem SrcAt.low {w : World} {g : Nat} {A : Option Addr} {c : Nat} {xs : List Int} (h : SrcAt w g A c xs) : ∀ b off, A = some ⟨b, off, none⟩ → 0 < xs.length → b < w.heap.size := by
  obtain ⟨_, _, _, _, h3, _⟩ := h
  intro b off e hp
  obtain ⟨b', off', e', hlt, _⟩ := h3 0 hp
  rw [e] at e'
  injection e' with e'
  injection e' with e1 _
  omega
theorem grownThen {w w1 w2 : World} {row : Option Nat} (h : w.grownBy w1 row) (hb : Below w.heap.size w1 w2) : w.grownBy w2 row :=
  ⟨hb.os.trans h.os, hb.tape.trans h.tape, hb.output.trans h.output, Nat.le_trans h.size hb.size, fun k hk hne => (hb.block k hk).trans (h.block k hk hne)⟩
theorem grownTrans {w w1 w2 : World} {row : Option Nat} (h : w.grownBy w1 row) (h2 : w1.grownBy w2 row) : w.grownBy w2 row :=
  ⟨h2.os.trans h.os, h2.tape.trans h.tape, h2.output.trans h.output, Nat.le_trans h.size h2.size, fun k hk hne => (h2.block k (Nat.lt_of_lt_of_le hk h.size) hne).trans (h.block k hk hne)⟩
end Go.Proofs.Ytmfmkalgalmbcaa
