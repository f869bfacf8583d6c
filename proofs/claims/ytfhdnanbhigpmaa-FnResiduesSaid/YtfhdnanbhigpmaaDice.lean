/- The dice of the laws: a source of numbers in memory of its own; what it draws lies in the range that was asked. -/
import Derived.Test.YtfhdnanbhigpmaaMark
namespace Go.Proofs.Ytfhdnanbhigpmaa
open Go.RowKit

def BytesAt (w : World) (A : Option Addr) (xs : List Int) : Prop :=
  ∀ k, k < xs.length → ∃ b off, A = some ⟨b, off, none⟩ ∧ b < w.heap.size ∧ w.cell? ⟨b, off + k, none⟩ = some (.int .u8 (xs.getD k 0)) ∧ 0 ≤ xs.getD k 0 ∧ xs.getD k 0 ≤ 255
/-- Block g is a dice over the bytes xs; the bytes lie in other blocks. -/
def DiceAt (w : World) (g : Nat) (A : Option Addr) (c : Nat) (xs : List Int) : Prop :=
  ∃ (at_ : Nat) (st : Int), w.heap[g]? = some (.cells #[.slice A xs.length c, .int .i64 at_, .int .u64 st] 73 (0, 0)) ∧ at_ ≤ xs.length ∧ BytesAt w A xs ∧ (∀ b off, A = some ⟨b, off, none⟩ → 0 < xs.length → b ≠ g)
theorem BytesAt.at_ {w : World} {A : Option Addr} {xs : List Int} (h : BytesAt w A xs) {k : Nat} (hk : k < xs.length) :
    ∃ b off y, A = some ⟨b, off, none⟩ ∧ b < w.heap.size ∧ w.cell? ⟨b, off + k, none⟩ = some (.int .u8 y) ∧ 0 ≤ y ∧ y ≤ 255 ∧ Hid (xs.getD k 0 = y) := by
  obtain ⟨b, off, e, hb, hc, h0, h1⟩ := h k hk
  exact ⟨b, off, _, e, hb, hc, h0, h1, rfl⟩
set_option maxHeartbeats 1000000 in
theorem big_any (A : Option Addr) (n c : Nat) (w : World) : Calls Try.prog 10 #[.slice A n c] w fun e w' => e = .returned (.bool (decide (4096 < n))) ∧ w = w' := by
  go_enter Try.func10, Try.ntmps10
  go_wp2
  go_ret
  exact ⟨ret_bool (by simp; omega), rfl⟩

theorem mask24 (E : Int) : ∃ S x, IntKind.u64.wrap E = S ∧ wrap64 (bits BinOp.and IntKind.u64 (S / 8589934592) 16777215) = x ∧ 0 ≤ x ∧ x ≤ 16777215 := by
  refine ⟨_, _, rfl, rfl, ?_⟩
  have hb := wrap_within .u64 E
  have hb1 : 0 ≤ IntKind.u64.wrap E ∧ IntKind.u64.wrap E ≤ 18446744073709551615 := by simpa [IntKind.min, IntKind.max, IntKind.signed, IntKind.bits] using hb
  obtain ⟨n, hn⟩ := Int.eq_ofNat_of_zero_le hb1.1
  rw [hn] at hb1 ⊢
  have e : (n : Int) / 8589934592 = ((n / 8589934592 : Nat) : Int) := by omega
  have h2 := bits_and_u64_nat (n / 8589934592) 16777215 (by omega) (by omega)
  have h3 : (n / 8589934592) &&& 16777215 ≤ 16777215 := Nat.and_le_right
  have h : 0 ≤ bits BinOp.and IntKind.u64 ((n : Int) / 8589934592) 16777215 ∧ bits BinOp.and IntKind.u64 ((n : Int) / 8589934592) 16777215 ≤ 16777215 := by
    rw [e]
    have h4 : bits BinOp.and IntKind.u64 ((n / 8589934592 : Nat) : Int) 16777215 = (((n / 8589934592) &&& 16777215 : Nat) : Int) := h2
    rw [h4]
    omega
  rw [IntWalk.wrap64_in _ (by omega)]
  exact h
theorem DiceAt.step {w : World} {g : Nat} {A : Option Addr} {c at_ nq : Nat} {xs : List Int} {st S : Int} (k : Nat) (hg : w.heap[g]? = some (.cells #[.slice A xs.length c, .int .i64 at_, .int .u64 st] 73 (0, 0)))
    (hat : at_ + k ≤ xs.length) (hby : BytesAt w A xs) (hne : ∀ b off, A = some ⟨b, off, none⟩ → 0 < xs.length → b ≠ g) :
    DiceAt (((w.setCell ⟨g, 2, none⟩ (.int .u64 S)).drewN nq).setCell ⟨g, 1, none⟩ (.int .i64 ((at_ + k : Nat) : Int))) g A c xs := by
  have h1 := heap_setCell_same w g 2 _ _ (.int .u64 S) hg
  have h2 := heap_setCell_same ((w.setCell ⟨g, 2, none⟩ (.int .u64 S)).drewN nq) g 1 _ _ (.int .i64 ((at_ + k : Nat) : Int)) h1
  refine ⟨at_ + k, S, by simpa using h2, hat, fun j hj => ?_, hne⟩
  obtain ⟨b, off, e, hb, hc, h⟩ := hby j hj
  have hbg := hne b off e (by omega)
  refine ⟨b, off, e, by simpa using hb, ?_, h⟩
  rw [World.cell?_setCell_other _ _ _ _ (fun e => hbg (by injection e with e _; exact e.symm))]
  show ((w.setCell ⟨g, 2, none⟩ (.int .u64 S))).cell? _ = _
  rw [World.cell?_setCell_other _ _ _ _ (fun e => hbg (by injection e with e _; exact e.symm))]
  exact hc
theorem DiceAt.step0 {w : World} {g : Nat} {A : Option Addr} {c at_ nq : Nat} {xs : List Int} {st S : Int} (hg : w.heap[g]? = some (.cells #[.slice A xs.length c, .int .i64 at_, .int .u64 st] 73 (0, 0)))
    (hat : at_ ≤ xs.length) (hby : BytesAt w A xs) (hne : ∀ b off, A = some ⟨b, off, none⟩ → 0 < xs.length → b ≠ g) :
    DiceAt ((w.setCell ⟨g, 2, none⟩ (.int .u64 S)).drewN nq) g A c xs := by
  have h1 := heap_setCell_same w g 2 _ _ (.int .u64 S) hg
  refine ⟨at_, S, by simpa using h1, hat, fun j hj => ?_, hne⟩
  obtain ⟨b, off, e, hb, hc, h⟩ := hby j hj
  have hbg := hne b off e (by omega)
  refine ⟨b, off, e, by simpa using hb, ?_, h⟩
  show ((w.setCell ⟨g, 2, none⟩ (.int .u64 S))).cell? _ = _
  rw [World.cell?_setCell_other _ _ _ _ (fun e => hbg (by injection e with e _; exact e.symm))]
  exact hc
theorem diceGrown0 (w : World) (g nq : Nat) (u : Value) : w.grownBy ((w.setCell ⟨g, 2, none⟩ u).drewN nq) (some g) :=
  ⟨rfl, rfl, rfl, by simp, fun k _ hne => heap_setCell_other w ⟨g, 2, none⟩ k u (fun e => hne (by rw [e]))⟩
theorem BytesAt.below {w w' : World} {A : Option Addr} {xs : List Int} (h : BytesAt w A xs) (hb : Below w.heap.size w w') : BytesAt w' A xs := by
  intro k hk
  obtain ⟨b, off, e, hlt, hc, h2⟩ := h k hk
  exact ⟨b, off, e, Nat.lt_of_lt_of_le hlt hb.size, (hb.cell (p := ⟨b, off + k, none⟩) hlt).trans hc, h2⟩
theorem DiceAt.lt {w : World} {g : Nat} {A : Option Addr} {c : Nat} {xs : List Int} (h : DiceAt w g A c xs) : g < w.heap.size := by
  obtain ⟨_, _, h, _⟩ := h
  exact (Array.getElem?_eq_some_iff.1 h).1
theorem DiceAt.move {w w' : World} {g : Nat} {A : Option Addr} {c : Nat} {xs : List Int} (h : DiceAt w g A c xs) (hg : w'.heap[g]? = w.heap[g]?) (hby : BytesAt w' A xs) : DiceAt w' g A c xs := by
  obtain ⟨a, s, h1, h2, _, h4⟩ := h
  exact ⟨a, s, hg.trans h1, h2, hby, h4⟩
theorem DiceAt.bytes {w : World} {g : Nat} {A : Option Addr} {c : Nat} {xs : List Int} (h : DiceAt w g A c xs) : BytesAt w A xs := by
  obtain ⟨_, _, _, _, h, _⟩ := h
  exact h
theorem DiceAt.below {w w' : World} {g : Nat} {A : Option Addr} {c : Nat} {xs : List Int} (h : DiceAt w g A c xs) (hb : Below w.heap.size w w') : DiceAt w' g A c xs :=
  h.move (hb.block g h.lt) (h.bytes.below hb)
theorem diceGrown (w : World) (g nq : Nat) (u v : Value) : w.grownBy (((w.setCell ⟨g, 2, none⟩ u).drewN nq).setCell ⟨g, 1, none⟩ v) (some g) :=
  ⟨rfl, rfl, rfl, by simp, fun k _ hne => by
    have hk : k ≠ g := fun e => hne (by rw [e])
    rw [heap_setCell_other _ ⟨g, 1, none⟩ k v hk]
    exact heap_setCell_other w ⟨g, 2, none⟩ k u hk⟩
set_option maxHeartbeats 1000000 in
theorem diceBelow (g : Nat) (A : Option Addr) (c : Nat) (xs : List Int) (n : Int) (w : World) (hd : DiceAt w g A c xs) (hl : xs.length ≤ 4096) (h0 : 1 ≤ n) (h1 : n ≤ 1000000000) :
    Calls Try.prog 31 #[.pointer (some ⟨g, 0, none⟩), .int .i64 n] w fun e w' => ∃ x : Int, e = .returned (.int .i64 x) ∧ 0 ≤ x ∧ x < n ∧ DiceAt w' g A c xs ∧ w.grownBy w' (some g) := by
  obtain ⟨at_, st, hg, hat, hby, hne⟩ := hd
  have g0 : w.cell? ⟨g, 0, none⟩ = some (.slice A xs.length c) := cell_of_row w g 0 _ _ (0, 0) hg
  have g1 : w.cell? ⟨g, 1, none⟩ = some (.int .i64 at_) := cell_of_row w g 1 _ _ (0, 0) hg
  have g2 : w.cell? ⟨g, 2, none⟩ = some (.int .u64 st) := cell_of_row w g 2 _ _ (0, 0) hg
  have f2 : w.frozen? ⟨g, 2, none⟩ = false := by simp [World.frozen?, hg]
  have f1 : w.frozen? ⟨g, 1, none⟩ = false := by simp [World.frozen?, hg]
  have HG := Lib.hid hg
  clear hg
  by_cases hlt : at_ < xs.length
  · have p1 : (at_ : Int) < (xs.length : Int) := by omega
    have p0 : (0 : Int) ≤ (at_ : Int) := by omega
    obtain ⟨b, off, y, rfl, hb, hc, y0, y1, HY⟩ := hby.at_ hlt
    go_enter Try.func31, Try.ntmps31
    go_wp2_with fail
    obtain ⟨S, x0, hS, hx0, b0, b1⟩ := mask24 (IntKind.u64.wrap (st * 6364136223846793005) + 1442695040888963407)
    rw [hS, hx0]
    clear hS hx0
    have hcS : (w.setCell ⟨g, 2, none⟩ (.int .u64 S)).cell? ⟨b, off + at_, none⟩ = some (.int .u8 y) := by
      rw [World.cell?_setCell_other _ _ _ _ (fun e => hne b off rfl (by omega) (by injection e with e _; exact e.symm))]
      exact hc
    go_quiet (fail)
    go_wp2_with fail
    have hw : IntKind.i64.wrap (x0 + y) = x0 + y := IntWalk.i64_in _ (by omega)
    go_quiet (fail)
    clear hw
    go_wp2_with fail
    go_ret
    refine ⟨_, rfl, Int.emod_nonneg _ (by omega), Int.emod_lt_of_pos _ (by omega), ?_, ?_⟩
    · exact DiceAt.step (k := 1) HG.out (by omega) hby hne
    · exact diceGrown _ _ _ _ _
  · have p1 : ¬ (at_ : Int) < (xs.length : Int) := by omega
    go_enter Try.func31, Try.ntmps31
    go_wp2_with fail
    obtain ⟨S, x0, hS, hx0, b0, b1⟩ := mask24 (IntKind.u64.wrap (st * 6364136223846793005) + 1442695040888963407)
    rw [hS, hx0]
    clear hS hx0
    go_quiet (fail)
    go_wp2_with fail
    go_ret
    refine ⟨_, rfl, Int.emod_nonneg _ (by omega), Int.emod_lt_of_pos _ (by omega), ?_, ?_⟩
    · exact DiceAt.step0 HG.out hat hby hne
    · exact diceGrown0 _ _ _ _

set_option maxHeartbeats 1000000 in
theorem roll_any (A : Option Addr) (c : Nat) (xs : List Int) (s : Int) (w : World) (hx : BytesAt w A xs) (hl : xs.length ≤ 4096) :
    Calls Try.prog 11 #[.slice A xs.length c, .int .u64 s] w fun e w' => e = .returned (.pointer (some ⟨w.heap.size, 0, none⟩)) ∧ DiceAt w' w.heap.size A c xs ∧ Below w.heap.size w w' := by
  go_enter Try.func11, Try.ntmps11
  go_wp2_with fail
  go_loopw [6] (fun j wr => ∃ (k : Nat) (st : Int), k ≤ xs.length ∧ j = .int .i64 k ∧ wr.heap[w.heap.size]? = some (.cells #[.slice A xs.length c, .int .i64 0, .int .u64 st] 73 (0, 0)) ∧ Below w.heap.size w wr) (fun j _ => xs.length - (intOf j).toNat)
  case atStart => exact ⟨0, _, Nat.zero_le _, rfl, heap_alloc_new w _, (by repeat (first | exact Below.refl _ _ | assumption | refine Below.setCell ?_ (by first | omega | (simp <;> omega)) _ | refine Below.alloc ?_ (by first | omega | (simp <;> omega)) _ | refine Below.drew ?_))⟩
  case round =>
    obtain ⟨k, st, hk, rfl, hg, hB⟩ := hrel
    by_cases hlt : k < xs.length
    · obtain ⟨b, off, y, rfl, hb, hc0, y0, y1, HY⟩ := hx.at_ hlt
      have hc : wr.cell? ⟨b, off + k, none⟩ = some (.int .u8 y) := (hB.cell (p := ⟨b, off + k, none⟩) hb).trans hc0
      have g2 : wr.cell? ⟨w.heap.size, 2, none⟩ = some (.int .u64 st) := cell_of_row wr _ 2 _ _ (0, 0) hg
      have f2 : wr.frozen? ⟨w.heap.size, 2, none⟩ = false := by simp [World.frozen?, hg]
      have HG := Lib.hid hg
      clear hg
      have p0 : (0 : Int) ≤ (k : Int) := by omega
      have p1 : (k : Int) < (xs.length : Int) := by omega
      go_wp2_with fail
      go_region
      go_wp2
      go_roundw
      case rel => exact ⟨k + 1, _, by omega, by go_num, heap_setCell_same wr w.heap.size 2 _ _ _ HG.out, hB.drew.setCell (by simp) _⟩
      case measure => simp [intOf]; omega
    · go_wp2
      go_ret
      exact ⟨rfl, ⟨0, st, hg, Nat.zero_le _, hx.below hB, fun b off e hp => by
        obtain ⟨b', off', e', hb', _⟩ := hx 0 hp
        rw [e] at e'
        injection e' with e'
        injection e' with e1 _
        omega⟩, hB⟩
end Go.Proofs.Ytfhdnanbhigpmaa
