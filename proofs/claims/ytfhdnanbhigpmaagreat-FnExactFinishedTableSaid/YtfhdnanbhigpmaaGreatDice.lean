/- The dice of the laws: a source of numbers in memory of its own; what it draws lies in the range that was asked. -/
import Derived.Test.YtfhdnanbhigpmaaGreatMark
namespace Go.Proofs.YtfhdnanbhigpmaaGreat
open Go.RowKit

def BytesAt (w : World) (A : Option Addr) (xs : List Int) : Prop :=
  ∀ k, k < xs.length → ∃ b off, A = some ⟨b, off, none⟩ ∧ b < w.heap.size ∧ w.cell? ⟨b, off + k, none⟩ = some (.int .u8 (xs.getD k 0)) ∧ 0 ≤ xs.getD k 0 ∧ xs.getD k 0 ≤ 255
theorem BytesAt.at_ {w : World} {A : Option Addr} {xs : List Int} (h : BytesAt w A xs) {k : Nat} (hk : k < xs.length) :
    ∃ b off y, A = some ⟨b, off, none⟩ ∧ b < w.heap.size ∧ w.cell? ⟨b, off + k, none⟩ = some (.int .u8 y) ∧ 0 ≤ y ∧ y ≤ 255 ∧ Hid (xs.getD k 0 = y) := by
  obtain ⟨b, off, e, hb, hc, h0, h1⟩ := h k hk
  exact ⟨b, off, _, e, hb, hc, h0, h1, rfl⟩
theorem mask24 (E : Int) : ∃ S x, IntKind.u64.wrap E = S ∧ wrap64 (bits BinOp.and IntKind.u64 (S / 8589934592) 16777215) = x ∧ 0 ≤ x ∧ x ≤ 16777215 := by
  refine ⟨_, _, rfl, rfl, ?_⟩
  have hb := wrap_within .u64 E
  have hb1 : 0 ≤ IntKind.u64.wrap E ∧ IntKind.u64.wrap E ≤ 18446744073709551615 := by simpa [IntKind.min, IntKind.max, IntKind.signed, IntKind.bits] using hb
  obtain ⟨n, hn⟩ := Int.eq_ofNat_of_zero_le hb1.1
  rw [hn] at hb1 ⊢
  have e : (n : Int) / 8589934592 = ((n / 8589934592 : Nat) : Int) := by omega
  have h2 := bits_and_u64_nat (n / 8589934592) 16777215 (by omega) (by omega)
  have h3 : (n / 8589934592) &&& 16777215 ≤ 16777215 := Nat.and_le_right
  have h : 0 ≤ bits BinOp.and IntKind.u64 ((n : Int) / 8589934592) 16777215 ∧ bits BinOp.and IntKind.u64 ((n : Int) / 8589934592) 16777215 ≤ 16777215 := by
    rw [e]
    have h4 : bits BinOp.and IntKind.u64 ((n / 8589934592 : Nat) : Int) 16777215 = (((n / 8589934592) &&& 16777215 : Nat) : Int) := h2
    rw [h4]
    omega
  rw [IntWalk.wrap64_in _ (by omega)]
  exact h
theorem diceGrown0 (w : World) (g nq : Nat) (u : Value) : w.grownBy ((w.setCell ⟨g, 2, none⟩ u).drewN nq) (some g) :=
  ⟨rfl, rfl, rfl, by simp, fun k _ hne => heap_setCell_other w ⟨g, 2, none⟩ k u (fun e => hne (by rw [e]))⟩
theorem BytesAt.below {w w' : World} {A : Option Addr} {xs : List Int} (h : BytesAt w A xs) (hb : Below w.heap.size w w') : BytesAt w' A xs := by
  intro k hk
  obtain ⟨b, off, e, hlt, hc, h2⟩ := h k hk
  exact ⟨b, off, e, Nat.lt_of_lt_of_le hlt hb.size, (hb.cell (p := ⟨b, off + k, none⟩) hlt).trans hc, h2⟩
theorem diceGrown (w : World) (g nq : Nat) (u v : Value) : w.grownBy (((w.setCell ⟨g, 2, none⟩ u).drewN nq).setCell ⟨g, 1, none⟩ v) (some g) :=
  ⟨rfl, rfl, rfl, by simp, fun k _ hne => by
    have hk : k ≠ g := fun e => hne (by rw [e])
    rw [heap_setCell_other _ ⟨g, 1, none⟩ k v hk]
    exact heap_setCell_other w ⟨g, 2, none⟩ k u hk⟩
end Go.Proofs.YtfhdnanbhigpmaaGreat
