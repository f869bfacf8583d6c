/- Hexadecimal form, at both packages. Conditions: as each contract says. -/
import Derived.Test.YtfhdnanbhigpmaaSum
import Derived.StillTailTactics
import Derived.Outline
import Derived.Laws.BitsLemmas
namespace Go.Proofs.Ytfhdnanbhigpmaa
open Go.RowKit

theorem mask15 (x : Int) (h0 : 0 ≤ x) (h1 : x < 256) : bits BinOp.and IntKind.u8 x 15 = x % 16 := bits_mask .u8 8 (by decide) wraps_u8 4 (by decide) x h0 h1
def hexS : ByteArray := ⟨#[48, 49, 50, 51, 52, 53, 54, 55, 56, 57, 97, 98, 99, 100, 101, 102]⟩
theorem hexS_size : hexS.size = 16 := by decide +kernel
def hexD (i : Int) : Int := ((hexS[i.toNat]?).getD 0).toNat
theorem fold_hex : (⟨#[48, 49, 50, 51, 52, 53, 54, 55, 56, 57, 97, 98, 99, 100, 101, 102]⟩ : ByteArray) = hexS := rfl
theorem run_index_hex {P : Program} (w : World) (t : TypeId) (k : IntKind) (i : Int) (h : P.underlying t = some .string) (h0 : 0 ≤ i) (h1 : i ≤ 15) :
    (Instr.index t (.string hexS) (.int k i)).run P w = .ok (.int .u8 (hexD i)) w := by
  have hi : 0 ≤ i ∧ i < (hexS.size : Int) := by rw [hexS_size]; omega
  have h2 : i.toNat < hexS.size := by rw [hexS_size]; omega
  rw [run_index_string w t hexS k i h, dif_pos hi]
  simp only [hexD, ByteArray.getElem?_lt' _ _ h2, Option.getD_some]
theorem ret_str {a b : ByteArray} (h : a = b) : Ending.returned (.string a) = .returned (.string b) := by rw [h]
theorem ret_sb {a b : ByteArray} {p q : Bool} (h : a = b) (h2 : p = q) : Ending.returned (.tuple #[.string a, .bool p]) = .returned (.tuple #[.string b, .bool q]) := by rw [h, h2]
attribute [local go_sem high] fold_hex run_index_hex
def hexOf (l : List UInt8) : List Int := l.flatMap fun c => [hexD ((c.toNat : Int) / 16), hexD ((c.toNat : Int) % 16)]
theorem hexOf_len (l : List UInt8) : (hexOf l).length = 2 * l.length := by
  induction l with
  | nil => rfl
  | cons c l ih => simp [hexOf] at *; omega
theorem hexOf_snoc (l : List UInt8) (c : UInt8) : hexOf (l ++ [c]) = hexOf l ++ [hexD ((c.toNat : Int) / 16), hexD ((c.toNat : Int) % 16)] := by simp [hexOf]

end Go.Proofs.Ytfhdnanbhigpmaa
