/- A byte of a string. No conditions. -/
import Derived.Test.YtfhdnanbhigpmaaHex
namespace Go.Proofs.Ytfhdnanbhigpmaa
open Go.RowKit

def byteAt (s : ByteArray) (j : Nat) : Int := (s.data.toList.getD j 0).toNat
theorem byteAt_is (s : ByteArray) (j : Nat) (h : j < s.size) : byteAt s j = (s[j].toNat : Int) := by
  unfold byteAt
  rw [List.getD_eq_getElem?_getD, List.getElem?_eq_getElem (by simpa using h)]
  rfl
end Go.Proofs.Ytfhdnanbhigpmaa
