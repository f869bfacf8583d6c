/- Packing of nibbles, at both packages. Conditions: as each contract says. -/
import Derived.Test.YtfhdnanbhigpmaaAll
namespace Go.Proofs.Ytfhdnanbhigpmaa
open Go.RowKit

def nibS (xs : List Int) : ByteArray := if allIn xs 15 then strOfNums (bytesBy (nib xs) ((xs.length + 1) / 2)) else ⟨#[]⟩
theorem bytesBy_more (f : Nat → Int) (n : Nat) : bytesBy f (n + 1) = bytesBy f n ++ [f n] := by simp [bytesBy, List.range_succ]
theorem bytesBy_len (f : Nat → Int) (n : Nat) : (bytesBy f n).length = n := by simp [bytesBy]
end Go.Proofs.Ytfhdnanbhigpmaa
