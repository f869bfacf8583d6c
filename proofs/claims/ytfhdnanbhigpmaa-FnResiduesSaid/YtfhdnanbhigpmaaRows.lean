/-
  No cell of these rows narrows 'for every input' (looked for: loops, veiled, ifaces, maps, wideKeys, modest, calm, conditions, laid).
  DERIVED. THE GIVEN ROWS OF THIS SEAT. 7 by the template 'for every input the law returns true; each argument reads behind the call as it read before'; 0 by the template 'total and deterministic' (their statements: YtfhdnanbhigpmaaTotals.lean).
  GIVEN WITH THE SEED: the statements are not yours to turn. If you find one false, say at which input.
  Laid BY PROGRAM, IN A SANDBOX (cutbox-rows.mjs): the forced cells as the released guide's own fill.sh prints them over the translation 446155fc905a260d… (all of the seat's roots in one cut). By AI agents, Wed Nov 11 2026. No macro, syntax, notation, axiom, sorry.
-/
import Derived.Test.YtfhdnanbhigpmaaChecked
import GoSem.Claim
import GoSem.ClaimJoined
import GoSem.ClaimMapViews
import Derived.JoinedTies
import Derived.KernelRfl
namespace Go.Proofs.Ytfhdnanbhigpmaa
/- THE CELL 'sum', in the pinned program and in every row, IS THE sha256 OF THE DUMP (.gsa) THAT YtfhdnanbhigpmaaProg.lean LOADS. Nothing in Lean hashes anything: it is a label: what it is worth is what the hold of that sum in a sandbox is worth. -/
noncomputable def Try.pinned : Pinned := { name := "ytfhdnanbhigpmaa", sum := "446155fc905a260d00f6dcae4974b5d7bd0efadbb4548669ef3e937a80c700f7", checked := Try.checked }
namespace Rows
def none {H : Type} : Left H := { results := [], args := [] }

/-- 'laws.FnResidues': WHATEVER THE INPUT: true; the input reads as it did. -/
def fnResiduesSpec : ChangeSpec := { name := "fnResidues", fn := fun _ => fun
  | [d] => { results := [.lit (.bool true)], args := [d] }
  | _ => none }
def fnResiduesRow : OpenClaim := { program := "ytfhdnanbhigpmaa", sum := "446155fc905a260d00f6dcae4974b5d7bd0efadbb4548669ef3e937a80c700f7", func := "loop.example/g00855/laws.FnResidues", spec := "fnResidues", unfollowed := true, recurses := true, apart := false }
def FnResiduesSaid : Prop := fnResiduesRow.holds Try.pinned (OpenSpec.ofChange fnResiduesSpec)

/-- ITS FALSE NEIGHBOUR: 'it returns false'. Refute it at one input. -/
def fnResiduesWrong : ChangeSpec := { name := "fnResidues", fn := fun _ => fun
  | [d] => { results := [.lit (.bool false)], args := [d] }
  | _ => none }
def FnResiduesWrongFalsely : Prop := fnResiduesRow.holds Try.pinned (OpenSpec.ofChange fnResiduesWrong)

/-- 'laws.FnExactStartFill': WHATEVER THE INPUT: true; the input reads as it did. -/
def fnExactStartFillSpec : ChangeSpec := { name := "fnExactStartFill", fn := fun _ => fun
  | [d1, d2] => { results := [.lit (.bool true)], args := [d1, d2] }
  | _ => none }
def fnExactStartFillRow : OpenClaim := { program := "ytfhdnanbhigpmaa", sum := "446155fc905a260d00f6dcae4974b5d7bd0efadbb4548669ef3e937a80c700f7", func := "loop.example/g00855/laws.FnExactStartFill", spec := "fnExactStartFill", unfollowed := true, recurses := true, apart := false }
def FnExactStartFillSaid : Prop := fnExactStartFillRow.holds Try.pinned (OpenSpec.ofChange fnExactStartFillSpec)

/-- ITS FALSE NEIGHBOUR: 'it returns false'. Refute it at one input. -/
def fnExactStartFillWrong : ChangeSpec := { name := "fnExactStartFill", fn := fun _ => fun
  | [d1, d2] => { results := [.lit (.bool false)], args := [d1, d2] }
  | _ => none }
def FnExactStartFillWrongFalsely : Prop := fnExactStartFillRow.holds Try.pinned (OpenSpec.ofChange fnExactStartFillWrong)

/-- 'laws.FnFillCrashes': WHATEVER THE INPUT: true; the input reads as it did. -/
def fnFillCrashesSpec : ChangeSpec := { name := "fnFillCrashes", fn := fun _ => fun
  | [d] => { results := [.lit (.bool true)], args := [d] }
  | _ => none }
def fnFillCrashesRow : OpenClaim := { program := "ytfhdnanbhigpmaa", sum := "446155fc905a260d00f6dcae4974b5d7bd0efadbb4548669ef3e937a80c700f7", func := "loop.example/g00855/laws.FnFillCrashes", spec := "fnFillCrashes", unfollowed := true, recurses := true, apart := false }
def FnFillCrashesSaid : Prop := fnFillCrashesRow.holds Try.pinned (OpenSpec.ofChange fnFillCrashesSpec)

/-- ITS FALSE NEIGHBOUR: 'it returns false'. Refute it at one input. -/
def fnFillCrashesWrong : ChangeSpec := { name := "fnFillCrashes", fn := fun _ => fun
  | [d] => { results := [.lit (.bool false)], args := [d] }
  | _ => none }
def FnFillCrashesWrongFalsely : Prop := fnFillCrashesRow.holds Try.pinned (OpenSpec.ofChange fnFillCrashesWrong)

/-- 'laws.FnFillPrefix': WHATEVER THE INPUT: true; the input reads as it did. -/
def fnFillPrefixSpec : ChangeSpec := { name := "fnFillPrefix", fn := fun _ => fun
  | [d] => { results := [.lit (.bool true)], args := [d] }
  | _ => none }
def fnFillPrefixRow : OpenClaim := { program := "ytfhdnanbhigpmaa", sum := "446155fc905a260d00f6dcae4974b5d7bd0efadbb4548669ef3e937a80c700f7", func := "loop.example/g00855/laws.FnFillPrefix", spec := "fnFillPrefix", unfollowed := true, recurses := true, apart := false }
def FnFillPrefixSaid : Prop := fnFillPrefixRow.holds Try.pinned (OpenSpec.ofChange fnFillPrefixSpec)

/-- ITS FALSE NEIGHBOUR: 'it returns false'. Refute it at one input. -/
def fnFillPrefixWrong : ChangeSpec := { name := "fnFillPrefix", fn := fun _ => fun
  | [d] => { results := [.lit (.bool false)], args := [d] }
  | _ => none }
def FnFillPrefixWrongFalsely : Prop := fnFillPrefixRow.holds Try.pinned (OpenSpec.ofChange fnFillPrefixWrong)

/-- 'laws.FnExactRecoverDistances': WHATEVER THE INPUT: true; the input reads as it did. -/
def fnExactRecoverDistancesSpec : ChangeSpec := { name := "fnExactRecoverDistances", fn := fun _ => fun
  | [d1, d2, d3] => { results := [.lit (.bool true)], args := [d1, d2, d3] }
  | _ => none }
def fnExactRecoverDistancesRow : OpenClaim := { program := "ytfhdnanbhigpmaa", sum := "446155fc905a260d00f6dcae4974b5d7bd0efadbb4548669ef3e937a80c700f7", func := "loop.example/g00855/laws.FnExactRecoverDistances", spec := "fnExactRecoverDistances", unfollowed := true, recurses := true, apart := false }
def FnExactRecoverDistancesSaid : Prop := fnExactRecoverDistancesRow.holds Try.pinned (OpenSpec.ofChange fnExactRecoverDistancesSpec)

/-- ITS FALSE NEIGHBOUR: 'it returns false'. Refute it at one input. -/
def fnExactRecoverDistancesWrong : ChangeSpec := { name := "fnExactRecoverDistances", fn := fun _ => fun
  | [d1, d2, d3] => { results := [.lit (.bool false)], args := [d1, d2, d3] }
  | _ => none }
def FnExactRecoverDistancesWrongFalsely : Prop := fnExactRecoverDistancesRow.holds Try.pinned (OpenSpec.ofChange fnExactRecoverDistancesWrong)

/-- 'laws.FnExactRecoverFill': WHATEVER THE INPUT: true; the input reads as it did. -/
def fnExactRecoverFillSpec : ChangeSpec := { name := "fnExactRecoverFill", fn := fun _ => fun
  | [d1, d2, d3] => { results := [.lit (.bool true)], args := [d1, d2, d3] }
  | _ => none }
def fnExactRecoverFillRow : OpenClaim := { program := "ytfhdnanbhigpmaa", sum := "446155fc905a260d00f6dcae4974b5d7bd0efadbb4548669ef3e937a80c700f7", func := "loop.example/g00855/laws.FnExactRecoverFill", spec := "fnExactRecoverFill", unfollowed := true, recurses := true, apart := false }
def FnExactRecoverFillSaid : Prop := fnExactRecoverFillRow.holds Try.pinned (OpenSpec.ofChange fnExactRecoverFillSpec)

/-- ITS FALSE NEIGHBOUR: 'it returns false'. Refute it at one input. -/
def fnExactRecoverFillWrong : ChangeSpec := { name := "fnExactRecoverFill", fn := fun _ => fun
  | [d1, d2, d3] => { results := [.lit (.bool false)], args := [d1, d2, d3] }
  | _ => none }
def FnExactRecoverFillWrongFalsely : Prop := fnExactRecoverFillRow.holds Try.pinned (OpenSpec.ofChange fnExactRecoverFillWrong)

/-- 'laws.FnExactIsValidFill': WHATEVER THE INPUT: true; the input reads as it did. -/
def fnExactIsValidFillSpec : ChangeSpec := { name := "fnExactIsValidFill", fn := fun _ => fun
  | [d1, d2] => { results := [.lit (.bool true)], args := [d1, d2] }
  | _ => none }
def fnExactIsValidFillRow : OpenClaim := { program := "ytfhdnanbhigpmaa", sum := "446155fc905a260d00f6dcae4974b5d7bd0efadbb4548669ef3e937a80c700f7", func := "loop.example/g00855/laws.FnExactIsValidFill", spec := "fnExactIsValidFill", unfollowed := true, recurses := true, apart := false }
def FnExactIsValidFillSaid : Prop := fnExactIsValidFillRow.holds Try.pinned (OpenSpec.ofChange fnExactIsValidFillSpec)

/-- ITS FALSE NEIGHBOUR: 'it returns false'. Refute it at one input. -/
def fnExactIsValidFillWrong : ChangeSpec := { name := "fnExactIsValidFill", fn := fun _ => fun
  | [d1, d2] => { results := [.lit (.bool false)], args := [d1, d2] }
  | _ => none }
def FnExactIsValidFillWrongFalsely : Prop := fnExactIsValidFillRow.holds Try.pinned (OpenSpec.ofChange fnExactIsValidFillWrong)

/- THE SECOND FORM. 'bulk': how many values and letters a reading holds, each counted each time it is reached (what is shared counts as often as it is met; a slice's spare places count too). A statement '..UptoSaid' is the law's where the arguments, and the package variables that the reading takes, are together of bulk at most 1048576: NARROWER than '..Said'. Prove '..Said' where nothing that the law and all that it calls make is longer than what came in: it says more and counts as full. Else prove '..UptoSaid'. A law counts once. -/
mutual
def uptoBulk {H : Type} : DataW H → Nat
  | .lit (.string bytes) => bytes.length + 1
  | .lit _ => 1
  | .nil => 1
  | .ptr d => uptoBulk d + 1
  | .slice elems spare => uptoBulkAll elems + uptoBulkAll spare + 1
  | .agg parts => uptoBulkAll parts + 1
  | .iface _ d => uptoBulk d + 1
  | .map entries => uptoBulkEntries entries + 1
  | .held _ => 1
def uptoBulkAll {H : Type} : List (DataW H) → Nat
  | [] => 0
  | d :: r => uptoBulk d + uptoBulkAll r
def uptoBulkEntries {H : Type} : List (Lit × DataW H) → Nat
  | [] => 0
  | x :: r => uptoBulkEntry x + uptoBulkEntries r
def uptoBulkEntry {H : Type} : Lit × DataW H → Nat
  | (.string bytes, d) => bytes.length + uptoBulk d + 1
  | (_, d) => uptoBulk d + 1
 end
def uptoSmall : (H : Type) → List (DataW H) → Bool := fun _ ds => decide (uptoBulkAll ds ≤ 1048576)
def OpenSpec.upto (s : _root_.Go.ChangeSpec) : _root_.Go.OpenSpec := { _root_.Go.OpenSpec.ofChange s with cond := some uptoSmall }

/-- 'laws.FnResidues', WHERE WHAT IT READS IS OF BULK AT MOST 1048576: true; the input reads as it did. -/
def fnResiduesUptoRow : OpenClaim := { program := "ytfhdnanbhigpmaa", sum := "446155fc905a260d00f6dcae4974b5d7bd0efadbb4548669ef3e937a80c700f7", func := "loop.example/g00855/laws.FnResidues", spec := "fnResidues", unfollowed := true, recurses := true, apart := false, narrowed := true }
def FnResiduesUptoSaid : Prop := fnResiduesUptoRow.holds Try.pinned (OpenSpec.upto fnResiduesSpec)

/-- 'laws.FnExactStartFill', WHERE WHAT IT READS IS OF BULK AT MOST 1048576: true; the input reads as it did. -/
def fnExactStartFillUptoRow : OpenClaim := { program := "ytfhdnanbhigpmaa", sum := "446155fc905a260d00f6dcae4974b5d7bd0efadbb4548669ef3e937a80c700f7", func := "loop.example/g00855/laws.FnExactStartFill", spec := "fnExactStartFill", unfollowed := true, recurses := true, apart := false, narrowed := true }
def FnExactStartFillUptoSaid : Prop := fnExactStartFillUptoRow.holds Try.pinned (OpenSpec.upto fnExactStartFillSpec)

/-- 'laws.FnFillCrashes', WHERE WHAT IT READS IS OF BULK AT MOST 1048576: true; the input reads as it did. -/
def fnFillCrashesUptoRow : OpenClaim := { program := "ytfhdnanbhigpmaa", sum := "446155fc905a260d00f6dcae4974b5d7bd0efadbb4548669ef3e937a80c700f7", func := "loop.example/g00855/laws.FnFillCrashes", spec := "fnFillCrashes", unfollowed := true, recurses := true, apart := false, narrowed := true }
def FnFillCrashesUptoSaid : Prop := fnFillCrashesUptoRow.holds Try.pinned (OpenSpec.upto fnFillCrashesSpec)

/-- 'laws.FnFillPrefix', WHERE WHAT IT READS IS OF BULK AT MOST 1048576: true; the input reads as it did. -/
def fnFillPrefixUptoRow : OpenClaim := { program := "ytfhdnanbhigpmaa", sum := "446155fc905a260d00f6dcae4974b5d7bd0efadbb4548669ef3e937a80c700f7", func := "loop.example/g00855/laws.FnFillPrefix", spec := "fnFillPrefix", unfollowed := true, recurses := true, apart := false, narrowed := true }
def FnFillPrefixUptoSaid : Prop := fnFillPrefixUptoRow.holds Try.pinned (OpenSpec.upto fnFillPrefixSpec)

/-- 'laws.FnExactRecoverDistances', WHERE WHAT IT READS IS OF BULK AT MOST 1048576: true; the input reads as it did. -/
def fnExactRecoverDistancesUptoRow : OpenClaim := { program := "ytfhdnanbhigpmaa", sum := "446155fc905a260d00f6dcae4974b5d7bd0efadbb4548669ef3e937a80c700f7", func := "loop.example/g00855/laws.FnExactRecoverDistances", spec := "fnExactRecoverDistances", unfollowed := true, recurses := true, apart := false, narrowed := true }
def FnExactRecoverDistancesUptoSaid : Prop := fnExactRecoverDistancesUptoRow.holds Try.pinned (OpenSpec.upto fnExactRecoverDistancesSpec)

/-- 'laws.FnExactRecoverFill', WHERE WHAT IT READS IS OF BULK AT MOST 1048576: true; the input reads as it did. -/
def fnExactRecoverFillUptoRow : OpenClaim := { program := "ytfhdnanbhigpmaa", sum := "446155fc905a260d00f6dcae4974b5d7bd0efadbb4548669ef3e937a80c700f7", func := "loop.example/g00855/laws.FnExactRecoverFill", spec := "fnExactRecoverFill", unfollowed := true, recurses := true, apart := false, narrowed := true }
def FnExactRecoverFillUptoSaid : Prop := fnExactRecoverFillUptoRow.holds Try.pinned (OpenSpec.upto fnExactRecoverFillSpec)

/-- 'laws.FnExactIsValidFill', WHERE WHAT IT READS IS OF BULK AT MOST 1048576: true; the input reads as it did. -/
def fnExactIsValidFillUptoRow : OpenClaim := { program := "ytfhdnanbhigpmaa", sum := "446155fc905a260d00f6dcae4974b5d7bd0efadbb4548669ef3e937a80c700f7", func := "loop.example/g00855/laws.FnExactIsValidFill", spec := "fnExactIsValidFill", unfollowed := true, recurses := true, apart := false, narrowed := true }
def FnExactIsValidFillUptoSaid : Prop := fnExactIsValidFillUptoRow.holds Try.pinned (OpenSpec.upto fnExactIsValidFillSpec)

end Rows
end Go.Proofs.Ytfhdnanbhigpmaa
