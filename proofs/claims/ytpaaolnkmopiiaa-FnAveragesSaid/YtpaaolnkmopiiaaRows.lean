/-
  No cell of these rows narrows 'for every input' (looked for: loops, veiled, ifaces, maps, wideKeys, modest, calm, conditions, laid).
  DERIVED. THE GIVEN ROWS OF THIS SEAT. 10 by the template 'for every input the law returns true; each argument reads behind the call as it read before'; 0 by the template 'total and deterministic' (their statements: YtpaaolnkmopiiaaTotals.lean).
  GIVEN WITH THE SEED: the statements are not yours to turn. If you find one false, say at which input.
  Laid BY PROGRAM, IN A SANDBOX (cutbox-rows.mjs): the forced cells as the released guide's own fill.sh prints them over the translation 37704a698173fa68… (all of the seat's roots in one cut). By AI agents, Wed Nov 11 2026. No macro, syntax, notation, axiom, sorry.
-/
import Derived.Test.YtpaaolnkmopiiaaChecked
import GoSem.Claim
import GoSem.ClaimJoined
import GoSem.ClaimMapViews
import Derived.JoinedTies
import Derived.KernelRfl
namespace Go.Proofs.Ytpaaolnkmopiiaa
/- THE CELL 'sum', in the pinned program and in every row, IS THE sha256 OF THE DUMP (.gsa) THAT YtpaaolnkmopiiaaProg.lean LOADS. Nothing in Lean hashes anything: it is a label: what it is worth is what the hold of that sum in a sandbox is worth. -/
noncomputable def Try.pinned : Pinned := { name := "ytpaaolnkmopiiaa", sum := "37704a698173fa686bfb7c418101099ae693a5dff7c319e87f09d91e681e549a", checked := Try.checked }
namespace Rows
def none {H : Type} : Left H := { results := [], args := [] }

/-- 'laws.FnExactAdvancing': WHATEVER THE INPUT: true; the input reads as it did. -/
def fnExactAdvancingSpec : ChangeSpec := { name := "fnExactAdvancing", fn := fun _ => fun
  | [d1, d2] => { results := [.lit (.bool true)], args := [d1, d2] }
  | _ => none }
def fnExactAdvancingRow : OpenClaim := { program := "ytpaaolnkmopiiaa", sum := "37704a698173fa686bfb7c418101099ae693a5dff7c319e87f09d91e681e549a", func := "loop.example/g00855/laws.FnExactAdvancing", spec := "fnExactAdvancing", unfollowed := true, recurses := true, apart := false }
def FnExactAdvancingSaid : Prop := fnExactAdvancingRow.holds Try.pinned (OpenSpec.ofChange fnExactAdvancingSpec)

/-- ITS FALSE NEIGHBOUR: 'it returns false'. Refute it at one input. -/
def fnExactAdvancingWrong : ChangeSpec := { name := "fnExactAdvancing", fn := fun _ => fun
  | [d1, d2] => { results := [.lit (.bool false)], args := [d1, d2] }
  | _ => none }
def FnExactAdvancingWrongFalsely : Prop := fnExactAdvancingRow.holds Try.pinned (OpenSpec.ofChange fnExactAdvancingWrong)

/-- 'laws.FnExactAreValidEntries': WHATEVER THE INPUT: true; the input reads as it did. -/
def fnExactAreValidEntriesSpec : ChangeSpec := { name := "fnExactAreValidEntries", fn := fun _ => fun
  | [d] => { results := [.lit (.bool true)], args := [d] }
  | _ => none }
def fnExactAreValidEntriesRow : OpenClaim := { program := "ytpaaolnkmopiiaa", sum := "37704a698173fa686bfb7c418101099ae693a5dff7c319e87f09d91e681e549a", func := "loop.example/g00855/laws.FnExactAreValidEntries", spec := "fnExactAreValidEntries", unfollowed := true, recurses := true, apart := false }
def FnExactAreValidEntriesSaid : Prop := fnExactAreValidEntriesRow.holds Try.pinned (OpenSpec.ofChange fnExactAreValidEntriesSpec)

/-- ITS FALSE NEIGHBOUR: 'it returns false'. Refute it at one input. -/
def fnExactAreValidEntriesWrong : ChangeSpec := { name := "fnExactAreValidEntries", fn := fun _ => fun
  | [d] => { results := [.lit (.bool false)], args := [d] }
  | _ => none }
def FnExactAreValidEntriesWrongFalsely : Prop := fnExactAreValidEntriesRow.holds Try.pinned (OpenSpec.ofChange fnExactAreValidEntriesWrong)

/-- 'laws.FnAdvancing': WHATEVER THE INPUT: true; the input reads as it did. -/
def fnAdvancingSpec : ChangeSpec := { name := "fnAdvancing", fn := fun _ => fun
  | [d] => { results := [.lit (.bool true)], args := [d] }
  | _ => none }
def fnAdvancingRow : OpenClaim := { program := "ytpaaolnkmopiiaa", sum := "37704a698173fa686bfb7c418101099ae693a5dff7c319e87f09d91e681e549a", func := "loop.example/g00855/laws.FnAdvancing", spec := "fnAdvancing", unfollowed := true, recurses := true, apart := false }
def FnAdvancingSaid : Prop := fnAdvancingRow.holds Try.pinned (OpenSpec.ofChange fnAdvancingSpec)

/-- ITS FALSE NEIGHBOUR: 'it returns false'. Refute it at one input. -/
def fnAdvancingWrong : ChangeSpec := { name := "fnAdvancing", fn := fun _ => fun
  | [d] => { results := [.lit (.bool false)], args := [d] }
  | _ => none }
def FnAdvancingWrongFalsely : Prop := fnAdvancingRow.holds Try.pinned (OpenSpec.ofChange fnAdvancingWrong)

/-- 'laws.FnExactNormalizeEntry': WHATEVER THE INPUT: true; the input reads as it did. -/
def fnExactNormalizeEntrySpec : ChangeSpec := { name := "fnExactNormalizeEntry", fn := fun _ => fun
  | [d1, d2] => { results := [.lit (.bool true)], args := [d1, d2] }
  | _ => none }
def fnExactNormalizeEntryRow : OpenClaim := { program := "ytpaaolnkmopiiaa", sum := "37704a698173fa686bfb7c418101099ae693a5dff7c319e87f09d91e681e549a", func := "loop.example/g00855/laws.FnExactNormalizeEntry", spec := "fnExactNormalizeEntry", unfollowed := true, recurses := true, apart := false }
def FnExactNormalizeEntrySaid : Prop := fnExactNormalizeEntryRow.holds Try.pinned (OpenSpec.ofChange fnExactNormalizeEntrySpec)

/-- ITS FALSE NEIGHBOUR: 'it returns false'. Refute it at one input. -/
def fnExactNormalizeEntryWrong : ChangeSpec := { name := "fnExactNormalizeEntry", fn := fun _ => fun
  | [d1, d2] => { results := [.lit (.bool false)], args := [d1, d2] }
  | _ => none }
def FnExactNormalizeEntryWrongFalsely : Prop := fnExactNormalizeEntryRow.holds Try.pinned (OpenSpec.ofChange fnExactNormalizeEntryWrong)

/-- 'laws.FnRoundNormal': WHATEVER THE INPUT: true; the input reads as it did. -/
def fnRoundNormalSpec : ChangeSpec := { name := "fnRoundNormal", fn := fun _ => fun
  | [d] => { results := [.lit (.bool true)], args := [d] }
  | _ => none }
def fnRoundNormalRow : OpenClaim := { program := "ytpaaolnkmopiiaa", sum := "37704a698173fa686bfb7c418101099ae693a5dff7c319e87f09d91e681e549a", func := "loop.example/g00855/laws.FnRoundNormal", spec := "fnRoundNormal", unfollowed := true, recurses := true, apart := false }
def FnRoundNormalSaid : Prop := fnRoundNormalRow.holds Try.pinned (OpenSpec.ofChange fnRoundNormalSpec)

/-- ITS FALSE NEIGHBOUR: 'it returns false'. Refute it at one input. -/
def fnRoundNormalWrong : ChangeSpec := { name := "fnRoundNormal", fn := fun _ => fun
  | [d] => { results := [.lit (.bool false)], args := [d] }
  | _ => none }
def FnRoundNormalWrongFalsely : Prop := fnRoundNormalRow.holds Try.pinned (OpenSpec.ofChange fnRoundNormalWrong)

/-- 'laws.FnAverages': WHATEVER THE INPUT: true; the input reads as it did. -/
def fnAveragesSpec : ChangeSpec := { name := "fnAverages", fn := fun _ => fun
  | [d] => { results := [.lit (.bool true)], args := [d] }
  | _ => none }
def fnAveragesRow : OpenClaim := { program := "ytpaaolnkmopiiaa", sum := "37704a698173fa686bfb7c418101099ae693a5dff7c319e87f09d91e681e549a", func := "loop.example/g00855/laws.FnAverages", spec := "fnAverages", unfollowed := true, recurses := true, apart := false }
def FnAveragesSaid : Prop := fnAveragesRow.holds Try.pinned (OpenSpec.ofChange fnAveragesSpec)

/-- ITS FALSE NEIGHBOUR: 'it returns false'. Refute it at one input. -/
def fnAveragesWrong : ChangeSpec := { name := "fnAverages", fn := fun _ => fun
  | [d] => { results := [.lit (.bool false)], args := [d] }
  | _ => none }
def FnAveragesWrongFalsely : Prop := fnAveragesRow.holds Try.pinned (OpenSpec.ofChange fnAveragesWrong)

/-- 'laws.FnRanking': WHATEVER THE INPUT: true; the input reads as it did. -/
def fnRankingSpec : ChangeSpec := { name := "fnRanking", fn := fun _ => fun
  | [d] => { results := [.lit (.bool true)], args := [d] }
  | _ => none }
def fnRankingRow : OpenClaim := { program := "ytpaaolnkmopiiaa", sum := "37704a698173fa686bfb7c418101099ae693a5dff7c319e87f09d91e681e549a", func := "loop.example/g00855/laws.FnRanking", spec := "fnRanking", unfollowed := true, recurses := true, apart := false }
def FnRankingSaid : Prop := fnRankingRow.holds Try.pinned (OpenSpec.ofChange fnRankingSpec)

/-- ITS FALSE NEIGHBOUR: 'it returns false'. Refute it at one input. -/
def fnRankingWrong : ChangeSpec := { name := "fnRanking", fn := fun _ => fun
  | [d] => { results := [.lit (.bool false)], args := [d] }
  | _ => none }
def FnRankingWrongFalsely : Prop := fnRankingRow.holds Try.pinned (OpenSpec.ofChange fnRankingWrong)

/-- 'laws.FnExactRanks': WHATEVER THE INPUT: true; the input reads as it did. -/
def fnExactRanksSpec : ChangeSpec := { name := "fnExactRanks", fn := fun _ => fun
  | [d] => { results := [.lit (.bool true)], args := [d] }
  | _ => none }
def fnExactRanksRow : OpenClaim := { program := "ytpaaolnkmopiiaa", sum := "37704a698173fa686bfb7c418101099ae693a5dff7c319e87f09d91e681e549a", func := "loop.example/g00855/laws.FnExactRanks", spec := "fnExactRanks", unfollowed := true, recurses := true, apart := false }
def FnExactRanksSaid : Prop := fnExactRanksRow.holds Try.pinned (OpenSpec.ofChange fnExactRanksSpec)

/-- ITS FALSE NEIGHBOUR: 'it returns false'. Refute it at one input. -/
def fnExactRanksWrong : ChangeSpec := { name := "fnExactRanks", fn := fun _ => fun
  | [d] => { results := [.lit (.bool false)], args := [d] }
  | _ => none }
def FnExactRanksWrongFalsely : Prop := fnExactRanksRow.holds Try.pinned (OpenSpec.ofChange fnExactRanksWrong)

/-- 'laws.FnExactPodium': WHATEVER THE INPUT: true; the input reads as it did. -/
def fnExactPodiumSpec : ChangeSpec := { name := "fnExactPodium", fn := fun _ => fun
  | [d] => { results := [.lit (.bool true)], args := [d] }
  | _ => none }
def fnExactPodiumRow : OpenClaim := { program := "ytpaaolnkmopiiaa", sum := "37704a698173fa686bfb7c418101099ae693a5dff7c319e87f09d91e681e549a", func := "loop.example/g00855/laws.FnExactPodium", spec := "fnExactPodium", unfollowed := true, recurses := true, apart := false }
def FnExactPodiumSaid : Prop := fnExactPodiumRow.holds Try.pinned (OpenSpec.ofChange fnExactPodiumSpec)

/-- ITS FALSE NEIGHBOUR: 'it returns false'. Refute it at one input. -/
def fnExactPodiumWrong : ChangeSpec := { name := "fnExactPodium", fn := fun _ => fun
  | [d] => { results := [.lit (.bool false)], args := [d] }
  | _ => none }
def FnExactPodiumWrongFalsely : Prop := fnExactPodiumRow.holds Try.pinned (OpenSpec.ofChange fnExactPodiumWrong)

/-- 'laws.FnExactRoundRanks': WHATEVER THE INPUT: true; the input reads as it did. -/
def fnExactRoundRanksSpec : ChangeSpec := { name := "fnExactRoundRanks", fn := fun _ => fun
  | [d1, d2] => { results := [.lit (.bool true)], args := [d1, d2] }
  | _ => none }
def fnExactRoundRanksRow : OpenClaim := { program := "ytpaaolnkmopiiaa", sum := "37704a698173fa686bfb7c418101099ae693a5dff7c319e87f09d91e681e549a", func := "loop.example/g00855/laws.FnExactRoundRanks", spec := "fnExactRoundRanks", unfollowed := true, recurses := true, apart := false }
def FnExactRoundRanksSaid : Prop := fnExactRoundRanksRow.holds Try.pinned (OpenSpec.ofChange fnExactRoundRanksSpec)

/-- ITS FALSE NEIGHBOUR: 'it returns false'. Refute it at one input. -/
def fnExactRoundRanksWrong : ChangeSpec := { name := "fnExactRoundRanks", fn := fun _ => fun
  | [d1, d2] => { results := [.lit (.bool false)], args := [d1, d2] }
  | _ => none }
def FnExactRoundRanksWrongFalsely : Prop := fnExactRoundRanksRow.holds Try.pinned (OpenSpec.ofChange fnExactRoundRanksWrong)

/- THE SECOND FORM. 'bulk': how many values and letters a reading holds, each counted each time it is reached (what is shared counts as often as it is met; a slice's spare places count too). A statement '..UptoSaid' is the law's where the arguments, and the package variables that the reading takes, are together of bulk at most 1048576: NARROWER than '..Said'. Prove '..Said' where nothing that the law and all that it calls make is longer than what came in: it says more and counts as full. Else prove '..UptoSaid'. A law counts once. -/
mutual
def uptoBulk {H : Type} : DataW H → Nat
  | .lit (.string bytes) => bytes.length + 1
  | .lit _ => 1
  | .nil => 1
  | .ptr d => uptoBulk d + 1
  | .slice elems spare => uptoBulkAll elems + uptoBulkAll spare + 1
  | .agg parts => uptoBulkAll parts + 1
  | .iface _ d => uptoBulk d + 1
  | .map entries => uptoBulkEntries entries + 1
  | .held _ => 1
def uptoBulkAll {H : Type} : List (DataW H) → Nat
  | [] => 0
  | d :: r => uptoBulk d + uptoBulkAll r
def uptoBulkEntries {H : Type} : List (Lit × DataW H) → Nat
  | [] => 0
  | x :: r => uptoBulkEntry x + uptoBulkEntries r
def uptoBulkEntry {H : Type} : Lit × DataW H → Nat
  | (.string bytes, d) => bytes.length + uptoBulk d + 1
  | (_, d) => uptoBulk d + 1
 end
def uptoSmall : (H : Type) → List (DataW H) → Bool := fun _ ds => decide (uptoBulkAll ds ≤ 1048576)
def OpenSpec.upto (s : _root_.Go.ChangeSpec) : _root_.Go.OpenSpec := { _root_.Go.OpenSpec.ofChange s with cond := some uptoSmall }

/-- 'laws.FnExactAdvancing', WHERE WHAT IT READS IS OF BULK AT MOST 1048576: true; the input reads as it did. -/
def fnExactAdvancingUptoRow : OpenClaim := { program := "ytpaaolnkmopiiaa", sum := "37704a698173fa686bfb7c418101099ae693a5dff7c319e87f09d91e681e549a", func := "loop.example/g00855/laws.FnExactAdvancing", spec := "fnExactAdvancing", unfollowed := true, recurses := true, apart := false, narrowed := true }
def FnExactAdvancingUptoSaid : Prop := fnExactAdvancingUptoRow.holds Try.pinned (OpenSpec.upto fnExactAdvancingSpec)

/-- 'laws.FnExactAreValidEntries', WHERE WHAT IT READS IS OF BULK AT MOST 1048576: true; the input reads as it did. -/
def fnExactAreValidEntriesUptoRow : OpenClaim := { program := "ytpaaolnkmopiiaa", sum := "37704a698173fa686bfb7c418101099ae693a5dff7c319e87f09d91e681e549a", func := "loop.example/g00855/laws.FnExactAreValidEntries", spec := "fnExactAreValidEntries", unfollowed := true, recurses := true, apart := false, narrowed := true }
def FnExactAreValidEntriesUptoSaid : Prop := fnExactAreValidEntriesUptoRow.holds Try.pinned (OpenSpec.upto fnExactAreValidEntriesSpec)

/-- 'laws.FnAdvancing', WHERE WHAT IT READS IS OF BULK AT MOST 1048576: true; the input reads as it did. -/
def fnAdvancingUptoRow : OpenClaim := { program := "ytpaaolnkmopiiaa", sum := "37704a698173fa686bfb7c418101099ae693a5dff7c319e87f09d91e681e549a", func := "loop.example/g00855/laws.FnAdvancing", spec := "fnAdvancing", unfollowed := true, recurses := true, apart := false, narrowed := true }
def FnAdvancingUptoSaid : Prop := fnAdvancingUptoRow.holds Try.pinned (OpenSpec.upto fnAdvancingSpec)

/-- 'laws.FnExactNormalizeEntry', WHERE WHAT IT READS IS OF BULK AT MOST 1048576: true; the input reads as it did. -/
def fnExactNormalizeEntryUptoRow : OpenClaim := { program := "ytpaaolnkmopiiaa", sum := "37704a698173fa686bfb7c418101099ae693a5dff7c319e87f09d91e681e549a", func := "loop.example/g00855/laws.FnExactNormalizeEntry", spec := "fnExactNormalizeEntry", unfollowed := true, recurses := true, apart := false, narrowed := true }
def FnExactNormalizeEntryUptoSaid : Prop := fnExactNormalizeEntryUptoRow.holds Try.pinned (OpenSpec.upto fnExactNormalizeEntrySpec)

/-- 'laws.FnRoundNormal', WHERE WHAT IT READS IS OF BULK AT MOST 1048576: true; the input reads as it did. -/
def fnRoundNormalUptoRow : OpenClaim := { program := "ytpaaolnkmopiiaa", sum := "37704a698173fa686bfb7c418101099ae693a5dff7c319e87f09d91e681e549a", func := "loop.example/g00855/laws.FnRoundNormal", spec := "fnRoundNormal", unfollowed := true, recurses := true, apart := false, narrowed := true }
def FnRoundNormalUptoSaid : Prop := fnRoundNormalUptoRow.holds Try.pinned (OpenSpec.upto fnRoundNormalSpec)

/-- 'laws.FnAverages', WHERE WHAT IT READS IS OF BULK AT MOST 1048576: true; the input reads as it did. -/
def fnAveragesUptoRow : OpenClaim := { program := "ytpaaolnkmopiiaa", sum := "37704a698173fa686bfb7c418101099ae693a5dff7c319e87f09d91e681e549a", func := "loop.example/g00855/laws.FnAverages", spec := "fnAverages", unfollowed := true, recurses := true, apart := false, narrowed := true }
def FnAveragesUptoSaid : Prop := fnAveragesUptoRow.holds Try.pinned (OpenSpec.upto fnAveragesSpec)

/-- 'laws.FnRanking', WHERE WHAT IT READS IS OF BULK AT MOST 1048576: true; the input reads as it did. -/
def fnRankingUptoRow : OpenClaim := { program := "ytpaaolnkmopiiaa", sum := "37704a698173fa686bfb7c418101099ae693a5dff7c319e87f09d91e681e549a", func := "loop.example/g00855/laws.FnRanking", spec := "fnRanking", unfollowed := true, recurses := true, apart := false, narrowed := true }
def FnRankingUptoSaid : Prop := fnRankingUptoRow.holds Try.pinned (OpenSpec.upto fnRankingSpec)

/-- 'laws.FnExactRanks', WHERE WHAT IT READS IS OF BULK AT MOST 1048576: true; the input reads as it did. -/
def fnExactRanksUptoRow : OpenClaim := { program := "ytpaaolnkmopiiaa", sum := "37704a698173fa686bfb7c418101099ae693a5dff7c319e87f09d91e681e549a", func := "loop.example/g00855/laws.FnExactRanks", spec := "fnExactRanks", unfollowed := true, recurses := true, apart := false, narrowed := true }
def FnExactRanksUptoSaid : Prop := fnExactRanksUptoRow.holds Try.pinned (OpenSpec.upto fnExactRanksSpec)

/-- 'laws.FnExactPodium', WHERE WHAT IT READS IS OF BULK AT MOST 1048576: true; the input reads as it did. -/
def fnExactPodiumUptoRow : OpenClaim := { program := "ytpaaolnkmopiiaa", sum := "37704a698173fa686bfb7c418101099ae693a5dff7c319e87f09d91e681e549a", func := "loop.example/g00855/laws.FnExactPodium", spec := "fnExactPodium", unfollowed := true, recurses := true, apart := false, narrowed := true }
def FnExactPodiumUptoSaid : Prop := fnExactPodiumUptoRow.holds Try.pinned (OpenSpec.upto fnExactPodiumSpec)

/-- 'laws.FnExactRoundRanks', WHERE WHAT IT READS IS OF BULK AT MOST 1048576: true; the input reads as it did. -/
def fnExactRoundRanksUptoRow : OpenClaim := { program := "ytpaaolnkmopiiaa", sum := "37704a698173fa686bfb7c418101099ae693a5dff7c319e87f09d91e681e549a", func := "loop.example/g00855/laws.FnExactRoundRanks", spec := "fnExactRoundRanks", unfollowed := true, recurses := true, apart := false, narrowed := true }
def FnExactRoundRanksUptoSaid : Prop := fnExactRoundRanksUptoRow.holds Try.pinned (OpenSpec.upto fnExactRoundRanksSpec)

end Rows
end Go.Proofs.Ytpaaolnkmopiiaa
