/-
  No cell of these rows narrows 'for every input' (looked for: loops, veiled, ifaces, maps, wideKeys, modest, calm, conditions, laid).
  DERIVED. THE GIVEN ROWS OF THIS SEAT. 15 by the template 'for every input the law returns true; each argument reads behind the call as it read before'; 0 by the template 'total and deterministic' (their statements: YtpcnbjfkobeibaaTotals.lean).
  GIVEN WITH THE SEED: the statements are not yours to turn. If you find one false, say at which input.
  Laid BY PROGRAM, IN A SANDBOX (cutbox-rows.mjs): the forced cells as the released guide's own fill.sh prints them over the translation 17d9128715b946d3… (all of the seat's roots in one cut). By AI agents, Wed Nov 11 2026. No macro, syntax, notation, axiom, sorry.
-/
import Derived.Test.YtpcnbjfkobeibaaChecked
import GoSem.Claim
import GoSem.ClaimJoined
import GoSem.ClaimMapViews
import Derived.JoinedTies
import Derived.KernelRfl
namespace Go.Proofs.Ytpcnbjfkobeibaa
/- THE CELL 'sum', in the pinned program and in every row, IS THE sha256 OF THE DUMP (.gsa) THAT YtpcnbjfkobeibaaProg.lean LOADS. Nothing in Lean hashes anything: it is a label: what it is worth is what the hold of that sum in a sandbox is worth. -/
noncomputable def Try.pinned : Pinned := { name := "ytpcnbjfkobeibaa", sum := "17d9128715b946d303ab2bcac87912dba939d7ca6327e6f93124a9f6dc79424a", checked := Try.checked }
namespace Rows
def none {H : Type} : Left H := { results := [], args := [] }

/-- 'laws.FnExactNextMember': WHATEVER THE INPUT: true; the input reads as it did. -/
def fnExactNextMemberSpec : ChangeSpec := { name := "fnExactNextMember", fn := fun _ => fun
  | [d1, d2, d3] => { results := [.lit (.bool true)], args := [d1, d2, d3] }
  | _ => none }
def fnExactNextMemberRow : OpenClaim := { program := "ytpcnbjfkobeibaa", sum := "17d9128715b946d303ab2bcac87912dba939d7ca6327e6f93124a9f6dc79424a", func := "loop.example/g00855/laws.FnExactNextMember", spec := "fnExactNextMember", unfollowed := true, recurses := true, apart := false }
def FnExactNextMemberSaid : Prop := fnExactNextMemberRow.holds Try.pinned (OpenSpec.ofChange fnExactNextMemberSpec)

/-- ITS FALSE NEIGHBOUR: 'it returns false'. Refute it at one input. -/
def fnExactNextMemberWrong : ChangeSpec := { name := "fnExactNextMember", fn := fun _ => fun
  | [d1, d2, d3] => { results := [.lit (.bool false)], args := [d1, d2, d3] }
  | _ => none }
def FnExactNextMemberWrongFalsely : Prop := fnExactNextMemberRow.holds Try.pinned (OpenSpec.ofChange fnExactNextMemberWrong)

/-- 'laws.FnExactLongestMemberPrefix': WHATEVER THE INPUT: true; the input reads as it did. -/
def fnExactLongestMemberPrefixSpec : ChangeSpec := { name := "fnExactLongestMemberPrefix", fn := fun _ => fun
  | [d1, d2, d3] => { results := [.lit (.bool true)], args := [d1, d2, d3] }
  | _ => none }
def fnExactLongestMemberPrefixRow : OpenClaim := { program := "ytpcnbjfkobeibaa", sum := "17d9128715b946d303ab2bcac87912dba939d7ca6327e6f93124a9f6dc79424a", func := "loop.example/g00855/laws.FnExactLongestMemberPrefix", spec := "fnExactLongestMemberPrefix", unfollowed := true, recurses := true, apart := false }
def FnExactLongestMemberPrefixSaid : Prop := fnExactLongestMemberPrefixRow.holds Try.pinned (OpenSpec.ofChange fnExactLongestMemberPrefixSpec)

/-- ITS FALSE NEIGHBOUR: 'it returns false'. Refute it at one input. -/
def fnExactLongestMemberPrefixWrong : ChangeSpec := { name := "fnExactLongestMemberPrefix", fn := fun _ => fun
  | [d1, d2, d3] => { results := [.lit (.bool false)], args := [d1, d2, d3] }
  | _ => none }
def FnExactLongestMemberPrefixWrongFalsely : Prop := fnExactLongestMemberPrefixRow.holds Try.pinned (OpenSpec.ofChange fnExactLongestMemberPrefixWrong)

/-- 'laws.FnExactCosetMinimum': WHATEVER THE INPUT: true; the input reads as it did. -/
def fnExactCosetMinimumSpec : ChangeSpec := { name := "fnExactCosetMinimum", fn := fun _ => fun
  | [d1, d2, d3] => { results := [.lit (.bool true)], args := [d1, d2, d3] }
  | _ => none }
def fnExactCosetMinimumRow : OpenClaim := { program := "ytpcnbjfkobeibaa", sum := "17d9128715b946d303ab2bcac87912dba939d7ca6327e6f93124a9f6dc79424a", func := "loop.example/g00855/laws.FnExactCosetMinimum", spec := "fnExactCosetMinimum", unfollowed := true, recurses := true, apart := false }
def FnExactCosetMinimumSaid : Prop := fnExactCosetMinimumRow.holds Try.pinned (OpenSpec.ofChange fnExactCosetMinimumSpec)

/-- ITS FALSE NEIGHBOUR: 'it returns false'. Refute it at one input. -/
def fnExactCosetMinimumWrong : ChangeSpec := { name := "fnExactCosetMinimum", fn := fun _ => fun
  | [d1, d2, d3] => { results := [.lit (.bool false)], args := [d1, d2, d3] }
  | _ => none }
def FnExactCosetMinimumWrongFalsely : Prop := fnExactCosetMinimumRow.holds Try.pinned (OpenSpec.ofChange fnExactCosetMinimumWrong)

/-- 'laws.FnExactMemberWithPrefix': WHATEVER THE INPUT: true; the input reads as it did. -/
def fnExactMemberWithPrefixSpec : ChangeSpec := { name := "fnExactMemberWithPrefix", fn := fun _ => fun
  | [d1, d2, d3] => { results := [.lit (.bool true)], args := [d1, d2, d3] }
  | _ => none }
def fnExactMemberWithPrefixRow : OpenClaim := { program := "ytpcnbjfkobeibaa", sum := "17d9128715b946d303ab2bcac87912dba939d7ca6327e6f93124a9f6dc79424a", func := "loop.example/g00855/laws.FnExactMemberWithPrefix", spec := "fnExactMemberWithPrefix", unfollowed := true, recurses := true, apart := false }
def FnExactMemberWithPrefixSaid : Prop := fnExactMemberWithPrefixRow.holds Try.pinned (OpenSpec.ofChange fnExactMemberWithPrefixSpec)

/-- ITS FALSE NEIGHBOUR: 'it returns false'. Refute it at one input. -/
def fnExactMemberWithPrefixWrong : ChangeSpec := { name := "fnExactMemberWithPrefix", fn := fun _ => fun
  | [d1, d2, d3] => { results := [.lit (.bool false)], args := [d1, d2, d3] }
  | _ => none }
def FnExactMemberWithPrefixWrongFalsely : Prop := fnExactMemberWithPrefixRow.holds Try.pinned (OpenSpec.ofChange fnExactMemberWithPrefixWrong)

/-- 'laws.FnExactCountMembersBelow': WHATEVER THE INPUT: true; the input reads as it did. -/
def fnExactCountMembersBelowSpec : ChangeSpec := { name := "fnExactCountMembersBelow", fn := fun _ => fun
  | [d1, d2, d3] => { results := [.lit (.bool true)], args := [d1, d2, d3] }
  | _ => none }
def fnExactCountMembersBelowRow : OpenClaim := { program := "ytpcnbjfkobeibaa", sum := "17d9128715b946d303ab2bcac87912dba939d7ca6327e6f93124a9f6dc79424a", func := "loop.example/g00855/laws.FnExactCountMembersBelow", spec := "fnExactCountMembersBelow", unfollowed := true, recurses := true, apart := false }
def FnExactCountMembersBelowSaid : Prop := fnExactCountMembersBelowRow.holds Try.pinned (OpenSpec.ofChange fnExactCountMembersBelowSpec)

/-- ITS FALSE NEIGHBOUR: 'it returns false'. Refute it at one input. -/
def fnExactCountMembersBelowWrong : ChangeSpec := { name := "fnExactCountMembersBelow", fn := fun _ => fun
  | [d1, d2, d3] => { results := [.lit (.bool false)], args := [d1, d2, d3] }
  | _ => none }
def FnExactCountMembersBelowWrongFalsely : Prop := fnExactCountMembersBelowRow.holds Try.pinned (OpenSpec.ofChange fnExactCountMembersBelowWrong)

/-- 'laws.FnExactRank': WHATEVER THE INPUT: true; the input reads as it did. -/
def fnExactRankSpec : ChangeSpec := { name := "fnExactRank", fn := fun _ => fun
  | [d1, d2, d3] => { results := [.lit (.bool true)], args := [d1, d2, d3] }
  | _ => none }
def fnExactRankRow : OpenClaim := { program := "ytpcnbjfkobeibaa", sum := "17d9128715b946d303ab2bcac87912dba939d7ca6327e6f93124a9f6dc79424a", func := "loop.example/g00855/laws.FnExactRank", spec := "fnExactRank", unfollowed := true, recurses := true, apart := false }
def FnExactRankSaid : Prop := fnExactRankRow.holds Try.pinned (OpenSpec.ofChange fnExactRankSpec)

/-- ITS FALSE NEIGHBOUR: 'it returns false'. Refute it at one input. -/
def fnExactRankWrong : ChangeSpec := { name := "fnExactRank", fn := fun _ => fun
  | [d1, d2, d3] => { results := [.lit (.bool false)], args := [d1, d2, d3] }
  | _ => none }
def FnExactRankWrongFalsely : Prop := fnExactRankRow.holds Try.pinned (OpenSpec.ofChange fnExactRankWrong)

/-- 'laws.FnExactStrongGeneratingSet': WHATEVER THE INPUT: true; the input reads as it did. -/
def fnExactStrongGeneratingSetSpec : ChangeSpec := { name := "fnExactStrongGeneratingSet", fn := fun _ => fun
  | [d1, d2] => { results := [.lit (.bool true)], args := [d1, d2] }
  | _ => none }
def fnExactStrongGeneratingSetRow : OpenClaim := { program := "ytpcnbjfkobeibaa", sum := "17d9128715b946d303ab2bcac87912dba939d7ca6327e6f93124a9f6dc79424a", func := "loop.example/g00855/laws.FnExactStrongGeneratingSet", spec := "fnExactStrongGeneratingSet", unfollowed := true, recurses := true, apart := false }
def FnExactStrongGeneratingSetSaid : Prop := fnExactStrongGeneratingSetRow.holds Try.pinned (OpenSpec.ofChange fnExactStrongGeneratingSetSpec)

/-- ITS FALSE NEIGHBOUR: 'it returns false'. Refute it at one input. -/
def fnExactStrongGeneratingSetWrong : ChangeSpec := { name := "fnExactStrongGeneratingSet", fn := fun _ => fun
  | [d1, d2] => { results := [.lit (.bool false)], args := [d1, d2] }
  | _ => none }
def FnExactStrongGeneratingSetWrongFalsely : Prop := fnExactStrongGeneratingSetRow.holds Try.pinned (OpenSpec.ofChange fnExactStrongGeneratingSetWrong)

/-- 'laws.FnMembership': WHATEVER THE INPUT: true; the input reads as it did. -/
def fnMembershipSpec : ChangeSpec := { name := "fnMembership", fn := fun _ => fun
  | [d] => { results := [.lit (.bool true)], args := [d] }
  | _ => none }
def fnMembershipRow : OpenClaim := { program := "ytpcnbjfkobeibaa", sum := "17d9128715b946d303ab2bcac87912dba939d7ca6327e6f93124a9f6dc79424a", func := "loop.example/g00855/laws.FnMembership", spec := "fnMembership", unfollowed := true, recurses := true, apart := false }
def FnMembershipSaid : Prop := fnMembershipRow.holds Try.pinned (OpenSpec.ofChange fnMembershipSpec)

/-- ITS FALSE NEIGHBOUR: 'it returns false'. Refute it at one input. -/
def fnMembershipWrong : ChangeSpec := { name := "fnMembership", fn := fun _ => fun
  | [d] => { results := [.lit (.bool false)], args := [d] }
  | _ => none }
def FnMembershipWrongFalsely : Prop := fnMembershipRow.holds Try.pinned (OpenSpec.ofChange fnMembershipWrong)

/-- 'laws.FnCosets': WHATEVER THE INPUT: true; the input reads as it did. -/
def fnCosetsSpec : ChangeSpec := { name := "fnCosets", fn := fun _ => fun
  | [d] => { results := [.lit (.bool true)], args := [d] }
  | _ => none }
def fnCosetsRow : OpenClaim := { program := "ytpcnbjfkobeibaa", sum := "17d9128715b946d303ab2bcac87912dba939d7ca6327e6f93124a9f6dc79424a", func := "loop.example/g00855/laws.FnCosets", spec := "fnCosets", unfollowed := true, recurses := true, apart := false }
def FnCosetsSaid : Prop := fnCosetsRow.holds Try.pinned (OpenSpec.ofChange fnCosetsSpec)

/-- ITS FALSE NEIGHBOUR: 'it returns false'. Refute it at one input. -/
def fnCosetsWrong : ChangeSpec := { name := "fnCosets", fn := fun _ => fun
  | [d] => { results := [.lit (.bool false)], args := [d] }
  | _ => none }
def FnCosetsWrongFalsely : Prop := fnCosetsRow.holds Try.pinned (OpenSpec.ofChange fnCosetsWrong)

/-- 'laws.FnStrongGenerators': WHATEVER THE INPUT: true; the input reads as it did. -/
def fnStrongGeneratorsSpec : ChangeSpec := { name := "fnStrongGenerators", fn := fun _ => fun
  | [d] => { results := [.lit (.bool true)], args := [d] }
  | _ => none }
def fnStrongGeneratorsRow : OpenClaim := { program := "ytpcnbjfkobeibaa", sum := "17d9128715b946d303ab2bcac87912dba939d7ca6327e6f93124a9f6dc79424a", func := "loop.example/g00855/laws.FnStrongGenerators", spec := "fnStrongGenerators", unfollowed := true, recurses := true, apart := false }
def FnStrongGeneratorsSaid : Prop := fnStrongGeneratorsRow.holds Try.pinned (OpenSpec.ofChange fnStrongGeneratorsSpec)

/-- ITS FALSE NEIGHBOUR: 'it returns false'. Refute it at one input. -/
def fnStrongGeneratorsWrong : ChangeSpec := { name := "fnStrongGenerators", fn := fun _ => fun
  | [d] => { results := [.lit (.bool false)], args := [d] }
  | _ => none }
def FnStrongGeneratorsWrongFalsely : Prop := fnStrongGeneratorsRow.holds Try.pinned (OpenSpec.ofChange fnStrongGeneratorsWrong)

/-- 'laws.FnExactRandomMember': WHATEVER THE INPUT: true; the input reads as it did. -/
def fnExactRandomMemberSpec : ChangeSpec := { name := "fnExactRandomMember", fn := fun _ => fun
  | [d1, d2, d3] => { results := [.lit (.bool true)], args := [d1, d2, d3] }
  | _ => none }
def fnExactRandomMemberRow : OpenClaim := { program := "ytpcnbjfkobeibaa", sum := "17d9128715b946d303ab2bcac87912dba939d7ca6327e6f93124a9f6dc79424a", func := "loop.example/g00855/laws.FnExactRandomMember", spec := "fnExactRandomMember", unfollowed := true, recurses := true, apart := false }
def FnExactRandomMemberSaid : Prop := fnExactRandomMemberRow.holds Try.pinned (OpenSpec.ofChange fnExactRandomMemberSpec)

/-- ITS FALSE NEIGHBOUR: 'it returns false'. Refute it at one input. -/
def fnExactRandomMemberWrong : ChangeSpec := { name := "fnExactRandomMember", fn := fun _ => fun
  | [d1, d2, d3] => { results := [.lit (.bool false)], args := [d1, d2, d3] }
  | _ => none }
def FnExactRandomMemberWrongFalsely : Prop := fnExactRandomMemberRow.holds Try.pinned (OpenSpec.ofChange fnExactRandomMemberWrong)

/-- 'laws.FnExactMemberAt': WHATEVER THE INPUT: true; the input reads as it did. -/
def fnExactMemberAtSpec : ChangeSpec := { name := "fnExactMemberAt", fn := fun _ => fun
  | [d1, d2, d3] => { results := [.lit (.bool true)], args := [d1, d2, d3] }
  | _ => none }
def fnExactMemberAtRow : OpenClaim := { program := "ytpcnbjfkobeibaa", sum := "17d9128715b946d303ab2bcac87912dba939d7ca6327e6f93124a9f6dc79424a", func := "loop.example/g00855/laws.FnExactMemberAt", spec := "fnExactMemberAt", unfollowed := true, recurses := true, apart := false }
def FnExactMemberAtSaid : Prop := fnExactMemberAtRow.holds Try.pinned (OpenSpec.ofChange fnExactMemberAtSpec)

/-- ITS FALSE NEIGHBOUR: 'it returns false'. Refute it at one input. -/
def fnExactMemberAtWrong : ChangeSpec := { name := "fnExactMemberAt", fn := fun _ => fun
  | [d1, d2, d3] => { results := [.lit (.bool false)], args := [d1, d2, d3] }
  | _ => none }
def FnExactMemberAtWrongFalsely : Prop := fnExactMemberAtRow.holds Try.pinned (OpenSpec.ofChange fnExactMemberAtWrong)

/-- 'laws.FnExactFirstNonIdentity': WHATEVER THE INPUT: true; the input reads as it did. -/
def fnExactFirstNonIdentitySpec : ChangeSpec := { name := "fnExactFirstNonIdentity", fn := fun _ => fun
  | [d1, d2] => { results := [.lit (.bool true)], args := [d1, d2] }
  | _ => none }
def fnExactFirstNonIdentityRow : OpenClaim := { program := "ytpcnbjfkobeibaa", sum := "17d9128715b946d303ab2bcac87912dba939d7ca6327e6f93124a9f6dc79424a", func := "loop.example/g00855/laws.FnExactFirstNonIdentity", spec := "fnExactFirstNonIdentity", unfollowed := true, recurses := true, apart := false }
def FnExactFirstNonIdentitySaid : Prop := fnExactFirstNonIdentityRow.holds Try.pinned (OpenSpec.ofChange fnExactFirstNonIdentitySpec)

/-- ITS FALSE NEIGHBOUR: 'it returns false'. Refute it at one input. -/
def fnExactFirstNonIdentityWrong : ChangeSpec := { name := "fnExactFirstNonIdentity", fn := fun _ => fun
  | [d1, d2] => { results := [.lit (.bool false)], args := [d1, d2] }
  | _ => none }
def FnExactFirstNonIdentityWrongFalsely : Prop := fnExactFirstNonIdentityRow.holds Try.pinned (OpenSpec.ofChange fnExactFirstNonIdentityWrong)

/-- 'laws.FnExactMembers': WHATEVER THE INPUT: true; the input reads as it did. -/
def fnExactMembersSpec : ChangeSpec := { name := "fnExactMembers", fn := fun _ => fun
  | [d1, d2] => { results := [.lit (.bool true)], args := [d1, d2] }
  | _ => none }
def fnExactMembersRow : OpenClaim := { program := "ytpcnbjfkobeibaa", sum := "17d9128715b946d303ab2bcac87912dba939d7ca6327e6f93124a9f6dc79424a", func := "loop.example/g00855/laws.FnExactMembers", spec := "fnExactMembers", unfollowed := true, recurses := true, apart := false }
def FnExactMembersSaid : Prop := fnExactMembersRow.holds Try.pinned (OpenSpec.ofChange fnExactMembersSpec)

/-- ITS FALSE NEIGHBOUR: 'it returns false'. Refute it at one input. -/
def fnExactMembersWrong : ChangeSpec := { name := "fnExactMembers", fn := fun _ => fun
  | [d1, d2] => { results := [.lit (.bool false)], args := [d1, d2] }
  | _ => none }
def FnExactMembersWrongFalsely : Prop := fnExactMembersRow.holds Try.pinned (OpenSpec.ofChange fnExactMembersWrong)

/-- 'laws.FnExactCenterOrder': WHATEVER THE INPUT: true; the input reads as it did. -/
def fnExactCenterOrderSpec : ChangeSpec := { name := "fnExactCenterOrder", fn := fun _ => fun
  | [d1, d2] => { results := [.lit (.bool true)], args := [d1, d2] }
  | _ => none }
def fnExactCenterOrderRow : OpenClaim := { program := "ytpcnbjfkobeibaa", sum := "17d9128715b946d303ab2bcac87912dba939d7ca6327e6f93124a9f6dc79424a", func := "loop.example/g00855/laws.FnExactCenterOrder", spec := "fnExactCenterOrder", unfollowed := true, recurses := true, apart := false }
def FnExactCenterOrderSaid : Prop := fnExactCenterOrderRow.holds Try.pinned (OpenSpec.ofChange fnExactCenterOrderSpec)

/-- ITS FALSE NEIGHBOUR: 'it returns false'. Refute it at one input. -/
def fnExactCenterOrderWrong : ChangeSpec := { name := "fnExactCenterOrder", fn := fun _ => fun
  | [d1, d2] => { results := [.lit (.bool false)], args := [d1, d2] }
  | _ => none }
def FnExactCenterOrderWrongFalsely : Prop := fnExactCenterOrderRow.holds Try.pinned (OpenSpec.ofChange fnExactCenterOrderWrong)

/- THE SECOND FORM. 'bulk': how many values and letters a reading holds, each counted each time it is reached (what is shared counts as often as it is met; a slice's spare places count too). A statement '..UptoSaid' is the law's where the arguments, and the package variables that the reading takes, are together of bulk at most 1048576: NARROWER than '..Said'. Prove '..Said' where nothing that the law and all that it calls make is longer than what came in: it says more and counts as full. Else prove '..UptoSaid'. A law counts once. -/
mutual
def uptoBulk {H : Type} : DataW H → Nat
  | .lit (.string bytes) => bytes.length + 1
  | .lit _ => 1
  | .nil => 1
  | .ptr d => uptoBulk d + 1
  | .slice elems spare => uptoBulkAll elems + uptoBulkAll spare + 1
  | .agg parts => uptoBulkAll parts + 1
  | .iface _ d => uptoBulk d + 1
  | .map entries => uptoBulkEntries entries + 1
  | .held _ => 1
def uptoBulkAll {H : Type} : List (DataW H) → Nat
  | [] => 0
  | d :: r => uptoBulk d + uptoBulkAll r
def uptoBulkEntries {H : Type} : List (Lit × DataW H) → Nat
  | [] => 0
  | x :: r => uptoBulkEntry x + uptoBulkEntries r
def uptoBulkEntry {H : Type} : Lit × DataW H → Nat
  | (.string bytes, d) => bytes.length + uptoBulk d + 1
  | (_, d) => uptoBulk d + 1
 end
def uptoSmall : (H : Type) → List (DataW H) → Bool := fun _ ds => decide (uptoBulkAll ds ≤ 1048576)
def OpenSpec.upto (s : _root_.Go.ChangeSpec) : _root_.Go.OpenSpec := { _root_.Go.OpenSpec.ofChange s with cond := some uptoSmall }

/-- 'laws.FnExactNextMember', WHERE WHAT IT READS IS OF BULK AT MOST 1048576: true; the input reads as it did. -/
def fnExactNextMemberUptoRow : OpenClaim := { program := "ytpcnbjfkobeibaa", sum := "17d9128715b946d303ab2bcac87912dba939d7ca6327e6f93124a9f6dc79424a", func := "loop.example/g00855/laws.FnExactNextMember", spec := "fnExactNextMember", unfollowed := true, recurses := true, apart := false, narrowed := true }
def FnExactNextMemberUptoSaid : Prop := fnExactNextMemberUptoRow.holds Try.pinned (OpenSpec.upto fnExactNextMemberSpec)

/-- 'laws.FnExactLongestMemberPrefix', WHERE WHAT IT READS IS OF BULK AT MOST 1048576: true; the input reads as it did. -/
def fnExactLongestMemberPrefixUptoRow : OpenClaim := { program := "ytpcnbjfkobeibaa", sum := "17d9128715b946d303ab2bcac87912dba939d7ca6327e6f93124a9f6dc79424a", func := "loop.example/g00855/laws.FnExactLongestMemberPrefix", spec := "fnExactLongestMemberPrefix", unfollowed := true, recurses := true, apart := false, narrowed := true }
def FnExactLongestMemberPrefixUptoSaid : Prop := fnExactLongestMemberPrefixUptoRow.holds Try.pinned (OpenSpec.upto fnExactLongestMemberPrefixSpec)

/-- 'laws.FnExactCosetMinimum', WHERE WHAT IT READS IS OF BULK AT MOST 1048576: true; the input reads as it did. -/
def fnExactCosetMinimumUptoRow : OpenClaim := { program := "ytpcnbjfkobeibaa", sum := "17d9128715b946d303ab2bcac87912dba939d7ca6327e6f93124a9f6dc79424a", func := "loop.example/g00855/laws.FnExactCosetMinimum", spec := "fnExactCosetMinimum", unfollowed := true, recurses := true, apart := false, narrowed := true }
def FnExactCosetMinimumUptoSaid : Prop := fnExactCosetMinimumUptoRow.holds Try.pinned (OpenSpec.upto fnExactCosetMinimumSpec)

/-- 'laws.FnExactMemberWithPrefix', WHERE WHAT IT READS IS OF BULK AT MOST 1048576: true; the input reads as it did. -/
def fnExactMemberWithPrefixUptoRow : OpenClaim := { program := "ytpcnbjfkobeibaa", sum := "17d9128715b946d303ab2bcac87912dba939d7ca6327e6f93124a9f6dc79424a", func := "loop.example/g00855/laws.FnExactMemberWithPrefix", spec := "fnExactMemberWithPrefix", unfollowed := true, recurses := true, apart := false, narrowed := true }
def FnExactMemberWithPrefixUptoSaid : Prop := fnExactMemberWithPrefixUptoRow.holds Try.pinned (OpenSpec.upto fnExactMemberWithPrefixSpec)

/-- 'laws.FnExactCountMembersBelow', WHERE WHAT IT READS IS OF BULK AT MOST 1048576: true; the input reads as it did. -/
def fnExactCountMembersBelowUptoRow : OpenClaim := { program := "ytpcnbjfkobeibaa", sum := "17d9128715b946d303ab2bcac87912dba939d7ca6327e6f93124a9f6dc79424a", func := "loop.example/g00855/laws.FnExactCountMembersBelow", spec := "fnExactCountMembersBelow", unfollowed := true, recurses := true, apart := false, narrowed := true }
def FnExactCountMembersBelowUptoSaid : Prop := fnExactCountMembersBelowUptoRow.holds Try.pinned (OpenSpec.upto fnExactCountMembersBelowSpec)

/-- 'laws.FnExactRank', WHERE WHAT IT READS IS OF BULK AT MOST 1048576: true; the input reads as it did. -/
def fnExactRankUptoRow : OpenClaim := { program := "ytpcnbjfkobeibaa", sum := "17d9128715b946d303ab2bcac87912dba939d7ca6327e6f93124a9f6dc79424a", func := "loop.example/g00855/laws.FnExactRank", spec := "fnExactRank", unfollowed := true, recurses := true, apart := false, narrowed := true }
def FnExactRankUptoSaid : Prop := fnExactRankUptoRow.holds Try.pinned (OpenSpec.upto fnExactRankSpec)

/-- 'laws.FnExactStrongGeneratingSet', WHERE WHAT IT READS IS OF BULK AT MOST 1048576: true; the input reads as it did. -/
def fnExactStrongGeneratingSetUptoRow : OpenClaim := { program := "ytpcnbjfkobeibaa", sum := "17d9128715b946d303ab2bcac87912dba939d7ca6327e6f93124a9f6dc79424a", func := "loop.example/g00855/laws.FnExactStrongGeneratingSet", spec := "fnExactStrongGeneratingSet", unfollowed := true, recurses := true, apart := false, narrowed := true }
def FnExactStrongGeneratingSetUptoSaid : Prop := fnExactStrongGeneratingSetUptoRow.holds Try.pinned (OpenSpec.upto fnExactStrongGeneratingSetSpec)

/-- 'laws.FnMembership', WHERE WHAT IT READS IS OF BULK AT MOST 1048576: true; the input reads as it did. -/
def fnMembershipUptoRow : OpenClaim := { program := "ytpcnbjfkobeibaa", sum := "17d9128715b946d303ab2bcac87912dba939d7ca6327e6f93124a9f6dc79424a", func := "loop.example/g00855/laws.FnMembership", spec := "fnMembership", unfollowed := true, recurses := true, apart := false, narrowed := true }
def FnMembershipUptoSaid : Prop := fnMembershipUptoRow.holds Try.pinned (OpenSpec.upto fnMembershipSpec)

/-- 'laws.FnCosets', WHERE WHAT IT READS IS OF BULK AT MOST 1048576: true; the input reads as it did. -/
def fnCosetsUptoRow : OpenClaim := { program := "ytpcnbjfkobeibaa", sum := "17d9128715b946d303ab2bcac87912dba939d7ca6327e6f93124a9f6dc79424a", func := "loop.example/g00855/laws.FnCosets", spec := "fnCosets", unfollowed := true, recurses := true, apart := false, narrowed := true }
def FnCosetsUptoSaid : Prop := fnCosetsUptoRow.holds Try.pinned (OpenSpec.upto fnCosetsSpec)

/-- 'laws.FnStrongGenerators', WHERE WHAT IT READS IS OF BULK AT MOST 1048576: true; the input reads as it did. -/
def fnStrongGeneratorsUptoRow : OpenClaim := { program := "ytpcnbjfkobeibaa", sum := "17d9128715b946d303ab2bcac87912dba939d7ca6327e6f93124a9f6dc79424a", func := "loop.example/g00855/laws.FnStrongGenerators", spec := "fnStrongGenerators", unfollowed := true, recurses := true, apart := false, narrowed := true }
def FnStrongGeneratorsUptoSaid : Prop := fnStrongGeneratorsUptoRow.holds Try.pinned (OpenSpec.upto fnStrongGeneratorsSpec)

/-- 'laws.FnExactRandomMember', WHERE WHAT IT READS IS OF BULK AT MOST 1048576: true; the input reads as it did. -/
def fnExactRandomMemberUptoRow : OpenClaim := { program := "ytpcnbjfkobeibaa", sum := "17d9128715b946d303ab2bcac87912dba939d7ca6327e6f93124a9f6dc79424a", func := "loop.example/g00855/laws.FnExactRandomMember", spec := "fnExactRandomMember", unfollowed := true, recurses := true, apart := false, narrowed := true }
def FnExactRandomMemberUptoSaid : Prop := fnExactRandomMemberUptoRow.holds Try.pinned (OpenSpec.upto fnExactRandomMemberSpec)

/-- 'laws.FnExactMemberAt', WHERE WHAT IT READS IS OF BULK AT MOST 1048576: true; the input reads as it did. -/
def fnExactMemberAtUptoRow : OpenClaim := { program := "ytpcnbjfkobeibaa", sum := "17d9128715b946d303ab2bcac87912dba939d7ca6327e6f93124a9f6dc79424a", func := "loop.example/g00855/laws.FnExactMemberAt", spec := "fnExactMemberAt", unfollowed := true, recurses := true, apart := false, narrowed := true }
def FnExactMemberAtUptoSaid : Prop := fnExactMemberAtUptoRow.holds Try.pinned (OpenSpec.upto fnExactMemberAtSpec)

/-- 'laws.FnExactFirstNonIdentity', WHERE WHAT IT READS IS OF BULK AT MOST 1048576: true; the input reads as it did. -/
def fnExactFirstNonIdentityUptoRow : OpenClaim := { program := "ytpcnbjfkobeibaa", sum := "17d9128715b946d303ab2bcac87912dba939d7ca6327e6f93124a9f6dc79424a", func := "loop.example/g00855/laws.FnExactFirstNonIdentity", spec := "fnExactFirstNonIdentity", unfollowed := true, recurses := true, apart := false, narrowed := true }
def FnExactFirstNonIdentityUptoSaid : Prop := fnExactFirstNonIdentityUptoRow.holds Try.pinned (OpenSpec.upto fnExactFirstNonIdentitySpec)

/-- 'laws.FnExactMembers', WHERE WHAT IT READS IS OF BULK AT MOST 1048576: true; the input reads as it did. -/
def fnExactMembersUptoRow : OpenClaim := { program := "ytpcnbjfkobeibaa", sum := "17d9128715b946d303ab2bcac87912dba939d7ca6327e6f93124a9f6dc79424a", func := "loop.example/g00855/laws.FnExactMembers", spec := "fnExactMembers", unfollowed := true, recurses := true, apart := false, narrowed := true }
def FnExactMembersUptoSaid : Prop := fnExactMembersUptoRow.holds Try.pinned (OpenSpec.upto fnExactMembersSpec)

/-- 'laws.FnExactCenterOrder', WHERE WHAT IT READS IS OF BULK AT MOST 1048576: true; the input reads as it did. -/
def fnExactCenterOrderUptoRow : OpenClaim := { program := "ytpcnbjfkobeibaa", sum := "17d9128715b946d303ab2bcac87912dba939d7ca6327e6f93124a9f6dc79424a", func := "loop.example/g00855/laws.FnExactCenterOrder", spec := "fnExactCenterOrder", unfollowed := true, recurses := true, apart := false, narrowed := true }
def FnExactCenterOrderUptoSaid : Prop := fnExactCenterOrderUptoRow.holds Try.pinned (OpenSpec.upto fnExactCenterOrderSpec)

end Rows
end Go.Proofs.Ytpcnbjfkobeibaa
