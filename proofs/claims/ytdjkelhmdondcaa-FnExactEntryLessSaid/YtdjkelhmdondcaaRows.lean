/-
  No cell of these rows narrows 'for every input' (looked for: loops, veiled, ifaces, maps, wideKeys, modest, calm, conditions, laid).
  DERIVED. THE GIVEN ROWS OF THIS SEAT. 23 by the template 'for every input the law returns true; each argument reads behind the call as it read before'; 0 by the template 'total and deterministic' (their statements: YtdjkelhmdondcaaTotals.lean).
  GIVEN WITH THE SEED: the statements are not yours to turn. If you find one false, say at which input.
  Laid BY PROGRAM, IN A SANDBOX (cutbox-rows.mjs): the forced cells as the released guide's own fill.sh prints them over the translation eb3fad260b61121f… (all of the seat's roots in one cut). By AI agents, Wed Nov 11 2026. No macro, syntax, notation, axiom, sorry.
-/
import Derived.Test.YtdjkelhmdondcaaChecked
import GoSem.Claim
import GoSem.ClaimJoined
import GoSem.ClaimMapViews
import Derived.JoinedTies
import Derived.KernelRfl
namespace Go.Proofs.Ytdjkelhmdondcaa
/- THE CELL 'sum', in the pinned program and in every row, IS THE sha256 OF THE DUMP (.gsa) THAT YtdjkelhmdondcaaProg.lean LOADS. Nothing in Lean hashes anything: it is a label: what it is worth is what the hold of that sum in a sandbox is worth. -/
noncomputable def Try.pinned : Pinned := { name := "ytdjkelhmdondcaa", sum := "eb3fad260b61121f21bf33bc9851257d00851390f5caa5d4f36beedd699944e2", checked := Try.checked }
namespace Rows
def none {H : Type} : Left H := { results := [], args := [] }

/-- 'laws.FnExactIsValidRoundRules': WHATEVER THE INPUT: true; the input reads as it did. -/
def fnExactIsValidRoundRulesSpec : ChangeSpec := { name := "fnExactIsValidRoundRules", fn := fun _ => fun
  | [d] => { results := [.lit (.bool true)], args := [d] }
  | _ => none }
def fnExactIsValidRoundRulesRow : OpenClaim := { program := "ytdjkelhmdondcaa", sum := "eb3fad260b61121f21bf33bc9851257d00851390f5caa5d4f36beedd699944e2", func := "loop.example/g00855/laws.FnExactIsValidRoundRules", spec := "fnExactIsValidRoundRules", apart := false }
def FnExactIsValidRoundRulesSaid : Prop := fnExactIsValidRoundRulesRow.holds Try.pinned (OpenSpec.ofChange fnExactIsValidRoundRulesSpec)

/-- ITS FALSE NEIGHBOUR: 'it returns false'. Refute it at one input. -/
def fnExactIsValidRoundRulesWrong : ChangeSpec := { name := "fnExactIsValidRoundRules", fn := fun _ => fun
  | [d] => { results := [.lit (.bool false)], args := [d] }
  | _ => none }
def FnExactIsValidRoundRulesWrongFalsely : Prop := fnExactIsValidRoundRulesRow.holds Try.pinned (OpenSpec.ofChange fnExactIsValidRoundRulesWrong)

/-- 'laws.FnExactResultLess': WHATEVER THE INPUT: true; the input reads as it did. -/
def fnExactResultLessSpec : ChangeSpec := { name := "fnExactResultLess", fn := fun _ => fun
  | [d1, d2] => { results := [.lit (.bool true)], args := [d1, d2] }
  | _ => none }
def fnExactResultLessRow : OpenClaim := { program := "ytdjkelhmdondcaa", sum := "eb3fad260b61121f21bf33bc9851257d00851390f5caa5d4f36beedd699944e2", func := "loop.example/g00855/laws.FnExactResultLess", spec := "fnExactResultLess", apart := false }
def FnExactResultLessSaid : Prop := fnExactResultLessRow.holds Try.pinned (OpenSpec.ofChange fnExactResultLessSpec)

/-- ITS FALSE NEIGHBOUR: 'it returns false'. Refute it at one input. -/
def fnExactResultLessWrong : ChangeSpec := { name := "fnExactResultLess", fn := fun _ => fun
  | [d1, d2] => { results := [.lit (.bool false)], args := [d1, d2] }
  | _ => none }
def FnExactResultLessWrongFalsely : Prop := fnExactResultLessRow.holds Try.pinned (OpenSpec.ofChange fnExactResultLessWrong)

/-- 'laws.FnExactAreValidResults': WHATEVER THE INPUT: true; the input reads as it did. -/
def fnExactAreValidResultsSpec : ChangeSpec := { name := "fnExactAreValidResults", fn := fun _ => fun
  | [d] => { results := [.lit (.bool true)], args := [d] }
  | _ => none }
def fnExactAreValidResultsRow : OpenClaim := { program := "ytdjkelhmdondcaa", sum := "eb3fad260b61121f21bf33bc9851257d00851390f5caa5d4f36beedd699944e2", func := "loop.example/g00855/laws.FnExactAreValidResults", spec := "fnExactAreValidResults", unfollowed := true, recurses := true, apart := false }
def FnExactAreValidResultsSaid : Prop := fnExactAreValidResultsRow.holds Try.pinned (OpenSpec.ofChange fnExactAreValidResultsSpec)

/-- ITS FALSE NEIGHBOUR: 'it returns false'. Refute it at one input. -/
def fnExactAreValidResultsWrong : ChangeSpec := { name := "fnExactAreValidResults", fn := fun _ => fun
  | [d] => { results := [.lit (.bool false)], args := [d] }
  | _ => none }
def FnExactAreValidResultsWrongFalsely : Prop := fnExactAreValidResultsRow.holds Try.pinned (OpenSpec.ofChange fnExactAreValidResultsWrong)

/-- 'laws.FnExactApplyTimeLimit': WHATEVER THE INPUT: true; the input reads as it did. -/
def fnExactApplyTimeLimitSpec : ChangeSpec := { name := "fnExactApplyTimeLimit", fn := fun _ => fun
  | [d1, d2] => { results := [.lit (.bool true)], args := [d1, d2] }
  | _ => none }
def fnExactApplyTimeLimitRow : OpenClaim := { program := "ytdjkelhmdondcaa", sum := "eb3fad260b61121f21bf33bc9851257d00851390f5caa5d4f36beedd699944e2", func := "loop.example/g00855/laws.FnExactApplyTimeLimit", spec := "fnExactApplyTimeLimit", apart := false }
def FnExactApplyTimeLimitSaid : Prop := fnExactApplyTimeLimitRow.holds Try.pinned (OpenSpec.ofChange fnExactApplyTimeLimitSpec)

/-- ITS FALSE NEIGHBOUR: 'it returns false'. Refute it at one input. -/
def fnExactApplyTimeLimitWrong : ChangeSpec := { name := "fnExactApplyTimeLimit", fn := fun _ => fun
  | [d1, d2] => { results := [.lit (.bool false)], args := [d1, d2] }
  | _ => none }
def FnExactApplyTimeLimitWrongFalsely : Prop := fnExactApplyTimeLimitRow.holds Try.pinned (OpenSpec.ofChange fnExactApplyTimeLimitWrong)

/-- 'laws.FnExactAdvancing': WHATEVER THE INPUT: true; the input reads as it did. -/
def fnExactAdvancingSpec : ChangeSpec := { name := "fnExactAdvancing", fn := fun _ => fun
  | [d1, d2] => { results := [.lit (.bool true)], args := [d1, d2] }
  | _ => none }
def fnExactAdvancingRow : OpenClaim := { program := "ytdjkelhmdondcaa", sum := "eb3fad260b61121f21bf33bc9851257d00851390f5caa5d4f36beedd699944e2", func := "loop.example/g00855/laws.FnExactAdvancing", spec := "fnExactAdvancing", unfollowed := true, recurses := true, apart := false }
def FnExactAdvancingSaid : Prop := fnExactAdvancingRow.holds Try.pinned (OpenSpec.ofChange fnExactAdvancingSpec)

/-- ITS FALSE NEIGHBOUR: 'it returns false'. Refute it at one input. -/
def fnExactAdvancingWrong : ChangeSpec := { name := "fnExactAdvancing", fn := fun _ => fun
  | [d1, d2] => { results := [.lit (.bool false)], args := [d1, d2] }
  | _ => none }
def FnExactAdvancingWrongFalsely : Prop := fnExactAdvancingRow.holds Try.pinned (OpenSpec.ofChange fnExactAdvancingWrong)

/-- 'laws.FnExactMean': WHATEVER THE INPUT: true; the input reads as it did. -/
def fnExactMeanSpec : ChangeSpec := { name := "fnExactMean", fn := fun _ => fun
  | [d] => { results := [.lit (.bool true)], args := [d] }
  | _ => none }
def fnExactMeanRow : OpenClaim := { program := "ytdjkelhmdondcaa", sum := "eb3fad260b61121f21bf33bc9851257d00851390f5caa5d4f36beedd699944e2", func := "loop.example/g00855/laws.FnExactMean", spec := "fnExactMean", unfollowed := true, recurses := true, apart := false }
def FnExactMeanSaid : Prop := fnExactMeanRow.holds Try.pinned (OpenSpec.ofChange fnExactMeanSpec)

/-- ITS FALSE NEIGHBOUR: 'it returns false'. Refute it at one input. -/
def fnExactMeanWrong : ChangeSpec := { name := "fnExactMean", fn := fun _ => fun
  | [d] => { results := [.lit (.bool false)], args := [d] }
  | _ => none }
def FnExactMeanWrongFalsely : Prop := fnExactMeanRow.holds Try.pinned (OpenSpec.ofChange fnExactMeanWrong)

/-- 'laws.FnExactIsValidEntry': WHATEVER THE INPUT: true; the input reads as it did. -/
def fnExactIsValidEntrySpec : ChangeSpec := { name := "fnExactIsValidEntry", fn := fun _ => fun
  | [d] => { results := [.lit (.bool true)], args := [d] }
  | _ => none }
def fnExactIsValidEntryRow : OpenClaim := { program := "ytdjkelhmdondcaa", sum := "eb3fad260b61121f21bf33bc9851257d00851390f5caa5d4f36beedd699944e2", func := "loop.example/g00855/laws.FnExactIsValidEntry", spec := "fnExactIsValidEntry", unfollowed := true, recurses := true, apart := false }
def FnExactIsValidEntrySaid : Prop := fnExactIsValidEntryRow.holds Try.pinned (OpenSpec.ofChange fnExactIsValidEntrySpec)

/-- ITS FALSE NEIGHBOUR: 'it returns false'. Refute it at one input. -/
def fnExactIsValidEntryWrong : ChangeSpec := { name := "fnExactIsValidEntry", fn := fun _ => fun
  | [d] => { results := [.lit (.bool false)], args := [d] }
  | _ => none }
def FnExactIsValidEntryWrongFalsely : Prop := fnExactIsValidEntryRow.holds Try.pinned (OpenSpec.ofChange fnExactIsValidEntryWrong)

/-- 'laws.FnRecords': WHATEVER THE INPUT: true; the input reads as it did. -/
def fnRecordsSpec : ChangeSpec := { name := "fnRecords", fn := fun _ => fun
  | [d] => { results := [.lit (.bool true)], args := [d] }
  | _ => none }
def fnRecordsRow : OpenClaim := { program := "ytdjkelhmdondcaa", sum := "eb3fad260b61121f21bf33bc9851257d00851390f5caa5d4f36beedd699944e2", func := "loop.example/g00855/laws.FnRecords", spec := "fnRecords", unfollowed := true, recurses := true, apart := false }
def FnRecordsSaid : Prop := fnRecordsRow.holds Try.pinned (OpenSpec.ofChange fnRecordsSpec)

/-- ITS FALSE NEIGHBOUR: 'it returns false'. Refute it at one input. -/
def fnRecordsWrong : ChangeSpec := { name := "fnRecords", fn := fun _ => fun
  | [d] => { results := [.lit (.bool false)], args := [d] }
  | _ => none }
def FnRecordsWrongFalsely : Prop := fnRecordsRow.holds Try.pinned (OpenSpec.ofChange fnRecordsWrong)

/-- 'laws.FnExactBestResult': WHATEVER THE INPUT: true; the input reads as it did. -/
def fnExactBestResultSpec : ChangeSpec := { name := "fnExactBestResult", fn := fun _ => fun
  | [d] => { results := [.lit (.bool true)], args := [d] }
  | _ => none }
def fnExactBestResultRow : OpenClaim := { program := "ytdjkelhmdondcaa", sum := "eb3fad260b61121f21bf33bc9851257d00851390f5caa5d4f36beedd699944e2", func := "loop.example/g00855/laws.FnExactBestResult", spec := "fnExactBestResult", unfollowed := true, recurses := true, apart := false }
def FnExactBestResultSaid : Prop := fnExactBestResultRow.holds Try.pinned (OpenSpec.ofChange fnExactBestResultSpec)

/-- ITS FALSE NEIGHBOUR: 'it returns false'. Refute it at one input. -/
def fnExactBestResultWrong : ChangeSpec := { name := "fnExactBestResult", fn := fun _ => fun
  | [d] => { results := [.lit (.bool false)], args := [d] }
  | _ => none }
def FnExactBestResultWrongFalsely : Prop := fnExactBestResultRow.holds Try.pinned (OpenSpec.ofChange fnExactBestResultWrong)

/-- 'laws.FnExactRecordIndices': WHATEVER THE INPUT: true; the input reads as it did. -/
def fnExactRecordIndicesSpec : ChangeSpec := { name := "fnExactRecordIndices", fn := fun _ => fun
  | [d] => { results := [.lit (.bool true)], args := [d] }
  | _ => none }
def fnExactRecordIndicesRow : OpenClaim := { program := "ytdjkelhmdondcaa", sum := "eb3fad260b61121f21bf33bc9851257d00851390f5caa5d4f36beedd699944e2", func := "loop.example/g00855/laws.FnExactRecordIndices", spec := "fnExactRecordIndices", unfollowed := true, recurses := true, apart := false }
def FnExactRecordIndicesSaid : Prop := fnExactRecordIndicesRow.holds Try.pinned (OpenSpec.ofChange fnExactRecordIndicesSpec)

/-- ITS FALSE NEIGHBOUR: 'it returns false'. Refute it at one input. -/
def fnExactRecordIndicesWrong : ChangeSpec := { name := "fnExactRecordIndices", fn := fun _ => fun
  | [d] => { results := [.lit (.bool false)], args := [d] }
  | _ => none }
def FnExactRecordIndicesWrongFalsely : Prop := fnExactRecordIndicesRow.holds Try.pinned (OpenSpec.ofChange fnExactRecordIndicesWrong)

/-- 'laws.FnExactAreValidEntries': WHATEVER THE INPUT: true; the input reads as it did. -/
def fnExactAreValidEntriesSpec : ChangeSpec := { name := "fnExactAreValidEntries", fn := fun _ => fun
  | [d] => { results := [.lit (.bool true)], args := [d] }
  | _ => none }
def fnExactAreValidEntriesRow : OpenClaim := { program := "ytdjkelhmdondcaa", sum := "eb3fad260b61121f21bf33bc9851257d00851390f5caa5d4f36beedd699944e2", func := "loop.example/g00855/laws.FnExactAreValidEntries", spec := "fnExactAreValidEntries", unfollowed := true, recurses := true, apart := false }
def FnExactAreValidEntriesSaid : Prop := fnExactAreValidEntriesRow.holds Try.pinned (OpenSpec.ofChange fnExactAreValidEntriesSpec)

/-- ITS FALSE NEIGHBOUR: 'it returns false'. Refute it at one input. -/
def fnExactAreValidEntriesWrong : ChangeSpec := { name := "fnExactAreValidEntries", fn := fun _ => fun
  | [d] => { results := [.lit (.bool false)], args := [d] }
  | _ => none }
def FnExactAreValidEntriesWrongFalsely : Prop := fnExactAreValidEntriesRow.holds Try.pinned (OpenSpec.ofChange fnExactAreValidEntriesWrong)

/-- 'laws.FnExactMeetsCutoff': WHATEVER THE INPUT: true; the input reads as it did. -/
def fnExactMeetsCutoffSpec : ChangeSpec := { name := "fnExactMeetsCutoff", fn := fun _ => fun
  | [d1, d2] => { results := [.lit (.bool true)], args := [d1, d2] }
  | _ => none }
def fnExactMeetsCutoffRow : OpenClaim := { program := "ytdjkelhmdondcaa", sum := "eb3fad260b61121f21bf33bc9851257d00851390f5caa5d4f36beedd699944e2", func := "loop.example/g00855/laws.FnExactMeetsCutoff", spec := "fnExactMeetsCutoff", unfollowed := true, recurses := true, apart := false }
def FnExactMeetsCutoffSaid : Prop := fnExactMeetsCutoffRow.holds Try.pinned (OpenSpec.ofChange fnExactMeetsCutoffSpec)

/-- ITS FALSE NEIGHBOUR: 'it returns false'. Refute it at one input. -/
def fnExactMeetsCutoffWrong : ChangeSpec := { name := "fnExactMeetsCutoff", fn := fun _ => fun
  | [d1, d2] => { results := [.lit (.bool false)], args := [d1, d2] }
  | _ => none }
def FnExactMeetsCutoffWrongFalsely : Prop := fnExactMeetsCutoffRow.holds Try.pinned (OpenSpec.ofChange fnExactMeetsCutoffWrong)

/-- 'laws.FnExactAllowedAttempts': WHATEVER THE INPUT: true; the input reads as it did. -/
def fnExactAllowedAttemptsSpec : ChangeSpec := { name := "fnExactAllowedAttempts", fn := fun _ => fun
  | [d1, d2] => { results := [.lit (.bool true)], args := [d1, d2] }
  | _ => none }
def fnExactAllowedAttemptsRow : OpenClaim := { program := "ytdjkelhmdondcaa", sum := "eb3fad260b61121f21bf33bc9851257d00851390f5caa5d4f36beedd699944e2", func := "loop.example/g00855/laws.FnExactAllowedAttempts", spec := "fnExactAllowedAttempts", unfollowed := true, recurses := true, apart := false }
def FnExactAllowedAttemptsSaid : Prop := fnExactAllowedAttemptsRow.holds Try.pinned (OpenSpec.ofChange fnExactAllowedAttemptsSpec)

/-- ITS FALSE NEIGHBOUR: 'it returns false'. Refute it at one input. -/
def fnExactAllowedAttemptsWrong : ChangeSpec := { name := "fnExactAllowedAttempts", fn := fun _ => fun
  | [d1, d2] => { results := [.lit (.bool false)], args := [d1, d2] }
  | _ => none }
def FnExactAllowedAttemptsWrongFalsely : Prop := fnExactAllowedAttemptsRow.holds Try.pinned (OpenSpec.ofChange fnExactAllowedAttemptsWrong)

/-- 'laws.FnAdvancing': WHATEVER THE INPUT: true; the input reads as it did. -/
def fnAdvancingSpec : ChangeSpec := { name := "fnAdvancing", fn := fun _ => fun
  | [d] => { results := [.lit (.bool true)], args := [d] }
  | _ => none }
def fnAdvancingRow : OpenClaim := { program := "ytdjkelhmdondcaa", sum := "eb3fad260b61121f21bf33bc9851257d00851390f5caa5d4f36beedd699944e2", func := "loop.example/g00855/laws.FnAdvancing", spec := "fnAdvancing", unfollowed := true, recurses := true, apart := false }
def FnAdvancingSaid : Prop := fnAdvancingRow.holds Try.pinned (OpenSpec.ofChange fnAdvancingSpec)

/-- ITS FALSE NEIGHBOUR: 'it returns false'. Refute it at one input. -/
def fnAdvancingWrong : ChangeSpec := { name := "fnAdvancing", fn := fun _ => fun
  | [d] => { results := [.lit (.bool false)], args := [d] }
  | _ => none }
def FnAdvancingWrongFalsely : Prop := fnAdvancingRow.holds Try.pinned (OpenSpec.ofChange fnAdvancingWrong)

/-- 'laws.FnExactNormalizeEntry': WHATEVER THE INPUT: true; the input reads as it did. -/
def fnExactNormalizeEntrySpec : ChangeSpec := { name := "fnExactNormalizeEntry", fn := fun _ => fun
  | [d1, d2] => { results := [.lit (.bool true)], args := [d1, d2] }
  | _ => none }
def fnExactNormalizeEntryRow : OpenClaim := { program := "ytdjkelhmdondcaa", sum := "eb3fad260b61121f21bf33bc9851257d00851390f5caa5d4f36beedd699944e2", func := "loop.example/g00855/laws.FnExactNormalizeEntry", spec := "fnExactNormalizeEntry", unfollowed := true, recurses := true, apart := false }
def FnExactNormalizeEntrySaid : Prop := fnExactNormalizeEntryRow.holds Try.pinned (OpenSpec.ofChange fnExactNormalizeEntrySpec)

/-- ITS FALSE NEIGHBOUR: 'it returns false'. Refute it at one input. -/
def fnExactNormalizeEntryWrong : ChangeSpec := { name := "fnExactNormalizeEntry", fn := fun _ => fun
  | [d1, d2] => { results := [.lit (.bool false)], args := [d1, d2] }
  | _ => none }
def FnExactNormalizeEntryWrongFalsely : Prop := fnExactNormalizeEntryRow.holds Try.pinned (OpenSpec.ofChange fnExactNormalizeEntryWrong)

/-- 'laws.FnRoundNormal': WHATEVER THE INPUT: true; the input reads as it did. -/
def fnRoundNormalSpec : ChangeSpec := { name := "fnRoundNormal", fn := fun _ => fun
  | [d] => { results := [.lit (.bool true)], args := [d] }
  | _ => none }
def fnRoundNormalRow : OpenClaim := { program := "ytdjkelhmdondcaa", sum := "eb3fad260b61121f21bf33bc9851257d00851390f5caa5d4f36beedd699944e2", func := "loop.example/g00855/laws.FnRoundNormal", spec := "fnRoundNormal", unfollowed := true, recurses := true, apart := false }
def FnRoundNormalSaid : Prop := fnRoundNormalRow.holds Try.pinned (OpenSpec.ofChange fnRoundNormalSpec)

/-- ITS FALSE NEIGHBOUR: 'it returns false'. Refute it at one input. -/
def fnRoundNormalWrong : ChangeSpec := { name := "fnRoundNormal", fn := fun _ => fun
  | [d] => { results := [.lit (.bool false)], args := [d] }
  | _ => none }
def FnRoundNormalWrongFalsely : Prop := fnRoundNormalRow.holds Try.pinned (OpenSpec.ofChange fnRoundNormalWrong)

/-- 'laws.FnExactTrimmedAverage': WHATEVER THE INPUT: true; the input reads as it did. -/
def fnExactTrimmedAverageSpec : ChangeSpec := { name := "fnExactTrimmedAverage", fn := fun _ => fun
  | [d] => { results := [.lit (.bool true)], args := [d] }
  | _ => none }
def fnExactTrimmedAverageRow : OpenClaim := { program := "ytdjkelhmdondcaa", sum := "eb3fad260b61121f21bf33bc9851257d00851390f5caa5d4f36beedd699944e2", func := "loop.example/g00855/laws.FnExactTrimmedAverage", spec := "fnExactTrimmedAverage", unfollowed := true, recurses := true, apart := false }
def FnExactTrimmedAverageSaid : Prop := fnExactTrimmedAverageRow.holds Try.pinned (OpenSpec.ofChange fnExactTrimmedAverageSpec)

/-- ITS FALSE NEIGHBOUR: 'it returns false'. Refute it at one input. -/
def fnExactTrimmedAverageWrong : ChangeSpec := { name := "fnExactTrimmedAverage", fn := fun _ => fun
  | [d] => { results := [.lit (.bool false)], args := [d] }
  | _ => none }
def FnExactTrimmedAverageWrongFalsely : Prop := fnExactTrimmedAverageRow.holds Try.pinned (OpenSpec.ofChange fnExactTrimmedAverageWrong)

/-- 'laws.FnAverages': WHATEVER THE INPUT: true; the input reads as it did. -/
def fnAveragesSpec : ChangeSpec := { name := "fnAverages", fn := fun _ => fun
  | [d] => { results := [.lit (.bool true)], args := [d] }
  | _ => none }
def fnAveragesRow : OpenClaim := { program := "ytdjkelhmdondcaa", sum := "eb3fad260b61121f21bf33bc9851257d00851390f5caa5d4f36beedd699944e2", func := "loop.example/g00855/laws.FnAverages", spec := "fnAverages", unfollowed := true, recurses := true, apart := false }
def FnAveragesSaid : Prop := fnAveragesRow.holds Try.pinned (OpenSpec.ofChange fnAveragesSpec)

/-- ITS FALSE NEIGHBOUR: 'it returns false'. Refute it at one input. -/
def fnAveragesWrong : ChangeSpec := { name := "fnAverages", fn := fun _ => fun
  | [d] => { results := [.lit (.bool false)], args := [d] }
  | _ => none }
def FnAveragesWrongFalsely : Prop := fnAveragesRow.holds Try.pinned (OpenSpec.ofChange fnAveragesWrong)

/-- 'laws.FnExactEntryLess': WHATEVER THE INPUT: true; the input reads as it did. -/
def fnExactEntryLessSpec : ChangeSpec := { name := "fnExactEntryLess", fn := fun _ => fun
  | [d1, d2] => { results := [.lit (.bool true)], args := [d1, d2] }
  | _ => none }
def fnExactEntryLessRow : OpenClaim := { program := "ytdjkelhmdondcaa", sum := "eb3fad260b61121f21bf33bc9851257d00851390f5caa5d4f36beedd699944e2", func := "loop.example/g00855/laws.FnExactEntryLess", spec := "fnExactEntryLess", unfollowed := true, recurses := true, apart := false }
def FnExactEntryLessSaid : Prop := fnExactEntryLessRow.holds Try.pinned (OpenSpec.ofChange fnExactEntryLessSpec)

/-- ITS FALSE NEIGHBOUR: 'it returns false'. Refute it at one input. -/
def fnExactEntryLessWrong : ChangeSpec := { name := "fnExactEntryLess", fn := fun _ => fun
  | [d1, d2] => { results := [.lit (.bool false)], args := [d1, d2] }
  | _ => none }
def FnExactEntryLessWrongFalsely : Prop := fnExactEntryLessRow.holds Try.pinned (OpenSpec.ofChange fnExactEntryLessWrong)

/-- 'laws.FnRanking': WHATEVER THE INPUT: true; the input reads as it did. -/
def fnRankingSpec : ChangeSpec := { name := "fnRanking", fn := fun _ => fun
  | [d] => { results := [.lit (.bool true)], args := [d] }
  | _ => none }
def fnRankingRow : OpenClaim := { program := "ytdjkelhmdondcaa", sum := "eb3fad260b61121f21bf33bc9851257d00851390f5caa5d4f36beedd699944e2", func := "loop.example/g00855/laws.FnRanking", spec := "fnRanking", unfollowed := true, recurses := true, apart := false }
def FnRankingSaid : Prop := fnRankingRow.holds Try.pinned (OpenSpec.ofChange fnRankingSpec)

/-- ITS FALSE NEIGHBOUR: 'it returns false'. Refute it at one input. -/
def fnRankingWrong : ChangeSpec := { name := "fnRanking", fn := fun _ => fun
  | [d] => { results := [.lit (.bool false)], args := [d] }
  | _ => none }
def FnRankingWrongFalsely : Prop := fnRankingRow.holds Try.pinned (OpenSpec.ofChange fnRankingWrong)

/-- 'laws.FnExactRanks': WHATEVER THE INPUT: true; the input reads as it did. -/
def fnExactRanksSpec : ChangeSpec := { name := "fnExactRanks", fn := fun _ => fun
  | [d] => { results := [.lit (.bool true)], args := [d] }
  | _ => none }
def fnExactRanksRow : OpenClaim := { program := "ytdjkelhmdondcaa", sum := "eb3fad260b61121f21bf33bc9851257d00851390f5caa5d4f36beedd699944e2", func := "loop.example/g00855/laws.FnExactRanks", spec := "fnExactRanks", unfollowed := true, recurses := true, apart := false }
def FnExactRanksSaid : Prop := fnExactRanksRow.holds Try.pinned (OpenSpec.ofChange fnExactRanksSpec)

/-- ITS FALSE NEIGHBOUR: 'it returns false'. Refute it at one input. -/
def fnExactRanksWrong : ChangeSpec := { name := "fnExactRanks", fn := fun _ => fun
  | [d] => { results := [.lit (.bool false)], args := [d] }
  | _ => none }
def FnExactRanksWrongFalsely : Prop := fnExactRanksRow.holds Try.pinned (OpenSpec.ofChange fnExactRanksWrong)

/-- 'laws.FnExactPodium': WHATEVER THE INPUT: true; the input reads as it did. -/
def fnExactPodiumSpec : ChangeSpec := { name := "fnExactPodium", fn := fun _ => fun
  | [d] => { results := [.lit (.bool true)], args := [d] }
  | _ => none }
def fnExactPodiumRow : OpenClaim := { program := "ytdjkelhmdondcaa", sum := "eb3fad260b61121f21bf33bc9851257d00851390f5caa5d4f36beedd699944e2", func := "loop.example/g00855/laws.FnExactPodium", spec := "fnExactPodium", unfollowed := true, recurses := true, apart := false }
def FnExactPodiumSaid : Prop := fnExactPodiumRow.holds Try.pinned (OpenSpec.ofChange fnExactPodiumSpec)

/-- ITS FALSE NEIGHBOUR: 'it returns false'. Refute it at one input. -/
def fnExactPodiumWrong : ChangeSpec := { name := "fnExactPodium", fn := fun _ => fun
  | [d] => { results := [.lit (.bool false)], args := [d] }
  | _ => none }
def FnExactPodiumWrongFalsely : Prop := fnExactPodiumRow.holds Try.pinned (OpenSpec.ofChange fnExactPodiumWrong)

/-- 'laws.FnExactRoundRanks': WHATEVER THE INPUT: true; the input reads as it did. -/
def fnExactRoundRanksSpec : ChangeSpec := { name := "fnExactRoundRanks", fn := fun _ => fun
  | [d1, d2] => { results := [.lit (.bool true)], args := [d1, d2] }
  | _ => none }
def fnExactRoundRanksRow : OpenClaim := { program := "ytdjkelhmdondcaa", sum := "eb3fad260b61121f21bf33bc9851257d00851390f5caa5d4f36beedd699944e2", func := "loop.example/g00855/laws.FnExactRoundRanks", spec := "fnExactRoundRanks", unfollowed := true, recurses := true, apart := false }
def FnExactRoundRanksSaid : Prop := fnExactRoundRanksRow.holds Try.pinned (OpenSpec.ofChange fnExactRoundRanksSpec)

/-- ITS FALSE NEIGHBOUR: 'it returns false'. Refute it at one input. -/
def fnExactRoundRanksWrong : ChangeSpec := { name := "fnExactRoundRanks", fn := fun _ => fun
  | [d1, d2] => { results := [.lit (.bool false)], args := [d1, d2] }
  | _ => none }
def FnExactRoundRanksWrongFalsely : Prop := fnExactRoundRanksRow.holds Try.pinned (OpenSpec.ofChange fnExactRoundRanksWrong)

/- THE SECOND FORM. 'bulk': how many values and letters a reading holds, each counted each time it is reached (what is shared counts as often as it is met; a slice's spare places count too). A statement '..UptoSaid' is the law's where the arguments, and the package variables that the reading takes, are together of bulk at most 1048576: NARROWER than '..Said'. Prove '..Said' where nothing that the law and all that it calls make is longer than what came in: it says more and counts as full. Else prove '..UptoSaid'. A law counts once. -/
mutual
def uptoBulk {H : Type} : DataW H → Nat
  | .lit (.string bytes) => bytes.length + 1
  | .lit _ => 1
  | .nil => 1
  | .ptr d => uptoBulk d + 1
  | .slice elems spare => uptoBulkAll elems + uptoBulkAll spare + 1
  | .agg parts => uptoBulkAll parts + 1
  | .iface _ d => uptoBulk d + 1
  | .map entries => uptoBulkEntries entries + 1
  | .held _ => 1
def uptoBulkAll {H : Type} : List (DataW H) → Nat
  | [] => 0
  | d :: r => uptoBulk d + uptoBulkAll r
def uptoBulkEntries {H : Type} : List (Lit × DataW H) → Nat
  | [] => 0
  | x :: r => uptoBulkEntry x + uptoBulkEntries r
def uptoBulkEntry {H : Type} : Lit × DataW H → Nat
  | (.string bytes, d) => bytes.length + uptoBulk d + 1
  | (_, d) => uptoBulk d + 1
 end
def uptoSmall : (H : Type) → List (DataW H) → Bool := fun _ ds => decide (uptoBulkAll ds ≤ 1048576)
def OpenSpec.upto (s : _root_.Go.ChangeSpec) : _root_.Go.OpenSpec := { _root_.Go.OpenSpec.ofChange s with cond := some uptoSmall }

/-- 'laws.FnExactIsValidRoundRules', WHERE WHAT IT READS IS OF BULK AT MOST 1048576: true; the input reads as it did. -/
def fnExactIsValidRoundRulesUptoRow : OpenClaim := { program := "ytdjkelhmdondcaa", sum := "eb3fad260b61121f21bf33bc9851257d00851390f5caa5d4f36beedd699944e2", func := "loop.example/g00855/laws.FnExactIsValidRoundRules", spec := "fnExactIsValidRoundRules", apart := false, narrowed := true }
def FnExactIsValidRoundRulesUptoSaid : Prop := fnExactIsValidRoundRulesUptoRow.holds Try.pinned (OpenSpec.upto fnExactIsValidRoundRulesSpec)

/-- 'laws.FnExactResultLess', WHERE WHAT IT READS IS OF BULK AT MOST 1048576: true; the input reads as it did. -/
def fnExactResultLessUptoRow : OpenClaim := { program := "ytdjkelhmdondcaa", sum := "eb3fad260b61121f21bf33bc9851257d00851390f5caa5d4f36beedd699944e2", func := "loop.example/g00855/laws.FnExactResultLess", spec := "fnExactResultLess", apart := false, narrowed := true }
def FnExactResultLessUptoSaid : Prop := fnExactResultLessUptoRow.holds Try.pinned (OpenSpec.upto fnExactResultLessSpec)

/-- 'laws.FnExactAreValidResults', WHERE WHAT IT READS IS OF BULK AT MOST 1048576: true; the input reads as it did. -/
def fnExactAreValidResultsUptoRow : OpenClaim := { program := "ytdjkelhmdondcaa", sum := "eb3fad260b61121f21bf33bc9851257d00851390f5caa5d4f36beedd699944e2", func := "loop.example/g00855/laws.FnExactAreValidResults", spec := "fnExactAreValidResults", unfollowed := true, recurses := true, apart := false, narrowed := true }
def FnExactAreValidResultsUptoSaid : Prop := fnExactAreValidResultsUptoRow.holds Try.pinned (OpenSpec.upto fnExactAreValidResultsSpec)

/-- 'laws.FnExactApplyTimeLimit', WHERE WHAT IT READS IS OF BULK AT MOST 1048576: true; the input reads as it did. -/
def fnExactApplyTimeLimitUptoRow : OpenClaim := { program := "ytdjkelhmdondcaa", sum := "eb3fad260b61121f21bf33bc9851257d00851390f5caa5d4f36beedd699944e2", func := "loop.example/g00855/laws.FnExactApplyTimeLimit", spec := "fnExactApplyTimeLimit", apart := false, narrowed := true }
def FnExactApplyTimeLimitUptoSaid : Prop := fnExactApplyTimeLimitUptoRow.holds Try.pinned (OpenSpec.upto fnExactApplyTimeLimitSpec)

/-- 'laws.FnExactAdvancing', WHERE WHAT IT READS IS OF BULK AT MOST 1048576: true; the input reads as it did. -/
def fnExactAdvancingUptoRow : OpenClaim := { program := "ytdjkelhmdondcaa", sum := "eb3fad260b61121f21bf33bc9851257d00851390f5caa5d4f36beedd699944e2", func := "loop.example/g00855/laws.FnExactAdvancing", spec := "fnExactAdvancing", unfollowed := true, recurses := true, apart := false, narrowed := true }
def FnExactAdvancingUptoSaid : Prop := fnExactAdvancingUptoRow.holds Try.pinned (OpenSpec.upto fnExactAdvancingSpec)

/-- 'laws.FnExactMean', WHERE WHAT IT READS IS OF BULK AT MOST 1048576: true; the input reads as it did. -/
def fnExactMeanUptoRow : OpenClaim := { program := "ytdjkelhmdondcaa", sum := "eb3fad260b61121f21bf33bc9851257d00851390f5caa5d4f36beedd699944e2", func := "loop.example/g00855/laws.FnExactMean", spec := "fnExactMean", unfollowed := true, recurses := true, apart := false, narrowed := true }
def FnExactMeanUptoSaid : Prop := fnExactMeanUptoRow.holds Try.pinned (OpenSpec.upto fnExactMeanSpec)

/-- 'laws.FnExactIsValidEntry', WHERE WHAT IT READS IS OF BULK AT MOST 1048576: true; the input reads as it did. -/
def fnExactIsValidEntryUptoRow : OpenClaim := { program := "ytdjkelhmdondcaa", sum := "eb3fad260b61121f21bf33bc9851257d00851390f5caa5d4f36beedd699944e2", func := "loop.example/g00855/laws.FnExactIsValidEntry", spec := "fnExactIsValidEntry", unfollowed := true, recurses := true, apart := false, narrowed := true }
def FnExactIsValidEntryUptoSaid : Prop := fnExactIsValidEntryUptoRow.holds Try.pinned (OpenSpec.upto fnExactIsValidEntrySpec)

/-- 'laws.FnRecords', WHERE WHAT IT READS IS OF BULK AT MOST 1048576: true; the input reads as it did. -/
def fnRecordsUptoRow : OpenClaim := { program := "ytdjkelhmdondcaa", sum := "eb3fad260b61121f21bf33bc9851257d00851390f5caa5d4f36beedd699944e2", func := "loop.example/g00855/laws.FnRecords", spec := "fnRecords", unfollowed := true, recurses := true, apart := false, narrowed := true }
def FnRecordsUptoSaid : Prop := fnRecordsUptoRow.holds Try.pinned (OpenSpec.upto fnRecordsSpec)

/-- 'laws.FnExactBestResult', WHERE WHAT IT READS IS OF BULK AT MOST 1048576: true; the input reads as it did. -/
def fnExactBestResultUptoRow : OpenClaim := { program := "ytdjkelhmdondcaa", sum := "eb3fad260b61121f21bf33bc9851257d00851390f5caa5d4f36beedd699944e2", func := "loop.example/g00855/laws.FnExactBestResult", spec := "fnExactBestResult", unfollowed := true, recurses := true, apart := false, narrowed := true }
def FnExactBestResultUptoSaid : Prop := fnExactBestResultUptoRow.holds Try.pinned (OpenSpec.upto fnExactBestResultSpec)

/-- 'laws.FnExactRecordIndices', WHERE WHAT IT READS IS OF BULK AT MOST 1048576: true; the input reads as it did. -/
def fnExactRecordIndicesUptoRow : OpenClaim := { program := "ytdjkelhmdondcaa", sum := "eb3fad260b61121f21bf33bc9851257d00851390f5caa5d4f36beedd699944e2", func := "loop.example/g00855/laws.FnExactRecordIndices", spec := "fnExactRecordIndices", unfollowed := true, recurses := true, apart := false, narrowed := true }
def FnExactRecordIndicesUptoSaid : Prop := fnExactRecordIndicesUptoRow.holds Try.pinned (OpenSpec.upto fnExactRecordIndicesSpec)

/-- 'laws.FnExactAreValidEntries', WHERE WHAT IT READS IS OF BULK AT MOST 1048576: true; the input reads as it did. -/
def fnExactAreValidEntriesUptoRow : OpenClaim := { program := "ytdjkelhmdondcaa", sum := "eb3fad260b61121f21bf33bc9851257d00851390f5caa5d4f36beedd699944e2", func := "loop.example/g00855/laws.FnExactAreValidEntries", spec := "fnExactAreValidEntries", unfollowed := true, recurses := true, apart := false, narrowed := true }
def FnExactAreValidEntriesUptoSaid : Prop := fnExactAreValidEntriesUptoRow.holds Try.pinned (OpenSpec.upto fnExactAreValidEntriesSpec)

/-- 'laws.FnExactMeetsCutoff', WHERE WHAT IT READS IS OF BULK AT MOST 1048576: true; the input reads as it did. -/
def fnExactMeetsCutoffUptoRow : OpenClaim := { program := "ytdjkelhmdondcaa", sum := "eb3fad260b61121f21bf33bc9851257d00851390f5caa5d4f36beedd699944e2", func := "loop.example/g00855/laws.FnExactMeetsCutoff", spec := "fnExactMeetsCutoff", unfollowed := true, recurses := true, apart := false, narrowed := true }
def FnExactMeetsCutoffUptoSaid : Prop := fnExactMeetsCutoffUptoRow.holds Try.pinned (OpenSpec.upto fnExactMeetsCutoffSpec)

/-- 'laws.FnExactAllowedAttempts', WHERE WHAT IT READS IS OF BULK AT MOST 1048576: true; the input reads as it did. -/
def fnExactAllowedAttemptsUptoRow : OpenClaim := { program := "ytdjkelhmdondcaa", sum := "eb3fad260b61121f21bf33bc9851257d00851390f5caa5d4f36beedd699944e2", func := "loop.example/g00855/laws.FnExactAllowedAttempts", spec := "fnExactAllowedAttempts", unfollowed := true, recurses := true, apart := false, narrowed := true }
def FnExactAllowedAttemptsUptoSaid : Prop := fnExactAllowedAttemptsUptoRow.holds Try.pinned (OpenSpec.upto fnExactAllowedAttemptsSpec)

/-- 'laws.FnAdvancing', WHERE WHAT IT READS IS OF BULK AT MOST 1048576: true; the input reads as it did. -/
def fnAdvancingUptoRow : OpenClaim := { program := "ytdjkelhmdondcaa", sum := "eb3fad260b61121f21bf33bc9851257d00851390f5caa5d4f36beedd699944e2", func := "loop.example/g00855/laws.FnAdvancing", spec := "fnAdvancing", unfollowed := true, recurses := true, apart := false, narrowed := true }
def FnAdvancingUptoSaid : Prop := fnAdvancingUptoRow.holds Try.pinned (OpenSpec.upto fnAdvancingSpec)

/-- 'laws.FnExactNormalizeEntry', WHERE WHAT IT READS IS OF BULK AT MOST 1048576: true; the input reads as it did. -/
def fnExactNormalizeEntryUptoRow : OpenClaim := { program := "ytdjkelhmdondcaa", sum := "eb3fad260b61121f21bf33bc9851257d00851390f5caa5d4f36beedd699944e2", func := "loop.example/g00855/laws.FnExactNormalizeEntry", spec := "fnExactNormalizeEntry", unfollowed := true, recurses := true, apart := false, narrowed := true }
def FnExactNormalizeEntryUptoSaid : Prop := fnExactNormalizeEntryUptoRow.holds Try.pinned (OpenSpec.upto fnExactNormalizeEntrySpec)

/-- 'laws.FnRoundNormal', WHERE WHAT IT READS IS OF BULK AT MOST 1048576: true; the input reads as it did. -/
def fnRoundNormalUptoRow : OpenClaim := { program := "ytdjkelhmdondcaa", sum := "eb3fad260b61121f21bf33bc9851257d00851390f5caa5d4f36beedd699944e2", func := "loop.example/g00855/laws.FnRoundNormal", spec := "fnRoundNormal", unfollowed := true, recurses := true, apart := false, narrowed := true }
def FnRoundNormalUptoSaid : Prop := fnRoundNormalUptoRow.holds Try.pinned (OpenSpec.upto fnRoundNormalSpec)

/-- 'laws.FnExactTrimmedAverage', WHERE WHAT IT READS IS OF BULK AT MOST 1048576: true; the input reads as it did. -/
def fnExactTrimmedAverageUptoRow : OpenClaim := { program := "ytdjkelhmdondcaa", sum := "eb3fad260b61121f21bf33bc9851257d00851390f5caa5d4f36beedd699944e2", func := "loop.example/g00855/laws.FnExactTrimmedAverage", spec := "fnExactTrimmedAverage", unfollowed := true, recurses := true, apart := false, narrowed := true }
def FnExactTrimmedAverageUptoSaid : Prop := fnExactTrimmedAverageUptoRow.holds Try.pinned (OpenSpec.upto fnExactTrimmedAverageSpec)

/-- 'laws.FnAverages', WHERE WHAT IT READS IS OF BULK AT MOST 1048576: true; the input reads as it did. -/
def fnAveragesUptoRow : OpenClaim := { program := "ytdjkelhmdondcaa", sum := "eb3fad260b61121f21bf33bc9851257d00851390f5caa5d4f36beedd699944e2", func := "loop.example/g00855/laws.FnAverages", spec := "fnAverages", unfollowed := true, recurses := true, apart := false, narrowed := true }
def FnAveragesUptoSaid : Prop := fnAveragesUptoRow.holds Try.pinned (OpenSpec.upto fnAveragesSpec)

/-- 'laws.FnExactEntryLess', WHERE WHAT IT READS IS OF BULK AT MOST 1048576: true; the input reads as it did. -/
def fnExactEntryLessUptoRow : OpenClaim := { program := "ytdjkelhmdondcaa", sum := "eb3fad260b61121f21bf33bc9851257d00851390f5caa5d4f36beedd699944e2", func := "loop.example/g00855/laws.FnExactEntryLess", spec := "fnExactEntryLess", unfollowed := true, recurses := true, apart := false, narrowed := true }
def FnExactEntryLessUptoSaid : Prop := fnExactEntryLessUptoRow.holds Try.pinned (OpenSpec.upto fnExactEntryLessSpec)

/-- 'laws.FnRanking', WHERE WHAT IT READS IS OF BULK AT MOST 1048576: true; the input reads as it did. -/
def fnRankingUptoRow : OpenClaim := { program := "ytdjkelhmdondcaa", sum := "eb3fad260b61121f21bf33bc9851257d00851390f5caa5d4f36beedd699944e2", func := "loop.example/g00855/laws.FnRanking", spec := "fnRanking", unfollowed := true, recurses := true, apart := false, narrowed := true }
def FnRankingUptoSaid : Prop := fnRankingUptoRow.holds Try.pinned (OpenSpec.upto fnRankingSpec)

/-- 'laws.FnExactRanks', WHERE WHAT IT READS IS OF BULK AT MOST 1048576: true; the input reads as it did. -/
def fnExactRanksUptoRow : OpenClaim := { program := "ytdjkelhmdondcaa", sum := "eb3fad260b61121f21bf33bc9851257d00851390f5caa5d4f36beedd699944e2", func := "loop.example/g00855/laws.FnExactRanks", spec := "fnExactRanks", unfollowed := true, recurses := true, apart := false, narrowed := true }
def FnExactRanksUptoSaid : Prop := fnExactRanksUptoRow.holds Try.pinned (OpenSpec.upto fnExactRanksSpec)

/-- 'laws.FnExactPodium', WHERE WHAT IT READS IS OF BULK AT MOST 1048576: true; the input reads as it did. -/
def fnExactPodiumUptoRow : OpenClaim := { program := "ytdjkelhmdondcaa", sum := "eb3fad260b61121f21bf33bc9851257d00851390f5caa5d4f36beedd699944e2", func := "loop.example/g00855/laws.FnExactPodium", spec := "fnExactPodium", unfollowed := true, recurses := true, apart := false, narrowed := true }
def FnExactPodiumUptoSaid : Prop := fnExactPodiumUptoRow.holds Try.pinned (OpenSpec.upto fnExactPodiumSpec)

/-- 'laws.FnExactRoundRanks', WHERE WHAT IT READS IS OF BULK AT MOST 1048576: true; the input reads as it did. -/
def fnExactRoundRanksUptoRow : OpenClaim := { program := "ytdjkelhmdondcaa", sum := "eb3fad260b61121f21bf33bc9851257d00851390f5caa5d4f36beedd699944e2", func := "loop.example/g00855/laws.FnExactRoundRanks", spec := "fnExactRoundRanks", unfollowed := true, recurses := true, apart := false, narrowed := true }
def FnExactRoundRanksUptoSaid : Prop := fnExactRoundRanksUptoRow.holds Try.pinned (OpenSpec.upto fnExactRoundRanksSpec)

end Rows
end Go.Proofs.Ytdjkelhmdondcaa
