/-
  No cell of these rows narrows 'for every input' (looked for: loops, veiled, ifaces, maps, wideKeys, modest, calm, conditions, laid).
  DERIVED. THE GIVEN ROWS OF THIS SEAT. 9 by the template 'for every input the law returns true; each argument reads behind the call as it read before'; 0 by the template 'total and deterministic' (their statements: YtmhjcljjnofgeaaTotals.lean).
  GIVEN WITH THE SEED: the statements are not yours to turn. If you find one false, say at which input.
  Laid BY PROGRAM, IN A SANDBOX (cutbox-rows.mjs): the forced cells as the released guide's own fill.sh prints them over the translation cba64551029f47c4… (all of the seat's roots in one cut). By AI agents, Wed Nov 11 2026. No macro, syntax, notation, axiom, sorry.
-/
import Derived.Test.YtmhjcljjnofgeaaChecked
import GoSem.Claim
import GoSem.ClaimJoined
import GoSem.ClaimMapViews
import Derived.JoinedTies
import Derived.KernelRfl
namespace Go.Proofs.Ytmhjcljjnofgeaa
/- THE CELL 'sum', in the pinned program and in every row, IS THE sha256 OF THE DUMP (.gsa) THAT YtmhjcljjnofgeaaProg.lean LOADS. Nothing in Lean hashes anything: it is a label: what it is worth is what the hold of that sum in a sandbox is worth. -/
noncomputable def Try.pinned : Pinned := { name := "ytmhjcljjnofgeaa", sum := "cba64551029f47c47982d6793f0ad9cb0fc8037f958472bfb4ef513d1211f7f2", checked := Try.checked }
namespace Rows
def none {H : Type} : Left H := { results := [], args := [] }

/-- 'laws.FnExactChecksum': WHATEVER THE INPUT: true; the input reads as it did. -/
def fnExactChecksumSpec : ChangeSpec := { name := "fnExactChecksum", fn := fun _ => fun
  | [d] => { results := [.lit (.bool true)], args := [d] }
  | _ => none }
def fnExactChecksumRow : OpenClaim := { program := "ytmhjcljjnofgeaa", sum := "cba64551029f47c47982d6793f0ad9cb0fc8037f958472bfb4ef513d1211f7f2", func := "loop.example/g00855/laws.FnExactChecksum", spec := "fnExactChecksum", apart := false }
def FnExactChecksumSaid : Prop := fnExactChecksumRow.holds Try.pinned (OpenSpec.ofChange fnExactChecksumSpec)

/-- ITS FALSE NEIGHBOUR: 'it returns false'. Refute it at one input. -/
def fnExactChecksumWrong : ChangeSpec := { name := "fnExactChecksum", fn := fun _ => fun
  | [d] => { results := [.lit (.bool false)], args := [d] }
  | _ => none }
def FnExactChecksumWrongFalsely : Prop := fnExactChecksumRow.holds Try.pinned (OpenSpec.ofChange fnExactChecksumWrong)

/-- 'laws.FnExactEncodeHex': WHATEVER THE INPUT: true; the input reads as it did. -/
def fnExactEncodeHexSpec : ChangeSpec := { name := "fnExactEncodeHex", fn := fun _ => fun
  | [d] => { results := [.lit (.bool true)], args := [d] }
  | _ => none }
def fnExactEncodeHexRow : OpenClaim := { program := "ytmhjcljjnofgeaa", sum := "cba64551029f47c47982d6793f0ad9cb0fc8037f958472bfb4ef513d1211f7f2", func := "loop.example/g00855/laws.FnExactEncodeHex", spec := "fnExactEncodeHex", apart := false }
def FnExactEncodeHexSaid : Prop := fnExactEncodeHexRow.holds Try.pinned (OpenSpec.ofChange fnExactEncodeHexSpec)

/-- ITS FALSE NEIGHBOUR: 'it returns false'. Refute it at one input. -/
def fnExactEncodeHexWrong : ChangeSpec := { name := "fnExactEncodeHex", fn := fun _ => fun
  | [d] => { results := [.lit (.bool false)], args := [d] }
  | _ => none }
def FnExactEncodeHexWrongFalsely : Prop := fnExactEncodeHexRow.holds Try.pinned (OpenSpec.ofChange fnExactEncodeHexWrong)

/-- 'laws.FnExactDecodeHex': WHATEVER THE INPUT: true; the input reads as it did. -/
def fnExactDecodeHexSpec : ChangeSpec := { name := "fnExactDecodeHex", fn := fun _ => fun
  | [d] => { results := [.lit (.bool true)], args := [d] }
  | _ => none }
def fnExactDecodeHexRow : OpenClaim := { program := "ytmhjcljjnofgeaa", sum := "cba64551029f47c47982d6793f0ad9cb0fc8037f958472bfb4ef513d1211f7f2", func := "loop.example/g00855/laws.FnExactDecodeHex", spec := "fnExactDecodeHex", inPlace := ["internal/bytealg.IndexByteString"], apart := false }
def FnExactDecodeHexSaid : Prop := fnExactDecodeHexRow.holds Try.pinned (OpenSpec.ofChange fnExactDecodeHexSpec)

/-- ITS FALSE NEIGHBOUR: 'it returns false'. Refute it at one input. -/
def fnExactDecodeHexWrong : ChangeSpec := { name := "fnExactDecodeHex", fn := fun _ => fun
  | [d] => { results := [.lit (.bool false)], args := [d] }
  | _ => none }
def FnExactDecodeHexWrongFalsely : Prop := fnExactDecodeHexRow.holds Try.pinned (OpenSpec.ofChange fnExactDecodeHexWrong)

/-- 'laws.FnExactPackNibbles': WHATEVER THE INPUT: true; the input reads as it did. -/
def fnExactPackNibblesSpec : ChangeSpec := { name := "fnExactPackNibbles", fn := fun _ => fun
  | [d] => { results := [.lit (.bool true)], args := [d] }
  | _ => none }
def fnExactPackNibblesRow : OpenClaim := { program := "ytmhjcljjnofgeaa", sum := "cba64551029f47c47982d6793f0ad9cb0fc8037f958472bfb4ef513d1211f7f2", func := "loop.example/g00855/laws.FnExactPackNibbles", spec := "fnExactPackNibbles", unfollowed := true, recurses := true, apart := false }
def FnExactPackNibblesSaid : Prop := fnExactPackNibblesRow.holds Try.pinned (OpenSpec.ofChange fnExactPackNibblesSpec)

/-- ITS FALSE NEIGHBOUR: 'it returns false'. Refute it at one input. -/
def fnExactPackNibblesWrong : ChangeSpec := { name := "fnExactPackNibbles", fn := fun _ => fun
  | [d] => { results := [.lit (.bool false)], args := [d] }
  | _ => none }
def FnExactPackNibblesWrongFalsely : Prop := fnExactPackNibblesRow.holds Try.pinned (OpenSpec.ofChange fnExactPackNibblesWrong)

/-- 'laws.FnExactPackResidues': WHATEVER THE INPUT: true; the input reads as it did. -/
def fnExactPackResiduesSpec : ChangeSpec := { name := "fnExactPackResidues", fn := fun _ => fun
  | [d] => { results := [.lit (.bool true)], args := [d] }
  | _ => none }
def fnExactPackResiduesRow : OpenClaim := { program := "ytmhjcljjnofgeaa", sum := "cba64551029f47c47982d6793f0ad9cb0fc8037f958472bfb4ef513d1211f7f2", func := "loop.example/g00855/laws.FnExactPackResidues", spec := "fnExactPackResidues", unfollowed := true, recurses := true, apart := false }
def FnExactPackResiduesSaid : Prop := fnExactPackResiduesRow.holds Try.pinned (OpenSpec.ofChange fnExactPackResiduesSpec)

/-- ITS FALSE NEIGHBOUR: 'it returns false'. Refute it at one input. -/
def fnExactPackResiduesWrong : ChangeSpec := { name := "fnExactPackResidues", fn := fun _ => fun
  | [d] => { results := [.lit (.bool false)], args := [d] }
  | _ => none }
def FnExactPackResiduesWrongFalsely : Prop := fnExactPackResiduesRow.holds Try.pinned (OpenSpec.ofChange fnExactPackResiduesWrong)

/-- 'laws.FnExactUnpackNibbles': WHATEVER THE INPUT: true; the input reads as it did. -/
def fnExactUnpackNibblesSpec : ChangeSpec := { name := "fnExactUnpackNibbles", fn := fun _ => fun
  | [d1, d2] => { results := [.lit (.bool true)], args := [d1, d2] }
  | _ => none }
def fnExactUnpackNibblesRow : OpenClaim := { program := "ytmhjcljjnofgeaa", sum := "cba64551029f47c47982d6793f0ad9cb0fc8037f958472bfb4ef513d1211f7f2", func := "loop.example/g00855/laws.FnExactUnpackNibbles", spec := "fnExactUnpackNibbles", apart := false }
def FnExactUnpackNibblesSaid : Prop := fnExactUnpackNibblesRow.holds Try.pinned (OpenSpec.ofChange fnExactUnpackNibblesSpec)

/-- ITS FALSE NEIGHBOUR: 'it returns false'. Refute it at one input. -/
def fnExactUnpackNibblesWrong : ChangeSpec := { name := "fnExactUnpackNibbles", fn := fun _ => fun
  | [d1, d2] => { results := [.lit (.bool false)], args := [d1, d2] }
  | _ => none }
def FnExactUnpackNibblesWrongFalsely : Prop := fnExactUnpackNibblesRow.holds Try.pinned (OpenSpec.ofChange fnExactUnpackNibblesWrong)

/-- 'laws.FnNibbles': WHATEVER THE INPUT: true; the input reads as it did. -/
def fnNibblesSpec : ChangeSpec := { name := "fnNibbles", fn := fun _ => fun
  | [d] => { results := [.lit (.bool true)], args := [d] }
  | _ => none }
def fnNibblesRow : OpenClaim := { program := "ytmhjcljjnofgeaa", sum := "cba64551029f47c47982d6793f0ad9cb0fc8037f958472bfb4ef513d1211f7f2", func := "loop.example/g00855/laws.FnNibbles", spec := "fnNibbles", unfollowed := true, recurses := true, apart := false }
def FnNibblesSaid : Prop := fnNibblesRow.holds Try.pinned (OpenSpec.ofChange fnNibblesSpec)

/-- ITS FALSE NEIGHBOUR: 'it returns false'. Refute it at one input. -/
def fnNibblesWrong : ChangeSpec := { name := "fnNibbles", fn := fun _ => fun
  | [d] => { results := [.lit (.bool false)], args := [d] }
  | _ => none }
def FnNibblesWrongFalsely : Prop := fnNibblesRow.holds Try.pinned (OpenSpec.ofChange fnNibblesWrong)

/-- 'laws.FnExactEncodeTable': WHATEVER THE INPUT: true; the input reads as it did. -/
def fnExactEncodeTableSpec : ChangeSpec := { name := "fnExactEncodeTable", fn := fun _ => fun
  | [d] => { results := [.lit (.bool true)], args := [d] }
  | _ => none }
def fnExactEncodeTableRow : OpenClaim := { program := "ytmhjcljjnofgeaa", sum := "cba64551029f47c47982d6793f0ad9cb0fc8037f958472bfb4ef513d1211f7f2", func := "loop.example/g00855/laws.FnExactEncodeTable", spec := "fnExactEncodeTable", inPlace := ["internal/abi.NoEscape"], unfollowed := true, recurses := true, apart := false }
def FnExactEncodeTableSaid : Prop := fnExactEncodeTableRow.holds Try.pinned (OpenSpec.ofChange fnExactEncodeTableSpec)

/-- ITS FALSE NEIGHBOUR: 'it returns false'. Refute it at one input. -/
def fnExactEncodeTableWrong : ChangeSpec := { name := "fnExactEncodeTable", fn := fun _ => fun
  | [d] => { results := [.lit (.bool false)], args := [d] }
  | _ => none }
def FnExactEncodeTableWrongFalsely : Prop := fnExactEncodeTableRow.holds Try.pinned (OpenSpec.ofChange fnExactEncodeTableWrong)

/-- 'laws.FnExactDecodeTable': WHATEVER THE INPUT: true; the input reads as it did. -/
def fnExactDecodeTableSpec : ChangeSpec := { name := "fnExactDecodeTable", fn := fun _ => fun
  | [d] => { results := [.lit (.bool true)], args := [d] }
  | _ => none }
def fnExactDecodeTableRow : OpenClaim := { program := "ytmhjcljjnofgeaa", sum := "cba64551029f47c47982d6793f0ad9cb0fc8037f958472bfb4ef513d1211f7f2", func := "loop.example/g00855/laws.FnExactDecodeTable", spec := "fnExactDecodeTable", inPlace := ["internal/abi.NoEscape"], unfollowed := true, recurses := true, apart := false }
def FnExactDecodeTableSaid : Prop := fnExactDecodeTableRow.holds Try.pinned (OpenSpec.ofChange fnExactDecodeTableSpec)

/-- ITS FALSE NEIGHBOUR: 'it returns false'. Refute it at one input. -/
def fnExactDecodeTableWrong : ChangeSpec := { name := "fnExactDecodeTable", fn := fun _ => fun
  | [d] => { results := [.lit (.bool false)], args := [d] }
  | _ => none }
def FnExactDecodeTableWrongFalsely : Prop := fnExactDecodeTableRow.holds Try.pinned (OpenSpec.ofChange fnExactDecodeTableWrong)

/- THE SECOND FORM. 'bulk': how many values and letters a reading holds, each counted each time it is reached (what is shared counts as often as it is met; a slice's spare places count too). A statement '..UptoSaid' is the law's where the arguments, and the package variables that the reading takes, are together of bulk at most 1048576: NARROWER than '..Said'. Prove '..Said' where nothing that the law and all that it calls make is longer than what came in: it says more and counts as full. Else prove '..UptoSaid'. A law counts once. -/
mutual
def uptoBulk {H : Type} : DataW H → Nat
  | .lit (.string bytes) => bytes.length + 1
  | .lit _ => 1
  | .nil => 1
  | .ptr d => uptoBulk d + 1
  | .slice elems spare => uptoBulkAll elems + uptoBulkAll spare + 1
  | .agg parts => uptoBulkAll parts + 1
  | .iface _ d => uptoBulk d + 1
  | .map entries => uptoBulkEntries entries + 1
  | .held _ => 1
def uptoBulkAll {H : Type} : List (DataW H) → Nat
  | [] => 0
  | d :: r => uptoBulk d + uptoBulkAll r
def uptoBulkEntries {H : Type} : List (Lit × DataW H) → Nat
  | [] => 0
  | x :: r => uptoBulkEntry x + uptoBulkEntries r
def uptoBulkEntry {H : Type} : Lit × DataW H → Nat
  | (.string bytes, d) => bytes.length + uptoBulk d + 1
  | (_, d) => uptoBulk d + 1
 end
def uptoSmall : (H : Type) → List (DataW H) → Bool := fun _ ds => decide (uptoBulkAll ds ≤ 1048576)
def OpenSpec.upto (s : _root_.Go.ChangeSpec) : _root_.Go.OpenSpec := { _root_.Go.OpenSpec.ofChange s with cond := some uptoSmall }

/-- 'laws.FnExactChecksum', WHERE WHAT IT READS IS OF BULK AT MOST 1048576: true; the input reads as it did. -/
def fnExactChecksumUptoRow : OpenClaim := { program := "ytmhjcljjnofgeaa", sum := "cba64551029f47c47982d6793f0ad9cb0fc8037f958472bfb4ef513d1211f7f2", func := "loop.example/g00855/laws.FnExactChecksum", spec := "fnExactChecksum", apart := false, narrowed := true }
def FnExactChecksumUptoSaid : Prop := fnExactChecksumUptoRow.holds Try.pinned (OpenSpec.upto fnExactChecksumSpec)

/-- 'laws.FnExactEncodeHex', WHERE WHAT IT READS IS OF BULK AT MOST 1048576: true; the input reads as it did. -/
def fnExactEncodeHexUptoRow : OpenClaim := { program := "ytmhjcljjnofgeaa", sum := "cba64551029f47c47982d6793f0ad9cb0fc8037f958472bfb4ef513d1211f7f2", func := "loop.example/g00855/laws.FnExactEncodeHex", spec := "fnExactEncodeHex", apart := false, narrowed := true }
def FnExactEncodeHexUptoSaid : Prop := fnExactEncodeHexUptoRow.holds Try.pinned (OpenSpec.upto fnExactEncodeHexSpec)

/-- 'laws.FnExactDecodeHex', WHERE WHAT IT READS IS OF BULK AT MOST 1048576: true; the input reads as it did. -/
def fnExactDecodeHexUptoRow : OpenClaim := { program := "ytmhjcljjnofgeaa", sum := "cba64551029f47c47982d6793f0ad9cb0fc8037f958472bfb4ef513d1211f7f2", func := "loop.example/g00855/laws.FnExactDecodeHex", spec := "fnExactDecodeHex", inPlace := ["internal/bytealg.IndexByteString"], apart := false, narrowed := true }
def FnExactDecodeHexUptoSaid : Prop := fnExactDecodeHexUptoRow.holds Try.pinned (OpenSpec.upto fnExactDecodeHexSpec)

/-- 'laws.FnExactPackNibbles', WHERE WHAT IT READS IS OF BULK AT MOST 1048576: true; the input reads as it did. -/
def fnExactPackNibblesUptoRow : OpenClaim := { program := "ytmhjcljjnofgeaa", sum := "cba64551029f47c47982d6793f0ad9cb0fc8037f958472bfb4ef513d1211f7f2", func := "loop.example/g00855/laws.FnExactPackNibbles", spec := "fnExactPackNibbles", unfollowed := true, recurses := true, apart := false, narrowed := true }
def FnExactPackNibblesUptoSaid : Prop := fnExactPackNibblesUptoRow.holds Try.pinned (OpenSpec.upto fnExactPackNibblesSpec)

/-- 'laws.FnExactPackResidues', WHERE WHAT IT READS IS OF BULK AT MOST 1048576: true; the input reads as it did. -/
def fnExactPackResiduesUptoRow : OpenClaim := { program := "ytmhjcljjnofgeaa", sum := "cba64551029f47c47982d6793f0ad9cb0fc8037f958472bfb4ef513d1211f7f2", func := "loop.example/g00855/laws.FnExactPackResidues", spec := "fnExactPackResidues", unfollowed := true, recurses := true, apart := false, narrowed := true }
def FnExactPackResiduesUptoSaid : Prop := fnExactPackResiduesUptoRow.holds Try.pinned (OpenSpec.upto fnExactPackResiduesSpec)

/-- 'laws.FnExactUnpackNibbles', WHERE WHAT IT READS IS OF BULK AT MOST 1048576: true; the input reads as it did. -/
def fnExactUnpackNibblesUptoRow : OpenClaim := { program := "ytmhjcljjnofgeaa", sum := "cba64551029f47c47982d6793f0ad9cb0fc8037f958472bfb4ef513d1211f7f2", func := "loop.example/g00855/laws.FnExactUnpackNibbles", spec := "fnExactUnpackNibbles", apart := false, narrowed := true }
def FnExactUnpackNibblesUptoSaid : Prop := fnExactUnpackNibblesUptoRow.holds Try.pinned (OpenSpec.upto fnExactUnpackNibblesSpec)

/-- 'laws.FnNibbles', WHERE WHAT IT READS IS OF BULK AT MOST 1048576: true; the input reads as it did. -/
def fnNibblesUptoRow : OpenClaim := { program := "ytmhjcljjnofgeaa", sum := "cba64551029f47c47982d6793f0ad9cb0fc8037f958472bfb4ef513d1211f7f2", func := "loop.example/g00855/laws.FnNibbles", spec := "fnNibbles", unfollowed := true, recurses := true, apart := false, narrowed := true }
def FnNibblesUptoSaid : Prop := fnNibblesUptoRow.holds Try.pinned (OpenSpec.upto fnNibblesSpec)

/-- 'laws.FnExactEncodeTable', WHERE WHAT IT READS IS OF BULK AT MOST 1048576: true; the input reads as it did. -/
def fnExactEncodeTableUptoRow : OpenClaim := { program := "ytmhjcljjnofgeaa", sum := "cba64551029f47c47982d6793f0ad9cb0fc8037f958472bfb4ef513d1211f7f2", func := "loop.example/g00855/laws.FnExactEncodeTable", spec := "fnExactEncodeTable", inPlace := ["internal/abi.NoEscape"], unfollowed := true, recurses := true, apart := false, narrowed := true }
def FnExactEncodeTableUptoSaid : Prop := fnExactEncodeTableUptoRow.holds Try.pinned (OpenSpec.upto fnExactEncodeTableSpec)

/-- 'laws.FnExactDecodeTable', WHERE WHAT IT READS IS OF BULK AT MOST 1048576: true; the input reads as it did. -/
def fnExactDecodeTableUptoRow : OpenClaim := { program := "ytmhjcljjnofgeaa", sum := "cba64551029f47c47982d6793f0ad9cb0fc8037f958472bfb4ef513d1211f7f2", func := "loop.example/g00855/laws.FnExactDecodeTable", spec := "fnExactDecodeTable", inPlace := ["internal/abi.NoEscape"], unfollowed := true, recurses := true, apart := false, narrowed := true }
def FnExactDecodeTableUptoSaid : Prop := fnExactDecodeTableUptoRow.holds Try.pinned (OpenSpec.upto fnExactDecodeTableSpec)

end Rows
end Go.Proofs.Ytmhjcljjnofgeaa
