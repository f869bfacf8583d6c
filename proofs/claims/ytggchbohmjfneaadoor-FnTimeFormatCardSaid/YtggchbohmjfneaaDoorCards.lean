/-
  DERIVED. GIVEN WITH THE SEED: THE CARDS: each row of YtggchbohmjfneaaDoorRows.lean that lists a variable, with what it lists TIED to the program's text (the seventh form; the later family's looks); each row that meets fmt, with fmt's text TOLD by the authors' own Lean function (tested against real Go, not proved from fmt's source: count such statements apart). THE CARD IS WHAT COUNTS. Prove the row's statement (the work); the ties are given (YtggchbohmjfneaaDoorTie.lean); close each card by the builder's one call (the guide's Derived/Test/ToyasCard.lean, 'card_holds'). Laid BY PROGRAM, IN A SANDBOX (cutbox-door.mjs). By AI agents, Wed Nov 11 2026. No macro, syntax, notation, axiom, sorry.
-/
import Derived.Test.YtggchbohmjfneaaDoorRows
import GoSem.ClaimSeven
namespace Go.Proofs.YtggchbohmjfneaaDoor
namespace Rows

/-- THE TIED CARD OF 'laws.FnExactParseTime'. -/
def fnExactParseTimeCard : Claim7 := { stood := { row := fnExactParseTimeRow, standIns := [], harness := (true, "0d6e1bbbc2a7bdf5fddb449525c56e299b24c2fa6a0d3d1752ef5ccc24680065"), looks := false }, kinds := [], alts := [], laidByText := true, laidKinds := [.data, .data, .data], laidTests := true, laidLooks := .later }
def FnExactParseTimeCardSaid : Prop := Claim7.holds Tryd.pinned (.plain (OpenSpec.ofChange fnExactParseTimeSpec)) fnExactParseTimeCard

/-- THE TIED CARD OF 'laws.FnTimeFormat'. -/
def fnTimeFormatCard : Claim7 := { stood := { row := fnTimeFormatRow, standIns := [], harness := (true, "0d6e1bbbc2a7bdf5fddb449525c56e299b24c2fa6a0d3d1752ef5ccc24680065"), looks := false }, kinds := [], alts := [], laidByText := true, laidKinds := [.data, .data, .data], laidTests := true, laidLooks := .later }
def FnTimeFormatCardSaid : Prop := Claim7.holds Tryd.pinned (.plain (OpenSpec.ofChange fnTimeFormatSpec)) fnTimeFormatCard

/-- THE SECOND FORM's CARD OF 'laws.FnExactParseTime'. -/
def fnExactParseTimeUptoCard : Claim7 := { stood := { row := fnExactParseTimeUptoRow, standIns := [], harness := (true, "0d6e1bbbc2a7bdf5fddb449525c56e299b24c2fa6a0d3d1752ef5ccc24680065"), looks := false }, kinds := [], alts := [], laidByText := true, laidKinds := [.data, .data, .data], laidTests := true, laidLooks := .later }
def FnExactParseTimeUptoCardSaid : Prop := Claim7.holds Tryd.pinned (.plain (OpenSpec.upto fnExactParseTimeSpec)) fnExactParseTimeUptoCard

/-- THE SECOND FORM's CARD OF 'laws.FnTimeFormat'. -/
def fnTimeFormatUptoCard : Claim7 := { stood := { row := fnTimeFormatUptoRow, standIns := [], harness := (true, "0d6e1bbbc2a7bdf5fddb449525c56e299b24c2fa6a0d3d1752ef5ccc24680065"), looks := false }, kinds := [], alts := [], laidByText := true, laidKinds := [.data, .data, .data], laidTests := true, laidLooks := .later }
def FnTimeFormatUptoCardSaid : Prop := Claim7.holds Tryd.pinned (.plain (OpenSpec.upto fnTimeFormatSpec)) fnTimeFormatUptoCard
end Rows
end Go.Proofs.YtggchbohmjfneaaDoor
