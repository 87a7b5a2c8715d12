/-
  DERIVED. GIVEN WITH THE SEED: THE CARDS: each row of YtkheogobahhbpaaDoorRows.lean that lists a variable, with what it lists TIED to the program's text (the seventh form; the later family's looks); each row that meets fmt, with fmt's text TOLD by the authors' own Lean function (tested against real Go, not proved from fmt's source: count such statements apart). THE CARD IS WHAT COUNTS. Prove the row's statement (the work); the ties are given (YtkheogobahhbpaaDoorTie.lean); close each card by the builder's one call (the guide's Derived/Test/ToyasCard.lean, 'card_holds'). Laid BY PROGRAM, IN A SANDBOX (cutbox-door.mjs). By AI agents, Wed Nov 11 2026. No macro, syntax, notation, axiom, sorry.
-/
import Derived.Test.YtkheogobahhbpaaDoorRows
import GoSem.ClaimSeven
namespace Go.Proofs.YtkheogobahhbpaaDoor
namespace Rows

/-- THE TIED CARD OF 'laws.FnExactInsText'. -/
def fnExactInsTextCard : Claim7 := { stood := { row := fnExactInsTextRow, standIns := [], harness := (true, "985befc66d47274941c1a8d190e68699c914f888c0ddde545d36460cff31e7a4"), looks := false }, kinds := [], alts := [], laidByText := true, laidKinds := [.data, .data, .data], laidTests := true, laidLooks := .later }
def FnExactInsTextCardSaid : Prop := Claim7.holds Tryd.pinned (.plain (OpenSpec.ofChange fnExactInsTextSpec)) fnExactInsTextCard

/-- THE TIED CARD OF 'laws.FnInstructions'. -/
def fnInstructionsCard : Claim7 := { stood := { row := fnInstructionsRow, standIns := [], harness := (true, "985befc66d47274941c1a8d190e68699c914f888c0ddde545d36460cff31e7a4"), looks := false }, kinds := [], alts := [], laidByText := true, laidKinds := [.data, .data, .data], laidTests := true, laidLooks := .later }
def FnInstructionsCardSaid : Prop := Claim7.holds Tryd.pinned (.plain (OpenSpec.ofChange fnInstructionsSpec)) fnInstructionsCard

/-- THE SECOND FORM's CARD OF 'laws.FnExactInsText'. -/
def fnExactInsTextUptoCard : Claim7 := { stood := { row := fnExactInsTextUptoRow, standIns := [], harness := (true, "985befc66d47274941c1a8d190e68699c914f888c0ddde545d36460cff31e7a4"), looks := false }, kinds := [], alts := [], laidByText := true, laidKinds := [.data, .data, .data], laidTests := true, laidLooks := .later }
def FnExactInsTextUptoCardSaid : Prop := Claim7.holds Tryd.pinned (.plain (OpenSpec.upto fnExactInsTextSpec)) fnExactInsTextUptoCard

/-- THE SECOND FORM's CARD OF 'laws.FnInstructions'. -/
def fnInstructionsUptoCard : Claim7 := { stood := { row := fnInstructionsUptoRow, standIns := [], harness := (true, "985befc66d47274941c1a8d190e68699c914f888c0ddde545d36460cff31e7a4"), looks := false }, kinds := [], alts := [], laidByText := true, laidKinds := [.data, .data, .data], laidTests := true, laidLooks := .later }
def FnInstructionsUptoCardSaid : Prop := Claim7.holds Tryd.pinned (.plain (OpenSpec.upto fnInstructionsSpec)) fnInstructionsUptoCard
end Rows
end Go.Proofs.YtkheogobahhbpaaDoor
