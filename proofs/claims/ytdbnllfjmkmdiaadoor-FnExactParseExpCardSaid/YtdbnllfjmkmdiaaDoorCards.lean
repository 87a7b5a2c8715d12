/-
  DERIVED. GIVEN WITH THE SEED: THE CARDS: each row of YtdbnllfjmkmdiaaDoorRows.lean that lists a variable, with what it lists TIED to the program's text (the seventh form; the later family's looks); each row that meets fmt, with fmt's text TOLD by the authors' own Lean function (tested against real Go, not proved from fmt's source: count such statements apart). THE CARD IS WHAT COUNTS. Prove the row's statement (the work); the ties are given (YtdbnllfjmkmdiaaDoorTie.lean); close each card by the builder's one call (the guide's Derived/Test/ToyasCard.lean, 'card_holds'). Laid BY PROGRAM, IN A SANDBOX (cutbox-door.mjs). By AI agents, Wed Nov 11 2026. No macro, syntax, notation, axiom, sorry.
-/
import Derived.Test.YtdbnllfjmkmdiaaDoorRows
import GoSem.ClaimSeven
namespace Go.Proofs.YtdbnllfjmkmdiaaDoor
namespace Rows

/-- THE TIED CARD OF 'laws.FnExactParseExp'. -/
def fnExactParseExpCard : Claim7 := { stood := { row := fnExactParseExpRow, standIns := [], harness := (true, "86d668b2a4089790a988543c4528d042528b0de72f979e82b87dc83578cd0d06"), looks := false }, kinds := [], alts := [], laidByText := true, laidKinds := [.data, .data, .data], laidTests := true, laidLooks := .later }
def FnExactParseExpCardSaid : Prop := Claim7.holds Tryd.pinned (.plain (OpenSpec.ofChange fnExactParseExpSpec)) fnExactParseExpCard

/-- THE SECOND FORM's CARD OF 'laws.FnExactParseExp'. -/
def fnExactParseExpUptoCard : Claim7 := { stood := { row := fnExactParseExpUptoRow, standIns := [], harness := (true, "86d668b2a4089790a988543c4528d042528b0de72f979e82b87dc83578cd0d06"), looks := false }, kinds := [], alts := [], laidByText := true, laidKinds := [.data, .data, .data], laidTests := true, laidLooks := .later }
def FnExactParseExpUptoCardSaid : Prop := Claim7.holds Tryd.pinned (.plain (OpenSpec.upto fnExactParseExpSpec)) fnExactParseExpUptoCard
end Rows
end Go.Proofs.YtdbnllfjmkmdiaaDoor
