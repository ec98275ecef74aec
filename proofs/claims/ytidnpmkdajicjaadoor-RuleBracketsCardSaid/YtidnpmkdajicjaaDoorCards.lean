/-
  DERIVED. GIVEN WITH THE SEED: THE CARDS: each row of YtidnpmkdajicjaaDoorRows.lean that lists a variable, with what it lists TIED to the program's text (the seventh form; the later family's looks); each row that meets fmt, with fmt's text TOLD by the authors' own Lean function (tested against real Go, not proved from fmt's source: count such statements apart). THE CARD IS WHAT COUNTS. Prove the row's statement (the work); the ties are given (YtidnpmkdajicjaaDoorTie.lean); close each card by the builder's one call (the guide's Derived/Test/ToyasCard.lean, 'card_holds'). Laid BY PROGRAM, IN A SANDBOX (cutbox-door.mjs). By AI agents, Wed Nov 11 2026. No macro, syntax, notation, axiom, sorry.
-/
import Derived.Test.YtidnpmkdajicjaaDoorRows
import GoSem.ClaimSeven
namespace Go.Proofs.YtidnpmkdajicjaaDoor
namespace Rows

/-- THE TIED CARD OF 'ferkeep.RuleBrackets'. -/
def ruleBracketsCard : Claim7 := { stood := { row := ruleBracketsRow, standIns := [], harness := (true, "37158d3ec2fac86ee33e469e75ac268719093095488ffb9ff376a896fd8f5499"), looks := true }, kinds := [], alts := [], laidByText := true, laidKinds := [.data, .data, .data, .sentinel, .sentinel], laidTests := true, laidLooks := .later }
def RuleBracketsCardSaid : Prop := Claim7.holds Tryd.pinned (.plain (OpenSpec.ofChange ruleBracketsSpec)) ruleBracketsCard

/-- THE SECOND FORM's CARD OF 'ferkeep.RuleBrackets'. -/
def ruleBracketsUptoCard : Claim7 := { stood := { row := ruleBracketsUptoRow, standIns := [], harness := (true, "37158d3ec2fac86ee33e469e75ac268719093095488ffb9ff376a896fd8f5499"), looks := true }, kinds := [], alts := [], laidByText := true, laidKinds := [.data, .data, .data, .sentinel, .sentinel], laidTests := true, laidLooks := .later }
def RuleBracketsUptoCardSaid : Prop := Claim7.holds Tryd.pinned (.plain (OpenSpec.upto ruleBracketsSpec)) ruleBracketsUptoCard
end Rows
end Go.Proofs.YtidnpmkdajicjaaDoor
