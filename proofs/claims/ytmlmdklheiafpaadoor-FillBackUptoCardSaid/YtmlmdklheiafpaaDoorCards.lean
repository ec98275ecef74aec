/-
  DERIVED. GIVEN WITH THE SEED: THE CARDS: each row of YtmlmdklheiafpaaDoorRows.lean that lists a variable, with what it lists TIED to the program's text (the seventh form; the later family's looks); each row that meets fmt, with fmt's text TOLD by the authors' own Lean function (tested against real Go, not proved from fmt's source: count such statements apart). THE CARD IS WHAT COUNTS. Prove the row's statement (the work); the ties are given (YtmlmdklheiafpaaDoorTie.lean); close each card by the builder's one call (the guide's Derived/Test/ToyasCard.lean, 'card_holds'). Laid BY PROGRAM, IN A SANDBOX (cutbox-door.mjs). By AI agents, Wed Nov 11 2026. No macro, syntax, notation, axiom, sorry.
-/
import Derived.Test.YtmlmdklheiafpaaDoorRows
import GoSem.ClaimSeven
namespace Go.Proofs.YtmlmdklheiafpaaDoor
namespace Rows

/-- THE TIED CARD OF 'ferkeep.FillBack'. -/
def fillBackCard : Claim7 := { stood := { row := fillBackRow, standIns := [], harness := (true, "0287a83ddfd91dd1bb1584a805903946cecad53f39d53962a372efdbcf9627ec"), looks := false }, kinds := [], alts := [], laidByText := true, laidKinds := [.data, .data, .data], laidTests := true, laidLooks := .later }
def FillBackCardSaid : Prop := Claim7.holds Tryd.pinned (.plain (OpenSpec.ofChange fillBackSpec)) fillBackCard

/-- THE SECOND FORM's CARD OF 'ferkeep.FillBack'. -/
def fillBackUptoCard : Claim7 := { stood := { row := fillBackUptoRow, standIns := [], harness := (true, "0287a83ddfd91dd1bb1584a805903946cecad53f39d53962a372efdbcf9627ec"), looks := false }, kinds := [], alts := [], laidByText := true, laidKinds := [.data, .data, .data], laidTests := true, laidLooks := .later }
def FillBackUptoCardSaid : Prop := Claim7.holds Tryd.pinned (.plain (OpenSpec.upto fillBackSpec)) fillBackUptoCard
end Rows
end Go.Proofs.YtmlmdklheiafpaaDoor
