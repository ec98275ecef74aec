/-
  DERIVED. GIVEN WITH THE SEED: THE CARDS: each row of YtpmkdihencepnaaGreatDoorRows.lean that lists a variable, with what it lists TIED to the program's text (the seventh form; the later family's looks); each row that meets fmt, with fmt's text TOLD by the authors' own Lean function (tested against real Go, not proved from fmt's source: count such statements apart). THE CARD IS WHAT COUNTS. Prove the row's statement (the work); the ties are given (YtpmkdihencepnaaGreatDoorTie.lean); close each card by the builder's one call (the guide's Derived/Test/ToyasCard.lean, 'card_holds'). Laid BY PROGRAM, IN A SANDBOX (cutbox-door.mjs). By AI agents, Wed Nov 11 2026. No macro, syntax, notation, axiom, sorry.
-/
import Derived.Test.YtpmkdihencepnaaGreatDoorRows
import GoSem.ClaimSeven
namespace Go.Proofs.YtpmkdihencepnaaGreatDoor
namespace Rows

/-- THE TIED CARD OF 'ferkeep.DeskUndo'. -/
def deskUndoCard : Claim7 := { stood := { row := deskUndoRow, standIns := [], harness := (true, "7c76f2b553ac7b53d3c74694ad481ca9b8ee3b4a63d0bae4a2bcc2b88deb2639"), looks := true }, kinds := [], alts := [], laidByText := true, laidKinds := [.data, .data, .data, .data, .sentinel, .sentinel, .pinned], laidTests := true, laidLooks := .later }
def DeskUndoCardSaid : Prop := Claim7.holds Tryz.pinned (.plain (OpenSpec.ofChange deskUndoSpec)) deskUndoCard

/-- THE TIED CARD OF 'ferkeep.DeskKeeps'. -/
def deskKeepsCard : Claim7 := { stood := { row := deskKeepsRow, standIns := [], harness := (true, "7c76f2b553ac7b53d3c74694ad481ca9b8ee3b4a63d0bae4a2bcc2b88deb2639"), looks := true }, kinds := [], alts := [], laidByText := true, laidKinds := [.data, .data, .data, .data, .sentinel, .sentinel, .pinned], laidTests := true, laidLooks := .later }
def DeskKeepsCardSaid : Prop := Claim7.holds Tryz.pinned (.plain (OpenSpec.ofChange deskKeepsSpec)) deskKeepsCard

/-- THE SECOND FORM's CARD OF 'ferkeep.DeskUndo'. -/
def deskUndoUptoCard : Claim7 := { stood := { row := deskUndoUptoRow, standIns := [], harness := (true, "7c76f2b553ac7b53d3c74694ad481ca9b8ee3b4a63d0bae4a2bcc2b88deb2639"), looks := true }, kinds := [], alts := [], laidByText := true, laidKinds := [.data, .data, .data, .data, .sentinel, .sentinel, .pinned], laidTests := true, laidLooks := .later }
def DeskUndoUptoCardSaid : Prop := Claim7.holds Tryz.pinned (.plain (OpenSpec.upto deskUndoSpec)) deskUndoUptoCard

/-- THE SECOND FORM's CARD OF 'ferkeep.DeskKeeps'. -/
def deskKeepsUptoCard : Claim7 := { stood := { row := deskKeepsUptoRow, standIns := [], harness := (true, "7c76f2b553ac7b53d3c74694ad481ca9b8ee3b4a63d0bae4a2bcc2b88deb2639"), looks := true }, kinds := [], alts := [], laidByText := true, laidKinds := [.data, .data, .data, .data, .sentinel, .sentinel, .pinned], laidTests := true, laidLooks := .later }
def DeskKeepsUptoCardSaid : Prop := Claim7.holds Tryz.pinned (.plain (OpenSpec.upto deskKeepsSpec)) deskKeepsUptoCard
end Rows
end Go.Proofs.YtpmkdihencepnaaGreatDoor
