/-
  No cell of these rows narrows 'for every input' (looked for: loops, veiled, ifaces, maps, wideKeys, modest, calm, conditions, laid).
  DERIVED. THE GIVEN ROWS OF THIS SEAT. 11 by the template 'for every input the law returns true; each argument reads behind the call as it read before'; 0 by the template 'total and deterministic' (their statements: YtmlmdklheiafpaaTotals.lean).
  GIVEN WITH THE SEED: the statements are not yours to turn. If you find one false, say at which input.
  Laid BY PROGRAM, IN A SANDBOX (cutbox-rows.mjs): the forced cells as the released guide's own fill.sh prints them over the translation e53e66b464458fa4… (all of the seat's roots in one cut). By AI agents, Wed Nov 11 2026. No macro, syntax, notation, axiom, sorry.
-/
import Derived.Test.YtmlmdklheiafpaaChecked
import GoSem.Claim
import GoSem.ClaimJoined
import GoSem.ClaimMapViews
import Derived.JoinedTies
import Derived.KernelRfl
namespace Go.Proofs.Ytmlmdklheiafpaa
/- THE CELL 'sum', in the pinned program and in every row, IS THE sha256 OF THE DUMP (.gsa) THAT YtmlmdklheiafpaaProg.lean LOADS. Nothing in Lean hashes anything: it is a label: what it is worth is what the hold of that sum in a sandbox is worth. -/
noncomputable def Try.pinned : Pinned := { name := "ytmlmdklheiafpaa", sum := "e53e66b464458fa4e474eb7943c617488bb50854c8b5e3dd12d56cd0f4942cd5", checked := Try.checked }
namespace Rows
def none {H : Type} : Left H := { results := [], args := [] }

/-- 'ferkeep.PermsRounds': WHATEVER THE INPUT: true; the input reads as it did. -/
def permsRoundsSpec : ChangeSpec := { name := "permsRounds", fn := fun _ => fun
  | [d] => { results := [.lit (.bool true)], args := [d] }
  | _ => none }
def permsRoundsRow : OpenClaim := { program := "ytmlmdklheiafpaa", sum := "e53e66b464458fa4e474eb7943c617488bb50854c8b5e3dd12d56cd0f4942cd5", func := "ferrers/ferkeep.PermsRounds", spec := "permsRounds", apart := false }
def PermsRoundsSaid : Prop := permsRoundsRow.holds Try.pinned (OpenSpec.ofChange permsRoundsSpec)

/-- ITS FALSE NEIGHBOUR: 'it returns false'. Refute it at one input. -/
def permsRoundsWrong : ChangeSpec := { name := "permsRounds", fn := fun _ => fun
  | [d] => { results := [.lit (.bool false)], args := [d] }
  | _ => none }
def PermsRoundsWrongFalsely : Prop := permsRoundsRow.holds Try.pinned (OpenSpec.ofChange permsRoundsWrong)

/-- 'ferkeep.PermsMacmahon': WHATEVER THE INPUT: true; the input reads as it did. -/
def permsMacmahonSpec : ChangeSpec := { name := "permsMacmahon", fn := fun _ => fun
  | [d] => { results := [.lit (.bool true)], args := [d] }
  | _ => none }
def permsMacmahonRow : OpenClaim := { program := "ytmlmdklheiafpaa", sum := "e53e66b464458fa4e474eb7943c617488bb50854c8b5e3dd12d56cd0f4942cd5", func := "ferrers/ferkeep.PermsMacmahon", spec := "permsMacmahon", apart := false }
def PermsMacmahonSaid : Prop := permsMacmahonRow.holds Try.pinned (OpenSpec.ofChange permsMacmahonSpec)

/-- ITS FALSE NEIGHBOUR: 'it returns false'. Refute it at one input. -/
def permsMacmahonWrong : ChangeSpec := { name := "permsMacmahon", fn := fun _ => fun
  | [d] => { results := [.lit (.bool false)], args := [d] }
  | _ => none }
def PermsMacmahonWrongFalsely : Prop := permsMacmahonRow.holds Try.pinned (OpenSpec.ofChange permsMacmahonWrong)

/-- 'ferkeep.PermsBruhat': WHATEVER THE INPUT: true; the input reads as it did. -/
def permsBruhatSpec : ChangeSpec := { name := "permsBruhat", fn := fun _ => fun
  | [d1, d2, d3] => { results := [.lit (.bool true)], args := [d1, d2, d3] }
  | _ => none }
def permsBruhatRow : OpenClaim := { program := "ytmlmdklheiafpaa", sum := "e53e66b464458fa4e474eb7943c617488bb50854c8b5e3dd12d56cd0f4942cd5", func := "ferrers/ferkeep.PermsBruhat", spec := "permsBruhat", apart := false }
def PermsBruhatSaid : Prop := permsBruhatRow.holds Try.pinned (OpenSpec.ofChange permsBruhatSpec)

/-- ITS FALSE NEIGHBOUR: 'it returns false'. Refute it at one input. -/
def permsBruhatWrong : ChangeSpec := { name := "permsBruhat", fn := fun _ => fun
  | [d1, d2, d3] => { results := [.lit (.bool false)], args := [d1, d2, d3] }
  | _ => none }
def PermsBruhatWrongFalsely : Prop := permsBruhatRow.holds Try.pinned (OpenSpec.ofChange permsBruhatWrong)

/-- 'ferkeep.PermsGroup': WHATEVER THE INPUT: true; the input reads as it did. -/
def permsGroupSpec : ChangeSpec := { name := "permsGroup", fn := fun _ => fun
  | [d1, d2, d3, d4] => { results := [.lit (.bool true)], args := [d1, d2, d3, d4] }
  | _ => none }
def permsGroupRow : OpenClaim := { program := "ytmlmdklheiafpaa", sum := "e53e66b464458fa4e474eb7943c617488bb50854c8b5e3dd12d56cd0f4942cd5", func := "ferrers/ferkeep.PermsGroup", spec := "permsGroup", apart := false }
def PermsGroupSaid : Prop := permsGroupRow.holds Try.pinned (OpenSpec.ofChange permsGroupSpec)

/-- ITS FALSE NEIGHBOUR: 'it returns false'. Refute it at one input. -/
def permsGroupWrong : ChangeSpec := { name := "permsGroup", fn := fun _ => fun
  | [d1, d2, d3, d4] => { results := [.lit (.bool false)], args := [d1, d2, d3, d4] }
  | _ => none }
def PermsGroupWrongFalsely : Prop := permsGroupRow.holds Try.pinned (OpenSpec.ofChange permsGroupWrong)

/-- 'ferkeep.InsertSides': WHATEVER THE INPUT: true; the input reads as it did. -/
def insertSidesSpec : ChangeSpec := { name := "insertSides", fn := fun _ => fun
  | [d1, d2, d3] => { results := [.lit (.bool true)], args := [d1, d2, d3] }
  | _ => none }
def insertSidesRow : OpenClaim := { program := "ytmlmdklheiafpaa", sum := "e53e66b464458fa4e474eb7943c617488bb50854c8b5e3dd12d56cd0f4942cd5", func := "ferrers/ferkeep.InsertSides", spec := "insertSides", apart := false }
def InsertSidesSaid : Prop := insertSidesRow.holds Try.pinned (OpenSpec.ofChange insertSidesSpec)

/-- ITS FALSE NEIGHBOUR: 'it returns false'. Refute it at one input. -/
def insertSidesWrong : ChangeSpec := { name := "insertSides", fn := fun _ => fun
  | [d1, d2, d3] => { results := [.lit (.bool false)], args := [d1, d2, d3] }
  | _ => none }
def InsertSidesWrongFalsely : Prop := insertSidesRow.holds Try.pinned (OpenSpec.ofChange insertSidesWrong)

/-- 'ferkeep.InsertGreene': WHATEVER THE INPUT: true; the input reads as it did. -/
def insertGreeneSpec : ChangeSpec := { name := "insertGreene", fn := fun _ => fun
  | [d1, d2, d3] => { results := [.lit (.bool true)], args := [d1, d2, d3] }
  | _ => none }
def insertGreeneRow : OpenClaim := { program := "ytmlmdklheiafpaa", sum := "e53e66b464458fa4e474eb7943c617488bb50854c8b5e3dd12d56cd0f4942cd5", func := "ferrers/ferkeep.InsertGreene", spec := "insertGreene", apart := false }
def InsertGreeneSaid : Prop := insertGreeneRow.holds Try.pinned (OpenSpec.ofChange insertGreeneSpec)

/-- ITS FALSE NEIGHBOUR: 'it returns false'. Refute it at one input. -/
def insertGreeneWrong : ChangeSpec := { name := "insertGreene", fn := fun _ => fun
  | [d1, d2, d3] => { results := [.lit (.bool false)], args := [d1, d2, d3] }
  | _ => none }
def InsertGreeneWrongFalsely : Prop := insertGreeneRow.holds Try.pinned (OpenSpec.ofChange insertGreeneWrong)

/-- 'ferkeep.InsertMirror': WHATEVER THE INPUT: true; the input reads as it did. -/
def insertMirrorSpec : ChangeSpec := { name := "insertMirror", fn := fun _ => fun
  | [d] => { results := [.lit (.bool true)], args := [d] }
  | _ => none }
def insertMirrorRow : OpenClaim := { program := "ytmlmdklheiafpaa", sum := "e53e66b464458fa4e474eb7943c617488bb50854c8b5e3dd12d56cd0f4942cd5", func := "ferrers/ferkeep.InsertMirror", spec := "insertMirror", apart := false }
def InsertMirrorSaid : Prop := insertMirrorRow.holds Try.pinned (OpenSpec.ofChange insertMirrorSpec)

/-- ITS FALSE NEIGHBOUR: 'it returns false'. Refute it at one input. -/
def insertMirrorWrong : ChangeSpec := { name := "insertMirror", fn := fun _ => fun
  | [d] => { results := [.lit (.bool false)], args := [d] }
  | _ => none }
def InsertMirrorWrongFalsely : Prop := insertMirrorRow.holds Try.pinned (OpenSpec.ofChange insertMirrorWrong)

/-- 'ferkeep.InsertBack': WHATEVER THE INPUT: true; the input reads as it did. -/
def insertBackSpec : ChangeSpec := { name := "insertBack", fn := fun _ => fun
  | [d1, d2, d3, d4] => { results := [.lit (.bool true)], args := [d1, d2, d3, d4] }
  | _ => none }
def insertBackRow : OpenClaim := { program := "ytmlmdklheiafpaa", sum := "e53e66b464458fa4e474eb7943c617488bb50854c8b5e3dd12d56cd0f4942cd5", func := "ferrers/ferkeep.InsertBack", spec := "insertBack", apart := false }
def InsertBackSaid : Prop := insertBackRow.holds Try.pinned (OpenSpec.ofChange insertBackSpec)

/-- ITS FALSE NEIGHBOUR: 'it returns false'. Refute it at one input. -/
def insertBackWrong : ChangeSpec := { name := "insertBack", fn := fun _ => fun
  | [d1, d2, d3, d4] => { results := [.lit (.bool false)], args := [d1, d2, d3, d4] }
  | _ => none }
def InsertBackWrongFalsely : Prop := insertBackRow.holds Try.pinned (OpenSpec.ofChange insertBackWrong)

/-- 'ferkeep.InsertKnuth': WHATEVER THE INPUT: true; the input reads as it did. -/
def insertKnuthSpec : ChangeSpec := { name := "insertKnuth", fn := fun _ => fun
  | [d1, d2] => { results := [.lit (.bool true)], args := [d1, d2] }
  | _ => none }
def insertKnuthRow : OpenClaim := { program := "ytmlmdklheiafpaa", sum := "e53e66b464458fa4e474eb7943c617488bb50854c8b5e3dd12d56cd0f4942cd5", func := "ferrers/ferkeep.InsertKnuth", spec := "insertKnuth", unfollowed := true, recurses := true, apart := false }
def InsertKnuthSaid : Prop := insertKnuthRow.holds Try.pinned (OpenSpec.ofChange insertKnuthSpec)

/-- ITS FALSE NEIGHBOUR: 'it returns false'. Refute it at one input. -/
def insertKnuthWrong : ChangeSpec := { name := "insertKnuth", fn := fun _ => fun
  | [d1, d2] => { results := [.lit (.bool false)], args := [d1, d2] }
  | _ => none }
def InsertKnuthWrongFalsely : Prop := insertKnuthRow.holds Try.pinned (OpenSpec.ofChange insertKnuthWrong)

/-- 'ferkeep.SlidesRound': WHATEVER THE INPUT: true; the input reads as it did. -/
def slidesRoundSpec : ChangeSpec := { name := "slidesRound", fn := fun _ => fun
  | [d] => { results := [.lit (.bool true)], args := [d] }
  | _ => none }
def slidesRoundRow : OpenClaim := { program := "ytmlmdklheiafpaa", sum := "e53e66b464458fa4e474eb7943c617488bb50854c8b5e3dd12d56cd0f4942cd5", func := "ferrers/ferkeep.SlidesRound", spec := "slidesRound", apart := false }
def SlidesRoundSaid : Prop := slidesRoundRow.holds Try.pinned (OpenSpec.ofChange slidesRoundSpec)

/-- ITS FALSE NEIGHBOUR: 'it returns false'. Refute it at one input. -/
def slidesRoundWrong : ChangeSpec := { name := "slidesRound", fn := fun _ => fun
  | [d] => { results := [.lit (.bool false)], args := [d] }
  | _ => none }
def SlidesRoundWrongFalsely : Prop := slidesRoundRow.holds Try.pinned (OpenSpec.ofChange slidesRoundWrong)

/-- 'ferkeep.SlidesSame': WHATEVER THE INPUT: true; the input reads as it did. -/
def slidesSameSpec : ChangeSpec := { name := "slidesSame", fn := fun _ => fun
  | [d1, d2, d3] => { results := [.lit (.bool true)], args := [d1, d2, d3] }
  | _ => none }
def slidesSameRow : OpenClaim := { program := "ytmlmdklheiafpaa", sum := "e53e66b464458fa4e474eb7943c617488bb50854c8b5e3dd12d56cd0f4942cd5", func := "ferrers/ferkeep.SlidesSame", spec := "slidesSame", apart := false }
def SlidesSameSaid : Prop := slidesSameRow.holds Try.pinned (OpenSpec.ofChange slidesSameSpec)

/-- ITS FALSE NEIGHBOUR: 'it returns false'. Refute it at one input. -/
def slidesSameWrong : ChangeSpec := { name := "slidesSame", fn := fun _ => fun
  | [d1, d2, d3] => { results := [.lit (.bool false)], args := [d1, d2, d3] }
  | _ => none }
def SlidesSameWrongFalsely : Prop := slidesSameRow.holds Try.pinned (OpenSpec.ofChange slidesSameWrong)

/- THE SECOND FORM. 'bulk': how many values and letters a reading holds, each counted each time it is reached (what is shared counts as often as it is met; a slice's spare places count too). A statement '..UptoSaid' is the law's where the arguments, and the package variables that the reading takes, are together of bulk at most 1048576: NARROWER than '..Said'. Prove '..Said' where nothing that the law and all that it calls make is longer than what came in: it says more and counts as full. Else prove '..UptoSaid'. A law counts once. -/
mutual
def uptoBulk {H : Type} : DataW H → Nat
  | .lit (.string bytes) => bytes.length + 1
  | .lit _ => 1
  | .nil => 1
  | .ptr d => uptoBulk d + 1
  | .slice elems spare => uptoBulkAll elems + uptoBulkAll spare + 1
  | .agg parts => uptoBulkAll parts + 1
  | .iface _ d => uptoBulk d + 1
  | .map entries => uptoBulkEntries entries + 1
  | .held _ => 1
def uptoBulkAll {H : Type} : List (DataW H) → Nat
  | [] => 0
  | d :: r => uptoBulk d + uptoBulkAll r
def uptoBulkEntries {H : Type} : List (Lit × DataW H) → Nat
  | [] => 0
  | x :: r => uptoBulkEntry x + uptoBulkEntries r
def uptoBulkEntry {H : Type} : Lit × DataW H → Nat
  | (.string bytes, d) => bytes.length + uptoBulk d + 1
  | (_, d) => uptoBulk d + 1
 end
def uptoSmall : (H : Type) → List (DataW H) → Bool := fun _ ds => decide (uptoBulkAll ds ≤ 1048576)
def OpenSpec.upto (s : _root_.Go.ChangeSpec) : _root_.Go.OpenSpec := { _root_.Go.OpenSpec.ofChange s with cond := some uptoSmall }

/-- 'ferkeep.PermsRounds', WHERE WHAT IT READS IS OF BULK AT MOST 1048576: true; the input reads as it did. -/
def permsRoundsUptoRow : OpenClaim := { program := "ytmlmdklheiafpaa", sum := "e53e66b464458fa4e474eb7943c617488bb50854c8b5e3dd12d56cd0f4942cd5", func := "ferrers/ferkeep.PermsRounds", spec := "permsRounds", apart := false, narrowed := true }
def PermsRoundsUptoSaid : Prop := permsRoundsUptoRow.holds Try.pinned (OpenSpec.upto permsRoundsSpec)

/-- 'ferkeep.PermsMacmahon', WHERE WHAT IT READS IS OF BULK AT MOST 1048576: true; the input reads as it did. -/
def permsMacmahonUptoRow : OpenClaim := { program := "ytmlmdklheiafpaa", sum := "e53e66b464458fa4e474eb7943c617488bb50854c8b5e3dd12d56cd0f4942cd5", func := "ferrers/ferkeep.PermsMacmahon", spec := "permsMacmahon", apart := false, narrowed := true }
def PermsMacmahonUptoSaid : Prop := permsMacmahonUptoRow.holds Try.pinned (OpenSpec.upto permsMacmahonSpec)

/-- 'ferkeep.PermsBruhat', WHERE WHAT IT READS IS OF BULK AT MOST 1048576: true; the input reads as it did. -/
def permsBruhatUptoRow : OpenClaim := { program := "ytmlmdklheiafpaa", sum := "e53e66b464458fa4e474eb7943c617488bb50854c8b5e3dd12d56cd0f4942cd5", func := "ferrers/ferkeep.PermsBruhat", spec := "permsBruhat", apart := false, narrowed := true }
def PermsBruhatUptoSaid : Prop := permsBruhatUptoRow.holds Try.pinned (OpenSpec.upto permsBruhatSpec)

/-- 'ferkeep.PermsGroup', WHERE WHAT IT READS IS OF BULK AT MOST 1048576: true; the input reads as it did. -/
def permsGroupUptoRow : OpenClaim := { program := "ytmlmdklheiafpaa", sum := "e53e66b464458fa4e474eb7943c617488bb50854c8b5e3dd12d56cd0f4942cd5", func := "ferrers/ferkeep.PermsGroup", spec := "permsGroup", apart := false, narrowed := true }
def PermsGroupUptoSaid : Prop := permsGroupUptoRow.holds Try.pinned (OpenSpec.upto permsGroupSpec)

/-- 'ferkeep.InsertSides', WHERE WHAT IT READS IS OF BULK AT MOST 1048576: true; the input reads as it did. -/
def insertSidesUptoRow : OpenClaim := { program := "ytmlmdklheiafpaa", sum := "e53e66b464458fa4e474eb7943c617488bb50854c8b5e3dd12d56cd0f4942cd5", func := "ferrers/ferkeep.InsertSides", spec := "insertSides", apart := false, narrowed := true }
def InsertSidesUptoSaid : Prop := insertSidesUptoRow.holds Try.pinned (OpenSpec.upto insertSidesSpec)

/-- 'ferkeep.InsertGreene', WHERE WHAT IT READS IS OF BULK AT MOST 1048576: true; the input reads as it did. -/
def insertGreeneUptoRow : OpenClaim := { program := "ytmlmdklheiafpaa", sum := "e53e66b464458fa4e474eb7943c617488bb50854c8b5e3dd12d56cd0f4942cd5", func := "ferrers/ferkeep.InsertGreene", spec := "insertGreene", apart := false, narrowed := true }
def InsertGreeneUptoSaid : Prop := insertGreeneUptoRow.holds Try.pinned (OpenSpec.upto insertGreeneSpec)

/-- 'ferkeep.InsertMirror', WHERE WHAT IT READS IS OF BULK AT MOST 1048576: true; the input reads as it did. -/
def insertMirrorUptoRow : OpenClaim := { program := "ytmlmdklheiafpaa", sum := "e53e66b464458fa4e474eb7943c617488bb50854c8b5e3dd12d56cd0f4942cd5", func := "ferrers/ferkeep.InsertMirror", spec := "insertMirror", apart := false, narrowed := true }
def InsertMirrorUptoSaid : Prop := insertMirrorUptoRow.holds Try.pinned (OpenSpec.upto insertMirrorSpec)

/-- 'ferkeep.InsertBack', WHERE WHAT IT READS IS OF BULK AT MOST 1048576: true; the input reads as it did. -/
def insertBackUptoRow : OpenClaim := { program := "ytmlmdklheiafpaa", sum := "e53e66b464458fa4e474eb7943c617488bb50854c8b5e3dd12d56cd0f4942cd5", func := "ferrers/ferkeep.InsertBack", spec := "insertBack", apart := false, narrowed := true }
def InsertBackUptoSaid : Prop := insertBackUptoRow.holds Try.pinned (OpenSpec.upto insertBackSpec)

/-- 'ferkeep.InsertKnuth', WHERE WHAT IT READS IS OF BULK AT MOST 1048576: true; the input reads as it did. -/
def insertKnuthUptoRow : OpenClaim := { program := "ytmlmdklheiafpaa", sum := "e53e66b464458fa4e474eb7943c617488bb50854c8b5e3dd12d56cd0f4942cd5", func := "ferrers/ferkeep.InsertKnuth", spec := "insertKnuth", unfollowed := true, recurses := true, apart := false, narrowed := true }
def InsertKnuthUptoSaid : Prop := insertKnuthUptoRow.holds Try.pinned (OpenSpec.upto insertKnuthSpec)

/-- 'ferkeep.SlidesRound', WHERE WHAT IT READS IS OF BULK AT MOST 1048576: true; the input reads as it did. -/
def slidesRoundUptoRow : OpenClaim := { program := "ytmlmdklheiafpaa", sum := "e53e66b464458fa4e474eb7943c617488bb50854c8b5e3dd12d56cd0f4942cd5", func := "ferrers/ferkeep.SlidesRound", spec := "slidesRound", apart := false, narrowed := true }
def SlidesRoundUptoSaid : Prop := slidesRoundUptoRow.holds Try.pinned (OpenSpec.upto slidesRoundSpec)

/-- 'ferkeep.SlidesSame', WHERE WHAT IT READS IS OF BULK AT MOST 1048576: true; the input reads as it did. -/
def slidesSameUptoRow : OpenClaim := { program := "ytmlmdklheiafpaa", sum := "e53e66b464458fa4e474eb7943c617488bb50854c8b5e3dd12d56cd0f4942cd5", func := "ferrers/ferkeep.SlidesSame", spec := "slidesSame", apart := false, narrowed := true }
def SlidesSameUptoSaid : Prop := slidesSameUptoRow.holds Try.pinned (OpenSpec.upto slidesSameSpec)

end Rows
end Go.Proofs.Ytmlmdklheiafpaa
