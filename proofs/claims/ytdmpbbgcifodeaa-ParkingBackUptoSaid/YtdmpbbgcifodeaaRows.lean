/-
  No cell of these rows narrows 'for every input' (looked for: loops, veiled, ifaces, maps, wideKeys, modest, calm, conditions, laid).
  DERIVED. THE GIVEN ROWS OF THIS SEAT. 10 by the template 'for every input the law returns true; each argument reads behind the call as it read before'; 0 by the template 'total and deterministic' (their statements: YtdmpbbgcifodeaaTotals.lean).
  GIVEN WITH THE SEED: the statements are not yours to turn. If you find one false, say at which input.
  Laid BY PROGRAM, IN A SANDBOX (cutbox-rows.mjs): the forced cells as the released guide's own fill.sh prints them over the translation 873f8b2ab975f852… (all of the seat's roots in one cut). By AI agents, Wed Nov 11 2026. No macro, syntax, notation, axiom, sorry.
-/
import Derived.Test.YtdmpbbgcifodeaaChecked
import GoSem.Claim
import GoSem.ClaimJoined
import GoSem.ClaimMapViews
import Derived.JoinedTies
import Derived.KernelRfl
namespace Go.Proofs.Ytdmpbbgcifodeaa
/- THE CELL 'sum', in the pinned program and in every row, IS THE sha256 OF THE DUMP (.gsa) THAT YtdmpbbgcifodeaaProg.lean LOADS. Nothing in Lean hashes anything: it is a label: what it is worth is what the hold of that sum in a sandbox is worth. -/
noncomputable def Try.pinned : Pinned := { name := "ytdmpbbgcifodeaa", sum := "873f8b2ab975f852f253b0328c5e054021732319bf5c7141f1a6b087204c821b", checked := Try.checked }
namespace Rows
def none {H : Type} : Left H := { results := [], args := [] }

/-- 'ferkeep.PartsFranklin': WHATEVER THE INPUT: true; the input reads as it did. -/
def partsFranklinSpec : ChangeSpec := { name := "partsFranklin", fn := fun _ => fun
  | [d] => { results := [.lit (.bool true)], args := [d] }
  | _ => none }
def partsFranklinRow : OpenClaim := { program := "ytdmpbbgcifodeaa", sum := "873f8b2ab975f852f253b0328c5e054021732319bf5c7141f1a6b087204c821b", func := "ferrers/ferkeep.PartsFranklin", spec := "partsFranklin", apart := false }
def PartsFranklinSaid : Prop := partsFranklinRow.holds Try.pinned (OpenSpec.ofChange partsFranklinSpec)

/-- ITS FALSE NEIGHBOUR: 'it returns false'. Refute it at one input. -/
def partsFranklinWrong : ChangeSpec := { name := "partsFranklin", fn := fun _ => fun
  | [d] => { results := [.lit (.bool false)], args := [d] }
  | _ => none }
def PartsFranklinWrongFalsely : Prop := partsFranklinRow.holds Try.pinned (OpenSpec.ofChange partsFranklinWrong)

/-- 'ferkeep.PartsOrder': WHATEVER THE INPUT: true; the input reads as it did. -/
def partsOrderSpec : ChangeSpec := { name := "partsOrder", fn := fun _ => fun
  | [d1, d2] => { results := [.lit (.bool true)], args := [d1, d2] }
  | _ => none }
def partsOrderRow : OpenClaim := { program := "ytdmpbbgcifodeaa", sum := "873f8b2ab975f852f253b0328c5e054021732319bf5c7141f1a6b087204c821b", func := "ferrers/ferkeep.PartsOrder", spec := "partsOrder", apart := false }
def PartsOrderSaid : Prop := partsOrderRow.holds Try.pinned (OpenSpec.ofChange partsOrderSpec)

/-- ITS FALSE NEIGHBOUR: 'it returns false'. Refute it at one input. -/
def partsOrderWrong : ChangeSpec := { name := "partsOrder", fn := fun _ => fun
  | [d1, d2] => { results := [.lit (.bool false)], args := [d1, d2] }
  | _ => none }
def PartsOrderWrongFalsely : Prop := partsOrderRow.holds Try.pinned (OpenSpec.ofChange partsOrderWrong)

/-- 'ferkeep.SignsWieland': WHATEVER THE INPUT: true; the input reads as it did. -/
def signsWielandSpec : ChangeSpec := { name := "signsWieland", fn := fun _ => fun
  | [d] => { results := [.lit (.bool true)], args := [d] }
  | _ => none }
def signsWielandRow : OpenClaim := { program := "ytdmpbbgcifodeaa", sum := "873f8b2ab975f852f253b0328c5e054021732319bf5c7141f1a6b087204c821b", func := "ferrers/ferkeep.SignsWieland", spec := "signsWieland", apart := false }
def SignsWielandSaid : Prop := signsWielandRow.holds Try.pinned (OpenSpec.ofChange signsWielandSpec)

/-- ITS FALSE NEIGHBOUR: 'it returns false'. Refute it at one input. -/
def signsWielandWrong : ChangeSpec := { name := "signsWieland", fn := fun _ => fun
  | [d] => { results := [.lit (.bool false)], args := [d] }
  | _ => none }
def SignsWielandWrongFalsely : Prop := signsWielandRow.holds Try.pinned (OpenSpec.ofChange signsWielandWrong)

/-- 'ferkeep.PathsFirst': WHATEVER THE INPUT: true; the input reads as it did. -/
def pathsFirstSpec : ChangeSpec := { name := "pathsFirst", fn := fun _ => fun
  | [d1, d2, d3] => { results := [.lit (.bool true)], args := [d1, d2, d3] }
  | _ => none }
def pathsFirstRow : OpenClaim := { program := "ytdmpbbgcifodeaa", sum := "873f8b2ab975f852f253b0328c5e054021732319bf5c7141f1a6b087204c821b", func := "ferrers/ferkeep.PathsFirst", spec := "pathsFirst", recurses := true, apart := false }
def PathsFirstSaid : Prop := pathsFirstRow.holds Try.pinned (OpenSpec.ofChange pathsFirstSpec)

/-- ITS FALSE NEIGHBOUR: 'it returns false'. Refute it at one input. -/
def pathsFirstWrong : ChangeSpec := { name := "pathsFirst", fn := fun _ => fun
  | [d1, d2, d3] => { results := [.lit (.bool false)], args := [d1, d2, d3] }
  | _ => none }
def PathsFirstWrongFalsely : Prop := pathsFirstRow.holds Try.pinned (OpenSpec.ofChange pathsFirstWrong)

/-- 'ferkeep.SignsLattice': WHATEVER THE INPUT: true; the input reads as it did. -/
def signsLatticeSpec : ChangeSpec := { name := "signsLattice", fn := fun _ => fun
  | [d1, d2, d3] => { results := [.lit (.bool true)], args := [d1, d2, d3] }
  | _ => none }
def signsLatticeRow : OpenClaim := { program := "ytdmpbbgcifodeaa", sum := "873f8b2ab975f852f253b0328c5e054021732319bf5c7141f1a6b087204c821b", func := "ferrers/ferkeep.SignsLattice", spec := "signsLattice", unfollowed := true, recurses := true, apart := false }
def SignsLatticeSaid : Prop := signsLatticeRow.holds Try.pinned (OpenSpec.ofChange signsLatticeSpec)

/-- ITS FALSE NEIGHBOUR: 'it returns false'. Refute it at one input. -/
def signsLatticeWrong : ChangeSpec := { name := "signsLattice", fn := fun _ => fun
  | [d1, d2, d3] => { results := [.lit (.bool false)], args := [d1, d2, d3] }
  | _ => none }
def SignsLatticeWrongFalsely : Prop := signsLatticeRow.holds Try.pinned (OpenSpec.ofChange signsLatticeWrong)

/-- 'ferkeep.PathsCycle': WHATEVER THE INPUT: true; the input reads as it did. -/
def pathsCycleSpec : ChangeSpec := { name := "pathsCycle", fn := fun _ => fun
  | [d1, d2, d3] => { results := [.lit (.bool true)], args := [d1, d2, d3] }
  | _ => none }
def pathsCycleRow : OpenClaim := { program := "ytdmpbbgcifodeaa", sum := "873f8b2ab975f852f253b0328c5e054021732319bf5c7141f1a6b087204c821b", func := "ferrers/ferkeep.PathsCycle", spec := "pathsCycle", inPlace := ["internal/bytealg.CountString", "internal/bytealg.IndexByteString", "internal/bytealg.IndexString", "internal/abi.NoEscape"], named := ["internal/bytealg.MaxLen"], apart := false }
def PathsCycleSaid : Prop := pathsCycleRow.holds Try.pinned (OpenSpec.ofChange pathsCycleSpec)

/-- ITS FALSE NEIGHBOUR: 'it returns false'. Refute it at one input. -/
def pathsCycleWrong : ChangeSpec := { name := "pathsCycle", fn := fun _ => fun
  | [d1, d2, d3] => { results := [.lit (.bool false)], args := [d1, d2, d3] }
  | _ => none }
def PathsCycleWrongFalsely : Prop := pathsCycleRow.holds Try.pinned (OpenSpec.ofChange pathsCycleWrong)

/-- 'ferkeep.ParkingPollak': WHATEVER THE INPUT: true; the input reads as it did. -/
def parkingPollakSpec : ChangeSpec := { name := "parkingPollak", fn := fun _ => fun
  | [d1, d2] => { results := [.lit (.bool true)], args := [d1, d2] }
  | _ => none }
def parkingPollakRow : OpenClaim := { program := "ytdmpbbgcifodeaa", sum := "873f8b2ab975f852f253b0328c5e054021732319bf5c7141f1a6b087204c821b", func := "ferrers/ferkeep.ParkingPollak", spec := "parkingPollak", recurses := true, apart := false }
def ParkingPollakSaid : Prop := parkingPollakRow.holds Try.pinned (OpenSpec.ofChange parkingPollakSpec)

/-- ITS FALSE NEIGHBOUR: 'it returns false'. Refute it at one input. -/
def parkingPollakWrong : ChangeSpec := { name := "parkingPollak", fn := fun _ => fun
  | [d1, d2] => { results := [.lit (.bool false)], args := [d1, d2] }
  | _ => none }
def ParkingPollakWrongFalsely : Prop := parkingPollakRow.holds Try.pinned (OpenSpec.ofChange parkingPollakWrong)

/-- 'ferkeep.CubesRound': WHATEVER THE INPUT: true; the input reads as it did. -/
def cubesRoundSpec : ChangeSpec := { name := "cubesRound", fn := fun _ => fun
  | [d1, d2] => { results := [.lit (.bool true)], args := [d1, d2] }
  | _ => none }
def cubesRoundRow : OpenClaim := { program := "ytdmpbbgcifodeaa", sum := "873f8b2ab975f852f253b0328c5e054021732319bf5c7141f1a6b087204c821b", func := "ferrers/ferkeep.CubesRound", spec := "cubesRound", inPlace := ["internal/abi.NoEscape", "internal/bytealg.MakeNoZero", "internal/bytealg.CountString", "internal/bytealg.IndexByteString", "internal/bytealg.IndexString"], named := ["internal/bytealg.MaxLen"], apart := false }
def CubesRoundSaid : Prop := cubesRoundRow.holds Try.pinned (OpenSpec.ofChange cubesRoundSpec)

/-- ITS FALSE NEIGHBOUR: 'it returns false'. Refute it at one input. -/
def cubesRoundWrong : ChangeSpec := { name := "cubesRound", fn := fun _ => fun
  | [d1, d2] => { results := [.lit (.bool false)], args := [d1, d2] }
  | _ => none }
def CubesRoundWrongFalsely : Prop := cubesRoundRow.holds Try.pinned (OpenSpec.ofChange cubesRoundWrong)

/-- 'ferkeep.PartsEuler': WHATEVER THE INPUT: true; the input reads as it did. -/
def partsEulerSpec : ChangeSpec := { name := "partsEuler", fn := fun _ => fun
  | [d] => { results := [.lit (.bool true)], args := [d] }
  | _ => none }
def partsEulerRow : OpenClaim := { program := "ytdmpbbgcifodeaa", sum := "873f8b2ab975f852f253b0328c5e054021732319bf5c7141f1a6b087204c821b", func := "ferrers/ferkeep.PartsEuler", spec := "partsEuler", unfollowed := true, recurses := true, apart := false }
def PartsEulerSaid : Prop := partsEulerRow.holds Try.pinned (OpenSpec.ofChange partsEulerSpec)

/-- ITS FALSE NEIGHBOUR: 'it returns false'. Refute it at one input. -/
def partsEulerWrong : ChangeSpec := { name := "partsEuler", fn := fun _ => fun
  | [d] => { results := [.lit (.bool false)], args := [d] }
  | _ => none }
def PartsEulerWrongFalsely : Prop := partsEulerRow.holds Try.pinned (OpenSpec.ofChange partsEulerWrong)

/-- 'ferkeep.ParkingBack': WHATEVER THE INPUT: true; the input reads as it did. -/
def parkingBackSpec : ChangeSpec := { name := "parkingBack", fn := fun _ => fun
  | [d1, d2, d3] => { results := [.lit (.bool true)], args := [d1, d2, d3] }
  | _ => none }
def parkingBackRow : OpenClaim := { program := "ytdmpbbgcifodeaa", sum := "873f8b2ab975f852f253b0328c5e054021732319bf5c7141f1a6b087204c821b", func := "ferrers/ferkeep.ParkingBack", spec := "parkingBack", inPlace := ["slices.overlaps[ferrers/api.Pair]"], unfollowed := true, recurses := true, apart := false }
def ParkingBackSaid : Prop := parkingBackRow.holds Try.pinned (OpenSpec.ofChange parkingBackSpec)

/-- ITS FALSE NEIGHBOUR: 'it returns false'. Refute it at one input. -/
def parkingBackWrong : ChangeSpec := { name := "parkingBack", fn := fun _ => fun
  | [d1, d2, d3] => { results := [.lit (.bool false)], args := [d1, d2, d3] }
  | _ => none }
def ParkingBackWrongFalsely : Prop := parkingBackRow.holds Try.pinned (OpenSpec.ofChange parkingBackWrong)

/- THE SECOND FORM. 'bulk': how many values and letters a reading holds, each counted each time it is reached (what is shared counts as often as it is met; a slice's spare places count too). A statement '..UptoSaid' is the law's where the arguments, and the package variables that the reading takes, are together of bulk at most 1048576: NARROWER than '..Said'. Prove '..Said' where nothing that the law and all that it calls make is longer than what came in: it says more and counts as full. Else prove '..UptoSaid'. A law counts once. -/
mutual
def uptoBulk {H : Type} : DataW H → Nat
  | .lit (.string bytes) => bytes.length + 1
  | .lit _ => 1
  | .nil => 1
  | .ptr d => uptoBulk d + 1
  | .slice elems spare => uptoBulkAll elems + uptoBulkAll spare + 1
  | .agg parts => uptoBulkAll parts + 1
  | .iface _ d => uptoBulk d + 1
  | .map entries => uptoBulkEntries entries + 1
  | .held _ => 1
def uptoBulkAll {H : Type} : List (DataW H) → Nat
  | [] => 0
  | d :: r => uptoBulk d + uptoBulkAll r
def uptoBulkEntries {H : Type} : List (Lit × DataW H) → Nat
  | [] => 0
  | x :: r => uptoBulkEntry x + uptoBulkEntries r
def uptoBulkEntry {H : Type} : Lit × DataW H → Nat
  | (.string bytes, d) => bytes.length + uptoBulk d + 1
  | (_, d) => uptoBulk d + 1
 end
def uptoSmall : (H : Type) → List (DataW H) → Bool := fun _ ds => decide (uptoBulkAll ds ≤ 1048576)
def OpenSpec.upto (s : _root_.Go.ChangeSpec) : _root_.Go.OpenSpec := { _root_.Go.OpenSpec.ofChange s with cond := some uptoSmall }

/-- 'ferkeep.PartsFranklin', WHERE WHAT IT READS IS OF BULK AT MOST 1048576: true; the input reads as it did. -/
def partsFranklinUptoRow : OpenClaim := { program := "ytdmpbbgcifodeaa", sum := "873f8b2ab975f852f253b0328c5e054021732319bf5c7141f1a6b087204c821b", func := "ferrers/ferkeep.PartsFranklin", spec := "partsFranklin", apart := false, narrowed := true }
def PartsFranklinUptoSaid : Prop := partsFranklinUptoRow.holds Try.pinned (OpenSpec.upto partsFranklinSpec)

/-- 'ferkeep.PartsOrder', WHERE WHAT IT READS IS OF BULK AT MOST 1048576: true; the input reads as it did. -/
def partsOrderUptoRow : OpenClaim := { program := "ytdmpbbgcifodeaa", sum := "873f8b2ab975f852f253b0328c5e054021732319bf5c7141f1a6b087204c821b", func := "ferrers/ferkeep.PartsOrder", spec := "partsOrder", apart := false, narrowed := true }
def PartsOrderUptoSaid : Prop := partsOrderUptoRow.holds Try.pinned (OpenSpec.upto partsOrderSpec)

/-- 'ferkeep.SignsWieland', WHERE WHAT IT READS IS OF BULK AT MOST 1048576: true; the input reads as it did. -/
def signsWielandUptoRow : OpenClaim := { program := "ytdmpbbgcifodeaa", sum := "873f8b2ab975f852f253b0328c5e054021732319bf5c7141f1a6b087204c821b", func := "ferrers/ferkeep.SignsWieland", spec := "signsWieland", apart := false, narrowed := true }
def SignsWielandUptoSaid : Prop := signsWielandUptoRow.holds Try.pinned (OpenSpec.upto signsWielandSpec)

/-- 'ferkeep.PathsFirst', WHERE WHAT IT READS IS OF BULK AT MOST 1048576: true; the input reads as it did. -/
def pathsFirstUptoRow : OpenClaim := { program := "ytdmpbbgcifodeaa", sum := "873f8b2ab975f852f253b0328c5e054021732319bf5c7141f1a6b087204c821b", func := "ferrers/ferkeep.PathsFirst", spec := "pathsFirst", recurses := true, apart := false, narrowed := true }
def PathsFirstUptoSaid : Prop := pathsFirstUptoRow.holds Try.pinned (OpenSpec.upto pathsFirstSpec)

/-- 'ferkeep.SignsLattice', WHERE WHAT IT READS IS OF BULK AT MOST 1048576: true; the input reads as it did. -/
def signsLatticeUptoRow : OpenClaim := { program := "ytdmpbbgcifodeaa", sum := "873f8b2ab975f852f253b0328c5e054021732319bf5c7141f1a6b087204c821b", func := "ferrers/ferkeep.SignsLattice", spec := "signsLattice", unfollowed := true, recurses := true, apart := false, narrowed := true }
def SignsLatticeUptoSaid : Prop := signsLatticeUptoRow.holds Try.pinned (OpenSpec.upto signsLatticeSpec)

/-- 'ferkeep.PathsCycle', WHERE WHAT IT READS IS OF BULK AT MOST 1048576: true; the input reads as it did. -/
def pathsCycleUptoRow : OpenClaim := { program := "ytdmpbbgcifodeaa", sum := "873f8b2ab975f852f253b0328c5e054021732319bf5c7141f1a6b087204c821b", func := "ferrers/ferkeep.PathsCycle", spec := "pathsCycle", inPlace := ["internal/bytealg.CountString", "internal/bytealg.IndexByteString", "internal/bytealg.IndexString", "internal/abi.NoEscape"], named := ["internal/bytealg.MaxLen"], apart := false, narrowed := true }
def PathsCycleUptoSaid : Prop := pathsCycleUptoRow.holds Try.pinned (OpenSpec.upto pathsCycleSpec)

/-- 'ferkeep.ParkingPollak', WHERE WHAT IT READS IS OF BULK AT MOST 1048576: true; the input reads as it did. -/
def parkingPollakUptoRow : OpenClaim := { program := "ytdmpbbgcifodeaa", sum := "873f8b2ab975f852f253b0328c5e054021732319bf5c7141f1a6b087204c821b", func := "ferrers/ferkeep.ParkingPollak", spec := "parkingPollak", recurses := true, apart := false, narrowed := true }
def ParkingPollakUptoSaid : Prop := parkingPollakUptoRow.holds Try.pinned (OpenSpec.upto parkingPollakSpec)

/-- 'ferkeep.CubesRound', WHERE WHAT IT READS IS OF BULK AT MOST 1048576: true; the input reads as it did. -/
def cubesRoundUptoRow : OpenClaim := { program := "ytdmpbbgcifodeaa", sum := "873f8b2ab975f852f253b0328c5e054021732319bf5c7141f1a6b087204c821b", func := "ferrers/ferkeep.CubesRound", spec := "cubesRound", inPlace := ["internal/abi.NoEscape", "internal/bytealg.MakeNoZero", "internal/bytealg.CountString", "internal/bytealg.IndexByteString", "internal/bytealg.IndexString"], named := ["internal/bytealg.MaxLen"], apart := false, narrowed := true }
def CubesRoundUptoSaid : Prop := cubesRoundUptoRow.holds Try.pinned (OpenSpec.upto cubesRoundSpec)

/-- 'ferkeep.PartsEuler', WHERE WHAT IT READS IS OF BULK AT MOST 1048576: true; the input reads as it did. -/
def partsEulerUptoRow : OpenClaim := { program := "ytdmpbbgcifodeaa", sum := "873f8b2ab975f852f253b0328c5e054021732319bf5c7141f1a6b087204c821b", func := "ferrers/ferkeep.PartsEuler", spec := "partsEuler", unfollowed := true, recurses := true, apart := false, narrowed := true }
def PartsEulerUptoSaid : Prop := partsEulerUptoRow.holds Try.pinned (OpenSpec.upto partsEulerSpec)

/-- 'ferkeep.ParkingBack', WHERE WHAT IT READS IS OF BULK AT MOST 1048576: true; the input reads as it did. -/
def parkingBackUptoRow : OpenClaim := { program := "ytdmpbbgcifodeaa", sum := "873f8b2ab975f852f253b0328c5e054021732319bf5c7141f1a6b087204c821b", func := "ferrers/ferkeep.ParkingBack", spec := "parkingBack", inPlace := ["slices.overlaps[ferrers/api.Pair]"], unfollowed := true, recurses := true, apart := false, narrowed := true }
def ParkingBackUptoSaid : Prop := parkingBackUptoRow.holds Try.pinned (OpenSpec.upto parkingBackSpec)

end Rows
end Go.Proofs.Ytdmpbbgcifodeaa
