/-
  No cell of these rows narrows 'for every input' (looked for: loops, veiled, ifaces, maps, wideKeys, modest, calm, conditions, laid).
  DERIVED. THE GIVEN ROWS OF THIS SEAT. 13 by the template 'for every input the law returns true; each argument reads behind the call as it read before'; 0 by the template 'total and deterministic' (their statements: YtjalkjeldlchoaaTotals.lean).
  GIVEN WITH THE SEED: the statements are not yours to turn. If you find one false, say at which input.
  Laid BY PROGRAM, IN A SANDBOX (cutbox-rows.mjs): the forced cells as the released guide's own fill.sh prints them over the translation e025859f4cea98b9… (all of the seat's roots in one cut). By AI agents, Wed Nov 11 2026. No macro, syntax, notation, axiom, sorry.
-/
import Derived.Test.YtjalkjeldlchoaaChecked
import GoSem.Claim
import GoSem.ClaimJoined
import GoSem.ClaimMapViews
import Derived.JoinedTies
import Derived.KernelRfl
namespace Go.Proofs.Ytjalkjeldlchoaa
/- THE CELL 'sum', in the pinned program and in every row, IS THE sha256 OF THE DUMP (.gsa) THAT YtjalkjeldlchoaaProg.lean LOADS. Nothing in Lean hashes anything: it is a label: what it is worth is what the hold of that sum in a sandbox is worth. -/
noncomputable def Try.pinned : Pinned := { name := "ytjalkjeldlchoaa", sum := "e025859f4cea98b990ffc72cdfc2b005c469181148238634251ee38eb9b87d3a", checked := Try.checked }
namespace Rows
def none {H : Type} : Left H := { results := [], args := [] }

/-- 'windhoverlaw10.FenceChecks': WHATEVER THE INPUT: true; the input reads as it did. -/
def fenceChecksSpec : ChangeSpec := { name := "fenceChecks", fn := fun _ => fun
  | [d] => { results := [.lit (.bool true)], args := [d] }
  | _ => none }
def fenceChecksRow : OpenClaim := { program := "ytjalkjeldlchoaa", sum := "e025859f4cea98b990ffc72cdfc2b005c469181148238634251ee38eb9b87d3a", func := "windhover/windhoverlaw10.FenceChecks", spec := "fenceChecks", unfollowed := true, recurses := true, apart := false }
def FenceChecksSaid : Prop := fenceChecksRow.holds Try.pinned (OpenSpec.ofChange fenceChecksSpec)

/-- ITS FALSE NEIGHBOUR: 'it returns false'. Refute it at one input. -/
def fenceChecksWrong : ChangeSpec := { name := "fenceChecks", fn := fun _ => fun
  | [d] => { results := [.lit (.bool false)], args := [d] }
  | _ => none }
def FenceChecksWrongFalsely : Prop := fenceChecksRow.holds Try.pinned (OpenSpec.ofChange fenceChecksWrong)

/-- 'windhoverlaw10.FenceHolds': WHATEVER THE INPUT: true; the input reads as it did. -/
def fenceHoldsSpec : ChangeSpec := { name := "fenceHolds", fn := fun _ => fun
  | [d1, d2] => { results := [.lit (.bool true)], args := [d1, d2] }
  | _ => none }
def fenceHoldsRow : OpenClaim := { program := "ytjalkjeldlchoaa", sum := "e025859f4cea98b990ffc72cdfc2b005c469181148238634251ee38eb9b87d3a", func := "windhover/windhoverlaw10.FenceHolds", spec := "fenceHolds", unfollowed := true, recurses := true, apart := false }
def FenceHoldsSaid : Prop := fenceHoldsRow.holds Try.pinned (OpenSpec.ofChange fenceHoldsSpec)

/-- ITS FALSE NEIGHBOUR: 'it returns false'. Refute it at one input. -/
def fenceHoldsWrong : ChangeSpec := { name := "fenceHolds", fn := fun _ => fun
  | [d1, d2] => { results := [.lit (.bool false)], args := [d1, d2] }
  | _ => none }
def FenceHoldsWrongFalsely : Prop := fenceHoldsRow.holds Try.pinned (OpenSpec.ofChange fenceHoldsWrong)

/-- 'windhoverlaw10.FenceLanes': WHATEVER THE INPUT: true; the input reads as it did. -/
def fenceLanesSpec : ChangeSpec := { name := "fenceLanes", fn := fun _ => fun
  | [d1, d2] => { results := [.lit (.bool true)], args := [d1, d2] }
  | _ => none }
def fenceLanesRow : OpenClaim := { program := "ytjalkjeldlchoaa", sum := "e025859f4cea98b990ffc72cdfc2b005c469181148238634251ee38eb9b87d3a", func := "windhover/windhoverlaw10.FenceLanes", spec := "fenceLanes", unfollowed := true, recurses := true, apart := false }
def FenceLanesSaid : Prop := fenceLanesRow.holds Try.pinned (OpenSpec.ofChange fenceLanesSpec)

/-- ITS FALSE NEIGHBOUR: 'it returns false'. Refute it at one input. -/
def fenceLanesWrong : ChangeSpec := { name := "fenceLanes", fn := fun _ => fun
  | [d1, d2] => { results := [.lit (.bool false)], args := [d1, d2] }
  | _ => none }
def FenceLanesWrongFalsely : Prop := fenceLanesRow.holds Try.pinned (OpenSpec.ofChange fenceLanesWrong)

/-- 'windhoverlaw10.FenceRallies': WHATEVER THE INPUT: true; the input reads as it did. -/
def fenceRalliesSpec : ChangeSpec := { name := "fenceRallies", fn := fun _ => fun
  | [d1, d2, d3] => { results := [.lit (.bool true)], args := [d1, d2, d3] }
  | _ => none }
def fenceRalliesRow : OpenClaim := { program := "ytjalkjeldlchoaa", sum := "e025859f4cea98b990ffc72cdfc2b005c469181148238634251ee38eb9b87d3a", func := "windhover/windhoverlaw10.FenceRallies", spec := "fenceRallies", unfollowed := true, recurses := true, apart := false }
def FenceRalliesSaid : Prop := fenceRalliesRow.holds Try.pinned (OpenSpec.ofChange fenceRalliesSpec)

/-- ITS FALSE NEIGHBOUR: 'it returns false'. Refute it at one input. -/
def fenceRalliesWrong : ChangeSpec := { name := "fenceRallies", fn := fun _ => fun
  | [d1, d2, d3] => { results := [.lit (.bool false)], args := [d1, d2, d3] }
  | _ => none }
def FenceRalliesWrongFalsely : Prop := fenceRalliesRow.holds Try.pinned (OpenSpec.ofChange fenceRalliesWrong)

/-- 'windhoverlaw10.FenceEncodes': WHATEVER THE INPUT: true; the input reads as it did. -/
def fenceEncodesSpec : ChangeSpec := { name := "fenceEncodes", fn := fun _ => fun
  | [d] => { results := [.lit (.bool true)], args := [d] }
  | _ => none }
def fenceEncodesRow : OpenClaim := { program := "ytjalkjeldlchoaa", sum := "e025859f4cea98b990ffc72cdfc2b005c469181148238634251ee38eb9b87d3a", func := "windhover/windhoverlaw10.FenceEncodes", spec := "fenceEncodes", unfollowed := true, recurses := true, apart := false }
def FenceEncodesSaid : Prop := fenceEncodesRow.holds Try.pinned (OpenSpec.ofChange fenceEncodesSpec)

/-- ITS FALSE NEIGHBOUR: 'it returns false'. Refute it at one input. -/
def fenceEncodesWrong : ChangeSpec := { name := "fenceEncodes", fn := fun _ => fun
  | [d] => { results := [.lit (.bool false)], args := [d] }
  | _ => none }
def FenceEncodesWrongFalsely : Prop := fenceEncodesRow.holds Try.pinned (OpenSpec.ofChange fenceEncodesWrong)

/-- 'windhoverlaw10.FenceDecodes': WHATEVER THE INPUT: true; the input reads as it did. -/
def fenceDecodesSpec : ChangeSpec := { name := "fenceDecodes", fn := fun _ => fun
  | [d] => { results := [.lit (.bool true)], args := [d] }
  | _ => none }
def fenceDecodesRow : OpenClaim := { program := "ytjalkjeldlchoaa", sum := "e025859f4cea98b990ffc72cdfc2b005c469181148238634251ee38eb9b87d3a", func := "windhover/windhoverlaw10.FenceDecodes", spec := "fenceDecodes", unfollowed := true, recurses := true, apart := false }
def FenceDecodesSaid : Prop := fenceDecodesRow.holds Try.pinned (OpenSpec.ofChange fenceDecodesSpec)

/-- ITS FALSE NEIGHBOUR: 'it returns false'. Refute it at one input. -/
def fenceDecodesWrong : ChangeSpec := { name := "fenceDecodes", fn := fun _ => fun
  | [d] => { results := [.lit (.bool false)], args := [d] }
  | _ => none }
def FenceDecodesWrongFalsely : Prop := fenceDecodesRow.holds Try.pinned (OpenSpec.ofChange fenceDecodesWrong)

/-- 'windhoverlaw10.FenceMeans': WHATEVER THE INPUT: true; the input reads as it did. -/
def fenceMeansSpec : ChangeSpec := { name := "fenceMeans", fn := fun _ => fun
  | [d1, d2, d3] => { results := [.lit (.bool true)], args := [d1, d2, d3] }
  | _ => none }
def fenceMeansRow : OpenClaim := { program := "ytjalkjeldlchoaa", sum := "e025859f4cea98b990ffc72cdfc2b005c469181148238634251ee38eb9b87d3a", func := "windhover/windhoverlaw10.FenceMeans", spec := "fenceMeans", unfollowed := true, recurses := true, apart := false }
def FenceMeansSaid : Prop := fenceMeansRow.holds Try.pinned (OpenSpec.ofChange fenceMeansSpec)

/-- ITS FALSE NEIGHBOUR: 'it returns false'. Refute it at one input. -/
def fenceMeansWrong : ChangeSpec := { name := "fenceMeans", fn := fun _ => fun
  | [d1, d2, d3] => { results := [.lit (.bool false)], args := [d1, d2, d3] }
  | _ => none }
def FenceMeansWrongFalsely : Prop := fenceMeansRow.holds Try.pinned (OpenSpec.ofChange fenceMeansWrong)

/-- 'windhoverlaw10.FenceWithin': WHATEVER THE INPUT: true; the input reads as it did. -/
def fenceWithinSpec : ChangeSpec := { name := "fenceWithin", fn := fun _ => fun
  | [d1, d2, d3] => { results := [.lit (.bool true)], args := [d1, d2, d3] }
  | _ => none }
def fenceWithinRow : OpenClaim := { program := "ytjalkjeldlchoaa", sum := "e025859f4cea98b990ffc72cdfc2b005c469181148238634251ee38eb9b87d3a", func := "windhover/windhoverlaw10.FenceWithin", spec := "fenceWithin", unfollowed := true, recurses := true, apart := false }
def FenceWithinSaid : Prop := fenceWithinRow.holds Try.pinned (OpenSpec.ofChange fenceWithinSpec)

/-- ITS FALSE NEIGHBOUR: 'it returns false'. Refute it at one input. -/
def fenceWithinWrong : ChangeSpec := { name := "fenceWithin", fn := fun _ => fun
  | [d1, d2, d3] => { results := [.lit (.bool false)], args := [d1, d2, d3] }
  | _ => none }
def FenceWithinWrongFalsely : Prop := fenceWithinRow.holds Try.pinned (OpenSpec.ofChange fenceWithinWrong)

/-- 'windhoverlaw10.FenceRoom': WHATEVER THE INPUT: true; the input reads as it did. -/
def fenceRoomSpec : ChangeSpec := { name := "fenceRoom", fn := fun _ => fun
  | [d1, d2, d3] => { results := [.lit (.bool true)], args := [d1, d2, d3] }
  | _ => none }
def fenceRoomRow : OpenClaim := { program := "ytjalkjeldlchoaa", sum := "e025859f4cea98b990ffc72cdfc2b005c469181148238634251ee38eb9b87d3a", func := "windhover/windhoverlaw10.FenceRoom", spec := "fenceRoom", unfollowed := true, recurses := true, apart := false }
def FenceRoomSaid : Prop := fenceRoomRow.holds Try.pinned (OpenSpec.ofChange fenceRoomSpec)

/-- ITS FALSE NEIGHBOUR: 'it returns false'. Refute it at one input. -/
def fenceRoomWrong : ChangeSpec := { name := "fenceRoom", fn := fun _ => fun
  | [d1, d2, d3] => { results := [.lit (.bool false)], args := [d1, d2, d3] }
  | _ => none }
def FenceRoomWrongFalsely : Prop := fenceRoomRow.holds Try.pinned (OpenSpec.ofChange fenceRoomWrong)

/-- 'windhoverlaw10.FenceNearest': WHATEVER THE INPUT: true; the input reads as it did. -/
def fenceNearestSpec : ChangeSpec := { name := "fenceNearest", fn := fun _ => fun
  | [d1, d2, d3] => { results := [.lit (.bool true)], args := [d1, d2, d3] }
  | _ => none }
def fenceNearestRow : OpenClaim := { program := "ytjalkjeldlchoaa", sum := "e025859f4cea98b990ffc72cdfc2b005c469181148238634251ee38eb9b87d3a", func := "windhover/windhoverlaw10.FenceNearest", spec := "fenceNearest", unfollowed := true, recurses := true, apart := false }
def FenceNearestSaid : Prop := fenceNearestRow.holds Try.pinned (OpenSpec.ofChange fenceNearestSpec)

/-- ITS FALSE NEIGHBOUR: 'it returns false'. Refute it at one input. -/
def fenceNearestWrong : ChangeSpec := { name := "fenceNearest", fn := fun _ => fun
  | [d1, d2, d3] => { results := [.lit (.bool false)], args := [d1, d2, d3] }
  | _ => none }
def FenceNearestWrongFalsely : Prop := fenceNearestRow.holds Try.pinned (OpenSpec.ofChange fenceNearestWrong)

/-- 'windhoverlaw10.FenceThere': WHATEVER THE INPUT: true; the input reads as it did. -/
def fenceThereSpec : ChangeSpec := { name := "fenceThere", fn := fun _ => fun
  | [d] => { results := [.lit (.bool true)], args := [d] }
  | _ => none }
def fenceThereRow : OpenClaim := { program := "ytjalkjeldlchoaa", sum := "e025859f4cea98b990ffc72cdfc2b005c469181148238634251ee38eb9b87d3a", func := "windhover/windhoverlaw10.FenceThere", spec := "fenceThere", unfollowed := true, recurses := true, apart := false }
def FenceThereSaid : Prop := fenceThereRow.holds Try.pinned (OpenSpec.ofChange fenceThereSpec)

/-- ITS FALSE NEIGHBOUR: 'it returns false'. Refute it at one input. -/
def fenceThereWrong : ChangeSpec := { name := "fenceThere", fn := fun _ => fun
  | [d] => { results := [.lit (.bool false)], args := [d] }
  | _ => none }
def FenceThereWrongFalsely : Prop := fenceThereRow.holds Try.pinned (OpenSpec.ofChange fenceThereWrong)

/-- 'windhoverlaw10.FenceOfs': WHATEVER THE INPUT: true; the input reads as it did. -/
def fenceOfsSpec : ChangeSpec := { name := "fenceOfs", fn := fun _ => fun
  | [d] => { results := [.lit (.bool true)], args := [d] }
  | _ => none }
def fenceOfsRow : OpenClaim := { program := "ytjalkjeldlchoaa", sum := "e025859f4cea98b990ffc72cdfc2b005c469181148238634251ee38eb9b87d3a", func := "windhover/windhoverlaw10.FenceOfs", spec := "fenceOfs", unfollowed := true, recurses := true, apart := false }
def FenceOfsSaid : Prop := fenceOfsRow.holds Try.pinned (OpenSpec.ofChange fenceOfsSpec)

/-- ITS FALSE NEIGHBOUR: 'it returns false'. Refute it at one input. -/
def fenceOfsWrong : ChangeSpec := { name := "fenceOfs", fn := fun _ => fun
  | [d] => { results := [.lit (.bool false)], args := [d] }
  | _ => none }
def FenceOfsWrongFalsely : Prop := fenceOfsRow.holds Try.pinned (OpenSpec.ofChange fenceOfsWrong)

/-- 'windhoverlaw10.FenceBack': WHATEVER THE INPUT: true; the input reads as it did. -/
def fenceBackSpec : ChangeSpec := { name := "fenceBack", fn := fun _ => fun
  | [d] => { results := [.lit (.bool true)], args := [d] }
  | _ => none }
def fenceBackRow : OpenClaim := { program := "ytjalkjeldlchoaa", sum := "e025859f4cea98b990ffc72cdfc2b005c469181148238634251ee38eb9b87d3a", func := "windhover/windhoverlaw10.FenceBack", spec := "fenceBack", unfollowed := true, recurses := true, apart := false }
def FenceBackSaid : Prop := fenceBackRow.holds Try.pinned (OpenSpec.ofChange fenceBackSpec)

/-- ITS FALSE NEIGHBOUR: 'it returns false'. Refute it at one input. -/
def fenceBackWrong : ChangeSpec := { name := "fenceBack", fn := fun _ => fun
  | [d] => { results := [.lit (.bool false)], args := [d] }
  | _ => none }
def FenceBackWrongFalsely : Prop := fenceBackRow.holds Try.pinned (OpenSpec.ofChange fenceBackWrong)

/- THE SECOND FORM. 'bulk': how many values and letters a reading holds, each counted each time it is reached (what is shared counts as often as it is met; a slice's spare places count too). A statement '..UptoSaid' is the law's where the arguments, and the package variables that the reading takes, are together of bulk at most 1048576: NARROWER than '..Said'. Prove '..Said' where nothing that the law and all that it calls make is longer than what came in: it says more and counts as full. Else prove '..UptoSaid'. A law counts once. -/
mutual
def uptoBulk {H : Type} : DataW H → Nat
  | .lit (.string bytes) => bytes.length + 1
  | .lit _ => 1
  | .nil => 1
  | .ptr d => uptoBulk d + 1
  | .slice elems spare => uptoBulkAll elems + uptoBulkAll spare + 1
  | .agg parts => uptoBulkAll parts + 1
  | .iface _ d => uptoBulk d + 1
  | .map entries => uptoBulkEntries entries + 1
  | .held _ => 1
def uptoBulkAll {H : Type} : List (DataW H) → Nat
  | [] => 0
  | d :: r => uptoBulk d + uptoBulkAll r
def uptoBulkEntries {H : Type} : List (Lit × DataW H) → Nat
  | [] => 0
  | x :: r => uptoBulkEntry x + uptoBulkEntries r
def uptoBulkEntry {H : Type} : Lit × DataW H → Nat
  | (.string bytes, d) => bytes.length + uptoBulk d + 1
  | (_, d) => uptoBulk d + 1
 end
def uptoSmall : (H : Type) → List (DataW H) → Bool := fun _ ds => decide (uptoBulkAll ds ≤ 1048576)
def OpenSpec.upto (s : _root_.Go.ChangeSpec) : _root_.Go.OpenSpec := { _root_.Go.OpenSpec.ofChange s with cond := some uptoSmall }

/-- 'windhoverlaw10.FenceChecks', WHERE WHAT IT READS IS OF BULK AT MOST 1048576: true; the input reads as it did. -/
def fenceChecksUptoRow : OpenClaim := { program := "ytjalkjeldlchoaa", sum := "e025859f4cea98b990ffc72cdfc2b005c469181148238634251ee38eb9b87d3a", func := "windhover/windhoverlaw10.FenceChecks", spec := "fenceChecks", unfollowed := true, recurses := true, apart := false, narrowed := true }
def FenceChecksUptoSaid : Prop := fenceChecksUptoRow.holds Try.pinned (OpenSpec.upto fenceChecksSpec)

/-- 'windhoverlaw10.FenceHolds', WHERE WHAT IT READS IS OF BULK AT MOST 1048576: true; the input reads as it did. -/
def fenceHoldsUptoRow : OpenClaim := { program := "ytjalkjeldlchoaa", sum := "e025859f4cea98b990ffc72cdfc2b005c469181148238634251ee38eb9b87d3a", func := "windhover/windhoverlaw10.FenceHolds", spec := "fenceHolds", unfollowed := true, recurses := true, apart := false, narrowed := true }
def FenceHoldsUptoSaid : Prop := fenceHoldsUptoRow.holds Try.pinned (OpenSpec.upto fenceHoldsSpec)

/-- 'windhoverlaw10.FenceLanes', WHERE WHAT IT READS IS OF BULK AT MOST 1048576: true; the input reads as it did. -/
def fenceLanesUptoRow : OpenClaim := { program := "ytjalkjeldlchoaa", sum := "e025859f4cea98b990ffc72cdfc2b005c469181148238634251ee38eb9b87d3a", func := "windhover/windhoverlaw10.FenceLanes", spec := "fenceLanes", unfollowed := true, recurses := true, apart := false, narrowed := true }
def FenceLanesUptoSaid : Prop := fenceLanesUptoRow.holds Try.pinned (OpenSpec.upto fenceLanesSpec)

/-- 'windhoverlaw10.FenceRallies', WHERE WHAT IT READS IS OF BULK AT MOST 1048576: true; the input reads as it did. -/
def fenceRalliesUptoRow : OpenClaim := { program := "ytjalkjeldlchoaa", sum := "e025859f4cea98b990ffc72cdfc2b005c469181148238634251ee38eb9b87d3a", func := "windhover/windhoverlaw10.FenceRallies", spec := "fenceRallies", unfollowed := true, recurses := true, apart := false, narrowed := true }
def FenceRalliesUptoSaid : Prop := fenceRalliesUptoRow.holds Try.pinned (OpenSpec.upto fenceRalliesSpec)

/-- 'windhoverlaw10.FenceEncodes', WHERE WHAT IT READS IS OF BULK AT MOST 1048576: true; the input reads as it did. -/
def fenceEncodesUptoRow : OpenClaim := { program := "ytjalkjeldlchoaa", sum := "e025859f4cea98b990ffc72cdfc2b005c469181148238634251ee38eb9b87d3a", func := "windhover/windhoverlaw10.FenceEncodes", spec := "fenceEncodes", unfollowed := true, recurses := true, apart := false, narrowed := true }
def FenceEncodesUptoSaid : Prop := fenceEncodesUptoRow.holds Try.pinned (OpenSpec.upto fenceEncodesSpec)

/-- 'windhoverlaw10.FenceDecodes', WHERE WHAT IT READS IS OF BULK AT MOST 1048576: true; the input reads as it did. -/
def fenceDecodesUptoRow : OpenClaim := { program := "ytjalkjeldlchoaa", sum := "e025859f4cea98b990ffc72cdfc2b005c469181148238634251ee38eb9b87d3a", func := "windhover/windhoverlaw10.FenceDecodes", spec := "fenceDecodes", unfollowed := true, recurses := true, apart := false, narrowed := true }
def FenceDecodesUptoSaid : Prop := fenceDecodesUptoRow.holds Try.pinned (OpenSpec.upto fenceDecodesSpec)

/-- 'windhoverlaw10.FenceMeans', WHERE WHAT IT READS IS OF BULK AT MOST 1048576: true; the input reads as it did. -/
def fenceMeansUptoRow : OpenClaim := { program := "ytjalkjeldlchoaa", sum := "e025859f4cea98b990ffc72cdfc2b005c469181148238634251ee38eb9b87d3a", func := "windhover/windhoverlaw10.FenceMeans", spec := "fenceMeans", unfollowed := true, recurses := true, apart := false, narrowed := true }
def FenceMeansUptoSaid : Prop := fenceMeansUptoRow.holds Try.pinned (OpenSpec.upto fenceMeansSpec)

/-- 'windhoverlaw10.FenceWithin', WHERE WHAT IT READS IS OF BULK AT MOST 1048576: true; the input reads as it did. -/
def fenceWithinUptoRow : OpenClaim := { program := "ytjalkjeldlchoaa", sum := "e025859f4cea98b990ffc72cdfc2b005c469181148238634251ee38eb9b87d3a", func := "windhover/windhoverlaw10.FenceWithin", spec := "fenceWithin", unfollowed := true, recurses := true, apart := false, narrowed := true }
def FenceWithinUptoSaid : Prop := fenceWithinUptoRow.holds Try.pinned (OpenSpec.upto fenceWithinSpec)

/-- 'windhoverlaw10.FenceRoom', WHERE WHAT IT READS IS OF BULK AT MOST 1048576: true; the input reads as it did. -/
def fenceRoomUptoRow : OpenClaim := { program := "ytjalkjeldlchoaa", sum := "e025859f4cea98b990ffc72cdfc2b005c469181148238634251ee38eb9b87d3a", func := "windhover/windhoverlaw10.FenceRoom", spec := "fenceRoom", unfollowed := true, recurses := true, apart := false, narrowed := true }
def FenceRoomUptoSaid : Prop := fenceRoomUptoRow.holds Try.pinned (OpenSpec.upto fenceRoomSpec)

/-- 'windhoverlaw10.FenceNearest', WHERE WHAT IT READS IS OF BULK AT MOST 1048576: true; the input reads as it did. -/
def fenceNearestUptoRow : OpenClaim := { program := "ytjalkjeldlchoaa", sum := "e025859f4cea98b990ffc72cdfc2b005c469181148238634251ee38eb9b87d3a", func := "windhover/windhoverlaw10.FenceNearest", spec := "fenceNearest", unfollowed := true, recurses := true, apart := false, narrowed := true }
def FenceNearestUptoSaid : Prop := fenceNearestUptoRow.holds Try.pinned (OpenSpec.upto fenceNearestSpec)

/-- 'windhoverlaw10.FenceThere', WHERE WHAT IT READS IS OF BULK AT MOST 1048576: true; the input reads as it did. -/
def fenceThereUptoRow : OpenClaim := { program := "ytjalkjeldlchoaa", sum := "e025859f4cea98b990ffc72cdfc2b005c469181148238634251ee38eb9b87d3a", func := "windhover/windhoverlaw10.FenceThere", spec := "fenceThere", unfollowed := true, recurses := true, apart := false, narrowed := true }
def FenceThereUptoSaid : Prop := fenceThereUptoRow.holds Try.pinned (OpenSpec.upto fenceThereSpec)

/-- 'windhoverlaw10.FenceOfs', WHERE WHAT IT READS IS OF BULK AT MOST 1048576: true; the input reads as it did. -/
def fenceOfsUptoRow : OpenClaim := { program := "ytjalkjeldlchoaa", sum := "e025859f4cea98b990ffc72cdfc2b005c469181148238634251ee38eb9b87d3a", func := "windhover/windhoverlaw10.FenceOfs", spec := "fenceOfs", unfollowed := true, recurses := true, apart := false, narrowed := true }
def FenceOfsUptoSaid : Prop := fenceOfsUptoRow.holds Try.pinned (OpenSpec.upto fenceOfsSpec)

/-- 'windhoverlaw10.FenceBack', WHERE WHAT IT READS IS OF BULK AT MOST 1048576: true; the input reads as it did. -/
def fenceBackUptoRow : OpenClaim := { program := "ytjalkjeldlchoaa", sum := "e025859f4cea98b990ffc72cdfc2b005c469181148238634251ee38eb9b87d3a", func := "windhover/windhoverlaw10.FenceBack", spec := "fenceBack", unfollowed := true, recurses := true, apart := false, narrowed := true }
def FenceBackUptoSaid : Prop := fenceBackUptoRow.holds Try.pinned (OpenSpec.upto fenceBackSpec)

end Rows
end Go.Proofs.Ytjalkjeldlchoaa
