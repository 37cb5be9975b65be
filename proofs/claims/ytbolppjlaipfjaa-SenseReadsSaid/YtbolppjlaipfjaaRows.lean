/-
  No cell of these rows narrows 'for every input' (looked for: loops, veiled, ifaces, maps, wideKeys, modest, calm, conditions, laid).
  DERIVED. THE GIVEN ROWS OF THIS SEAT. 6 by the template 'for every input the law returns true; each argument reads behind the call as it read before'; 0 by the template 'total and deterministic' (their statements: YtbolppjlaipfjaaTotals.lean).
  GIVEN WITH THE SEED: the statements are not yours to turn. If you find one false, say at which input.
  Laid BY PROGRAM, IN A SANDBOX (cutbox-rows.mjs): the forced cells as the released guide's own fill.sh prints them over the translation 1a85508add3ec636… (all of the seat's roots in one cut). By AI agents, Wed Nov 11 2026. No macro, syntax, notation, axiom, sorry.
-/
import Derived.Test.YtbolppjlaipfjaaChecked
import GoSem.Claim
import GoSem.ClaimJoined
import GoSem.ClaimMapViews
import Derived.JoinedTies
import Derived.KernelRfl
namespace Go.Proofs.Ytbolppjlaipfjaa
/- THE CELL 'sum', in the pinned program and in every row, IS THE sha256 OF THE DUMP (.gsa) THAT YtbolppjlaipfjaaProg.lean LOADS. Nothing in Lean hashes anything: it is a label: what it is worth is what the hold of that sum in a sandbox is worth. -/
noncomputable def Try.pinned : Pinned := { name := "ytbolppjlaipfjaa", sum := "1a85508add3ec63602c0aeccda86b9aa8e119ed962540bea59dbdb46e51a2b64", checked := Try.checked }
namespace Rows
def none {H : Type} : Left H := { results := [], args := [] }

/-- 'windhoverlaw11.SenseReads': WHATEVER THE INPUT: true; the input reads as it did. -/
def senseReadsSpec : ChangeSpec := { name := "senseReads", fn := fun _ => fun
  | [d1, d2] => { results := [.lit (.bool true)], args := [d1, d2] }
  | _ => none }
def senseReadsRow : OpenClaim := { program := "ytbolppjlaipfjaa", sum := "1a85508add3ec63602c0aeccda86b9aa8e119ed962540bea59dbdb46e51a2b64", func := "windhover/windhoverlaw11.SenseReads", spec := "senseReads", inPlace := ["internal/bytealg.IndexByteString", "internal/bytealg.IndexString"], unfollowed := true, recurses := true, named := ["internal/bytealg.MaxLen"], apart := false }
def SenseReadsSaid : Prop := senseReadsRow.holds Try.pinned (OpenSpec.ofChange senseReadsSpec)

/-- ITS FALSE NEIGHBOUR: 'it returns false'. Refute it at one input. -/
def senseReadsWrong : ChangeSpec := { name := "senseReads", fn := fun _ => fun
  | [d1, d2] => { results := [.lit (.bool false)], args := [d1, d2] }
  | _ => none }
def SenseReadsWrongFalsely : Prop := senseReadsRow.holds Try.pinned (OpenSpec.ofChange senseReadsWrong)

/-- 'windhoverlaw11.SenseWrites': WHATEVER THE INPUT: true; the input reads as it did. -/
def senseWritesSpec : ChangeSpec := { name := "senseWrites", fn := fun _ => fun
  | [d1, d2] => { results := [.lit (.bool true)], args := [d1, d2] }
  | _ => none }
def senseWritesRow : OpenClaim := { program := "ytbolppjlaipfjaa", sum := "1a85508add3ec63602c0aeccda86b9aa8e119ed962540bea59dbdb46e51a2b64", func := "windhover/windhoverlaw11.SenseWrites", spec := "senseWrites", inPlace := ["internal/bytealg.IndexByteString", "internal/bytealg.IndexString"], unfollowed := true, recurses := true, named := ["internal/bytealg.MaxLen"], apart := false }
def SenseWritesSaid : Prop := senseWritesRow.holds Try.pinned (OpenSpec.ofChange senseWritesSpec)

/-- ITS FALSE NEIGHBOUR: 'it returns false'. Refute it at one input. -/
def senseWritesWrong : ChangeSpec := { name := "senseWrites", fn := fun _ => fun
  | [d1, d2] => { results := [.lit (.bool false)], args := [d1, d2] }
  | _ => none }
def SenseWritesWrongFalsely : Prop := senseWritesRow.holds Try.pinned (OpenSpec.ofChange senseWritesWrong)

/-- 'windhoverlaw11.SenseBack': WHATEVER THE INPUT: true; the input reads as it did. -/
def senseBackSpec : ChangeSpec := { name := "senseBack", fn := fun _ => fun
  | [d1, d2, d3] => { results := [.lit (.bool true)], args := [d1, d2, d3] }
  | _ => none }
def senseBackRow : OpenClaim := { program := "ytbolppjlaipfjaa", sum := "1a85508add3ec63602c0aeccda86b9aa8e119ed962540bea59dbdb46e51a2b64", func := "windhover/windhoverlaw11.SenseBack", spec := "senseBack", inPlace := ["internal/bytealg.IndexByteString", "internal/bytealg.IndexString"], unfollowed := true, recurses := true, named := ["internal/bytealg.MaxLen"], apart := false }
def SenseBackSaid : Prop := senseBackRow.holds Try.pinned (OpenSpec.ofChange senseBackSpec)

/-- ITS FALSE NEIGHBOUR: 'it returns false'. Refute it at one input. -/
def senseBackWrong : ChangeSpec := { name := "senseBack", fn := fun _ => fun
  | [d1, d2, d3] => { results := [.lit (.bool false)], args := [d1, d2, d3] }
  | _ => none }
def SenseBackWrongFalsely : Prop := senseBackRow.holds Try.pinned (OpenSpec.ofChange senseBackWrong)

/-- 'windhoverlaw11.SenseStands': WHATEVER THE INPUT: true; the input reads as it did. -/
def senseStandsSpec : ChangeSpec := { name := "senseStands", fn := fun _ => fun
  | [d1, d2] => { results := [.lit (.bool true)], args := [d1, d2] }
  | _ => none }
def senseStandsRow : OpenClaim := { program := "ytbolppjlaipfjaa", sum := "1a85508add3ec63602c0aeccda86b9aa8e119ed962540bea59dbdb46e51a2b64", func := "windhover/windhoverlaw11.SenseStands", spec := "senseStands", inPlace := ["internal/bytealg.IndexByteString", "internal/bytealg.IndexString"], unfollowed := true, recurses := true, named := ["internal/bytealg.MaxLen"], apart := false }
def SenseStandsSaid : Prop := senseStandsRow.holds Try.pinned (OpenSpec.ofChange senseStandsSpec)

/-- ITS FALSE NEIGHBOUR: 'it returns false'. Refute it at one input. -/
def senseStandsWrong : ChangeSpec := { name := "senseStands", fn := fun _ => fun
  | [d1, d2] => { results := [.lit (.bool false)], args := [d1, d2] }
  | _ => none }
def SenseStandsWrongFalsely : Prop := senseStandsRow.holds Try.pinned (OpenSpec.ofChange senseStandsWrong)

/-- 'windhoverlaw11.SenseOthers': WHATEVER THE INPUT: true; the input reads as it did. -/
def senseOthersSpec : ChangeSpec := { name := "senseOthers", fn := fun _ => fun
  | [d1, d2, d3] => { results := [.lit (.bool true)], args := [d1, d2, d3] }
  | _ => none }
def senseOthersRow : OpenClaim := { program := "ytbolppjlaipfjaa", sum := "1a85508add3ec63602c0aeccda86b9aa8e119ed962540bea59dbdb46e51a2b64", func := "windhover/windhoverlaw11.SenseOthers", spec := "senseOthers", inPlace := ["internal/bytealg.IndexByteString", "internal/bytealg.IndexString"], unfollowed := true, recurses := true, named := ["internal/bytealg.MaxLen"], apart := false }
def SenseOthersSaid : Prop := senseOthersRow.holds Try.pinned (OpenSpec.ofChange senseOthersSpec)

/-- ITS FALSE NEIGHBOUR: 'it returns false'. Refute it at one input. -/
def senseOthersWrong : ChangeSpec := { name := "senseOthers", fn := fun _ => fun
  | [d1, d2, d3] => { results := [.lit (.bool false)], args := [d1, d2, d3] }
  | _ => none }
def SenseOthersWrongFalsely : Prop := senseOthersRow.holds Try.pinned (OpenSpec.ofChange senseOthersWrong)

/-- 'windhoverlaw11.SenseTurned': WHATEVER THE INPUT: true; the input reads as it did. -/
def senseTurnedSpec : ChangeSpec := { name := "senseTurned", fn := fun _ => fun
  | [d1, d2, d3] => { results := [.lit (.bool true)], args := [d1, d2, d3] }
  | _ => none }
def senseTurnedRow : OpenClaim := { program := "ytbolppjlaipfjaa", sum := "1a85508add3ec63602c0aeccda86b9aa8e119ed962540bea59dbdb46e51a2b64", func := "windhover/windhoverlaw11.SenseTurned", spec := "senseTurned", inPlace := ["internal/bytealg.IndexByteString", "internal/bytealg.IndexString"], unfollowed := true, recurses := true, named := ["internal/bytealg.MaxLen"], apart := false }
def SenseTurnedSaid : Prop := senseTurnedRow.holds Try.pinned (OpenSpec.ofChange senseTurnedSpec)

/-- ITS FALSE NEIGHBOUR: 'it returns false'. Refute it at one input. -/
def senseTurnedWrong : ChangeSpec := { name := "senseTurned", fn := fun _ => fun
  | [d1, d2, d3] => { results := [.lit (.bool false)], args := [d1, d2, d3] }
  | _ => none }
def SenseTurnedWrongFalsely : Prop := senseTurnedRow.holds Try.pinned (OpenSpec.ofChange senseTurnedWrong)

/- THE SECOND FORM. 'bulk': how many values and letters a reading holds, each counted each time it is reached (what is shared counts as often as it is met; a slice's spare places count too). A statement '..UptoSaid' is the law's where the arguments, and the package variables that the reading takes, are together of bulk at most 1048576: NARROWER than '..Said'. Prove '..Said' where nothing that the law and all that it calls make is longer than what came in: it says more and counts as full. Else prove '..UptoSaid'. A law counts once. -/
mutual
def uptoBulk {H : Type} : DataW H → Nat
  | .lit (.string bytes) => bytes.length + 1
  | .lit _ => 1
  | .nil => 1
  | .ptr d => uptoBulk d + 1
  | .slice elems spare => uptoBulkAll elems + uptoBulkAll spare + 1
  | .agg parts => uptoBulkAll parts + 1
  | .iface _ d => uptoBulk d + 1
  | .map entries => uptoBulkEntries entries + 1
  | .held _ => 1
def uptoBulkAll {H : Type} : List (DataW H) → Nat
  | [] => 0
  | d :: r => uptoBulk d + uptoBulkAll r
def uptoBulkEntries {H : Type} : List (Lit × DataW H) → Nat
  | [] => 0
  | x :: r => uptoBulkEntry x + uptoBulkEntries r
def uptoBulkEntry {H : Type} : Lit × DataW H → Nat
  | (.string bytes, d) => bytes.length + uptoBulk d + 1
  | (_, d) => uptoBulk d + 1
 end
def uptoSmall : (H : Type) → List (DataW H) → Bool := fun _ ds => decide (uptoBulkAll ds ≤ 1048576)
def OpenSpec.upto (s : _root_.Go.ChangeSpec) : _root_.Go.OpenSpec := { _root_.Go.OpenSpec.ofChange s with cond := some uptoSmall }

/-- 'windhoverlaw11.SenseReads', WHERE WHAT IT READS IS OF BULK AT MOST 1048576: true; the input reads as it did. -/
def senseReadsUptoRow : OpenClaim := { program := "ytbolppjlaipfjaa", sum := "1a85508add3ec63602c0aeccda86b9aa8e119ed962540bea59dbdb46e51a2b64", func := "windhover/windhoverlaw11.SenseReads", spec := "senseReads", inPlace := ["internal/bytealg.IndexByteString", "internal/bytealg.IndexString"], unfollowed := true, recurses := true, named := ["internal/bytealg.MaxLen"], apart := false, narrowed := true }
def SenseReadsUptoSaid : Prop := senseReadsUptoRow.holds Try.pinned (OpenSpec.upto senseReadsSpec)

/-- 'windhoverlaw11.SenseWrites', WHERE WHAT IT READS IS OF BULK AT MOST 1048576: true; the input reads as it did. -/
def senseWritesUptoRow : OpenClaim := { program := "ytbolppjlaipfjaa", sum := "1a85508add3ec63602c0aeccda86b9aa8e119ed962540bea59dbdb46e51a2b64", func := "windhover/windhoverlaw11.SenseWrites", spec := "senseWrites", inPlace := ["internal/bytealg.IndexByteString", "internal/bytealg.IndexString"], unfollowed := true, recurses := true, named := ["internal/bytealg.MaxLen"], apart := false, narrowed := true }
def SenseWritesUptoSaid : Prop := senseWritesUptoRow.holds Try.pinned (OpenSpec.upto senseWritesSpec)

/-- 'windhoverlaw11.SenseBack', WHERE WHAT IT READS IS OF BULK AT MOST 1048576: true; the input reads as it did. -/
def senseBackUptoRow : OpenClaim := { program := "ytbolppjlaipfjaa", sum := "1a85508add3ec63602c0aeccda86b9aa8e119ed962540bea59dbdb46e51a2b64", func := "windhover/windhoverlaw11.SenseBack", spec := "senseBack", inPlace := ["internal/bytealg.IndexByteString", "internal/bytealg.IndexString"], unfollowed := true, recurses := true, named := ["internal/bytealg.MaxLen"], apart := false, narrowed := true }
def SenseBackUptoSaid : Prop := senseBackUptoRow.holds Try.pinned (OpenSpec.upto senseBackSpec)

/-- 'windhoverlaw11.SenseStands', WHERE WHAT IT READS IS OF BULK AT MOST 1048576: true; the input reads as it did. -/
def senseStandsUptoRow : OpenClaim := { program := "ytbolppjlaipfjaa", sum := "1a85508add3ec63602c0aeccda86b9aa8e119ed962540bea59dbdb46e51a2b64", func := "windhover/windhoverlaw11.SenseStands", spec := "senseStands", inPlace := ["internal/bytealg.IndexByteString", "internal/bytealg.IndexString"], unfollowed := true, recurses := true, named := ["internal/bytealg.MaxLen"], apart := false, narrowed := true }
def SenseStandsUptoSaid : Prop := senseStandsUptoRow.holds Try.pinned (OpenSpec.upto senseStandsSpec)

/-- 'windhoverlaw11.SenseOthers', WHERE WHAT IT READS IS OF BULK AT MOST 1048576: true; the input reads as it did. -/
def senseOthersUptoRow : OpenClaim := { program := "ytbolppjlaipfjaa", sum := "1a85508add3ec63602c0aeccda86b9aa8e119ed962540bea59dbdb46e51a2b64", func := "windhover/windhoverlaw11.SenseOthers", spec := "senseOthers", inPlace := ["internal/bytealg.IndexByteString", "internal/bytealg.IndexString"], unfollowed := true, recurses := true, named := ["internal/bytealg.MaxLen"], apart := false, narrowed := true }
def SenseOthersUptoSaid : Prop := senseOthersUptoRow.holds Try.pinned (OpenSpec.upto senseOthersSpec)

/-- 'windhoverlaw11.SenseTurned', WHERE WHAT IT READS IS OF BULK AT MOST 1048576: true; the input reads as it did. -/
def senseTurnedUptoRow : OpenClaim := { program := "ytbolppjlaipfjaa", sum := "1a85508add3ec63602c0aeccda86b9aa8e119ed962540bea59dbdb46e51a2b64", func := "windhover/windhoverlaw11.SenseTurned", spec := "senseTurned", inPlace := ["internal/bytealg.IndexByteString", "internal/bytealg.IndexString"], unfollowed := true, recurses := true, named := ["internal/bytealg.MaxLen"], apart := false, narrowed := true }
def SenseTurnedUptoSaid : Prop := senseTurnedUptoRow.holds Try.pinned (OpenSpec.upto senseTurnedSpec)

end Rows
end Go.Proofs.Ytbolppjlaipfjaa
