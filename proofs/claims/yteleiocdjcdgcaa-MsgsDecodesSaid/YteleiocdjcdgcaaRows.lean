/-
  No cell of these rows narrows 'for every input' (looked for: loops, veiled, ifaces, maps, wideKeys, modest, calm, conditions, laid).
  DERIVED. THE GIVEN ROWS OF THIS SEAT. 5 by the template 'for every input the law returns true; each argument reads behind the call as it read before'; 0 by the template 'total and deterministic' (their statements: YteleiocdjcdgcaaTotals.lean).
  GIVEN WITH THE SEED: the statements are not yours to turn. If you find one false, say at which input.
  Laid BY PROGRAM, IN A SANDBOX (cutbox-rows.mjs): the forced cells as the released guide's own fill.sh prints them over the translation aaa5d7a2f7d8f4b2… (all of the seat's roots in one cut). By AI agents, Wed Nov 11 2026. No macro, syntax, notation, axiom, sorry.
-/
import Derived.Test.YteleiocdjcdgcaaChecked
import GoSem.Claim
import GoSem.ClaimJoined
import GoSem.ClaimMapViews
import Derived.JoinedTies
import Derived.KernelRfl
namespace Go.Proofs.Yteleiocdjcdgcaa
/- THE CELL 'sum', in the pinned program and in every row, IS THE sha256 OF THE DUMP (.gsa) THAT YteleiocdjcdgcaaProg.lean LOADS. Nothing in Lean hashes anything: it is a label: what it is worth is what the hold of that sum in a sandbox is worth. -/
noncomputable def Try.pinned : Pinned := { name := "yteleiocdjcdgcaa", sum := "aaa5d7a2f7d8f4b25173474c34179c6065d34976495d9b1102c9db2db0dd73d2", checked := Try.checked }
namespace Rows
def none {H : Type} : Left H := { results := [], args := [] }

/-- 'windhoverlaw05.MsgsEncodes': WHATEVER THE INPUT: true; the input reads as it did. -/
def msgsEncodesSpec : ChangeSpec := { name := "msgsEncodes", fn := fun _ => fun
  | [d1, d2] => { results := [.lit (.bool true)], args := [d1, d2] }
  | _ => none }
def msgsEncodesRow : OpenClaim := { program := "yteleiocdjcdgcaa", sum := "aaa5d7a2f7d8f4b25173474c34179c6065d34976495d9b1102c9db2db0dd73d2", func := "windhover/windhoverlaw05.MsgsEncodes", spec := "msgsEncodes", apart := false }
def MsgsEncodesSaid : Prop := msgsEncodesRow.holds Try.pinned (OpenSpec.ofChange msgsEncodesSpec)

/-- ITS FALSE NEIGHBOUR: 'it returns false'. Refute it at one input. -/
def msgsEncodesWrong : ChangeSpec := { name := "msgsEncodes", fn := fun _ => fun
  | [d1, d2] => { results := [.lit (.bool false)], args := [d1, d2] }
  | _ => none }
def MsgsEncodesWrongFalsely : Prop := msgsEncodesRow.holds Try.pinned (OpenSpec.ofChange msgsEncodesWrong)

/-- 'windhoverlaw05.MsgsDecodes': WHATEVER THE INPUT: true; the input reads as it did. -/
def msgsDecodesSpec : ChangeSpec := { name := "msgsDecodes", fn := fun _ => fun
  | [d] => { results := [.lit (.bool true)], args := [d] }
  | _ => none }
def msgsDecodesRow : OpenClaim := { program := "yteleiocdjcdgcaa", sum := "aaa5d7a2f7d8f4b25173474c34179c6065d34976495d9b1102c9db2db0dd73d2", func := "windhover/windhoverlaw05.MsgsDecodes", spec := "msgsDecodes", apart := false }
def MsgsDecodesSaid : Prop := msgsDecodesRow.holds Try.pinned (OpenSpec.ofChange msgsDecodesSpec)

/-- ITS FALSE NEIGHBOUR: 'it returns false'. Refute it at one input. -/
def msgsDecodesWrong : ChangeSpec := { name := "msgsDecodes", fn := fun _ => fun
  | [d] => { results := [.lit (.bool false)], args := [d] }
  | _ => none }
def MsgsDecodesWrongFalsely : Prop := msgsDecodesRow.holds Try.pinned (OpenSpec.ofChange msgsDecodesWrong)

/-- 'windhoverlaw05.MsgsBack': WHATEVER THE INPUT: true; the input reads as it did. -/
def msgsBackSpec : ChangeSpec := { name := "msgsBack", fn := fun _ => fun
  | [d1, d2] => { results := [.lit (.bool true)], args := [d1, d2] }
  | _ => none }
def msgsBackRow : OpenClaim := { program := "yteleiocdjcdgcaa", sum := "aaa5d7a2f7d8f4b25173474c34179c6065d34976495d9b1102c9db2db0dd73d2", func := "windhover/windhoverlaw05.MsgsBack", spec := "msgsBack", apart := false }
def MsgsBackSaid : Prop := msgsBackRow.holds Try.pinned (OpenSpec.ofChange msgsBackSpec)

/-- ITS FALSE NEIGHBOUR: 'it returns false'. Refute it at one input. -/
def msgsBackWrong : ChangeSpec := { name := "msgsBack", fn := fun _ => fun
  | [d1, d2] => { results := [.lit (.bool false)], args := [d1, d2] }
  | _ => none }
def MsgsBackWrongFalsely : Prop := msgsBackRow.holds Try.pinned (OpenSpec.ofChange msgsBackWrong)

/-- 'windhoverlaw05.MsgsThere': WHATEVER THE INPUT: true; the input reads as it did. -/
def msgsThereSpec : ChangeSpec := { name := "msgsThere", fn := fun _ => fun
  | [d] => { results := [.lit (.bool true)], args := [d] }
  | _ => none }
def msgsThereRow : OpenClaim := { program := "yteleiocdjcdgcaa", sum := "aaa5d7a2f7d8f4b25173474c34179c6065d34976495d9b1102c9db2db0dd73d2", func := "windhover/windhoverlaw05.MsgsThere", spec := "msgsThere", apart := false }
def MsgsThereSaid : Prop := msgsThereRow.holds Try.pinned (OpenSpec.ofChange msgsThereSpec)

/-- ITS FALSE NEIGHBOUR: 'it returns false'. Refute it at one input. -/
def msgsThereWrong : ChangeSpec := { name := "msgsThere", fn := fun _ => fun
  | [d] => { results := [.lit (.bool false)], args := [d] }
  | _ => none }
def MsgsThereWrongFalsely : Prop := msgsThereRow.holds Try.pinned (OpenSpec.ofChange msgsThereWrong)

/-- 'windhoverlaw05.MsgsEdges': WHATEVER THE INPUT: true; the input reads as it did. -/
def msgsEdgesSpec : ChangeSpec := { name := "msgsEdges", fn := fun _ => fun
  | [d1, d2, d3] => { results := [.lit (.bool true)], args := [d1, d2, d3] }
  | _ => none }
def msgsEdgesRow : OpenClaim := { program := "yteleiocdjcdgcaa", sum := "aaa5d7a2f7d8f4b25173474c34179c6065d34976495d9b1102c9db2db0dd73d2", func := "windhover/windhoverlaw05.MsgsEdges", spec := "msgsEdges", apart := false }
def MsgsEdgesSaid : Prop := msgsEdgesRow.holds Try.pinned (OpenSpec.ofChange msgsEdgesSpec)

/-- ITS FALSE NEIGHBOUR: 'it returns false'. Refute it at one input. -/
def msgsEdgesWrong : ChangeSpec := { name := "msgsEdges", fn := fun _ => fun
  | [d1, d2, d3] => { results := [.lit (.bool false)], args := [d1, d2, d3] }
  | _ => none }
def MsgsEdgesWrongFalsely : Prop := msgsEdgesRow.holds Try.pinned (OpenSpec.ofChange msgsEdgesWrong)

/- THE SECOND FORM. 'bulk': how many values and letters a reading holds, each counted each time it is reached (what is shared counts as often as it is met; a slice's spare places count too). A statement '..UptoSaid' is the law's where the arguments, and the package variables that the reading takes, are together of bulk at most 1048576: NARROWER than '..Said'. Prove '..Said' where nothing that the law and all that it calls make is longer than what came in: it says more and counts as full. Else prove '..UptoSaid'. A law counts once. -/
mutual
def uptoBulk {H : Type} : DataW H → Nat
  | .lit (.string bytes) => bytes.length + 1
  | .lit _ => 1
  | .nil => 1
  | .ptr d => uptoBulk d + 1
  | .slice elems spare => uptoBulkAll elems + uptoBulkAll spare + 1
  | .agg parts => uptoBulkAll parts + 1
  | .iface _ d => uptoBulk d + 1
  | .map entries => uptoBulkEntries entries + 1
  | .held _ => 1
def uptoBulkAll {H : Type} : List (DataW H) → Nat
  | [] => 0
  | d :: r => uptoBulk d + uptoBulkAll r
def uptoBulkEntries {H : Type} : List (Lit × DataW H) → Nat
  | [] => 0
  | x :: r => uptoBulkEntry x + uptoBulkEntries r
def uptoBulkEntry {H : Type} : Lit × DataW H → Nat
  | (.string bytes, d) => bytes.length + uptoBulk d + 1
  | (_, d) => uptoBulk d + 1
 end
def uptoSmall : (H : Type) → List (DataW H) → Bool := fun _ ds => decide (uptoBulkAll ds ≤ 1048576)
def OpenSpec.upto (s : _root_.Go.ChangeSpec) : _root_.Go.OpenSpec := { _root_.Go.OpenSpec.ofChange s with cond := some uptoSmall }

/-- 'windhoverlaw05.MsgsEncodes', WHERE WHAT IT READS IS OF BULK AT MOST 1048576: true; the input reads as it did. -/
def msgsEncodesUptoRow : OpenClaim := { program := "yteleiocdjcdgcaa", sum := "aaa5d7a2f7d8f4b25173474c34179c6065d34976495d9b1102c9db2db0dd73d2", func := "windhover/windhoverlaw05.MsgsEncodes", spec := "msgsEncodes", apart := false, narrowed := true }
def MsgsEncodesUptoSaid : Prop := msgsEncodesUptoRow.holds Try.pinned (OpenSpec.upto msgsEncodesSpec)

/-- 'windhoverlaw05.MsgsDecodes', WHERE WHAT IT READS IS OF BULK AT MOST 1048576: true; the input reads as it did. -/
def msgsDecodesUptoRow : OpenClaim := { program := "yteleiocdjcdgcaa", sum := "aaa5d7a2f7d8f4b25173474c34179c6065d34976495d9b1102c9db2db0dd73d2", func := "windhover/windhoverlaw05.MsgsDecodes", spec := "msgsDecodes", apart := false, narrowed := true }
def MsgsDecodesUptoSaid : Prop := msgsDecodesUptoRow.holds Try.pinned (OpenSpec.upto msgsDecodesSpec)

/-- 'windhoverlaw05.MsgsBack', WHERE WHAT IT READS IS OF BULK AT MOST 1048576: true; the input reads as it did. -/
def msgsBackUptoRow : OpenClaim := { program := "yteleiocdjcdgcaa", sum := "aaa5d7a2f7d8f4b25173474c34179c6065d34976495d9b1102c9db2db0dd73d2", func := "windhover/windhoverlaw05.MsgsBack", spec := "msgsBack", apart := false, narrowed := true }
def MsgsBackUptoSaid : Prop := msgsBackUptoRow.holds Try.pinned (OpenSpec.upto msgsBackSpec)

/-- 'windhoverlaw05.MsgsThere', WHERE WHAT IT READS IS OF BULK AT MOST 1048576: true; the input reads as it did. -/
def msgsThereUptoRow : OpenClaim := { program := "yteleiocdjcdgcaa", sum := "aaa5d7a2f7d8f4b25173474c34179c6065d34976495d9b1102c9db2db0dd73d2", func := "windhover/windhoverlaw05.MsgsThere", spec := "msgsThere", apart := false, narrowed := true }
def MsgsThereUptoSaid : Prop := msgsThereUptoRow.holds Try.pinned (OpenSpec.upto msgsThereSpec)

/-- 'windhoverlaw05.MsgsEdges', WHERE WHAT IT READS IS OF BULK AT MOST 1048576: true; the input reads as it did. -/
def msgsEdgesUptoRow : OpenClaim := { program := "yteleiocdjcdgcaa", sum := "aaa5d7a2f7d8f4b25173474c34179c6065d34976495d9b1102c9db2db0dd73d2", func := "windhover/windhoverlaw05.MsgsEdges", spec := "msgsEdges", apart := false, narrowed := true }
def MsgsEdgesUptoSaid : Prop := msgsEdgesUptoRow.holds Try.pinned (OpenSpec.upto msgsEdgesSpec)

end Rows
end Go.Proofs.Yteleiocdjcdgcaa
