/-
  No cell of these rows narrows 'for every input' (looked for: loops, veiled, ifaces, maps, wideKeys, modest, calm, conditions, laid).
  DERIVED. THE GIVEN ROWS OF THIS SEAT. 5 by the template 'for every input the law returns true; each argument reads behind the call as it read before'; 0 by the template 'total and deterministic' (their statements: YthjlpklloioknaaTotals.lean).
  GIVEN WITH THE SEED: the statements are not yours to turn. If you find one false, say at which input.
  Laid BY PROGRAM, IN A SANDBOX (cutbox-rows.mjs): the forced cells as the released guide's own fill.sh prints them over the translation c0bdb0ca4b27f024… (all of the seat's roots in one cut). By AI agents, Wed Nov 11 2026. No macro, syntax, notation, axiom, sorry.
-/
import Derived.Test.YthjlpklloioknaaChecked
import GoSem.Claim
import GoSem.ClaimJoined
import GoSem.ClaimMapViews
import Derived.JoinedTies
import Derived.KernelRfl
namespace Go.Proofs.Ythjlpklloioknaa
/- THE CELL 'sum', in the pinned program and in every row, IS THE sha256 OF THE DUMP (.gsa) THAT YthjlpklloioknaaProg.lean LOADS. Nothing in Lean hashes anything: it is a label: what it is worth is what the hold of that sum in a sandbox is worth. -/
noncomputable def Try.pinned : Pinned := { name := "ythjlpklloioknaa", sum := "c0bdb0ca4b27f024d75c0421c2c9014e4236535ec12baa199ddaa9820dd48ac4", checked := Try.checked }
namespace Rows
def none {H : Type} : Left H := { results := [], args := [] }

/-- 'windhoverlaw21.UploadPlays': WHATEVER THE INPUT: true; the input reads as it did. -/
def uploadPlaysSpec : ChangeSpec := { name := "uploadPlays", fn := fun _ => fun
  | [d1, d2, d3] => { results := [.lit (.bool true)], args := [d1, d2, d3] }
  | _ => none }
def uploadPlaysRow : OpenClaim := { program := "ythjlpklloioknaa", sum := "c0bdb0ca4b27f024d75c0421c2c9014e4236535ec12baa199ddaa9820dd48ac4", func := "windhover/windhoverlaw21.UploadPlays", spec := "uploadPlays", unfollowed := true, recurses := true, apart := false }
def UploadPlaysSaid : Prop := uploadPlaysRow.holds Try.pinned (OpenSpec.ofChange uploadPlaysSpec)

/-- ITS FALSE NEIGHBOUR: 'it returns false'. Refute it at one input. -/
def uploadPlaysWrong : ChangeSpec := { name := "uploadPlays", fn := fun _ => fun
  | [d1, d2, d3] => { results := [.lit (.bool false)], args := [d1, d2, d3] }
  | _ => none }
def UploadPlaysWrongFalsely : Prop := uploadPlaysRow.holds Try.pinned (OpenSpec.ofChange uploadPlaysWrong)

/-- 'windhoverlaw21.UploadOnly': WHATEVER THE INPUT: true; the input reads as it did. -/
def uploadOnlySpec : ChangeSpec := { name := "uploadOnly", fn := fun _ => fun
  | [d1, d2] => { results := [.lit (.bool true)], args := [d1, d2] }
  | _ => none }
def uploadOnlyRow : OpenClaim := { program := "ythjlpklloioknaa", sum := "c0bdb0ca4b27f024d75c0421c2c9014e4236535ec12baa199ddaa9820dd48ac4", func := "windhover/windhoverlaw21.UploadOnly", spec := "uploadOnly", unfollowed := true, recurses := true, apart := false }
def UploadOnlySaid : Prop := uploadOnlyRow.holds Try.pinned (OpenSpec.ofChange uploadOnlySpec)

/-- ITS FALSE NEIGHBOUR: 'it returns false'. Refute it at one input. -/
def uploadOnlyWrong : ChangeSpec := { name := "uploadOnly", fn := fun _ => fun
  | [d1, d2] => { results := [.lit (.bool false)], args := [d1, d2] }
  | _ => none }
def UploadOnlyWrongFalsely : Prop := uploadOnlyRow.holds Try.pinned (OpenSpec.ofChange uploadOnlyWrong)

/-- 'windhoverlaw21.UploadWhole': WHATEVER THE INPUT: true; the input reads as it did. -/
def uploadWholeSpec : ChangeSpec := { name := "uploadWhole", fn := fun _ => fun
  | [d1, d2] => { results := [.lit (.bool true)], args := [d1, d2] }
  | _ => none }
def uploadWholeRow : OpenClaim := { program := "ythjlpklloioknaa", sum := "c0bdb0ca4b27f024d75c0421c2c9014e4236535ec12baa199ddaa9820dd48ac4", func := "windhover/windhoverlaw21.UploadWhole", spec := "uploadWhole", unfollowed := true, recurses := true, apart := false }
def UploadWholeSaid : Prop := uploadWholeRow.holds Try.pinned (OpenSpec.ofChange uploadWholeSpec)

/-- ITS FALSE NEIGHBOUR: 'it returns false'. Refute it at one input. -/
def uploadWholeWrong : ChangeSpec := { name := "uploadWhole", fn := fun _ => fun
  | [d1, d2] => { results := [.lit (.bool false)], args := [d1, d2] }
  | _ => none }
def UploadWholeWrongFalsely : Prop := uploadWholeRow.holds Try.pinned (OpenSpec.ofChange uploadWholeWrong)

/-- 'windhoverlaw21.UploadSilent': WHATEVER THE INPUT: true; the input reads as it did. -/
def uploadSilentSpec : ChangeSpec := { name := "uploadSilent", fn := fun _ => fun
  | [d1, d2, d3] => { results := [.lit (.bool true)], args := [d1, d2, d3] }
  | _ => none }
def uploadSilentRow : OpenClaim := { program := "ythjlpklloioknaa", sum := "c0bdb0ca4b27f024d75c0421c2c9014e4236535ec12baa199ddaa9820dd48ac4", func := "windhover/windhoverlaw21.UploadSilent", spec := "uploadSilent", unfollowed := true, recurses := true, apart := false }
def UploadSilentSaid : Prop := uploadSilentRow.holds Try.pinned (OpenSpec.ofChange uploadSilentSpec)

/-- ITS FALSE NEIGHBOUR: 'it returns false'. Refute it at one input. -/
def uploadSilentWrong : ChangeSpec := { name := "uploadSilent", fn := fun _ => fun
  | [d1, d2, d3] => { results := [.lit (.bool false)], args := [d1, d2, d3] }
  | _ => none }
def UploadSilentWrongFalsely : Prop := uploadSilentRow.holds Try.pinned (OpenSpec.ofChange uploadSilentWrong)

/-- 'windhoverlaw21.UploadNil': WHATEVER THE INPUT: true; the input reads as it did. -/
def uploadNilSpec : ChangeSpec := { name := "uploadNil", fn := fun _ => fun
  | [d1, d2] => { results := [.lit (.bool true)], args := [d1, d2] }
  | _ => none }
def uploadNilRow : OpenClaim := { program := "ythjlpklloioknaa", sum := "c0bdb0ca4b27f024d75c0421c2c9014e4236535ec12baa199ddaa9820dd48ac4", func := "windhover/windhoverlaw21.UploadNil", spec := "uploadNil", unfollowed := true, recurses := true, apart := false }
def UploadNilSaid : Prop := uploadNilRow.holds Try.pinned (OpenSpec.ofChange uploadNilSpec)

/-- ITS FALSE NEIGHBOUR: 'it returns false'. Refute it at one input. -/
def uploadNilWrong : ChangeSpec := { name := "uploadNil", fn := fun _ => fun
  | [d1, d2] => { results := [.lit (.bool false)], args := [d1, d2] }
  | _ => none }
def UploadNilWrongFalsely : Prop := uploadNilRow.holds Try.pinned (OpenSpec.ofChange uploadNilWrong)

/- THE SECOND FORM. 'bulk': how many values and letters a reading holds, each counted each time it is reached (what is shared counts as often as it is met; a slice's spare places count too). A statement '..UptoSaid' is the law's where the arguments, and the package variables that the reading takes, are together of bulk at most 1048576: NARROWER than '..Said'. Prove '..Said' where nothing that the law and all that it calls make is longer than what came in: it says more and counts as full. Else prove '..UptoSaid'. A law counts once. -/
mutual
def uptoBulk {H : Type} : DataW H → Nat
  | .lit (.string bytes) => bytes.length + 1
  | .lit _ => 1
  | .nil => 1
  | .ptr d => uptoBulk d + 1
  | .slice elems spare => uptoBulkAll elems + uptoBulkAll spare + 1
  | .agg parts => uptoBulkAll parts + 1
  | .iface _ d => uptoBulk d + 1
  | .map entries => uptoBulkEntries entries + 1
  | .held _ => 1
def uptoBulkAll {H : Type} : List (DataW H) → Nat
  | [] => 0
  | d :: r => uptoBulk d + uptoBulkAll r
def uptoBulkEntries {H : Type} : List (Lit × DataW H) → Nat
  | [] => 0
  | x :: r => uptoBulkEntry x + uptoBulkEntries r
def uptoBulkEntry {H : Type} : Lit × DataW H → Nat
  | (.string bytes, d) => bytes.length + uptoBulk d + 1
  | (_, d) => uptoBulk d + 1
 end
def uptoSmall : (H : Type) → List (DataW H) → Bool := fun _ ds => decide (uptoBulkAll ds ≤ 1048576)
def OpenSpec.upto (s : _root_.Go.ChangeSpec) : _root_.Go.OpenSpec := { _root_.Go.OpenSpec.ofChange s with cond := some uptoSmall }

/-- 'windhoverlaw21.UploadPlays', WHERE WHAT IT READS IS OF BULK AT MOST 1048576: true; the input reads as it did. -/
def uploadPlaysUptoRow : OpenClaim := { program := "ythjlpklloioknaa", sum := "c0bdb0ca4b27f024d75c0421c2c9014e4236535ec12baa199ddaa9820dd48ac4", func := "windhover/windhoverlaw21.UploadPlays", spec := "uploadPlays", unfollowed := true, recurses := true, apart := false, narrowed := true }
def UploadPlaysUptoSaid : Prop := uploadPlaysUptoRow.holds Try.pinned (OpenSpec.upto uploadPlaysSpec)

/-- 'windhoverlaw21.UploadOnly', WHERE WHAT IT READS IS OF BULK AT MOST 1048576: true; the input reads as it did. -/
def uploadOnlyUptoRow : OpenClaim := { program := "ythjlpklloioknaa", sum := "c0bdb0ca4b27f024d75c0421c2c9014e4236535ec12baa199ddaa9820dd48ac4", func := "windhover/windhoverlaw21.UploadOnly", spec := "uploadOnly", unfollowed := true, recurses := true, apart := false, narrowed := true }
def UploadOnlyUptoSaid : Prop := uploadOnlyUptoRow.holds Try.pinned (OpenSpec.upto uploadOnlySpec)

/-- 'windhoverlaw21.UploadWhole', WHERE WHAT IT READS IS OF BULK AT MOST 1048576: true; the input reads as it did. -/
def uploadWholeUptoRow : OpenClaim := { program := "ythjlpklloioknaa", sum := "c0bdb0ca4b27f024d75c0421c2c9014e4236535ec12baa199ddaa9820dd48ac4", func := "windhover/windhoverlaw21.UploadWhole", spec := "uploadWhole", unfollowed := true, recurses := true, apart := false, narrowed := true }
def UploadWholeUptoSaid : Prop := uploadWholeUptoRow.holds Try.pinned (OpenSpec.upto uploadWholeSpec)

/-- 'windhoverlaw21.UploadSilent', WHERE WHAT IT READS IS OF BULK AT MOST 1048576: true; the input reads as it did. -/
def uploadSilentUptoRow : OpenClaim := { program := "ythjlpklloioknaa", sum := "c0bdb0ca4b27f024d75c0421c2c9014e4236535ec12baa199ddaa9820dd48ac4", func := "windhover/windhoverlaw21.UploadSilent", spec := "uploadSilent", unfollowed := true, recurses := true, apart := false, narrowed := true }
def UploadSilentUptoSaid : Prop := uploadSilentUptoRow.holds Try.pinned (OpenSpec.upto uploadSilentSpec)

/-- 'windhoverlaw21.UploadNil', WHERE WHAT IT READS IS OF BULK AT MOST 1048576: true; the input reads as it did. -/
def uploadNilUptoRow : OpenClaim := { program := "ythjlpklloioknaa", sum := "c0bdb0ca4b27f024d75c0421c2c9014e4236535ec12baa199ddaa9820dd48ac4", func := "windhover/windhoverlaw21.UploadNil", spec := "uploadNil", unfollowed := true, recurses := true, apart := false, narrowed := true }
def UploadNilUptoSaid : Prop := uploadNilUptoRow.holds Try.pinned (OpenSpec.upto uploadNilSpec)

end Rows
end Go.Proofs.Ythjlpklloioknaa
