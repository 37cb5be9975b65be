/-
  No cell of these rows narrows 'for every input' (looked for: loops, veiled, ifaces, maps, wideKeys, modest, calm, conditions, laid).
  DERIVED. THE GIVEN ROWS OF THIS SEAT. 11 by the template 'for every input the law returns true; each argument reads behind the call as it read before'; 0 by the template 'total and deterministic' (their statements: YtannklfnfacpeaaTotals.lean).
  GIVEN WITH THE SEED: the statements are not yours to turn. If you find one false, say at which input.
  Laid BY PROGRAM, IN A SANDBOX (cutbox-rows.mjs): the forced cells as the released guide's own fill.sh prints them over the translation 6ddc865b8347afb5… (all of the seat's roots in one cut). By AI agents, Wed Nov 11 2026. No macro, syntax, notation, axiom, sorry.
-/
import Derived.Test.YtannklfnfacpeaaChecked
import GoSem.Claim
import GoSem.ClaimJoined
import GoSem.ClaimMapViews
import Derived.JoinedTies
import Derived.KernelRfl
namespace Go.Proofs.Ytannklfnfacpeaa
/- THE CELL 'sum', in the pinned program and in every row, IS THE sha256 OF THE DUMP (.gsa) THAT YtannklfnfacpeaaProg.lean LOADS. Nothing in Lean hashes anything: it is a label: what it is worth is what the hold of that sum in a sandbox is worth. -/
noncomputable def Try.pinned : Pinned := { name := "ytannklfnfacpeaa", sum := "6ddc865b8347afb5912a39f7c76c959a110f5679fa2203b7f131cd7693ddf77a", checked := Try.checked }
namespace Rows
def none {H : Type} : Left H := { results := [], args := [] }

/-- 'windhoverlaw09.GeoOrients': WHATEVER THE INPUT: true; the input reads as it did. -/
def geoOrientsSpec : ChangeSpec := { name := "geoOrients", fn := fun _ => fun
  | [d1, d2, d3] => { results := [.lit (.bool true)], args := [d1, d2, d3] }
  | _ => none }
def geoOrientsRow : OpenClaim := { program := "ytannklfnfacpeaa", sum := "6ddc865b8347afb5912a39f7c76c959a110f5679fa2203b7f131cd7693ddf77a", func := "windhover/windhoverlaw09.GeoOrients", spec := "geoOrients", unfollowed := true, recurses := true, apart := false }
def GeoOrientsSaid : Prop := geoOrientsRow.holds Try.pinned (OpenSpec.ofChange geoOrientsSpec)

/-- ITS FALSE NEIGHBOUR: 'it returns false'. Refute it at one input. -/
def geoOrientsWrong : ChangeSpec := { name := "geoOrients", fn := fun _ => fun
  | [d1, d2, d3] => { results := [.lit (.bool false)], args := [d1, d2, d3] }
  | _ => none }
def GeoOrientsWrongFalsely : Prop := geoOrientsRow.holds Try.pinned (OpenSpec.ofChange geoOrientsWrong)

/-- 'windhoverlaw09.GeoMeets': WHATEVER THE INPUT: true; the input reads as it did. -/
def geoMeetsSpec : ChangeSpec := { name := "geoMeets", fn := fun _ => fun
  | [d1, d2] => { results := [.lit (.bool true)], args := [d1, d2] }
  | _ => none }
def geoMeetsRow : OpenClaim := { program := "ytannklfnfacpeaa", sum := "6ddc865b8347afb5912a39f7c76c959a110f5679fa2203b7f131cd7693ddf77a", func := "windhover/windhoverlaw09.GeoMeets", spec := "geoMeets", unfollowed := true, recurses := true, apart := false }
def GeoMeetsSaid : Prop := geoMeetsRow.holds Try.pinned (OpenSpec.ofChange geoMeetsSpec)

/-- ITS FALSE NEIGHBOUR: 'it returns false'. Refute it at one input. -/
def geoMeetsWrong : ChangeSpec := { name := "geoMeets", fn := fun _ => fun
  | [d1, d2] => { results := [.lit (.bool false)], args := [d1, d2] }
  | _ => none }
def GeoMeetsWrongFalsely : Prop := geoMeetsRow.holds Try.pinned (OpenSpec.ofChange geoMeetsWrong)

/-- 'windhoverlaw09.GeoSimples': WHATEVER THE INPUT: true; the input reads as it did. -/
def geoSimplesSpec : ChangeSpec := { name := "geoSimples", fn := fun _ => fun
  | [d] => { results := [.lit (.bool true)], args := [d] }
  | _ => none }
def geoSimplesRow : OpenClaim := { program := "ytannklfnfacpeaa", sum := "6ddc865b8347afb5912a39f7c76c959a110f5679fa2203b7f131cd7693ddf77a", func := "windhover/windhoverlaw09.GeoSimples", spec := "geoSimples", unfollowed := true, recurses := true, apart := false }
def GeoSimplesSaid : Prop := geoSimplesRow.holds Try.pinned (OpenSpec.ofChange geoSimplesSpec)

/-- ITS FALSE NEIGHBOUR: 'it returns false'. Refute it at one input. -/
def geoSimplesWrong : ChangeSpec := { name := "geoSimples", fn := fun _ => fun
  | [d] => { results := [.lit (.bool false)], args := [d] }
  | _ => none }
def GeoSimplesWrongFalsely : Prop := geoSimplesRow.holds Try.pinned (OpenSpec.ofChange geoSimplesWrong)

/-- 'windhoverlaw09.GeoSides': WHATEVER THE INPUT: true; the input reads as it did. -/
def geoSidesSpec : ChangeSpec := { name := "geoSides", fn := fun _ => fun
  | [d1, d2] => { results := [.lit (.bool true)], args := [d1, d2] }
  | _ => none }
def geoSidesRow : OpenClaim := { program := "ytannklfnfacpeaa", sum := "6ddc865b8347afb5912a39f7c76c959a110f5679fa2203b7f131cd7693ddf77a", func := "windhover/windhoverlaw09.GeoSides", spec := "geoSides", unfollowed := true, recurses := true, apart := false }
def GeoSidesSaid : Prop := geoSidesRow.holds Try.pinned (OpenSpec.ofChange geoSidesSpec)

/-- ITS FALSE NEIGHBOUR: 'it returns false'. Refute it at one input. -/
def geoSidesWrong : ChangeSpec := { name := "geoSides", fn := fun _ => fun
  | [d1, d2] => { results := [.lit (.bool false)], args := [d1, d2] }
  | _ => none }
def GeoSidesWrongFalsely : Prop := geoSidesRow.holds Try.pinned (OpenSpec.ofChange geoSidesWrong)

/-- 'windhoverlaw09.GeoTouches': WHATEVER THE INPUT: true; the input reads as it did. -/
def geoTouchesSpec : ChangeSpec := { name := "geoTouches", fn := fun _ => fun
  | [d1, d2] => { results := [.lit (.bool true)], args := [d1, d2] }
  | _ => none }
def geoTouchesRow : OpenClaim := { program := "ytannklfnfacpeaa", sum := "6ddc865b8347afb5912a39f7c76c959a110f5679fa2203b7f131cd7693ddf77a", func := "windhover/windhoverlaw09.GeoTouches", spec := "geoTouches", unfollowed := true, recurses := true, apart := false }
def GeoTouchesSaid : Prop := geoTouchesRow.holds Try.pinned (OpenSpec.ofChange geoTouchesSpec)

/-- ITS FALSE NEIGHBOUR: 'it returns false'. Refute it at one input. -/
def geoTouchesWrong : ChangeSpec := { name := "geoTouches", fn := fun _ => fun
  | [d1, d2] => { results := [.lit (.bool false)], args := [d1, d2] }
  | _ => none }
def GeoTouchesWrongFalsely : Prop := geoTouchesRow.holds Try.pinned (OpenSpec.ofChange geoTouchesWrong)

/-- 'windhoverlaw09.GeoTurns': WHATEVER THE INPUT: true; the input reads as it did. -/
def geoTurnsSpec : ChangeSpec := { name := "geoTurns", fn := fun _ => fun
  | [d1, d2, d3] => { results := [.lit (.bool true)], args := [d1, d2, d3] }
  | _ => none }
def geoTurnsRow : OpenClaim := { program := "ytannklfnfacpeaa", sum := "6ddc865b8347afb5912a39f7c76c959a110f5679fa2203b7f131cd7693ddf77a", func := "windhover/windhoverlaw09.GeoTurns", spec := "geoTurns", unfollowed := true, recurses := true, apart := false }
def GeoTurnsSaid : Prop := geoTurnsRow.holds Try.pinned (OpenSpec.ofChange geoTurnsSpec)

/-- ITS FALSE NEIGHBOUR: 'it returns false'. Refute it at one input. -/
def geoTurnsWrong : ChangeSpec := { name := "geoTurns", fn := fun _ => fun
  | [d1, d2, d3] => { results := [.lit (.bool false)], args := [d1, d2, d3] }
  | _ => none }
def GeoTurnsWrongFalsely : Prop := geoTurnsRow.holds Try.pinned (OpenSpec.ofChange geoTurnsWrong)

/-- 'windhoverlaw09.GeoDiagonals': WHATEVER THE INPUT: true; the input reads as it did. -/
def geoDiagonalsSpec : ChangeSpec := { name := "geoDiagonals", fn := fun _ => fun
  | [d1, d2] => { results := [.lit (.bool true)], args := [d1, d2] }
  | _ => none }
def geoDiagonalsRow : OpenClaim := { program := "ytannklfnfacpeaa", sum := "6ddc865b8347afb5912a39f7c76c959a110f5679fa2203b7f131cd7693ddf77a", func := "windhover/windhoverlaw09.GeoDiagonals", spec := "geoDiagonals", unfollowed := true, recurses := true, apart := false }
def GeoDiagonalsSaid : Prop := geoDiagonalsRow.holds Try.pinned (OpenSpec.ofChange geoDiagonalsSpec)

/-- ITS FALSE NEIGHBOUR: 'it returns false'. Refute it at one input. -/
def geoDiagonalsWrong : ChangeSpec := { name := "geoDiagonals", fn := fun _ => fun
  | [d1, d2] => { results := [.lit (.bool false)], args := [d1, d2] }
  | _ => none }
def GeoDiagonalsWrongFalsely : Prop := geoDiagonalsRow.holds Try.pinned (OpenSpec.ofChange geoDiagonalsWrong)

/-- 'windhoverlaw09.GeoAround': WHATEVER THE INPUT: true; the input reads as it did. -/
def geoAroundSpec : ChangeSpec := { name := "geoAround", fn := fun _ => fun
  | [d1, d2, d3] => { results := [.lit (.bool true)], args := [d1, d2, d3] }
  | _ => none }
def geoAroundRow : OpenClaim := { program := "ytannklfnfacpeaa", sum := "6ddc865b8347afb5912a39f7c76c959a110f5679fa2203b7f131cd7693ddf77a", func := "windhover/windhoverlaw09.GeoAround", spec := "geoAround", unfollowed := true, recurses := true, apart := false }
def GeoAroundSaid : Prop := geoAroundRow.holds Try.pinned (OpenSpec.ofChange geoAroundSpec)

/-- ITS FALSE NEIGHBOUR: 'it returns false'. Refute it at one input. -/
def geoAroundWrong : ChangeSpec := { name := "geoAround", fn := fun _ => fun
  | [d1, d2, d3] => { results := [.lit (.bool false)], args := [d1, d2, d3] }
  | _ => none }
def GeoAroundWrongFalsely : Prop := geoAroundRow.holds Try.pinned (OpenSpec.ofChange geoAroundWrong)

/-- 'windhoverlaw09.GeoStays': WHATEVER THE INPUT: true; the input reads as it did. -/
def geoStaysSpec : ChangeSpec := { name := "geoStays", fn := fun _ => fun
  | [d1, d2, d3] => { results := [.lit (.bool true)], args := [d1, d2, d3] }
  | _ => none }
def geoStaysRow : OpenClaim := { program := "ytannklfnfacpeaa", sum := "6ddc865b8347afb5912a39f7c76c959a110f5679fa2203b7f131cd7693ddf77a", func := "windhover/windhoverlaw09.GeoStays", spec := "geoStays", unfollowed := true, recurses := true, apart := false }
def GeoStaysSaid : Prop := geoStaysRow.holds Try.pinned (OpenSpec.ofChange geoStaysSpec)

/-- ITS FALSE NEIGHBOUR: 'it returns false'. Refute it at one input. -/
def geoStaysWrong : ChangeSpec := { name := "geoStays", fn := fun _ => fun
  | [d1, d2, d3] => { results := [.lit (.bool false)], args := [d1, d2, d3] }
  | _ => none }
def GeoStaysWrongFalsely : Prop := geoStaysRow.holds Try.pinned (OpenSpec.ofChange geoStaysWrong)

/-- 'windhoverlaw09.GeoOut': WHATEVER THE INPUT: true; the input reads as it did. -/
def geoOutSpec : ChangeSpec := { name := "geoOut", fn := fun _ => fun
  | [d1, d2] => { results := [.lit (.bool true)], args := [d1, d2] }
  | _ => none }
def geoOutRow : OpenClaim := { program := "ytannklfnfacpeaa", sum := "6ddc865b8347afb5912a39f7c76c959a110f5679fa2203b7f131cd7693ddf77a", func := "windhover/windhoverlaw09.GeoOut", spec := "geoOut", unfollowed := true, recurses := true, apart := false }
def GeoOutSaid : Prop := geoOutRow.holds Try.pinned (OpenSpec.ofChange geoOutSpec)

/-- ITS FALSE NEIGHBOUR: 'it returns false'. Refute it at one input. -/
def geoOutWrong : ChangeSpec := { name := "geoOut", fn := fun _ => fun
  | [d1, d2] => { results := [.lit (.bool false)], args := [d1, d2] }
  | _ => none }
def GeoOutWrongFalsely : Prop := geoOutRow.holds Try.pinned (OpenSpec.ofChange geoOutWrong)

/-- 'windhoverlaw09.GeoNames': WHATEVER THE INPUT: true; the input reads as it did. -/
def geoNamesSpec : ChangeSpec := { name := "geoNames", fn := fun _ => fun
  | [] => { results := [.lit (.bool true)], args := [] }
  | _ => none }
def geoNamesRow : OpenClaim := { program := "ytannklfnfacpeaa", sum := "6ddc865b8347afb5912a39f7c76c959a110f5679fa2203b7f131cd7693ddf77a", func := "windhover/windhoverlaw09.GeoNames", spec := "geoNames", unfollowed := true, recurses := true, apart := false }
def GeoNamesSaid : Prop := geoNamesRow.holds Try.pinned (OpenSpec.ofChange geoNamesSpec)

/-- ITS FALSE NEIGHBOUR: 'it returns false'. Refute it at one input. -/
def geoNamesWrong : ChangeSpec := { name := "geoNames", fn := fun _ => fun
  | [] => { results := [.lit (.bool false)], args := [] }
  | _ => none }
def GeoNamesWrongFalsely : Prop := geoNamesRow.holds Try.pinned (OpenSpec.ofChange geoNamesWrong)

/- THE SECOND FORM. 'bulk': how many values and letters a reading holds, each counted each time it is reached (what is shared counts as often as it is met; a slice's spare places count too). A statement '..UptoSaid' is the law's where the arguments, and the package variables that the reading takes, are together of bulk at most 1048576: NARROWER than '..Said'. Prove '..Said' where nothing that the law and all that it calls make is longer than what came in: it says more and counts as full. Else prove '..UptoSaid'. A law counts once. -/
mutual
def uptoBulk {H : Type} : DataW H → Nat
  | .lit (.string bytes) => bytes.length + 1
  | .lit _ => 1
  | .nil => 1
  | .ptr d => uptoBulk d + 1
  | .slice elems spare => uptoBulkAll elems + uptoBulkAll spare + 1
  | .agg parts => uptoBulkAll parts + 1
  | .iface _ d => uptoBulk d + 1
  | .map entries => uptoBulkEntries entries + 1
  | .held _ => 1
def uptoBulkAll {H : Type} : List (DataW H) → Nat
  | [] => 0
  | d :: r => uptoBulk d + uptoBulkAll r
def uptoBulkEntries {H : Type} : List (Lit × DataW H) → Nat
  | [] => 0
  | x :: r => uptoBulkEntry x + uptoBulkEntries r
def uptoBulkEntry {H : Type} : Lit × DataW H → Nat
  | (.string bytes, d) => bytes.length + uptoBulk d + 1
  | (_, d) => uptoBulk d + 1
 end
def uptoSmall : (H : Type) → List (DataW H) → Bool := fun _ ds => decide (uptoBulkAll ds ≤ 1048576)
def OpenSpec.upto (s : _root_.Go.ChangeSpec) : _root_.Go.OpenSpec := { _root_.Go.OpenSpec.ofChange s with cond := some uptoSmall }

/-- 'windhoverlaw09.GeoOrients', WHERE WHAT IT READS IS OF BULK AT MOST 1048576: true; the input reads as it did. -/
def geoOrientsUptoRow : OpenClaim := { program := "ytannklfnfacpeaa", sum := "6ddc865b8347afb5912a39f7c76c959a110f5679fa2203b7f131cd7693ddf77a", func := "windhover/windhoverlaw09.GeoOrients", spec := "geoOrients", unfollowed := true, recurses := true, apart := false, narrowed := true }
def GeoOrientsUptoSaid : Prop := geoOrientsUptoRow.holds Try.pinned (OpenSpec.upto geoOrientsSpec)

/-- 'windhoverlaw09.GeoMeets', WHERE WHAT IT READS IS OF BULK AT MOST 1048576: true; the input reads as it did. -/
def geoMeetsUptoRow : OpenClaim := { program := "ytannklfnfacpeaa", sum := "6ddc865b8347afb5912a39f7c76c959a110f5679fa2203b7f131cd7693ddf77a", func := "windhover/windhoverlaw09.GeoMeets", spec := "geoMeets", unfollowed := true, recurses := true, apart := false, narrowed := true }
def GeoMeetsUptoSaid : Prop := geoMeetsUptoRow.holds Try.pinned (OpenSpec.upto geoMeetsSpec)

/-- 'windhoverlaw09.GeoSimples', WHERE WHAT IT READS IS OF BULK AT MOST 1048576: true; the input reads as it did. -/
def geoSimplesUptoRow : OpenClaim := { program := "ytannklfnfacpeaa", sum := "6ddc865b8347afb5912a39f7c76c959a110f5679fa2203b7f131cd7693ddf77a", func := "windhover/windhoverlaw09.GeoSimples", spec := "geoSimples", unfollowed := true, recurses := true, apart := false, narrowed := true }
def GeoSimplesUptoSaid : Prop := geoSimplesUptoRow.holds Try.pinned (OpenSpec.upto geoSimplesSpec)

/-- 'windhoverlaw09.GeoSides', WHERE WHAT IT READS IS OF BULK AT MOST 1048576: true; the input reads as it did. -/
def geoSidesUptoRow : OpenClaim := { program := "ytannklfnfacpeaa", sum := "6ddc865b8347afb5912a39f7c76c959a110f5679fa2203b7f131cd7693ddf77a", func := "windhover/windhoverlaw09.GeoSides", spec := "geoSides", unfollowed := true, recurses := true, apart := false, narrowed := true }
def GeoSidesUptoSaid : Prop := geoSidesUptoRow.holds Try.pinned (OpenSpec.upto geoSidesSpec)

/-- 'windhoverlaw09.GeoTouches', WHERE WHAT IT READS IS OF BULK AT MOST 1048576: true; the input reads as it did. -/
def geoTouchesUptoRow : OpenClaim := { program := "ytannklfnfacpeaa", sum := "6ddc865b8347afb5912a39f7c76c959a110f5679fa2203b7f131cd7693ddf77a", func := "windhover/windhoverlaw09.GeoTouches", spec := "geoTouches", unfollowed := true, recurses := true, apart := false, narrowed := true }
def GeoTouchesUptoSaid : Prop := geoTouchesUptoRow.holds Try.pinned (OpenSpec.upto geoTouchesSpec)

/-- 'windhoverlaw09.GeoTurns', WHERE WHAT IT READS IS OF BULK AT MOST 1048576: true; the input reads as it did. -/
def geoTurnsUptoRow : OpenClaim := { program := "ytannklfnfacpeaa", sum := "6ddc865b8347afb5912a39f7c76c959a110f5679fa2203b7f131cd7693ddf77a", func := "windhover/windhoverlaw09.GeoTurns", spec := "geoTurns", unfollowed := true, recurses := true, apart := false, narrowed := true }
def GeoTurnsUptoSaid : Prop := geoTurnsUptoRow.holds Try.pinned (OpenSpec.upto geoTurnsSpec)

/-- 'windhoverlaw09.GeoDiagonals', WHERE WHAT IT READS IS OF BULK AT MOST 1048576: true; the input reads as it did. -/
def geoDiagonalsUptoRow : OpenClaim := { program := "ytannklfnfacpeaa", sum := "6ddc865b8347afb5912a39f7c76c959a110f5679fa2203b7f131cd7693ddf77a", func := "windhover/windhoverlaw09.GeoDiagonals", spec := "geoDiagonals", unfollowed := true, recurses := true, apart := false, narrowed := true }
def GeoDiagonalsUptoSaid : Prop := geoDiagonalsUptoRow.holds Try.pinned (OpenSpec.upto geoDiagonalsSpec)

/-- 'windhoverlaw09.GeoAround', WHERE WHAT IT READS IS OF BULK AT MOST 1048576: true; the input reads as it did. -/
def geoAroundUptoRow : OpenClaim := { program := "ytannklfnfacpeaa", sum := "6ddc865b8347afb5912a39f7c76c959a110f5679fa2203b7f131cd7693ddf77a", func := "windhover/windhoverlaw09.GeoAround", spec := "geoAround", unfollowed := true, recurses := true, apart := false, narrowed := true }
def GeoAroundUptoSaid : Prop := geoAroundUptoRow.holds Try.pinned (OpenSpec.upto geoAroundSpec)

/-- 'windhoverlaw09.GeoStays', WHERE WHAT IT READS IS OF BULK AT MOST 1048576: true; the input reads as it did. -/
def geoStaysUptoRow : OpenClaim := { program := "ytannklfnfacpeaa", sum := "6ddc865b8347afb5912a39f7c76c959a110f5679fa2203b7f131cd7693ddf77a", func := "windhover/windhoverlaw09.GeoStays", spec := "geoStays", unfollowed := true, recurses := true, apart := false, narrowed := true }
def GeoStaysUptoSaid : Prop := geoStaysUptoRow.holds Try.pinned (OpenSpec.upto geoStaysSpec)

/-- 'windhoverlaw09.GeoOut', WHERE WHAT IT READS IS OF BULK AT MOST 1048576: true; the input reads as it did. -/
def geoOutUptoRow : OpenClaim := { program := "ytannklfnfacpeaa", sum := "6ddc865b8347afb5912a39f7c76c959a110f5679fa2203b7f131cd7693ddf77a", func := "windhover/windhoverlaw09.GeoOut", spec := "geoOut", unfollowed := true, recurses := true, apart := false, narrowed := true }
def GeoOutUptoSaid : Prop := geoOutUptoRow.holds Try.pinned (OpenSpec.upto geoOutSpec)

/-- 'windhoverlaw09.GeoNames', WHERE WHAT IT READS IS OF BULK AT MOST 1048576: true; the input reads as it did. -/
def geoNamesUptoRow : OpenClaim := { program := "ytannklfnfacpeaa", sum := "6ddc865b8347afb5912a39f7c76c959a110f5679fa2203b7f131cd7693ddf77a", func := "windhover/windhoverlaw09.GeoNames", spec := "geoNames", unfollowed := true, recurses := true, apart := false, narrowed := true }
def GeoNamesUptoSaid : Prop := geoNamesUptoRow.holds Try.pinned (OpenSpec.upto geoNamesSpec)

end Rows
end Go.Proofs.Ytannklfnfacpeaa
