/- What the frames' functions ask of Go's library. -/
import Derived.Test.YtgbncncmoiadaaaClone
namespace Go.Proofs.Ytgbncncmoiadaaa.Ex
open Go Go.RowKit
theorem clone_told {s : ByteArray} (h : s.size ≤ 281474976710656) : CallSpec Try.prog 33 [.string s] [] ⟨.string s, [], []⟩ :=
  CallSpec.of_calls rfl rfl (fun w => clone_calls s w h) []
def cloneSum (args : List Value) (hp : Hp) : Res := match args with
  | [.string s] => ⟨.string s, [], []⟩
  | _ => ⟨undef, [], []⟩
end Go.Proofs.Ytgbncncmoiadaaa.Ex
