/- FrameNil: its contract. -/
import Derived.Test.YtgbncncmoiadaaaNil04
namespace Go.Proofs.Ytgbncncmoiadaaa.Ex
open Go
theorem frameNil_row (W : World) (a : ByteArray) :
    ∃ (args' : List Value) (hp hp' : Hp) (ν : Nu) (args0 : List Value), #[Value.string a] = args'.toArray ∧ L2 (VR ν) args0 args' ∧ Rep Try.prog ν hp W ∧ CallSpec Try.prog 10 args0 hp ⟨.bool true, hp', []⟩ :=
  ⟨_, _, [], _, _, rfl, .cons ((flat_VR rfl _).2 rfl) .nil, rep_none W, frameNil_ok a ⟨.bool true, [], []⟩ ⟨rfl, rfl, fun j hj => hj⟩⟩
end Go.Proofs.Ytgbncncmoiadaaa.Ex
