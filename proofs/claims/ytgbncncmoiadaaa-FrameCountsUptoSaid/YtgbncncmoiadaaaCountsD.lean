/- FrameCounts: its contract. -/
import Derived.Test.YtgbncncmoiadaaaCountsC
namespace Go.Proofs.Ytgbncncmoiadaaa.Ex
open Go
theorem counts_row (W : World) (a : ByteArray) (t : Int) (ha : a.size ≤ 1048576) :
    ∃ (args' : List Value) (hp hp' : Hp) (ν : Nu) (args0 : List Value), #[Value.string a, Value.int .i64 t] = args'.toArray ∧ L2 (VR ν) args0 args' ∧ Rep Try.prog ν hp W ∧ CallSpec Try.prog 9 args0 hp ⟨.bool true, hp', []⟩ :=
  ⟨_, _, [], _, _, rfl, .cons ((flat_VR rfl _).2 rfl) (.cons ((flat_VR rfl _).2 rfl) .nil), rep_none W, counts_ok a t ha ⟨.bool true, [], []⟩ ⟨rfl, rfl, fun j hj => hj⟩⟩
end Go.Proofs.Ytgbncncmoiadaaa.Ex
