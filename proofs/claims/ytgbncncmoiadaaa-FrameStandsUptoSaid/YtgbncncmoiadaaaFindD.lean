/- find, told: where it stands. -/
import Derived.Test.YtgbncncmoiadaaaFindC
import Derived.Test.YtgbncncmoiadaaaEncE
import Derived.Test.YtgbncncmoiadaaaFirst
namespace Go.Proofs.Ytgbncncmoiadaaa.Ex
open Go
set_option linter.unusedVariables false
theorem find_done {d s : ByteArray} {i : Int} (hs : s.size ≤ 4398046510000 ∧ d.size ≤ 4398046510000) (hi : 0 ≤ i) {p : Nat} (h1 : i.toNat ≤ p) (h2 : F.here (bl d) (bl s) p = true) :
    CallSpec Try.prog 21 [.string d, .string s, .int .i64 i] [] ⟨.int .i64 (F.findK d s i), [], []⟩ := find_ok d s i (find_told hs hi h1 h2) _ ⟨rfl, rfl, fun j hj => hj⟩
def findSum (args : List Value) (hp : Hp) : Res := match args with
  | [.string d, .string s, .int _ i] => ⟨.int .i64 (F.findK d s i), [], []⟩
  | _ => ⟨undef, [], []⟩
end Go.Proofs.Ytgbncncmoiadaaa.Ex
