/- Same, told: the same frames. -/
import Derived.Test.YtgbncncmoiadaaaSameC
namespace Go.Proofs.Ytgbncncmoiadaaa.Ex
open Go
set_option linter.unusedVariables false
theorem same_done {fs : List F.Fm} {cs ds : List Value} {n o0 o1 c0 c1 : Nat} (he : fs.length = n) (hn : fs.length ≤ 4398046510000) (hc : Holds3 cs o0 fs) (hd : Holds3 ds o1 fs) :
    CallSpec Try.prog 17 [.slice (some ⟨0, o0, none⟩) n c0, .slice (some ⟨1, o1, none⟩) n c1] [.own 23 cs, .own 23 ds] ⟨.bool true, [.own 23 cs, .own 23 ds], []⟩ := by
  subst he
  exact same_ok fs.length o0 o1 c0 c1 cs ds (same_told hn hc hd) _ ⟨rfl, rfl, fun j hj => hj⟩
def sameSum (args : List Value) (hp : Hp) : Res := ⟨.bool true, hp, []⟩
end Go.Proofs.Ytgbncncmoiadaaa.Ex
