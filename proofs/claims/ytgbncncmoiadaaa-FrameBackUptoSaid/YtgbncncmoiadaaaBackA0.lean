/- clean, told. -/
import Derived.Test.YtgbncncmoiadaaaCleanC
import Derived.Test.YtgbncncmoiadaaaSameD
import Derived.Test.YtgbncncmoiadaaaFirst
namespace Go.Proofs.Ytgbncncmoiadaaa.Ex
open Go
set_option linter.unusedVariables false
theorem clean_done {s : ByteArray} (hs : s.size ≤ 1048576) : CallSpec Try.prog 20 [.string s] [] ⟨.string (F.clean s), [], []⟩ := by
  by_cases hn : F.cleanL (bl s) = []
  · refine clean_ok0 s hs hn _ ?_
    have e : F.clean s = ByteArray.mk #[] := by unfold F.clean; rw [hn]; rfl
    rw [e]
    exact ⟨rfl, rfl, fun j hj => hj⟩
  · exact clean_ok s hs hn (by rw [bytes_len]; omega) (all_cut _) (by rw [unbytes_cut]) _ ⟨rfl, rfl, fun j hj => hj⟩
def cleanSum (args : List Value) (hp : Hp) : Res := match args with
  | [.string s] => ⟨.string (F.clean s), [], []⟩
  | _ => ⟨undef, [], []⟩
end Go.Proofs.Ytgbncncmoiadaaa.Ex
