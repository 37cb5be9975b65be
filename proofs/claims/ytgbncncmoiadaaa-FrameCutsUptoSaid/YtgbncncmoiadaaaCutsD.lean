/- FrameCuts: its contract. -/
import Derived.Test.YtgbncncmoiadaaaCutsC
namespace Go.Proofs.Ytgbncncmoiadaaa.Ex
open Go
set_option linter.unusedVariables false
theorem cuts_spec (d : ByteArray) (hd : d.size ≤ 1048576) : CallSpec Try.prog 5 [.string d] [] ⟨.bool true, [], []⟩ := by
  have hb : F.badOf d 0 = F.badTo d d.size := by
    unfold F.badOf F.badTo
    rw [upTo_all, Int.zero_add]
  have hh : F.held d = F.heldTo d d.size := by
    unfold F.held F.heldTo
    rw [upTo_all]
  by_cases hn : (F.read (bl d)).fs = []
  · exact cuts_ok0 d hd hn _ (fun _ => by rw [hh, decide_eq_true rfl]; exact ⟨rfl, rfl, fun j hj => hj⟩) (fun h => absurd hb h)
  · exact cuts_ok d hd hn _ (fun _ => by rw [hh, decide_eq_true rfl]; exact ⟨rfl, rfl, fun j hj => hj⟩) (fun h => absurd hb h)
theorem cuts_row (W : World) (a : ByteArray) (ha : a.size ≤ 1048576) :
    ∃ (args' : List Value) (hp hp' : Hp) (ν : Nu) (args0 : List Value), #[Value.string a] = args'.toArray ∧ L2 (VR ν) args0 args' ∧ Rep Try.prog ν hp W ∧ CallSpec Try.prog 5 args0 hp ⟨.bool true, hp', []⟩ :=
  ⟨_, _, [], _, _, rfl, .cons ((flat_VR rfl _).2 rfl) .nil, rep_none W, cuts_spec a ha⟩
end Go.Proofs.Ytgbncncmoiadaaa.Ex
