/- FrameStands: its contract. -/
import Derived.Test.YtgbncncmoiadaaaStandsD
namespace Go.Proofs.Ytgbncncmoiadaaa.Ex
open Go
set_option linter.unusedVariables false
theorem stands_spec (d : ByteArray) (hd : d.size ≤ 1048576) : CallSpec Try.prog 7 [.string d] [] ⟨.bool true, [], []⟩ := by
  have hc := (read_held (bl d)).2.2
  rw [bl_len] at hc
  have he := stand_end (chain_all d)
  by_cases hn : (F.read (bl d)).fs = []
  · have : ((F.held d).size : Int) ≤ (d.size : Int) - 0 := by
      rw [hn] at he
      have e : F.stand d [] ((0 : Nat) : Int) = 0 := rfl
      rw [e] at he
      omega
    exact stands_ok0 d hd hn _ (by first | exact ⟨by simp only [decide_eq_true this], rfl, fun j hj => hj⟩ | skip)
  · have : ((F.held d).size : Int) ≤ (d.size : Int) - F.standOf d := by
      have e : F.stand d (F.read (bl d)).fs ((0 : Nat) : Int) = F.standOf d := rfl
      rw [e] at he
      omega
    exact stands_ok d hd hn (by omega) (stand_fits (chain_all d)) _ (by rw [decide_eq_true this]; exact ⟨rfl, rfl, fun j hj => hj⟩)
theorem stands_row (W : World) (a : ByteArray) (ha : a.size ≤ 1048576) :
    ∃ (args' : List Value) (hp hp' : Hp) (ν : Nu) (args0 : List Value), #[Value.string a] = args'.toArray ∧ L2 (VR ν) args0 args' ∧ Rep Try.prog ν hp W ∧ CallSpec Try.prog 7 args0 hp ⟨.bool true, hp', []⟩ :=
  ⟨_, _, [], _, _, rfl, .cons ((flat_VR rfl _).2 rfl) .nil, rep_none W, stands_spec a ha⟩
end Go.Proofs.Ytgbncncmoiadaaa.Ex
