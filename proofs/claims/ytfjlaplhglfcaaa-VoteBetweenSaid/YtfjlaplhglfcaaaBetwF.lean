/- VoteBetween: its contract. -/
import Derived.Test.YtfjlaplhglfcaaaBetwE
namespace Go.Proofs.Ytfjlaplhglfcaaa.Ex
open Go
set_option linter.unusedVariables false
theorem betw_row (W : World) {v : Value} (h : (∃ ν, VR ν (.slice none 0 0) v ∧ Rep Try.prog ν [.dead] W) ∨ (∃ ν, VR ν (.slice (some ⟨0, 0, none⟩) 0 0) v ∧ Rep Try.prog ν [.dead] W) ∨
      ∃ (T : List F.U) (ν : Nu), T.length ≤ 2932031007403 ∧ (∀ u ∈ T, F.U.good u) ∧ VR ν (.slice (some ⟨0, 0, none⟩) T.length T.length) v ∧ Rep Try.prog ν [.ro 38 (T.flatMap F.U.cells)] W) :
    ∃ (args' : List Value) (hp hp' : Hp) (ν : Nu) (args0 : List Value), #[v] = args'.toArray ∧ L2 (VR ν) args0 args' ∧ Rep Try.prog ν hp W ∧ CallSpec Try.prog 6 args0 hp ⟨.bool true, hp', []⟩ := by
  rcases h with ⟨ν, h1, h2⟩ | ⟨ν, h1, h2⟩ | ⟨T, ν, h0, hg, h1, h2⟩
  · exact ⟨[v], _, _, ν, _, rfl, .cons h1 .nil, h2, between_nil ⟨.bool true, [.dead], []⟩ ⟨rfl, rfl, fun j hj => hj⟩⟩
  · exact ⟨[v], _, _, ν, _, rfl, .cons h1 .nil, h2, between_dead ⟨.bool true, [.dead], []⟩ ⟨rfl, rfl, fun j hj => hj⟩⟩
  · exact ⟨[v], _, _, ν, _, rfl, .cons h1 .nil, h2, between_ok T h0 hg ⟨.bool true, [.ro 38 (T.flatMap F.U.cells)], []⟩ ⟨rfl, rfl, fun j hj => hj⟩⟩
end Go.Proofs.Ytfjlaplhglfcaaa.Ex
