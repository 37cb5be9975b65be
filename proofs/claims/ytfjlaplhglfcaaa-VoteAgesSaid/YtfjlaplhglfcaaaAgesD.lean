/- VoteAges: its contract. -/
import Derived.Test.YtfjlaplhglfcaaaAgesC
namespace Go.Proofs.Ytfjlaplhglfcaaa.Ex
open Go
set_option linter.unusedVariables false
theorem voteAges_spec (stale quiet x : Int) : CallSpec Try.prog 7 [.int .i64 stale, .int .i64 quiet, .int .i64 x] [] ⟨.bool true, [], []⟩ := by
  have e0 : ∀ q : Int, (if 65535 < q then (65535 : Int) else q) = if q ≤ 65535 then q else 65535 := fun q => by split <;> split <;> omega
  apply ages_ok stale quiet x
  · intro _; exact ⟨rfl, rfl, fun j hj => hj⟩
  · intro _ _; exact ⟨rfl, rfl, fun j hj => hj⟩
  · intro _ _ _; exact ⟨rfl, rfl, fun j hj => hj⟩
  · intro _ _ _ _; exact ⟨rfl, rfl, fun j hj => hj⟩
  · intro h0 h1 h2 h3 h4
    exact absurd h4 (by simp [F.aV, e0])
  · intro h0 h1 h2 h3 h4 h5
    rw [e0] at h5
    refine ⟨?_, rfl, fun j hj => hj⟩
    simp [F.aOk, F.aX, h5]
  · intro h0 h1 h2 h3 h4 h5
    rw [e0] at h5
    refine ⟨?_, rfl, fun j hj => hj⟩
    simp [F.aOk, F.aX, h5]
theorem voteAges_row (W : World) (a0 a1 a2 : Int) :
    ∃ (args' : List Value) (hp hp' : Hp) (ν : Nu) (args0 : List Value), #[Value.int .i64 a0, Value.int .i64 a1, Value.int .i64 a2] = args'.toArray ∧ L2 (VR ν) args0 args' ∧ Rep Try.prog ν hp W ∧ CallSpec Try.prog 7 args0 hp ⟨.bool true, hp', []⟩ :=
  ⟨_, _, _, _, _, rfl, .cons ((flat_VR rfl _).2 rfl) (.cons ((flat_VR rfl _).2 rfl) (.cons ((flat_VR rfl _).2 rfl) .nil)), rep_none W, voteAges_spec a0 a1 a2⟩
end Go.Proofs.Ytfjlaplhglfcaaa.Ex
