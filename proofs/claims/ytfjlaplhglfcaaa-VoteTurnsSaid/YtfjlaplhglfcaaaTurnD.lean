/- VoteTurns: its contract. -/
import Derived.Test.YtfjlaplhglfcaaaTurnC
namespace Go.Proofs.Ytfjlaplhglfcaaa.Ex
open Go
set_option linter.unusedVariables false
theorem tmod3 (a : Int) : -2 ≤ Int.tmod a 3 ∧ Int.tmod a 3 ≤ 2 := by
  rcases Int.le_total 0 a with h | h
  · rw [Int.tmod_eq_emod_of_nonneg h]; omega
  · have e : a = -(-a) := by omega
    rw [e, Int.neg_tmod, Int.tmod_eq_emod_of_nonneg (by omega)]; omega
theorem turn_row (W : World) {H : Type} {enc : TypeId × Value → H} {held : Bool} {fuel : Nat} {cs : Array Value} {x : DataW H × List MemPlace} (ht : DataW.trod enc Try.prog W 0 (fun _ => true) held fuel 41 (Value.agg cs).cells.toList = some x) (hw : ∀ n ∈ x.1.weights Try.prog 41, n ≤ 140737488351232)
    (split turn : Int) (hs : split ≤ 9223372036854775807) :
    ∃ (args' : List Value) (hp hp' : Hp) (ν : Nu) (args0 : List Value), #[Value.agg cs, Value.int .i64 split, Value.int .i64 turn] = args'.toArray ∧ L2 (VR ν) args0 args' ∧ Rep Try.prog ν hp W ∧ CallSpec Try.prog 5 args0 hp ⟨.bool true, hp', []⟩ := by
  obtain ⟨stale, v, rfl, h⟩ := open_hist ht hw
  have agg2 : ∀ {ν : Nu} {s : Value}, VR1 ν s v → VR ν (.agg #[.int .i64 stale, s]) (.agg #[.int .i64 stale, v]) := fun hs => ⟨_, rfl, .cons rfl (.cons hs .nil)⟩
  have rest : ∀ {ν : Nu}, L2 (VR ν) [Value.int .i64 split, Value.int .i64 turn] [Value.int .i64 split, Value.int .i64 turn] := .cons ((flat_VR rfl _).2 rfl) (.cons ((flat_VR rfl _).2 rfl) .nil)
  rcases h with ⟨ν, h1, h2⟩ | ⟨ν, h1, h2⟩ | ⟨T, ν, h0, _, h1, h2⟩
  · refine ⟨_, _, [.dead], ν, _, rfl, .cons (agg2 (s := .slice none 0 0) h1) rest, h2, ?_⟩
    apply turns_nil stale split turn hs (tmod3 turn)
    all_goals intros; exact ⟨rfl, rfl, fun j hj => hj⟩
  · refine ⟨_, _, [.dead], ν, _, rfl, .cons (agg2 (s := .slice (some ⟨0, 0, none⟩) 0 0) h1) rest, h2, ?_⟩
    apply turns_dead stale split turn hs (tmod3 turn)
    all_goals intros; exact ⟨rfl, rfl, fun j hj => hj⟩
  · refine ⟨_, _, [.ro 38 (T.flatMap F.U.cells)], ν, _, rfl, .cons (agg2 (s := .slice (some ⟨0, 0, none⟩) T.length T.length) h1) rest, h2, ?_⟩
    apply turns_ok stale split turn T hs (tmod3 turn) h0
    all_goals intros; exact ⟨rfl, rfl, fun j hj => hj⟩
end Go.Proofs.Ytfjlaplhglfcaaa.Ex
