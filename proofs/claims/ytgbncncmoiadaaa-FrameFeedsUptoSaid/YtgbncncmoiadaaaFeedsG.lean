/- FrameFeeds: its contract. -/
import Derived.Test.YtgbncncmoiadaaaFeedsF
import Derived.Test.YtgbncncmoiadaaaOpenS
namespace Go.Proofs.Ytgbncncmoiadaaa.Ex
open Go
set_option linter.unusedVariables false
theorem str_cells : ∀ A : List ByteArray, (A.flatMap fun a => [Value.string a]) = A.map .string
  | [] => rfl
  | a :: A => by rw [List.flatMap_cons, str_cells A]; rfl
theorem feeds_spec {A : List ByteArray} (hA : A.length ≤ 4398046510000) (hp : ∀ p ∈ A, p.size ≤ 1048576) :
    CallSpec Try.prog 4 [.slice (some ⟨0, 0, none⟩) A.length A.length] [.ro 9 (A.map .string)] ⟨.bool true, [.ro 9 (A.map .string)], []⟩ := by
  by_cases hn : (F.fd A [] 0).1 = []
  · exact feeds_ok0 A A.length (A.map .string) (feeds_told0 hA hp hn) _ ⟨rfl, rfl, fun j hj => hj⟩
  · exact feeds_ok1 A A.length (A.map .string) (feeds_told1 hA hp hn) _ ⟨rfl, rfl, fun j hj => hj⟩
theorem feeds_row (W : World) {v : Value} (o : v = .slice none 0 0 ∨ (∃ ν, VR ν (.slice (some ⟨0, 0, none⟩) 0 0) v ∧ Rep Try.prog ν [.dead] W) ∨
      ∃ (l : List ByteArray) (ν : Nu), 0 < l.length ∧ l.length ≤ 1048576 ∧ (∀ a ∈ l, a.size ≤ 1048576 ∧ [Value.string a].length = 1) ∧ VR ν (.slice (some ⟨0, 0, none⟩) l.length l.length) v ∧ Rep Try.prog ν [.ro 9 (l.flatMap fun a => [.string a])] W) :
    ∃ (args' : List Value) (hp hp' : Hp) (ν : Nu) (args0 : List Value), #[v] = args'.toArray ∧ L2 (VR ν) args0 args' ∧ Rep Try.prog ν hp W ∧ CallSpec Try.prog 4 args0 hp ⟨.bool true, hp', []⟩ := by
  rcases o with rfl | ⟨ν, h1, h2⟩ | ⟨l, ν, _, h1, h2, h3, h4⟩
  · exact ⟨_, _, _, fun _ => none, _, rfl, .cons (show VR (fun _ => none) (.slice none 0 0) (.slice none 0 0) from rfl) .nil, ⟨fun _ _ => rfl, fun id => by cases id <;> trivial, fun i j N K _ hi => by cases i <;> cases hi⟩, feeds_okN 0 ⟨.bool true, [.dead], []⟩ ⟨rfl, rfl, fun j hj => hj⟩⟩
  · exact ⟨_, _, _, ν, _, rfl, .cons h1 .nil, h2, feeds_okE 0 ⟨.bool true, [.dead], []⟩ ⟨rfl, rfl, fun j hj => hj⟩⟩
  · rw [str_cells] at h4
    exact ⟨_, _, _, ν, _, rfl, .cons h3 .nil, h4, feeds_spec (by omega) (fun a ha => (h2 a ha).1)⟩
end Go.Proofs.Ytgbncncmoiadaaa.Ex
