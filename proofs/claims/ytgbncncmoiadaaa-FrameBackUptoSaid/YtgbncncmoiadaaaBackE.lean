/- FrameBack: its contract. -/
import Derived.Test.YtgbncncmoiadaaaBackD
namespace Go.Proofs.Ytgbncncmoiadaaa.Ex
open Go
set_option linter.unusedVariables false
theorem back_spec {btw : ByteArray} {A : List F.Ar} (hb : btw.size ≤ 1048576) (hA : A.length ≤ 4398046510976) (hp : ∀ b ∈ A, b.2.2.size ≤ 140737488351232) :
    CallSpec Try.prog 6 [.slice (some ⟨0, 0, none⟩) A.length A.length, .string btw] [.ro 23 (A.flatMap arC)] ⟨.bool true, [.ro 23 (A.flatMap arC)], []⟩ := by
  have hf := bk0_fit hb A
  have hr := bS_read hb A
  have hs := hf.size
  have hm := hf.many
  have e3 : (F.bS btw A).size = (F.bk0 btw A).B.length := str_size _
  by_cases hn : (F.bk0 btw A).B = []
  · exact back_ok0 btw A A.length (A.flatMap arC) (back_told0 hb hA hp hn) _ ⟨rfl, rfl, fun j hj => hj⟩
  · have hw : (F.bk0 btw A).W ≠ [] := fun e => hn (hf.both.2 e)
    have b0 : F.badOf (F.bS btw A) 0 = 0 := by unfold F.badOf; rw [hr]; rfl
    have h0 : (F.held (F.bS btw A)).size = 0 := by unfold F.held; rw [hr]; rfl
    refine back_ok btw A A.length (A.flatMap arC) (by omega) (by rw [bytes_len]; omega) (all_cut _) (by rw [unbytes_cut]) (by rw [hr]; exact hw) (by rw [hr]; show (F.bk0 btw A).W.length ≤ _; omega) (back_told hb hA hp hn) _ (fun _ => ?_) (fun h => absurd b0 h)
    rw [h0]
    exact ⟨rfl, rfl, fun j hj => hj⟩
theorem back_row (W : World) {v : Value} {good : F.Ar → Prop} {f : F.Ar → List Value} (hf : ∀ a, f a = arC a) (hg : ∀ a, good a → a.2.2.size ≤ 140737488351232) {n : Nat}
    (o : v = .slice none 0 0 ∨ (∃ ν, VR ν (.slice (some ⟨0, 0, none⟩) 0 0) v ∧ Rep Try.prog ν [.dead] W) ∨
      ∃ (l : List F.Ar) (ν : Nu), 0 < l.length ∧ l.length * 32 ≤ 140737488351232 ∧ (∀ a ∈ l, good a ∧ (f a).length = n) ∧ VR ν (.slice (some ⟨0, 0, none⟩) l.length l.length) v ∧ Rep Try.prog ν [.ro 23 (l.flatMap f)] W)
    (b : ByteArray) (hb : b.size ≤ 1048576) :
    ∃ (args' : List Value) (hp hp' : Hp) (ν : Nu) (args0 : List Value), #[v, Value.string b] = args'.toArray ∧ L2 (VR ν) args0 args' ∧ Rep Try.prog ν hp W ∧ CallSpec Try.prog 6 args0 hp ⟨.bool true, hp', []⟩ := by
  obtain rfl : f = arC := funext hf
  have rest : ∀ {ν : Nu}, L2 (VR ν) [Value.string b] [Value.string b] := .cons ((flat_VR rfl _).2 rfl) .nil
  rcases o with rfl | ⟨ν, h1, h2⟩ | ⟨l, ν, _, h1, h2, h3, h4⟩
  · exact ⟨_, _, _, fun _ => none, _, rfl, .cons (show VR (fun _ => none) (.slice none 0 0) (.slice none 0 0) from rfl) rest, ⟨fun _ _ => rfl, fun id => by cases id <;> trivial, fun i j N K _ hi => by cases i <;> cases hi⟩, back_okN b ⟨.bool true, [.dead], []⟩ ⟨rfl, rfl, fun j hj => hj⟩⟩
  · exact ⟨_, _, _, ν, _, rfl, .cons h1 rest, h2, back_okE b ⟨.bool true, [.dead], []⟩ ⟨rfl, rfl, fun j hj => hj⟩⟩
  · exact ⟨_, _, _, ν, _, rfl, .cons h3 rest, h4, back_spec hb (by omega) (fun a ha => hg a (h2 a ha).1)⟩
end Go.Proofs.Ytgbncncmoiadaaa.Ex
