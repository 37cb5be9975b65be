/- Feed, told. -/
import Derived.Test.YtgbncncmoiadaaaFeedE
namespace Go.Proofs.Ytgbncncmoiadaaa.Ex
open Go
set_option linter.unusedVariables false
theorem feed_done {s d : ByteArray} {bad : Int} (hz : s.size + d.size ≤ 4398046510000) (hb : 0 ≤ bad ∧ bad ≤ 65535) (hn : (F.read (bl (s ++ d))).fs ≠ []) :
    CallSpec Try.prog 15 [at_ 0 0, .string d] [rdB s bad] ⟨.slice (some ⟨1, 0, none⟩) (F.count (s ++ d)) (F.count (s ++ d)), [rdB (F.held (s ++ d)) (F.badOf (s ++ d) bad), .own 23 (F.out (s ++ d))], [0, 0, 0]⟩ := by
  have e : (bl (s ++ d)).length = s.size + d.size := by rw [bl_len, ByteArray.size_append]
  exact feed_ok s d bad (by omega) (by rw [ByteArray.size_append]; omega) hb hn (by have := (read_held (bl (s ++ d))).2.2; omega) (by have := held_size (s ++ d); omega) _ ⟨rfl, rfl, fun j hj => hj⟩
theorem feed_done0 {s d : ByteArray} {bad : Int} (hz : s.size + d.size ≤ 9223372036854775000) (hb : 0 ≤ bad ∧ bad ≤ 65535) (hn : (F.read (bl (s ++ d))).fs = []) :
    CallSpec Try.prog 15 [at_ 0 0, .string d] [rdB s bad] ⟨.slice none 0 0, [rdB (F.held (s ++ d)) (F.badOf (s ++ d) bad)], [0, 0, 0]⟩ :=
  feed_ok0 s d bad hz (by rw [ByteArray.size_append]; omega) hb hn (by have := held_size (s ++ d); omega) _ ⟨rfl, rfl, fun j hj => hj⟩
def feedSum (args : List Value) (hp : Hp) : Res := match args, hp with
  | [_, .string d], [.own 51 [.string s, .int _ bad]] => ⟨.slice (some ⟨1, 0, none⟩) (F.count (s ++ d)) (F.count (s ++ d)), [rdB (F.held (s ++ d)) (F.badOf (s ++ d) bad), .own 23 (F.out (s ++ d))], [0, 0, 0]⟩
  | _, _ => ⟨undef, [], []⟩
def feedSum0 (args : List Value) (hp : Hp) : Res := match args, hp with
  | [_, .string d], [.own 51 [.string s, .int _ bad]] => ⟨.slice none 0 0, [rdB (F.held (s ++ d)) (F.badOf (s ++ d) bad)], [0, 0, 0]⟩
  | _, _ => ⟨undef, [], []⟩
end Go.Proofs.Ytgbncncmoiadaaa.Ex
