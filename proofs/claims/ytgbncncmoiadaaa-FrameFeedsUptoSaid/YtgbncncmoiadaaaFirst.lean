/- What a new reader reads. -/
import Derived.Test.YtgbncncmoiadaaaFeedG
namespace Go.Proofs.Ytgbncncmoiadaaa.Ex
open Go
set_option linter.unusedVariables false
theorem empty_append (t : ByteArray) : ByteArray.mk #[] ++ t = t := by
  apply str_inj
  rw [bl_append]
  rfl
theorem first_done {d : ByteArray} (hz : d.size ≤ 4398046510000) (hn : (F.read (bl d)).fs ≠ []) :
    CallSpec Try.prog 15 [at_ 0 0, .string d] [rdB ⟨#[]⟩ 0] ⟨.slice (some ⟨1, 0, none⟩) (F.count d) (F.count d), [rdB (F.held d) (F.badOf d 0), .own 23 (F.out d)], [0, 0, 0]⟩ := by
  have h := feed_done (s := ⟨#[]⟩) (d := d) (bad := 0) (by rw [show (ByteArray.mk #[]).size = 0 from rfl]; omega) ⟨by decide, by decide⟩ (by rw [empty_append]; exact hn)
  rw [empty_append] at h
  exact h
theorem first_done0 {d : ByteArray} (hz : d.size ≤ 9223372036854775000) (hn : (F.read (bl d)).fs = []) :
    CallSpec Try.prog 15 [at_ 0 0, .string d] [rdB ⟨#[]⟩ 0] ⟨.slice none 0 0, [rdB (F.held d) (F.badOf d 0)], [0, 0, 0]⟩ := by
  have h := feed_done0 (s := ⟨#[]⟩) (d := d) (bad := 0) (by rw [show (ByteArray.mk #[]).size = 0 from rfl]; omega) ⟨by decide, by decide⟩ (by rw [empty_append]; exact hn)
  rw [empty_append] at h
  exact h
def firstSum (args : List Value) (hp : Hp) : Res := match args with
  | [_, .string d] => ⟨.slice (some ⟨1, 0, none⟩) (F.count d) (F.count d), [rdB (F.held d) (F.badOf d 0), .own 23 (F.out d)], [0, 0, 0]⟩
  | _ => ⟨undef, [], []⟩
def firstSum0 (args : List Value) (hp : Hp) : Res := match args with
  | [_, .string d] => ⟨.slice none 0 0, [rdB (F.held d) (F.badOf d 0)], [0, 0, 0]⟩
  | _ => ⟨undef, [], []⟩
end Go.Proofs.Ytgbncncmoiadaaa.Ex
