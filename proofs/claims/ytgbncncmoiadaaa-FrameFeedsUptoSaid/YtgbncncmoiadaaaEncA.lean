/- The sums, in one form. -/
import Derived.Test.YtgbncncmoiadaaaCrcH
import Derived.Test.YtgbncncmoiadaaaFrameB
namespace Go.Proofs.Ytgbncncmoiadaaa.Ex
open Go
set_option linter.unusedVariables false
theorem rsum_done {s : ByteArray} (hs : s.size ≤ 9223372036854775806) : CallSpec Try.prog 31 [.string s] [] ⟨.int .u16 (F.sum s), [], []⟩ := rsum_ok s hs _ ⟨rfl, rfl, fun j hj => hj⟩
theorem psum_done {s : ByteArray} (hs : s.size ≤ 9223372036854775806) : CallSpec Try.prog 30 [.string s] [] ⟨.int .u16 (F.sum s), [], []⟩ := psum_ok s hs _ ⟨rfl, rfl, fun j hj => hj⟩
theorem u8_le (n : Int) : 0 ≤ IntKind.u8.wrap n ∧ IntKind.u8.wrap n ≤ 255 := by
  rw [IntKind.wrap_u8]; omega
end Go.Proofs.Ytgbncncmoiadaaa.Ex
