/- Add, in one form. -/
import Derived.Test.YtgbncncmoiadaaaCrcD
namespace Go.Proofs.Ytgbncncmoiadaaa.Ex
open Go
set_option linter.unusedVariables false
theorem radd_done {c b : Int} (hc : F.u16 c) (hb : 0 ≤ b ∧ b ≤ 255) : CallSpec Try.prog 35 [.int .u16 c, .int .u8 b] [] ⟨.int .u16 (F.add c b), [], []⟩ := radd_ok c b hc hb _ ⟨rfl, rfl, fun j hj => hj⟩
theorem padd_done {c b : Int} (hc : F.u16 c) (hb : 0 ≤ b ∧ b ≤ 255) : CallSpec Try.prog 29 [.int .u16 c, .int .u8 b] [] ⟨.int .u16 (F.add c b), [], []⟩ := padd_ok c b hc hb _ (by rw [half_half]; exact ⟨rfl, rfl, fun j hj => hj⟩)
theorem byte_le (b : UInt8) : 0 ≤ ((b.toNat : Nat) : Int) ∧ ((b.toNat : Nat) : Int) ≤ 255 := by
  have := b.toNat_lt
  omega
def addSum (args : List Value) (hp : Hp) : Res := match args with
  | [.int _ c, .int _ b] => ⟨.int .u16 (F.add c b), [], []⟩
  | _ => ⟨undef, [], []⟩
end Go.Proofs.Ytgbncncmoiadaaa.Ex
