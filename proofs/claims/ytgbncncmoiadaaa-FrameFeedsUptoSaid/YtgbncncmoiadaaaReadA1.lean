/- Read's check, told. -/
import Derived.Test.YtgbncncmoiadaaaReadA
namespace Go.Proofs.Ytgbncncmoiadaaa.Ex
open Go
set_option linter.unusedVariables false
def F.rc (n seq id : Int) (p : ByteArray) : Int := F.add (F.sum (ByteArray.mk #[unbyte (Value.int .u8 n), unbyte (Value.int .u8 seq), unbyte (Value.int .u8 id)] ++ p)) (IntKind.wrap .u8 (IntKind.wrap .u8 (7 * id) + 31))
theorem rcheck_done {n seq id : Int} {p : ByteArray} (hp : p.size ≤ 4398046510000) : CallSpec Try.prog 23 [.int .u8 n, .int .u8 seq, .int .u8 id, .string p] [] ⟨.int .u16 (F.rc n seq id p), [], []⟩ := by
  refine rcheck_ok n seq id p hp _ ?_
  rw [sum_snoc _ (u8_le _)]
  exact ⟨rfl, rfl, fun j hj => hj⟩
def rcheckSum (args : List Value) (hp : Hp) : Res := match args with
  | [.int _ n, .int _ seq, .int _ id, .string p] => ⟨.int .u16 (F.rc n seq id p), [], []⟩
  | _ => ⟨undef, [], []⟩
end Go.Proofs.Ytgbncncmoiadaaa.Ex
