/- The search for a byte, a function without a body. -/
import Derived.Test.YtgbncncmoiadaaaEncA
namespace Go.Proofs.Ytgbncncmoiadaaa.Ex
open Go
set_option linter.unusedVariables false
theorem find_ext : Extern.findNext Try.f41 = none := by kernel_rfl
theorem find_ext2 : Extern.find Try.f41 = some Extern.BytealgIndexByte.indexByte := by kernel_rfl
theorem index_ext (s : ByteArray) (c : Int) (v : Value) (h : ∀ w : World, (Extern.BytealgIndexByte.indexByte #[.string s, .int .u8 c]).run Try.prog w = .ok v w) : ExtSpec Try.prog 41 [.string s, .int .u8 c] v := by
  intro w
  have hf := Try.func41
  have h1 : (Try.f41.name == "runtime.NumGoroutine") = false := by kernel_rfl
  have h2 : Try.f41.body.isNone = true := by kernel_rfl
  have hp : ∀ w : World, (program : Sem Program).run Try.prog w = .ok Try.prog w := fun _ => rfl
  have hm : ∀ (m : Mark) (w : World), (mark m : Sem Unit).run Try.prog w = .ok () w := fun _ _ => rfl
  unfold callFunc
  simp only [Sem.run_bind, hp, Result.andThen_ok, hf, h1, h2, if_true, Bool.false_eq_true, if_false, hm, find_ext, find_ext2]
  simp only [Sem.run_bind, h w, Result.andThen_ok, Sem.run_pure]
/-- Where a byte first stands, or -1. -/
def F.find (s : ByteArray) (c : Int) : Int := match (List.range s.size).find? fun i => s[i]! == c.toNat.toUInt8 with
  | some i => (i : Int)
  | none => -1
theorem findByte_run (s : ByteArray) (c : Int) (w : World) : (Extern.BytealgIndexByte.indexByte #[.string s, .int .u8 c]).run Try.prog w = .ok (.int .i64 (F.find s c)) w := by
  show (match (List.range s.size).find? (fun i => s[i]! == c.toNat.toUInt8) with
    | some i => (pure (goInt i) : Sem Value)
    | none => pure (goInt (-1))).run Try.prog w = _
  unfold F.find
  cases (List.range s.size).find? (fun i => s[i]! == c.toNat.toUInt8) <;> rfl
theorem index_told {s : ByteArray} {c : Int} : ExtSpec Try.prog 41 [.string s, .int .u8 c] (.int .i64 (F.find s c)) := index_ext s c _ (findByte_run s c)
end Go.Proofs.Ytgbncncmoiadaaa.Ex
