/- FrameNil: its ways. -/
import Derived.Test.YtgbncncmoiadaaaFrameB
namespace Go.Proofs.Ytgbncncmoiadaaa.Ex
open Go
set_option linter.unusedVariables false
theorem frameNil_ok_p (data : ByteArray)  : go (exec (Try.prog) (12) (10) ([Value.string data]) ([])) [(5, Itm.call (Res.mk (Value.bool true) [] []))] = some (Res.mk (Value.bool true) [] [], true, [CallSpec Try.prog 13 [] [] (Res.mk (Value.bool true) [] [])]) := by kernel_rfl
theorem frameNil_ok (data : ByteArray)  (R : Res) (k_p : Res.le (Res.mk (Value.bool true) [] []) R) : CallSpec (Try.prog) (10) ([Value.string data]) ([]) R := by
  exact (CallSpec.id (go_ok (exec_ok tnamed tcalm tmixed _ _ _ _) (frameNil_ok_p data ) (all_cons (awake_ok) all_nil))).le (k_p )
end Go.Proofs.Ytgbncncmoiadaaa.Ex
