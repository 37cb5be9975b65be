/- find. -/
import Derived.Test.YtgbncncmoiadaaaFindB
namespace Go.Proofs.Ytgbncncmoiadaaa.Ex
open Go
set_option linter.unusedVariables false
theorem find_ok_p (d : ByteArray) (s : ByteArray) (i : Int) (hL : CodeSpec Try.prog 0 find_loopC (frFind d s 0 i) [] (Out.mk Xt.ret (frFind d s (F.findK d s i) (F.findK d s i)) [] []))  : go (exec (Try.prog) (12) (21) ([Value.string d, Value.string s, Value.int IntKind.i64 i]) ([])) [(6, Itm.loop [0, 1, 6, 7] (Out.mk Xt.ret (frOf 28 [(0, Value.string d), (1, Value.string s), (6, Value.int IntKind.i64 (F.findK d s i)), (7, Value.int IntKind.i64 (F.findK d s i))]) [] []))] = some (Res.mk (Value.int IntKind.i64 (F.findK d s i)) [] [], true, [CodeSpec Try.prog 0 find_loopC (frOf 28 [(0, Value.string d), (1, Value.string s), (6, Value.int IntKind.i64 0), (7, Value.int IntKind.i64 i)]) [] (Out.mk Xt.ret (frOf 28 [(0, Value.string d), (1, Value.string s), (6, Value.int IntKind.i64 (F.findK d s i)), (7, Value.int IntKind.i64 (F.findK d s i))]) [] [])]) := by kernel_rfl
theorem find_ok (d : ByteArray) (s : ByteArray) (i : Int) (hL : CodeSpec Try.prog 0 find_loopC (frFind d s 0 i) [] (Out.mk Xt.ret (frFind d s (F.findK d s i) (F.findK d s i)) [] []))  (R : Res) (k_p : Res.le (Res.mk (Value.int IntKind.i64 (F.findK d s i)) [] []) R) : CallSpec (Try.prog) (21) ([Value.string d, Value.string s, Value.int IntKind.i64 i]) ([]) R := by
  exact (CallSpec.id (go_ok (exec_ok tnamed tcalm tmixed _ _ _ _) (find_ok_p d s i hL ) (all_cons (hL) all_nil))).le (k_p )
end Go.Proofs.Ytgbncncmoiadaaa.Ex
