import Derived.Test.YtjalkjeldlchoaaZFnc5
section
set_option linter.unusedSectionVars false
set_option linter.unusedSimpArgs false
set_option linter.unusedVariables false
namespace Go.Proofs.Ytjalkjeldlchoaa.Ex
open Go
set_option linter.unusedVariables false
section
variable (ps qs : List Value) (fl ce e : Int) (s : ByteArray) (kL : CallSpec Try.prog 16 [fV slN fl ce slN] [] (.mk (fV (lentV 0 0) fl ce (lentV 1 0)) [.own 39 ps, .own 39 qs] [])) (kA : CallSpec Try.prog 17 [] [] (.mk (.bool true) [] [])) (kC : CallSpec Try.prog 27 [fV (lentV 0 0) fl ce (lentV 1 0)] [.own 39 ps, .own 39 qs] (.mk (.tuple #[.string s, .int .i64 e]) [.own 39 ps, .own 39 qs] [])) (kR : CallSpec Try.prog 28 [fV slN fl ce slN] [] (.mk (.tuple #[.string s, .int .i64 e]) [] [])) (kK : CallSpec Try.prog 20 [fV (lentV 0 0) fl ce (lentV 1 0), fV slN fl ce slN] [.own 39 ps, .own 39 qs] (.mk (.bool true) [.own 39 ps, .own 39 qs] []))
include ps qs fl ce e s kL kA kC kR kK
theorem lencs_nn_p : go (exec (Try.prog) (8) (7) ([fV slN fl ce slN]) ([])) [(8, .call (.mk (.agg #[(sB 0 0 1), .int .i64 fl, .int .i64 ce, (sB 1 0 1)]) [.own 39 ps, .own 39 qs] [])), (12, .call (.mk (.tuple #[.string s, .int .i64 e]) [.own 39 ps, .own 39 qs] [])), (10, .call (.mk (.tuple #[.string s, .int .i64 e]) [] [])), (8, .call (.mk (.bool true) [] [])), (12, .dec true), (1, .dec true), (1, .dec true), (1, .dec true), (2, .dec true), (2, .dec true), (2, .dec true), (0, .call (.mk (.bool true) [.own 39 ps, .own 39 qs] [])), (2, .dec true)] = some (.mk (.bool true) [] [], true, [type_of% kL, type_of% kC, type_of% kR, type_of% kA, (ByteArray.toList s == ByteArray.toList s) = true, (ByteArray.toList s == ByteArray.toList s) = true, (ByteArray.toList s == ByteArray.toList s) = true, (ByteArray.toList s == ByteArray.toList s) = true, decide (e = e) = true, decide (e = e) = true, decide (e = e) = true, type_of% kK, decide (e = e) = true]) := by kernel_rfl
theorem lencs_nn (R : Res) (k_p : Res.le (.mk (.bool true) [] []) R) : CallSpec (Try.prog) (7) ([fV slN fl ce slN]) ([]) R := by
  exact (CallSpec.id (go_ok (exec_ok tnamed tcalm tmixed _ _ _ _) (lencs_nn_p ps qs fl ce e s kL kA kC kR kK ) (aC (kL) (aC (kC) (aC (kR) (aC (kA) (aC ((by simp; done)) (aC ((by simp; done)) (aC ((by simp; done)) (aC ((by simp; done)) (aC dO (aC dO (aC dO (aC (kK) (aC dO aN))))))))))))))).le (k_p )
end
section
variable (ps qs : List Value) (fl ce e : Int) (s : ByteArray) (kL : CallSpec Try.prog 16 [fV slN fl ce (slD 0)] [.dead] (.mk (fV (lentV 1 0) fl ce (lentV 2 0)) [.dead, .own 39 ps, .own 39 qs] [])) (kA : CallSpec Try.prog 17 [] [] (.mk (.bool true) [] [])) (kC : CallSpec Try.prog 27 [fV (lentV 0 0) fl ce (lentV 1 0)] [.own 39 ps, .own 39 qs] (.mk (.tuple #[.string s, .int .i64 e]) [.own 39 ps, .own 39 qs] [])) (kR : CallSpec Try.prog 28 [fV slN fl ce (slD 0)] [.dead] (.mk (.tuple #[.string s, .int .i64 e]) [.dead] [])) (kK : CallSpec Try.prog 20 [fV (lentV 0 0) fl ce (lentV 1 0), fV slN fl ce (slD 2)] [.own 39 ps, .own 39 qs, .dead] (.mk (.bool true) [.own 39 ps, .own 39 qs, .dead] []))
include ps qs fl ce e s kL kA kC kR kK
theorem lencs_nd_p : go (exec (Try.prog) (8) (7) ([fV slN fl ce (slD 0)]) ([.dead])) [(8, .call (.mk (.agg #[(sB 1 0 1), .int .i64 fl, .int .i64 ce, (sB 2 0 1)]) [.dead, .own 39 ps, .own 39 qs] [])), (12, .call (.mk (.tuple #[.string s, .int .i64 e]) [.own 39 ps, .own 39 qs] [])), (10, .call (.mk (.tuple #[.string s, .int .i64 e]) [.dead] [])), (8, .call (.mk (.bool true) [] [])), (12, .dec true), (1, .dec true), (1, .dec true), (1, .dec true), (2, .dec true), (2, .dec true), (2, .dec true), (0, .call (.mk (.bool true) [.own 39 ps, .own 39 qs, .dead] [])), (2, .dec true)] = some (.mk (.bool true) [.dead] [], true, [type_of% kL, type_of% kC, type_of% kR, type_of% kA, (ByteArray.toList s == ByteArray.toList s) = true, (ByteArray.toList s == ByteArray.toList s) = true, (ByteArray.toList s == ByteArray.toList s) = true, (ByteArray.toList s == ByteArray.toList s) = true, decide (e = e) = true, decide (e = e) = true, decide (e = e) = true, type_of% kK, decide (e = e) = true]) := by kernel_rfl
theorem lencs_nd (R : Res) (k_p : Res.le (.mk (.bool true) [.dead] []) R) : CallSpec (Try.prog) (7) ([fV slN fl ce (slD 0)]) ([.dead]) R := by
  exact (CallSpec.id (go_ok (exec_ok tnamed tcalm tmixed _ _ _ _) (lencs_nd_p ps qs fl ce e s kL kA kC kR kK ) (aC (kL) (aC (kC) (aC (kR) (aC (kA) (aC ((by simp; done)) (aC ((by simp; done)) (aC ((by simp; done)) (aC ((by simp; done)) (aC dO (aC dO (aC dO (aC (kK) (aC dO aN))))))))))))))).le (k_p )
end
section
variable (m : Nat) (rs ps qs : List Value) (fl ce e : Int) (s : ByteArray) (kL : CallSpec Try.prog 16 [fV slN fl ce (slB 0 m m)] [.ro 39 rs] (.mk (fV (lentV 1 0) fl ce (lentV 2 m)) [.ro 39 rs, .own 39 ps, .own 39 qs] [])) (kA : CallSpec Try.prog 17 [] [] (.mk (.bool true) [] [])) (kC : CallSpec Try.prog 27 [fV (lentV 0 0) fl ce (lentV 1 m)] [.own 39 ps, .own 39 qs] (.mk (.tuple #[.string s, .int .i64 e]) [.own 39 ps, .own 39 qs] [])) (kR : CallSpec Try.prog 28 [fV slN fl ce (slB 0 m m)] [.ro 39 rs] (.mk (.tuple #[.string s, .int .i64 e]) [.ro 39 rs] [])) (kK : CallSpec Try.prog 20 [fV (lentV 0 0) fl ce (lentV 1 m), fV slN fl ce (slB 2 m m)] [.own 39 ps, .own 39 qs, .ro 39 rs] (.mk (.bool true) [.own 39 ps, .own 39 qs, .ro 39 rs] []))
include m rs ps qs fl ce e s kL kA kC kR kK
theorem lencs_nb_p : go (exec (Try.prog) (8) (7) ([fV slN fl ce (slB 0 m m)]) ([.ro 39 rs])) [(8, .call (.mk (.agg #[.slice (some (.mk (List.length [Blk.ro 39 rs]) 0 none)) 0 1, .int .i64 fl, .int .i64 ce, .slice (some (.mk (List.length [Blk.ro 39 rs] + 1) 0 none)) m (m + 1)]) [.ro 39 rs, .own 39 ps, .own 39 qs] [])), (12, .call (.mk (.tuple #[.string s, .int .i64 e]) [.own 39 ps, .own 39 qs] [])), (10, .call (.mk (.tuple #[.string s, .int .i64 e]) [.ro 39 rs] [])), (8, .call (.mk (.bool true) [] [])), (12, .dec true), (1, .dec true), (1, .dec true), (1, .dec true), (2, .dec true), (2, .dec true), (2, .dec true), (0, .call (.mk (.bool true) [.own 39 ps, .own 39 qs, .ro 39 rs] [])), (2, .dec true)] = some (.mk (.bool true) [.ro 39 rs] [], true, [type_of% kL, type_of% kC, type_of% kR, type_of% kA, (ByteArray.toList s == ByteArray.toList s) = true, (ByteArray.toList s == ByteArray.toList s) = true, (ByteArray.toList s == ByteArray.toList s) = true, (ByteArray.toList s == ByteArray.toList s) = true, decide (e = e) = true, decide (e = e) = true, decide (e = e) = true, type_of% kK, decide (e = e) = true]) := by kernel_rfl
theorem lencs_nb (R : Res) (k_p : Res.le (.mk (.bool true) [.ro 39 rs] []) R) : CallSpec (Try.prog) (7) ([fV slN fl ce (slB 0 m m)]) ([.ro 39 rs]) R := by
  exact (CallSpec.id (go_ok (exec_ok tnamed tcalm tmixed _ _ _ _) (lencs_nb_p m rs ps qs fl ce e s kL kA kC kR kK ) (aC (kL) (aC (kC) (aC (kR) (aC (kA) (aC ((by simp; done)) (aC ((by simp; done)) (aC ((by simp; done)) (aC ((by simp; done)) (aC dO (aC dO (aC dO (aC (kK) (aC dO aN))))))))))))))).le (k_p )
end
section
variable (ps qs : List Value) (fl ce e : Int) (s : ByteArray) (kL : CallSpec Try.prog 16 [fV (slD 0) fl ce slN] [.dead] (.mk (fV (lentV 1 0) fl ce (lentV 2 0)) [.dead, .own 39 ps, .own 39 qs] [])) (kA : CallSpec Try.prog 17 [] [] (.mk (.bool true) [] [])) (kC : CallSpec Try.prog 27 [fV (lentV 0 0) fl ce (lentV 1 0)] [.own 39 ps, .own 39 qs] (.mk (.tuple #[.string s, .int .i64 e]) [.own 39 ps, .own 39 qs] [])) (kR : CallSpec Try.prog 28 [fV (slD 0) fl ce slN] [.dead] (.mk (.tuple #[.string s, .int .i64 e]) [.dead] [])) (kK : CallSpec Try.prog 20 [fV (lentV 0 0) fl ce (lentV 1 0), fV (slD 2) fl ce slN] [.own 39 ps, .own 39 qs, .dead] (.mk (.bool true) [.own 39 ps, .own 39 qs, .dead] []))
include ps qs fl ce e s kL kA kC kR kK
theorem lencs_dn_p : go (exec (Try.prog) (8) (7) ([fV (slD 0) fl ce slN]) ([.dead])) [(8, .call (.mk (.agg #[(sB 1 0 1), .int .i64 fl, .int .i64 ce, (sB 2 0 1)]) [.dead, .own 39 ps, .own 39 qs] [])), (12, .call (.mk (.tuple #[.string s, .int .i64 e]) [.own 39 ps, .own 39 qs] [])), (10, .call (.mk (.tuple #[.string s, .int .i64 e]) [.dead] [])), (8, .call (.mk (.bool true) [] [])), (12, .dec true), (1, .dec true), (1, .dec true), (1, .dec true), (2, .dec true), (2, .dec true), (2, .dec true), (0, .call (.mk (.bool true) [.own 39 ps, .own 39 qs, .dead] [])), (2, .dec true)] = some (.mk (.bool true) [.dead] [], true, [type_of% kL, type_of% kC, type_of% kR, type_of% kA, (ByteArray.toList s == ByteArray.toList s) = true, (ByteArray.toList s == ByteArray.toList s) = true, (ByteArray.toList s == ByteArray.toList s) = true, (ByteArray.toList s == ByteArray.toList s) = true, decide (e = e) = true, decide (e = e) = true, decide (e = e) = true, type_of% kK, decide (e = e) = true]) := by kernel_rfl
theorem lencs_dn (R : Res) (k_p : Res.le (.mk (.bool true) [.dead] []) R) : CallSpec (Try.prog) (7) ([fV (slD 0) fl ce slN]) ([.dead]) R := by
  exact (CallSpec.id (go_ok (exec_ok tnamed tcalm tmixed _ _ _ _) (lencs_dn_p ps qs fl ce e s kL kA kC kR kK ) (aC (kL) (aC (kC) (aC (kR) (aC (kA) (aC ((by simp; done)) (aC ((by simp; done)) (aC ((by simp; done)) (aC ((by simp; done)) (aC dO (aC dO (aC dO (aC (kK) (aC dO aN))))))))))))))).le (k_p )
end
section
variable (ps qs : List Value) (fl ce e : Int) (s : ByteArray) (kL : CallSpec Try.prog 16 [fV (slD 0) fl ce (slD 1)] [.dead, .dead] (.mk (fV (lentV 2 0) fl ce (lentV 3 0)) [.dead, .dead, .own 39 ps, .own 39 qs] [])) (kA : CallSpec Try.prog 17 [] [] (.mk (.bool true) [] [])) (kC : CallSpec Try.prog 27 [fV (lentV 0 0) fl ce (lentV 1 0)] [.own 39 ps, .own 39 qs] (.mk (.tuple #[.string s, .int .i64 e]) [.own 39 ps, .own 39 qs] [])) (kR : CallSpec Try.prog 28 [fV (slD 0) fl ce (slD 1)] [.dead, .dead] (.mk (.tuple #[.string s, .int .i64 e]) [.dead, .dead] [])) (kK : CallSpec Try.prog 20 [fV (lentV 0 0) fl ce (lentV 1 0), fV (slD 2) fl ce (slD 3)] [.own 39 ps, .own 39 qs, .dead, .dead] (.mk (.bool true) [.own 39 ps, .own 39 qs, .dead, .dead] []))
include ps qs fl ce e s kL kA kC kR kK
theorem lencs_dd_p : go (exec (Try.prog) (8) (7) ([fV (slD 0) fl ce (slD 1)]) ([.dead, .dead])) [(8, .call (.mk (.agg #[(sB 2 0 1), .int .i64 fl, .int .i64 ce, (sB 3 0 1)]) [.dead, .dead, .own 39 ps, .own 39 qs] [])), (12, .call (.mk (.tuple #[.string s, .int .i64 e]) [.own 39 ps, .own 39 qs] [])), (10, .call (.mk (.tuple #[.string s, .int .i64 e]) [.dead, .dead] [])), (8, .call (.mk (.bool true) [] [])), (12, .dec true), (1, .dec true), (1, .dec true), (1, .dec true), (2, .dec true), (2, .dec true), (2, .dec true), (0, .call (.mk (.bool true) [.own 39 ps, .own 39 qs, .dead, .dead] [])), (2, .dec true)] = some (.mk (.bool true) [.dead, .dead] [], true, [type_of% kL, type_of% kC, type_of% kR, type_of% kA, (ByteArray.toList s == ByteArray.toList s) = true, (ByteArray.toList s == ByteArray.toList s) = true, (ByteArray.toList s == ByteArray.toList s) = true, (ByteArray.toList s == ByteArray.toList s) = true, decide (e = e) = true, decide (e = e) = true, decide (e = e) = true, type_of% kK, decide (e = e) = true]) := by kernel_rfl
theorem lencs_dd (R : Res) (k_p : Res.le (.mk (.bool true) [.dead, .dead] []) R) : CallSpec (Try.prog) (7) ([fV (slD 0) fl ce (slD 1)]) ([.dead, .dead]) R := by
  exact (CallSpec.id (go_ok (exec_ok tnamed tcalm tmixed _ _ _ _) (lencs_dd_p ps qs fl ce e s kL kA kC kR kK ) (aC (kL) (aC (kC) (aC (kR) (aC (kA) (aC ((by simp; done)) (aC ((by simp; done)) (aC ((by simp; done)) (aC ((by simp; done)) (aC dO (aC dO (aC dO (aC (kK) (aC dO aN))))))))))))))).le (k_p )
end
section
variable (m : Nat) (rs ps qs : List Value) (fl ce e : Int) (s : ByteArray) (kL : CallSpec Try.prog 16 [fV (slD 0) fl ce (slB 1 m m)] [.dead, .ro 39 rs] (.mk (fV (lentV 2 0) fl ce (lentV 3 m)) [.dead, .ro 39 rs, .own 39 ps, .own 39 qs] [])) (kA : CallSpec Try.prog 17 [] [] (.mk (.bool true) [] [])) (kC : CallSpec Try.prog 27 [fV (lentV 0 0) fl ce (lentV 1 m)] [.own 39 ps, .own 39 qs] (.mk (.tuple #[.string s, .int .i64 e]) [.own 39 ps, .own 39 qs] [])) (kR : CallSpec Try.prog 28 [fV (slD 0) fl ce (slB 1 m m)] [.dead, .ro 39 rs] (.mk (.tuple #[.string s, .int .i64 e]) [.dead, .ro 39 rs] [])) (kK : CallSpec Try.prog 20 [fV (lentV 0 0) fl ce (lentV 1 m), fV (slD 2) fl ce (slB 3 m m)] [.own 39 ps, .own 39 qs, .dead, .ro 39 rs] (.mk (.bool true) [.own 39 ps, .own 39 qs, .dead, .ro 39 rs] []))
include m rs ps qs fl ce e s kL kA kC kR kK
theorem lencs_db_p : go (exec (Try.prog) (8) (7) ([fV (slD 0) fl ce (slB 1 m m)]) ([.dead, .ro 39 rs])) [(8, .call (.mk (.agg #[.slice (some (.mk (List.length [Blk.dead, Blk.ro 39 rs]) 0 none)) 0 1, .int .i64 fl, .int .i64 ce, .slice (some (.mk (List.length [Blk.dead, Blk.ro 39 rs] + 1) 0 none)) m (m + 1)]) [.dead, .ro 39 rs, .own 39 ps, .own 39 qs] [])), (12, .call (.mk (.tuple #[.string s, .int .i64 e]) [.own 39 ps, .own 39 qs] [])), (10, .call (.mk (.tuple #[.string s, .int .i64 e]) [.dead, .ro 39 rs] [])), (8, .call (.mk (.bool true) [] [])), (12, .dec true), (1, .dec true), (1, .dec true), (1, .dec true), (2, .dec true), (2, .dec true), (2, .dec true), (0, .call (.mk (.bool true) [.own 39 ps, .own 39 qs, .dead, .ro 39 rs] [])), (2, .dec true)] = some (.mk (.bool true) [.dead, .ro 39 rs] [], true, [type_of% kL, type_of% kC, type_of% kR, type_of% kA, (ByteArray.toList s == ByteArray.toList s) = true, (ByteArray.toList s == ByteArray.toList s) = true, (ByteArray.toList s == ByteArray.toList s) = true, (ByteArray.toList s == ByteArray.toList s) = true, decide (e = e) = true, decide (e = e) = true, decide (e = e) = true, type_of% kK, decide (e = e) = true]) := by kernel_rfl
theorem lencs_db (R : Res) (k_p : Res.le (.mk (.bool true) [.dead, .ro 39 rs] []) R) : CallSpec (Try.prog) (7) ([fV (slD 0) fl ce (slB 1 m m)]) ([.dead, .ro 39 rs]) R := by
  exact (CallSpec.id (go_ok (exec_ok tnamed tcalm tmixed _ _ _ _) (lencs_db_p m rs ps qs fl ce e s kL kA kC kR kK ) (aC (kL) (aC (kC) (aC (kR) (aC (kA) (aC ((by simp; done)) (aC ((by simp; done)) (aC ((by simp; done)) (aC ((by simp; done)) (aC dO (aC dO (aC dO (aC (kK) (aC dO aN))))))))))))))).le (k_p )
end
section
variable (n : Nat) (cs ps qs : List Value) (fl ce e : Int) (s : ByteArray) (kL : CallSpec Try.prog 16 [fV (slB 0 n n) fl ce slN] [.ro 39 cs] (.mk (fV (lentV 1 n) fl ce (lentV 2 0)) [.ro 39 cs, .own 39 ps, .own 39 qs] [])) (kA : CallSpec Try.prog 17 [] [] (.mk (.bool true) [] [])) (kC : CallSpec Try.prog 27 [fV (lentV 0 n) fl ce (lentV 1 0)] [.own 39 ps, .own 39 qs] (.mk (.tuple #[.string s, .int .i64 e]) [.own 39 ps, .own 39 qs] [])) (kR : CallSpec Try.prog 28 [fV (slB 0 n n) fl ce slN] [.ro 39 cs] (.mk (.tuple #[.string s, .int .i64 e]) [.ro 39 cs] [])) (kK : CallSpec Try.prog 20 [fV (lentV 0 n) fl ce (lentV 1 0), fV (slB 2 n n) fl ce slN] [.own 39 ps, .own 39 qs, .ro 39 cs] (.mk (.bool true) [.own 39 ps, .own 39 qs, .ro 39 cs] []))
include n cs ps qs fl ce e s kL kA kC kR kK
theorem lencs_bn_p : go (exec (Try.prog) (8) (7) ([fV (slB 0 n n) fl ce slN]) ([.ro 39 cs])) [(8, .call (.mk (.agg #[.slice (some (.mk (List.length [Blk.ro 39 cs]) 0 none)) n (n + 1), .int .i64 fl, .int .i64 ce, .slice (some (.mk (List.length [Blk.ro 39 cs] + 1) 0 none)) 0 1]) [.ro 39 cs, .own 39 ps, .own 39 qs] [])), (12, .call (.mk (.tuple #[.string s, .int .i64 e]) [.own 39 ps, .own 39 qs] [])), (10, .call (.mk (.tuple #[.string s, .int .i64 e]) [.ro 39 cs] [])), (8, .call (.mk (.bool true) [] [])), (12, .dec true), (1, .dec true), (1, .dec true), (1, .dec true), (2, .dec true), (2, .dec true), (2, .dec true), (0, .call (.mk (.bool true) [.own 39 ps, .own 39 qs, .ro 39 cs] [])), (2, .dec true)] = some (.mk (.bool true) [.ro 39 cs] [], true, [type_of% kL, type_of% kC, type_of% kR, type_of% kA, (ByteArray.toList s == ByteArray.toList s) = true, (ByteArray.toList s == ByteArray.toList s) = true, (ByteArray.toList s == ByteArray.toList s) = true, (ByteArray.toList s == ByteArray.toList s) = true, decide (e = e) = true, decide (e = e) = true, decide (e = e) = true, type_of% kK, decide (e = e) = true]) := by kernel_rfl
theorem lencs_bn (R : Res) (k_p : Res.le (.mk (.bool true) [.ro 39 cs] []) R) : CallSpec (Try.prog) (7) ([fV (slB 0 n n) fl ce slN]) ([.ro 39 cs]) R := by
  exact (CallSpec.id (go_ok (exec_ok tnamed tcalm tmixed _ _ _ _) (lencs_bn_p n cs ps qs fl ce e s kL kA kC kR kK ) (aC (kL) (aC (kC) (aC (kR) (aC (kA) (aC ((by simp; done)) (aC ((by simp; done)) (aC ((by simp; done)) (aC ((by simp; done)) (aC dO (aC dO (aC dO (aC (kK) (aC dO aN))))))))))))))).le (k_p )
end
section
variable (n : Nat) (cs ps qs : List Value) (fl ce e : Int) (s : ByteArray) (kL : CallSpec Try.prog 16 [fV (slB 0 n n) fl ce (slD 1)] [.ro 39 cs, .dead] (.mk (fV (lentV 2 n) fl ce (lentV 3 0)) [.ro 39 cs, .dead, .own 39 ps, .own 39 qs] [])) (kA : CallSpec Try.prog 17 [] [] (.mk (.bool true) [] [])) (kC : CallSpec Try.prog 27 [fV (lentV 0 n) fl ce (lentV 1 0)] [.own 39 ps, .own 39 qs] (.mk (.tuple #[.string s, .int .i64 e]) [.own 39 ps, .own 39 qs] [])) (kR : CallSpec Try.prog 28 [fV (slB 0 n n) fl ce (slD 1)] [.ro 39 cs, .dead] (.mk (.tuple #[.string s, .int .i64 e]) [.ro 39 cs, .dead] [])) (kK : CallSpec Try.prog 20 [fV (lentV 0 n) fl ce (lentV 1 0), fV (slB 2 n n) fl ce (slD 3)] [.own 39 ps, .own 39 qs, .ro 39 cs, .dead] (.mk (.bool true) [.own 39 ps, .own 39 qs, .ro 39 cs, .dead] []))
include n cs ps qs fl ce e s kL kA kC kR kK
theorem lencs_bd_p : go (exec (Try.prog) (8) (7) ([fV (slB 0 n n) fl ce (slD 1)]) ([.ro 39 cs, .dead])) [(8, .call (.mk (.agg #[.slice (some (.mk (List.length [Blk.ro 39 cs, Blk.dead]) 0 none)) n (n + 1), .int .i64 fl, .int .i64 ce, .slice (some (.mk (List.length [Blk.ro 39 cs, Blk.dead] + 1) 0 none)) 0 1]) [.ro 39 cs, .dead, .own 39 ps, .own 39 qs] [])), (12, .call (.mk (.tuple #[.string s, .int .i64 e]) [.own 39 ps, .own 39 qs] [])), (10, .call (.mk (.tuple #[.string s, .int .i64 e]) [.ro 39 cs, .dead] [])), (8, .call (.mk (.bool true) [] [])), (12, .dec true), (1, .dec true), (1, .dec true), (1, .dec true), (2, .dec true), (2, .dec true), (2, .dec true), (0, .call (.mk (.bool true) [.own 39 ps, .own 39 qs, .ro 39 cs, .dead] [])), (2, .dec true)] = some (.mk (.bool true) [.ro 39 cs, .dead] [], true, [type_of% kL, type_of% kC, type_of% kR, type_of% kA, (ByteArray.toList s == ByteArray.toList s) = true, (ByteArray.toList s == ByteArray.toList s) = true, (ByteArray.toList s == ByteArray.toList s) = true, (ByteArray.toList s == ByteArray.toList s) = true, decide (e = e) = true, decide (e = e) = true, decide (e = e) = true, type_of% kK, decide (e = e) = true]) := by kernel_rfl
theorem lencs_bd (R : Res) (k_p : Res.le (.mk (.bool true) [.ro 39 cs, .dead] []) R) : CallSpec (Try.prog) (7) ([fV (slB 0 n n) fl ce (slD 1)]) ([.ro 39 cs, .dead]) R := by
  exact (CallSpec.id (go_ok (exec_ok tnamed tcalm tmixed _ _ _ _) (lencs_bd_p n cs ps qs fl ce e s kL kA kC kR kK ) (aC (kL) (aC (kC) (aC (kR) (aC (kA) (aC ((by simp; done)) (aC ((by simp; done)) (aC ((by simp; done)) (aC ((by simp; done)) (aC dO (aC dO (aC dO (aC (kK) (aC dO aN))))))))))))))).le (k_p )
end
section
variable (n : Nat) (cs : List Value) (m : Nat) (rs ps qs : List Value) (fl ce e : Int) (s : ByteArray) (kL : CallSpec Try.prog 16 [fV (slB 0 n n) fl ce (slB 1 m m)] [.ro 39 cs, .ro 39 rs] (.mk (fV (lentV 2 n) fl ce (lentV 3 m)) [.ro 39 cs, .ro 39 rs, .own 39 ps, .own 39 qs] [])) (kA : CallSpec Try.prog 17 [] [] (.mk (.bool true) [] [])) (kC : CallSpec Try.prog 27 [fV (lentV 0 n) fl ce (lentV 1 m)] [.own 39 ps, .own 39 qs] (.mk (.tuple #[.string s, .int .i64 e]) [.own 39 ps, .own 39 qs] [])) (kR : CallSpec Try.prog 28 [fV (slB 0 n n) fl ce (slB 1 m m)] [.ro 39 cs, .ro 39 rs] (.mk (.tuple #[.string s, .int .i64 e]) [.ro 39 cs, .ro 39 rs] [])) (kK : CallSpec Try.prog 20 [fV (lentV 0 n) fl ce (lentV 1 m), fV (slB 2 n n) fl ce (slB 3 m m)] [.own 39 ps, .own 39 qs, .ro 39 cs, .ro 39 rs] (.mk (.bool true) [.own 39 ps, .own 39 qs, .ro 39 cs, .ro 39 rs] []))
include n cs m rs ps qs fl ce e s kL kA kC kR kK
theorem lencs_bb_p : go (exec (Try.prog) (8) (7) ([fV (slB 0 n n) fl ce (slB 1 m m)]) ([.ro 39 cs, .ro 39 rs])) [(8, .call (.mk (.agg #[.slice (some (.mk (List.length [Blk.ro 39 cs, Blk.ro 39 rs]) 0 none)) n (n + 1), .int .i64 fl, .int .i64 ce, .slice (some (.mk (List.length [Blk.ro 39 cs, Blk.ro 39 rs] + 1) 0 none)) m (m + 1)]) [.ro 39 cs, .ro 39 rs, .own 39 ps, .own 39 qs] [])), (12, .call (.mk (.tuple #[.string s, .int .i64 e]) [.own 39 ps, .own 39 qs] [])), (10, .call (.mk (.tuple #[.string s, .int .i64 e]) [.ro 39 cs, .ro 39 rs] [])), (8, .call (.mk (.bool true) [] [])), (12, .dec true), (1, .dec true), (1, .dec true), (1, .dec true), (2, .dec true), (2, .dec true), (2, .dec true), (0, .call (.mk (.bool true) [.own 39 ps, .own 39 qs, .ro 39 cs, .ro 39 rs] [])), (2, .dec true)] = some (.mk (.bool true) [.ro 39 cs, .ro 39 rs] [], true, [type_of% kL, type_of% kC, type_of% kR, type_of% kA, (ByteArray.toList s == ByteArray.toList s) = true, (ByteArray.toList s == ByteArray.toList s) = true, (ByteArray.toList s == ByteArray.toList s) = true, (ByteArray.toList s == ByteArray.toList s) = true, decide (e = e) = true, decide (e = e) = true, decide (e = e) = true, type_of% kK, decide (e = e) = true]) := by kernel_rfl
theorem lencs_bb (R : Res) (k_p : Res.le (.mk (.bool true) [.ro 39 cs, .ro 39 rs] []) R) : CallSpec (Try.prog) (7) ([fV (slB 0 n n) fl ce (slB 1 m m)]) ([.ro 39 cs, .ro 39 rs]) R := by
  exact (CallSpec.id (go_ok (exec_ok tnamed tcalm tmixed _ _ _ _) (lencs_bb_p n cs m rs ps qs fl ce e s kL kA kC kR kK ) (aC (kL) (aC (kC) (aC (kR) (aC (kA) (aC ((by simp; done)) (aC ((by simp; done)) (aC ((by simp; done)) (aC ((by simp; done)) (aC dO (aC dO (aC dO (aC (kK) (aC dO aN))))))))))))))).le (k_p )
end
end Go.Proofs.Ytjalkjeldlchoaa.Ex
end
section
set_option linter.unusedSectionVars false
set_option linter.unusedSimpArgs false
set_option linter.unusedVariables false
namespace Go.Proofs.Ytjalkjeldlchoaa.Ex
open Go
set_option linter.unusedVariables false
noncomputable def rp_l : Code := loopAt Try.prog 61 0
theorem rp_l_calm : calmC rp_l = true := loopAt_calm tcalm 61 0
noncomputable def rp_lC : Code := .loop rp_l
def frRp (s : ByteArray) (n c : Nat) (i : Int) : Fr := frOf 32 [(0, slB 0 n c), (3, .string s), (4, .int .i64 i)]
section
variable (n : Int) (hn : -2147483648 ≤ n ∧ n ≤ 2147483647)
include n hn
theorem four_ok_pt : go (exec (Try.prog) (8) (62) ([.int .i64 n]) ([])) [(6, .dec true), (1, Itm.val (.int .i64 (n + 4294967296))), (4, Itm.val (.int .i64 ((n + 4294967296) % 256))), (0, Itm.val (.int .u8 ((n + 4294967296) % 256))), (2, Itm.val (.int .i64 ((n + 4294967296) / 256))), (1, Itm.val (.int .i64 ((n + 4294967296) / 256 % 256))), (0, Itm.val (.int .u8 ((n + 4294967296) / 256 % 256))), (2, Itm.val (.int .i64 ((n + 4294967296) / 65536))), (1, Itm.val (.int .i64 ((n + 4294967296) / 65536 % 256))), (0, Itm.val (.int .u8 ((n + 4294967296) / 65536 % 256))), (2, Itm.val (.int .i64 ((n + 4294967296) / 16777216))), (0, Itm.val (.int .u8 ((n + 4294967296) / 16777216)))] = some (.mk (.string (ByteArray.mk #[unbyte (.int .u8 ((n + 4294967296) % 256)), unbyte (.int .u8 ((n + 4294967296) / 256 % 256)), unbyte (.int .u8 ((n + 4294967296) / 65536 % 256)), unbyte (.int .u8 ((n + 4294967296) / 16777216))])) [] [], true, [decide (n < 0) = true, Value.int .i64 (IntKind.wrap .i64 (n + 4294967296)) = .int .i64 (n + 4294967296), Value.int .i64 (Int.tmod (n + 4294967296) 256) = .int .i64 ((n + 4294967296) % 256), Value.int .u8 (IntKind.wrap IntKind.u8 ((n + 4294967296) % 256)) = .int .u8 ((n + 4294967296) % 256), Value.int .i64 (IntKind.wrap .i64 (Int.tdiv (n + 4294967296) 256)) = .int .i64 ((n + 4294967296) / 256), Value.int .i64 (Int.tmod ((n + 4294967296) / 256) 256) = .int .i64 ((n + 4294967296) / 256 % 256), Value.int .u8 (IntKind.wrap IntKind.u8 ((n + 4294967296) / 256 % 256)) = .int .u8 ((n + 4294967296) / 256 % 256), Value.int .i64 (IntKind.wrap .i64 (Int.tdiv (n + 4294967296) 65536)) = .int .i64 ((n + 4294967296) / 65536), Value.int .i64 (Int.tmod ((n + 4294967296) / 65536) 256) = .int .i64 ((n + 4294967296) / 65536 % 256), Value.int .u8 (IntKind.wrap IntKind.u8 ((n + 4294967296) / 65536 % 256)) = .int .u8 ((n + 4294967296) / 65536 % 256), Value.int .i64 (IntKind.wrap .i64 (Int.tdiv (n + 4294967296) 16777216)) = .int .i64 ((n + 4294967296) / 16777216), Value.int .u8 (IntKind.wrap IntKind.u8 ((n + 4294967296) / 16777216)) = .int .u8 ((n + 4294967296) / 16777216)]) := by kernel_rfl
theorem four_ok_pf : go (exec (Try.prog) (8) (62) ([.int .i64 n]) ([])) [(6, .dec false), (2, Itm.val (.int .i64 (n % 256))), (0, Itm.val (.int .u8 (n % 256))), (2, Itm.val (.int .i64 (n / 256))), (1, Itm.val (.int .i64 (n / 256 % 256))), (0, Itm.val (.int .u8 (n / 256 % 256))), (2, Itm.val (.int .i64 (n / 65536))), (1, Itm.val (.int .i64 (n / 65536 % 256))), (0, Itm.val (.int .u8 (n / 65536 % 256))), (2, Itm.val (.int .i64 (n / 16777216))), (0, Itm.val (.int .u8 (n / 16777216)))] = some (.mk (.string (ByteArray.mk #[unbyte (.int .u8 (n % 256)), unbyte (.int .u8 (n / 256 % 256)), unbyte (.int .u8 (n / 65536 % 256)), unbyte (.int .u8 (n / 16777216))])) [] [], true, [decide (n < 0) = false, Value.int .i64 (Int.tmod n 256) = .int .i64 (n % 256), Value.int .u8 (IntKind.wrap IntKind.u8 (n % 256)) = .int .u8 (n % 256), Value.int .i64 (IntKind.wrap .i64 (Int.tdiv n 256)) = .int .i64 (n / 256), Value.int .i64 (Int.tmod (n / 256) 256) = .int .i64 (n / 256 % 256), Value.int .u8 (IntKind.wrap IntKind.u8 (n / 256 % 256)) = .int .u8 (n / 256 % 256), Value.int .i64 (IntKind.wrap .i64 (Int.tdiv n 65536)) = .int .i64 (n / 65536), Value.int .i64 (Int.tmod (n / 65536) 256) = .int .i64 (n / 65536 % 256), Value.int .u8 (IntKind.wrap IntKind.u8 (n / 65536 % 256)) = .int .u8 (n / 65536 % 256), Value.int .i64 (IntKind.wrap .i64 (Int.tdiv n 16777216)) = .int .i64 (n / 16777216), Value.int .u8 (IntKind.wrap IntKind.u8 (n / 16777216)) = .int .u8 (n / 16777216)]) := by kernel_rfl
theorem four_ok (R : Res) (k_pt : (h0 : n < 0) → Res.le (.mk (.string (ByteArray.mk #[unbyte (.int .u8 ((n + 4294967296) % 256)), unbyte (.int .u8 ((n + 4294967296) / 256 % 256)), unbyte (.int .u8 ((n + 4294967296) / 65536 % 256)), unbyte (.int .u8 ((n + 4294967296) / 16777216))])) [] []) R) (k_pf : (h0 : ¬ (n < 0)) → Res.le (.mk (.string (ByteArray.mk #[unbyte (.int .u8 (n % 256)), unbyte (.int .u8 (n / 256 % 256)), unbyte (.int .u8 (n / 65536 % 256)), unbyte (.int .u8 (n / 16777216))])) [] []) R) : CallSpec (Try.prog) (62) ([.int .i64 n]) ([]) R := by
  by_cases h0 : n < 0
  · exact (CallSpec.id (go_ok (exec_ok tnamed tcalm tmixed _ _ _ _) (four_ok_pt n hn ) (aC (dT h0) (aC (congrArg (Value.int _) (Go.IntWalk.i64_in _ (by omega))) (aC (congrArg (Value.int _) (Int.tmod_eq_emod_of_nonneg (by omega))) (aC (congrArg (Value.int _) (Go.IntWalk.u8_in _ (by omega))) (aC (congrArg (Value.int _) (quo_in ⟨by omega, by simp [IntKind.max, IntKind.bits, IntKind.signed] <;> omega, by omega⟩)) (aC (congrArg (Value.int _) (Int.tmod_eq_emod_of_nonneg (by omega))) (aC (congrArg (Value.int _) (Go.IntWalk.u8_in _ (by omega))) (aC (congrArg (Value.int _) (quo_in ⟨by omega, by simp [IntKind.max, IntKind.bits, IntKind.signed] <;> omega, by omega⟩)) (aC (congrArg (Value.int _) (Int.tmod_eq_emod_of_nonneg (by omega))) (aC (congrArg (Value.int _) (Go.IntWalk.u8_in _ (by omega))) (aC (congrArg (Value.int _) (quo_in ⟨by omega, by simp [IntKind.max, IntKind.bits, IntKind.signed] <;> omega, by omega⟩)) (aC (congrArg (Value.int _) (Go.IntWalk.u8_in _ (by omega))) aN)))))))))))))).le (k_pt h0)
  · exact (CallSpec.id (go_ok (exec_ok tnamed tcalm tmixed _ _ _ _) (four_ok_pf n hn ) (aC (dF h0) (aC (congrArg (Value.int _) (Int.tmod_eq_emod_of_nonneg (by omega))) (aC (congrArg (Value.int _) (Go.IntWalk.u8_in _ (by omega))) (aC (congrArg (Value.int _) (quo_in ⟨by omega, by simp [IntKind.max, IntKind.bits, IntKind.signed] <;> omega, by omega⟩)) (aC (congrArg (Value.int _) (Int.tmod_eq_emod_of_nonneg (by omega))) (aC (congrArg (Value.int _) (Go.IntWalk.u8_in _ (by omega))) (aC (congrArg (Value.int _) (quo_in ⟨by omega, by simp [IntKind.max, IntKind.bits, IntKind.signed] <;> omega, by omega⟩)) (aC (congrArg (Value.int _) (Int.tmod_eq_emod_of_nonneg (by omega))) (aC (congrArg (Value.int _) (Go.IntWalk.u8_in _ (by omega))) (aC (congrArg (Value.int _) (quo_in ⟨by omega, by simp [IntKind.max, IntKind.bits, IntKind.signed] <;> omega, by omega⟩)) (aC (congrArg (Value.int _) (Go.IntWalk.u8_in _ (by omega))) aN))))))))))))).le (k_pf h0)
end
section
variable (n c : Nat) (cs : List Value) (s a b : ByteArray) (i x y : Int) (hi : 0 ≤ i ∧ i < (↑n : Int)) (hn : n ≤ 1000) (hl : List.length cs = n * 2) (hs : ByteArray.size s ≤ 1000000 ∧ ByteArray.size a = 4 ∧ ByteArray.size b = 4) (iX : isInt .i64 (List.getD cs (0 + Int.toNat i * 2 + 0) undef) = true) (iY : isInt .i64 (List.getD cs (0 + Int.toNat i * 2 + 1) undef) = true) (hX : Value.int .i64 (intOf (List.getD cs (0 + Int.toNat i * 2 + 0) undef)) = .int .i64 x) (hY : Value.int .i64 (intOf (List.getD cs (0 + Int.toNat i * 2 + 1) undef)) = .int .i64 y) (kX : CallSpec Try.prog 62 [.int .i64 x] [] (.mk (.string a) [] [])) (kY : CallSpec Try.prog 62 [.int .i64 y] [] (.mk (.string b) [] []))
include n c cs s a b i x y hi hn hl hs iX iY hX hY kX kY
theorem rp_step_p : go (body (Try.prog) (8) (1) (8) (fun x_1 => [0, 3, 4]) (rp_l) (frRp s n c i) ([.ro 39 cs])) [(5, .dec true), (3, Itm.must), (2, Itm.must), (0, Itm.must), (0, Itm.val (.int .i64 x)), (0, .call (.mk (.string a) [] [])), (2, Itm.must), (3, Itm.must), (2, Itm.must), (0, Itm.must), (0, Itm.val (.int .i64 y)), (0, .call (.mk (.string b) [] [])), (2, Itm.must), (4, Itm.val (.int .i64 (i + 1)))] = some (Out.mk Xt.normal (frOf 32 [(0, (sB 0 n c)), (3, .string (s ++ a ++ b)), (4, .int .i64 (i + 1))]) [.ro 39 cs] [], true, [decide (i < (↑n : Int)) = true, inside i n = true, decide (0 + Int.toNat i * 2 + 0 < List.length cs) = true, isInt .i64 (List.getD cs (0 + Int.toNat i * 2 + 0) undef) = true, type_of% hX, type_of% kX, decide (ByteArray.size s + ByteArray.size a ≤ 9223372036854775807) = true, inside i n = true, decide (0 + Int.toNat i * 2 + 1 < List.length cs) = true, isInt .i64 (List.getD cs (0 + Int.toNat i * 2 + 1) undef) = true, type_of% hY, type_of% kY, decide (ByteArray.size (s ++ a) + ByteArray.size b ≤ 9223372036854775807) = true, Value.int .i64 (IntKind.wrap .i64 (i + 1)) = .int .i64 (i + 1)]) := by kernel_rfl
theorem rp_step (R : Out) (k_p : Out.le (Out.mk Xt.normal (frOf 32 [(0, (sB 0 n c)), (3, .string (s ++ a ++ b)), (4, .int .i64 (i + 1))]) [.ro 39 cs] []) R) : CodeSpec (Try.prog) (1) (rp_l) (frRp s n c i) ([.ro 39 cs]) R := by
  exact (CodeSpec.id (go_ok (body_ok tnamed tcalm tmixed _ _ _ _ _ _ rp_l_calm) (rp_step_p n c cs s a b i x y hi hn hl hs iX iY hX hY kX kY ) (aC dO (aC (inside_of (by omega)) (aC dO (aC ((by omega)) (aC (hX) (aC (kX) (aC dO (aC (inside_of (by omega)) (aC dO (aC ((by omega)) (aC (hY) (aC (kY) (aC (dT (by simp only [ByteArray.size_append, ByteArray.size_extract] <;> omega)) (aC (congrArg (Value.int _) (Go.IntWalk.i64_in _ (by omega))) aN)))))))))))))))).le (k_p )
end
section
variable (n c : Nat) (cs : List Value) (s : ByteArray)
include n c cs s
theorem rp_end_p : go (body (Try.prog) (8) (1) (8) (fun x => [0, 3, 4]) (rp_l) (frRp s n c (↑n : Int)) ([.ro 39 cs])) [(5, .dec false)] = some (Out.mk (Xt.exit 0) (frOf 32 [(0, (sB 0 n c)), (3, .string s), (4, .int .i64 (↑n : Int))]) [.ro 39 cs] [], true, [decide ((↑n : Int) < (↑n : Int)) = false]) := by kernel_rfl
theorem rp_end (R : Out) (k_p : Out.le (Out.mk (Xt.exit 0) (frOf 32 [(0, (sB 0 n c)), (3, .string s), (4, .int .i64 (↑n : Int))]) [.ro 39 cs] []) R) : CodeSpec (Try.prog) (1) (rp_l) (frRp s n c (↑n : Int)) ([.ro 39 cs]) R := by
  exact (CodeSpec.id (go_ok (body_ok tnamed tcalm tmixed _ _ _ _ _ _ rp_l_calm) (rp_end_p n c cs s ) (aC dN aN))).le (k_p )
end
section
variable (n c : Nat) (cs : List Value) (s : ByteArray) (hL : CodeSpec Try.prog 1 rp_lC (frRp (ByteArray.mk #[unbyte (.int .u8 (IntKind.wrap IntKind.u8 (↑n : Int)))]) n c 0) [.ro 39 cs] (Out.mk (Xt.exit 0) (frRp s n c (↑n : Int)) [.ro 39 cs] []))
include n c cs s hL
theorem rp_b_p : go (exec (Try.prog) (8) (61) ([slB 0 n c]) ([.ro 39 cs])) [(18, Itm.loop [0, 3, 4] (Out.mk (Xt.exit 0) (frOf 32 [(0, (sB 0 n c)), (3, .string s), (4, .int .i64 (↑n : Int))]) [.ro 39 cs] []))] = some (.mk (.string s) [.ro 39 cs] [], true, [type_of% hL]) := by kernel_rfl
theorem rp_b (R : Res) (k_p : Res.le (.mk (.string s) [.ro 39 cs] []) R) : CallSpec (Try.prog) (61) ([slB 0 n c]) ([.ro 39 cs]) R := by
  exact (CallSpec.id (go_ok (exec_ok tnamed tcalm tmixed _ _ _ _) (rp_b_p n c cs s hL ) (aC (hL) aN))).le (k_p )
end
theorem rp_n_p  : go (exec (Try.prog) (8) (61) ([slN]) ([])) [] = some (.mk (.string (ByteArray.mk #[UInt8.ofNat 0])) [] [], true, []) := by kernel_rfl
theorem rp_n  (R : Res) (k_p : Res.le (.mk (.string (ByteArray.mk #[UInt8.ofNat 0])) [] []) R) : CallSpec (Try.prog) (61) ([slN]) ([]) R := by
  exact (CallSpec.id (go_ok (exec_ok tnamed tcalm tmixed _ _ _ _) (rp_n_p ) aN)).le (k_p )
theorem rp_d_p  : go (exec (Try.prog) (8) (61) ([slD 0]) ([.dead])) [] = some (.mk (.string (ByteArray.mk #[UInt8.ofNat 0])) [.dead] [], true, []) := by kernel_rfl
theorem rp_d  (R : Res) (k_p : Res.le (.mk (.string (ByteArray.mk #[UInt8.ofNat 0])) [.dead] []) R) : CallSpec (Try.prog) (61) ([slD 0]) ([.dead]) R := by
  exact (CallSpec.id (go_ok (exec_ok tnamed tcalm tmixed _ _ _ _) (rp_d_p ) aN)).le (k_p )
end Go.Proofs.Ytjalkjeldlchoaa.Ex
end
section
set_option linter.unusedSectionVars false
set_option linter.unusedSimpArgs false
set_option linter.unusedVariables false
namespace Go.Proofs.Ytjalkjeldlchoaa.X
open Go Go.RowKit Go.Proofs.Ytjalkjeldlchoaa.Ex
theorem strB_append (a b : List Value) : strB (a ++ b) = strB a ++ strB b := by
  unfold strB
  rw [List.map_append]
  apply ByteArray.ext
  simp [ByteArray.data_append]
theorem strB_size (a : List Value) : (strB a).size = a.length := by
  show (List.map unbyte a).toArray.size = _
  simp
end Go.Proofs.Ytjalkjeldlchoaa.X
namespace Go.Proofs.Ytjalkjeldlchoaa.Ex
open Go Go.RowKit Go.Proofs.Ytjalkjeldlchoaa.X
set_option linter.unusedVariables false
theorem wrap_u8' (n : Int) : IntKind.wrap .u8 n = n % 256 := by rw [IntKind.wrap_u8]
theorem four_done {n : Int} (hn : -2147483648 ≤ n ∧ n ≤ 2147483647) : CallSpec Try.prog 62 [.int .i64 n] [] ⟨.string (strB (b4 n)), [], []⟩ := by
  have e : strB (b4 n) = ByteArray.mk #[unbyte (.int .u8 (n % 256)), unbyte (.int .u8 (n / 256 % 256)), unbyte (.int .u8 (n / 65536 % 256)), unbyte (.int .u8 (n / 16777216 % 256))] := by
    unfold strB b4
    simp only [wrap_u8', List.map_cons, List.map_nil]
  rw [e]
  refine four_ok _ hn _ (fun h => res_v ?_) (fun h => res_v ?_)
  · rw [show (n + 4294967296) % 256 = n % 256 by omega, show (n + 4294967296) / 256 % 256 = n / 256 % 256 by omega, show (n + 4294967296) / 65536 % 256 = n / 65536 % 256 by omega, show (n + 4294967296) / 16777216 = n / 16777216 % 256 by omega]
  · rw [show n / 16777216 % 256 = n / 16777216 by omega]
theorem pt_cells {l : List S23} {i : Nat} (h : i < l.length) : (pc l).getD (0 + Int.toNat (i : Int) * 2 + 0) undef = .int .i64 (pt l i).f0 ∧ (pc l).getD (0 + Int.toNat (i : Int) * 2 + 1) undef = .int .i64 (pt l i).f1 := by
  obtain ⟨g0, g1⟩ := pc_get l i h
  rw [Int.toNat_natCast, Nat.zero_add, Nat.add_zero, List.getD_eq_getElem?_getD, List.getD_eq_getElem?_getD, g0, g1]
  exact ⟨rfl, rfl⟩
theorem InB.w {x : Int} (h : InB x) : -2147483648 ≤ x ∧ x ≤ 2147483647 := by unfold InB at h; omega
theorem rp_rounds {l : List S23} {c : Nat} (hn : l.length ≤ 1000) (hin : ∀ i, i < l.length → InB (pt l i).f0 ∧ InB (pt l i).f1) : ∀ (m i : Nat) (bs : List Value), i + m = l.length → bs.length + 8 * m ≤ 900000 →
    LoopSpec Try.prog 1 rp_l (frRp (strB bs) l.length c i) [.ro 39 (pc l)] ⟨.exit 0, frRp (strB (bs ++ pbs (l.drop i))) l.length c l.length, [.ro 39 (pc l)], []⟩
  | 0, i, bs, hi, hb => by
    obtain rfl : i = l.length := by omega
    rw [List.drop_length]
    show LoopSpec _ _ _ _ _ ⟨.exit 0, frRp (strB (bs ++ [])) l.length c l.length, [.ro 39 (pc l)], []⟩
    rw [List.append_nil]
    exact .last (rp_end _ _ _ _ _ out_eq) (by intro h; cases h)
  | m + 1, i, bs, hi, hb => by
    have hlt : i < l.length := by omega
    have hx := hin i hlt
    obtain ⟨c0, c1⟩ := pt_cells hlt
    have ih := rp_rounds (c := c) hn hin m (i + 1) (bs ++ b4 (pt l i).f0 ++ b4 (pt l i).f1) (by omega) (by rw [List.length_append, List.length_append, b4_len, b4_len]; omega)
    have e : bs ++ b4 (pt l i).f0 ++ b4 (pt l i).f1 ++ pbs (l.drop (i + 1)) = bs ++ pbs (l.drop i) := by
      rw [drop_pt hlt]
      show _ = bs ++ (b4 (pt l i).f0 ++ b4 (pt l i).f1 ++ pbs (l.drop (i + 1)))
      simp only [List.append_assoc]
    rw [e] at ih
    refine .more (o1 := ⟨.normal, frRp (strB (bs ++ b4 (pt l i).f0 ++ b4 (pt l i).f1)) l.length c ((i + 1 : Nat) : Int), [.ro 39 (pc l)], []⟩) (rp_step l.length c (pc l) (strB bs) (strB (b4 (pt l i).f0)) (strB (b4 (pt l i).f1)) i _ _ (by omega) hn (pc_len l) ⟨by rw [strB_size]; omega, rfl, rfl⟩ (by rw [c0]; rfl) (by rw [c1]; rfl) (by rw [c0]; rfl) (by rw [c1]; rfl) (four_done (InB.w hx.1)) (four_done (InB.w hx.2)) _ ?_) rfl ih (fun j hj => by cases hj)
    rw [strB_append, strB_append]
    exact out_eq
theorem rpoints_done (P : Pk) (hn : P.list.length ≤ 1000) (hin : ∀ i, i < P.list.length → InB (pt P.list i).f0 ∧ InB (pt P.list i).f1) : CallSpec Try.prog 61 [P.val 0] P.hp ⟨.string (strB (pb P.list)), P.hp, []⟩ := by
  cases P with
  | nil => exact rp_n _ res_refl
  | emp => exact rp_d _ res_refl
  | pts l =>
    have h := (rp_rounds (c := l.length) hn hin l.length 0 (b1 l.length) (Nat.zero_add _) (by show 1 + 8 * l.length ≤ _; have : l.length ≤ 1000 := hn; omega)).code
    exact rp_b _ _ _ _ h _ res_refl
end Go.Proofs.Ytjalkjeldlchoaa.Ex
end
section
set_option linter.unusedSectionVars false
set_option linter.unusedSimpArgs false
set_option linter.unusedVariables false
namespace Go.Proofs.Ytjalkjeldlchoaa.Ex
open Go
set_option linter.unusedVariables false
section
variable (fl ce e : Int) (he : e ≠ 0) (kC : CallSpec Try.prog 19 [fV slN fl ce slN] [] (.mk (.int .i64 e) [] []))
include fl ce e he kC
theorem rence_nn_p : go (exec (Try.prog) (8) (28) ([fV slN fl ce slN]) ([])) [(9, .call (.mk (.int .i64 e) [] [])), (7, .dec true)] = some (.mk (.tuple #[.string (ByteArray.mk #[]), .int .i64 e]) [] [], true, [type_of% kC, (!decide (e = 0)) = true]) := by kernel_rfl
theorem rence_nn (R : Res) (k_p : Res.le (.mk (.tuple #[.string (ByteArray.mk #[]), .int .i64 e]) [] []) R) : CallSpec (Try.prog) (28) ([fV slN fl ce slN]) ([]) R := by
  exact (CallSpec.id (go_ok (exec_ok tnamed tcalm tmixed _ _ _ _) (rence_nn_p fl ce e he kC ) (aC (kC) (aC (congrArg not dN) aN)))).le (k_p )
end
section
variable (fl ce e : Int) (he : e ≠ 0) (kC : CallSpec Try.prog 19 [fV slN fl ce (slD 0)] [.dead] (.mk (.int .i64 e) [.dead] []))
include fl ce e he kC
theorem rence_nd_p : go (exec (Try.prog) (8) (28) ([fV slN fl ce (slD 0)]) ([.dead])) [(9, .call (.mk (.int .i64 e) [.dead] [])), (7, .dec true)] = some (.mk (.tuple #[.string (ByteArray.mk #[]), .int .i64 e]) [.dead] [], true, [type_of% kC, (!decide (e = 0)) = true]) := by kernel_rfl
theorem rence_nd (R : Res) (k_p : Res.le (.mk (.tuple #[.string (ByteArray.mk #[]), .int .i64 e]) [.dead] []) R) : CallSpec (Try.prog) (28) ([fV slN fl ce (slD 0)]) ([.dead]) R := by
  exact (CallSpec.id (go_ok (exec_ok tnamed tcalm tmixed _ _ _ _) (rence_nd_p fl ce e he kC ) (aC (kC) (aC (congrArg not dN) aN)))).le (k_p )
end
section
variable (m : Nat) (rs : List Value) (fl ce e : Int) (he : e ≠ 0) (kC : CallSpec Try.prog 19 [fV slN fl ce (slB 0 m m)] [.ro 39 rs] (.mk (.int .i64 e) [.ro 39 rs] []))
include m rs fl ce e he kC
theorem rence_nb_p : go (exec (Try.prog) (8) (28) ([fV slN fl ce (slB 0 m m)]) ([.ro 39 rs])) [(9, .call (.mk (.int .i64 e) [.ro 39 rs] [])), (7, .dec true)] = some (.mk (.tuple #[.string (ByteArray.mk #[]), .int .i64 e]) [.ro 39 rs] [], true, [type_of% kC, (!decide (e = 0)) = true]) := by kernel_rfl
theorem rence_nb (R : Res) (k_p : Res.le (.mk (.tuple #[.string (ByteArray.mk #[]), .int .i64 e]) [.ro 39 rs] []) R) : CallSpec (Try.prog) (28) ([fV slN fl ce (slB 0 m m)]) ([.ro 39 rs]) R := by
  exact (CallSpec.id (go_ok (exec_ok tnamed tcalm tmixed _ _ _ _) (rence_nb_p m rs fl ce e he kC ) (aC (kC) (aC (congrArg not dN) aN)))).le (k_p )
end
section
variable (fl ce e : Int) (he : e ≠ 0) (kC : CallSpec Try.prog 19 [fV (slD 0) fl ce slN] [.dead] (.mk (.int .i64 e) [.dead] []))
include fl ce e he kC
theorem rence_dn_p : go (exec (Try.prog) (8) (28) ([fV (slD 0) fl ce slN]) ([.dead])) [(9, .call (.mk (.int .i64 e) [.dead] [])), (7, .dec true)] = some (.mk (.tuple #[.string (ByteArray.mk #[]), .int .i64 e]) [.dead] [], true, [type_of% kC, (!decide (e = 0)) = true]) := by kernel_rfl
theorem rence_dn (R : Res) (k_p : Res.le (.mk (.tuple #[.string (ByteArray.mk #[]), .int .i64 e]) [.dead] []) R) : CallSpec (Try.prog) (28) ([fV (slD 0) fl ce slN]) ([.dead]) R := by
  exact (CallSpec.id (go_ok (exec_ok tnamed tcalm tmixed _ _ _ _) (rence_dn_p fl ce e he kC ) (aC (kC) (aC (congrArg not dN) aN)))).le (k_p )
end
section
variable (fl ce e : Int) (he : e ≠ 0) (kC : CallSpec Try.prog 19 [fV (slD 0) fl ce (slD 1)] [.dead, .dead] (.mk (.int .i64 e) [.dead, .dead] []))
include fl ce e he kC
theorem rence_dd_p : go (exec (Try.prog) (8) (28) ([fV (slD 0) fl ce (slD 1)]) ([.dead, .dead])) [(9, .call (.mk (.int .i64 e) [.dead, .dead] [])), (7, .dec true)] = some (.mk (.tuple #[.string (ByteArray.mk #[]), .int .i64 e]) [.dead, .dead] [], true, [type_of% kC, (!decide (e = 0)) = true]) := by kernel_rfl
theorem rence_dd (R : Res) (k_p : Res.le (.mk (.tuple #[.string (ByteArray.mk #[]), .int .i64 e]) [.dead, .dead] []) R) : CallSpec (Try.prog) (28) ([fV (slD 0) fl ce (slD 1)]) ([.dead, .dead]) R := by
  exact (CallSpec.id (go_ok (exec_ok tnamed tcalm tmixed _ _ _ _) (rence_dd_p fl ce e he kC ) (aC (kC) (aC (congrArg not dN) aN)))).le (k_p )
end
section
variable (m : Nat) (rs : List Value) (fl ce e : Int) (he : e ≠ 0) (kC : CallSpec Try.prog 19 [fV (slD 0) fl ce (slB 1 m m)] [.dead, .ro 39 rs] (.mk (.int .i64 e) [.dead, .ro 39 rs] []))
include m rs fl ce e he kC
theorem rence_db_p : go (exec (Try.prog) (8) (28) ([fV (slD 0) fl ce (slB 1 m m)]) ([.dead, .ro 39 rs])) [(9, .call (.mk (.int .i64 e) [.dead, .ro 39 rs] [])), (7, .dec true)] = some (.mk (.tuple #[.string (ByteArray.mk #[]), .int .i64 e]) [.dead, .ro 39 rs] [], true, [type_of% kC, (!decide (e = 0)) = true]) := by kernel_rfl
theorem rence_db (R : Res) (k_p : Res.le (.mk (.tuple #[.string (ByteArray.mk #[]), .int .i64 e]) [.dead, .ro 39 rs] []) R) : CallSpec (Try.prog) (28) ([fV (slD 0) fl ce (slB 1 m m)]) ([.dead, .ro 39 rs]) R := by
  exact (CallSpec.id (go_ok (exec_ok tnamed tcalm tmixed _ _ _ _) (rence_db_p m rs fl ce e he kC ) (aC (kC) (aC (congrArg not dN) aN)))).le (k_p )
end
section
variable (n : Nat) (cs : List Value) (fl ce e : Int) (he : e ≠ 0) (kC : CallSpec Try.prog 19 [fV (slB 0 n n) fl ce slN] [.ro 39 cs] (.mk (.int .i64 e) [.ro 39 cs] []))
include n cs fl ce e he kC
theorem rence_bn_p : go (exec (Try.prog) (8) (28) ([fV (slB 0 n n) fl ce slN]) ([.ro 39 cs])) [(9, .call (.mk (.int .i64 e) [.ro 39 cs] [])), (7, .dec true)] = some (.mk (.tuple #[.string (ByteArray.mk #[]), .int .i64 e]) [.ro 39 cs] [], true, [type_of% kC, (!decide (e = 0)) = true]) := by kernel_rfl
theorem rence_bn (R : Res) (k_p : Res.le (.mk (.tuple #[.string (ByteArray.mk #[]), .int .i64 e]) [.ro 39 cs] []) R) : CallSpec (Try.prog) (28) ([fV (slB 0 n n) fl ce slN]) ([.ro 39 cs]) R := by
  exact (CallSpec.id (go_ok (exec_ok tnamed tcalm tmixed _ _ _ _) (rence_bn_p n cs fl ce e he kC ) (aC (kC) (aC (congrArg not dN) aN)))).le (k_p )
end
section
variable (n : Nat) (cs : List Value) (fl ce : Int) (s a b t : ByteArray) (hs : ByteArray.size s ≤ 100000 ∧ ByteArray.size a ≤ 10 ∧ ByteArray.size b ≤ 10 ∧ ByteArray.size t ≤ 100000) (kC : CallSpec Try.prog 19 [fV (slB 0 n n) fl ce slN] [.ro 39 cs] (.mk (.int .i64 0) [.ro 39 cs] [])) (kP : CallSpec Try.prog 61 [slB 0 n n] [.ro 39 cs] (.mk (.string s) [.ro 39 cs] [])) (kA : CallSpec Try.prog 62 [.int .i64 fl] [] (.mk (.string a) [] [])) (kB : CallSpec Try.prog 62 [.int .i64 ce] [] (.mk (.string b) [] [])) (kR : CallSpec Try.prog 61 [slN] [] (.mk (.string t) [] []))
include n cs fl ce s a b t hs kC kP kA kB kR
theorem renc0_bn_p : go (exec (Try.prog) (8) (28) ([fV (slB 0 n n) fl ce slN]) ([.ro 39 cs])) [(9, .call (.mk (.int .i64 0) [.ro 39 cs] [])), (11, .call (.mk (.string s) [.ro 39 cs] [])), (9, .call (.mk (.string a) [] [])), (2, Itm.must), (5, .call (.mk (.string b) [] [])), (2, Itm.must), (4, .call (.mk (.string t) [] [])), (2, Itm.must)] = some (.mk (.tuple #[.string (s ++ a ++ b ++ t), .int .i64 0]) [.ro 39 cs] [], true, [type_of% kC, type_of% kP, type_of% kA, decide (ByteArray.size s + ByteArray.size a ≤ 9223372036854775807) = true, type_of% kB, decide (ByteArray.size (s ++ a) + ByteArray.size b ≤ 9223372036854775807) = true, type_of% kR, decide (ByteArray.size (s ++ a ++ b) + ByteArray.size t ≤ 9223372036854775807) = true]) := by kernel_rfl
theorem renc0_bn (R : Res) (k_p : Res.le (.mk (.tuple #[.string (s ++ a ++ b ++ t), .int .i64 0]) [.ro 39 cs] []) R) : CallSpec (Try.prog) (28) ([fV (slB 0 n n) fl ce slN]) ([.ro 39 cs]) R := by
  exact (CallSpec.id (go_ok (exec_ok tnamed tcalm tmixed _ _ _ _) (renc0_bn_p n cs fl ce s a b t hs kC kP kA kB kR ) (aC (kC) (aC (kP) (aC (kA) (aC dO (aC (kB) (aC (dT (by simp only [ByteArray.size_append, ByteArray.size_extract] <;> omega)) (aC (kR) (aC (dT (by simp only [ByteArray.size_append, ByteArray.size_extract] <;> omega)) aN)))))))))).le (k_p )
end
section
variable (n : Nat) (cs : List Value) (fl ce e : Int) (he : e ≠ 0) (kC : CallSpec Try.prog 19 [fV (slB 0 n n) fl ce (slD 1)] [.ro 39 cs, .dead] (.mk (.int .i64 e) [.ro 39 cs, .dead] []))
include n cs fl ce e he kC
theorem rence_bd_p : go (exec (Try.prog) (8) (28) ([fV (slB 0 n n) fl ce (slD 1)]) ([.ro 39 cs, .dead])) [(9, .call (.mk (.int .i64 e) [.ro 39 cs, .dead] [])), (7, .dec true)] = some (.mk (.tuple #[.string (ByteArray.mk #[]), .int .i64 e]) [.ro 39 cs, .dead] [], true, [type_of% kC, (!decide (e = 0)) = true]) := by kernel_rfl
theorem rence_bd (R : Res) (k_p : Res.le (.mk (.tuple #[.string (ByteArray.mk #[]), .int .i64 e]) [.ro 39 cs, .dead] []) R) : CallSpec (Try.prog) (28) ([fV (slB 0 n n) fl ce (slD 1)]) ([.ro 39 cs, .dead]) R := by
  exact (CallSpec.id (go_ok (exec_ok tnamed tcalm tmixed _ _ _ _) (rence_bd_p n cs fl ce e he kC ) (aC (kC) (aC (congrArg not dN) aN)))).le (k_p )
end
section
variable (n : Nat) (cs : List Value) (fl ce : Int) (s a b t : ByteArray) (hs : ByteArray.size s ≤ 100000 ∧ ByteArray.size a ≤ 10 ∧ ByteArray.size b ≤ 10 ∧ ByteArray.size t ≤ 100000) (kC : CallSpec Try.prog 19 [fV (slB 0 n n) fl ce (slD 1)] [.ro 39 cs, .dead] (.mk (.int .i64 0) [.ro 39 cs, .dead] [])) (kP : CallSpec Try.prog 61 [slB 0 n n] [.ro 39 cs] (.mk (.string s) [.ro 39 cs] [])) (kA : CallSpec Try.prog 62 [.int .i64 fl] [] (.mk (.string a) [] [])) (kB : CallSpec Try.prog 62 [.int .i64 ce] [] (.mk (.string b) [] [])) (kR : CallSpec Try.prog 61 [slD 0] [.dead] (.mk (.string t) [.dead] []))
include n cs fl ce s a b t hs kC kP kA kB kR
theorem renc0_bd_p : go (exec (Try.prog) (8) (28) ([fV (slB 0 n n) fl ce (slD 1)]) ([.ro 39 cs, .dead])) [(9, .call (.mk (.int .i64 0) [.ro 39 cs, .dead] [])), (11, .call (.mk (.string s) [.ro 39 cs] [])), (9, .call (.mk (.string a) [] [])), (2, Itm.must), (5, .call (.mk (.string b) [] [])), (2, Itm.must), (4, .call (.mk (.string t) [.dead] [])), (2, Itm.must)] = some (.mk (.tuple #[.string (s ++ a ++ b ++ t), .int .i64 0]) [.ro 39 cs, .dead] [], true, [type_of% kC, type_of% kP, type_of% kA, decide (ByteArray.size s + ByteArray.size a ≤ 9223372036854775807) = true, type_of% kB, decide (ByteArray.size (s ++ a) + ByteArray.size b ≤ 9223372036854775807) = true, type_of% kR, decide (ByteArray.size (s ++ a ++ b) + ByteArray.size t ≤ 9223372036854775807) = true]) := by kernel_rfl
theorem renc0_bd (R : Res) (k_p : Res.le (.mk (.tuple #[.string (s ++ a ++ b ++ t), .int .i64 0]) [.ro 39 cs, .dead] []) R) : CallSpec (Try.prog) (28) ([fV (slB 0 n n) fl ce (slD 1)]) ([.ro 39 cs, .dead]) R := by
  exact (CallSpec.id (go_ok (exec_ok tnamed tcalm tmixed _ _ _ _) (renc0_bd_p n cs fl ce s a b t hs kC kP kA kB kR ) (aC (kC) (aC (kP) (aC (kA) (aC dO (aC (kB) (aC (dT (by simp only [ByteArray.size_append, ByteArray.size_extract] <;> omega)) (aC (kR) (aC (dT (by simp only [ByteArray.size_append, ByteArray.size_extract] <;> omega)) aN)))))))))).le (k_p )
end
section
variable (n : Nat) (cs : List Value) (m : Nat) (rs : List Value) (fl ce e : Int) (he : e ≠ 0) (kC : CallSpec Try.prog 19 [fV (slB 0 n n) fl ce (slB 1 m m)] [.ro 39 cs, .ro 39 rs] (.mk (.int .i64 e) [.ro 39 cs, .ro 39 rs] []))
include n cs m rs fl ce e he kC
theorem rence_bb_p : go (exec (Try.prog) (8) (28) ([fV (slB 0 n n) fl ce (slB 1 m m)]) ([.ro 39 cs, .ro 39 rs])) [(9, .call (.mk (.int .i64 e) [.ro 39 cs, .ro 39 rs] [])), (7, .dec true)] = some (.mk (.tuple #[.string (ByteArray.mk #[]), .int .i64 e]) [.ro 39 cs, .ro 39 rs] [], true, [type_of% kC, (!decide (e = 0)) = true]) := by kernel_rfl
theorem rence_bb (R : Res) (k_p : Res.le (.mk (.tuple #[.string (ByteArray.mk #[]), .int .i64 e]) [.ro 39 cs, .ro 39 rs] []) R) : CallSpec (Try.prog) (28) ([fV (slB 0 n n) fl ce (slB 1 m m)]) ([.ro 39 cs, .ro 39 rs]) R := by
  exact (CallSpec.id (go_ok (exec_ok tnamed tcalm tmixed _ _ _ _) (rence_bb_p n cs m rs fl ce e he kC ) (aC (kC) (aC (congrArg not dN) aN)))).le (k_p )
end
section
variable (n : Nat) (cs : List Value) (m : Nat) (rs : List Value) (fl ce : Int) (s a b t : ByteArray) (hs : ByteArray.size s ≤ 100000 ∧ ByteArray.size a ≤ 10 ∧ ByteArray.size b ≤ 10 ∧ ByteArray.size t ≤ 100000) (kC : CallSpec Try.prog 19 [fV (slB 0 n n) fl ce (slB 1 m m)] [.ro 39 cs, .ro 39 rs] (.mk (.int .i64 0) [.ro 39 cs, .ro 39 rs] [])) (kP : CallSpec Try.prog 61 [slB 0 n n] [.ro 39 cs] (.mk (.string s) [.ro 39 cs] [])) (kA : CallSpec Try.prog 62 [.int .i64 fl] [] (.mk (.string a) [] [])) (kB : CallSpec Try.prog 62 [.int .i64 ce] [] (.mk (.string b) [] [])) (kR : CallSpec Try.prog 61 [slB 0 m m] [.ro 39 rs] (.mk (.string t) [.ro 39 rs] []))
include n cs m rs fl ce s a b t hs kC kP kA kB kR
theorem renc0_bb_p : go (exec (Try.prog) (8) (28) ([fV (slB 0 n n) fl ce (slB 1 m m)]) ([.ro 39 cs, .ro 39 rs])) [(9, .call (.mk (.int .i64 0) [.ro 39 cs, .ro 39 rs] [])), (11, .call (.mk (.string s) [.ro 39 cs] [])), (9, .call (.mk (.string a) [] [])), (2, Itm.must), (5, .call (.mk (.string b) [] [])), (2, Itm.must), (4, .call (.mk (.string t) [.ro 39 rs] [])), (2, Itm.must)] = some (.mk (.tuple #[.string (s ++ a ++ b ++ t), .int .i64 0]) [.ro 39 cs, .ro 39 rs] [], true, [type_of% kC, type_of% kP, type_of% kA, decide (ByteArray.size s + ByteArray.size a ≤ 9223372036854775807) = true, type_of% kB, decide (ByteArray.size (s ++ a) + ByteArray.size b ≤ 9223372036854775807) = true, type_of% kR, decide (ByteArray.size (s ++ a ++ b) + ByteArray.size t ≤ 9223372036854775807) = true]) := by kernel_rfl
theorem renc0_bb (R : Res) (k_p : Res.le (.mk (.tuple #[.string (s ++ a ++ b ++ t), .int .i64 0]) [.ro 39 cs, .ro 39 rs] []) R) : CallSpec (Try.prog) (28) ([fV (slB 0 n n) fl ce (slB 1 m m)]) ([.ro 39 cs, .ro 39 rs]) R := by
  exact (CallSpec.id (go_ok (exec_ok tnamed tcalm tmixed _ _ _ _) (renc0_bb_p n cs m rs fl ce s a b t hs kC kP kA kB kR ) (aC (kC) (aC (kP) (aC (kA) (aC dO (aC (kB) (aC (dT (by simp only [ByteArray.size_append, ByteArray.size_extract] <;> omega)) (aC (kR) (aC (dT (by simp only [ByteArray.size_append, ByteArray.size_extract] <;> omega)) aN)))))))))).le (k_p )
end
end Go.Proofs.Ytjalkjeldlchoaa.Ex
end
section
set_option linter.unusedSectionVars false
set_option linter.unusedSimpArgs false
set_option linter.unusedVariables false
namespace Go.Proofs.Ytjalkjeldlchoaa.X
open Go Go.RowKit
theorem limV_in {m : Nat} {fl ce : Int} (h : limV m fl ce = 0) : InB fl ∧ InB ce ∧ fl ≤ 0 ∧ 0 < ce ∧ m ≤ 8 := by
  unfold limV at h
  by_cases q : (inQ fl && inQ ce) = true
  · rw [if_pos q] at h
    rw [Bool.and_eq_true, inQ_iff, inQ_iff] at q
    refine ⟨q.1, q.2, ?_⟩
    split at h
    · omega
    · split at h
      · omega
      · omega
  · rw [if_neg q] at h
    omega
end Go.Proofs.Ytjalkjeldlchoaa.X
namespace Go.Proofs.Ytjalkjeldlchoaa.Ex
open Go Go.RowKit Go.Proofs.Ytjalkjeldlchoaa.X
set_option linter.unusedVariables false
theorem rencode_done (P R : Pk) (fl ce : Int) : CallSpec Try.prog 28 [fA P R fl ce] (fH P R) ⟨.tuple #[.string (encT P.list R.list fl ce), .int .i64 (checkV P.list R.list fl ce)], fH P R, []⟩ := by
  have kC := rcheck_done P R fl ce
  have n0 : ∀ r, checkV [] r fl ce ≠ 0 := fun r h => by
    have : (90 : Int) = 0 := h
    omega
  unfold encT
  by_cases h : checkV P.list R.list fl ce = 0
  · rw [if_pos h, h]
    rw [h] at kC
    have z := checkV_zero h
    have hl := simpleV_zero z.1
    have hz := limV_in z.2.1
    have kP := rpoints_done P (by omega) (fun i hi => pt_in hl.2.2.1 hi)
    have kR := rpoints_done R (by omega) (rallyV_in z.2.2)
    have kA := four_done (InB.w hz.1)
    have kB := four_done (InB.w hz.2.1)
    have e : strB (encV P.list R.list fl ce) = strB (pb P.list) ++ strB (b4 fl) ++ strB (b4 ce) ++ strB (pb R.list) := by
      unfold encV
      rw [strB_append, strB_append, strB_append]
    have hs : (strB (pb P.list)).size ≤ 100000 ∧ (strB (b4 fl)).size ≤ 10 ∧ (strB (b4 ce)).size ≤ 10 ∧ (strB (pb R.list)).size ≤ 100000 := by
      rw [strB_size, strB_size, strB_size, strB_size, pb_len, pb_len, b4_len, b4_len]
      omega
    rw [e]
    cases P with
    | nil => exact absurd h (n0 _)
    | emp => exact absurd h (n0 _)
    | pts l =>
      cases R with
      | nil => exact renc0_bn _ _ _ _ _ _ _ _ hs kC kP kA kB kR _ res_refl
      | emp => exact renc0_bd _ _ _ _ _ _ _ _ hs kC kP kA kB kR _ res_refl
      | pts r => exact renc0_bb _ _ _ _ _ _ _ _ _ _ hs kC kP kA kB kR _ res_refl
  · rw [if_neg h]
    cases P <;> cases R
    · exact rence_nn _ _ _ h kC _ res_refl
    · exact rence_nd _ _ _ h kC _ res_refl
    · exact rence_nb _ _ _ _ _ h kC _ res_refl
    · exact rence_dn _ _ _ h kC _ res_refl
    · exact rence_dd _ _ _ h kC _ res_refl
    · exact rence_db _ _ _ _ _ h kC _ res_refl
    · exact rence_bn _ _ _ _ _ h kC _ res_refl
    · exact rence_bd _ _ _ _ _ h kC _ res_refl
    · exact rence_bb _ _ _ _ _ _ _ h kC _ res_refl
end Go.Proofs.Ytjalkjeldlchoaa.Ex
end
section
set_option linter.unusedSectionVars false
set_option linter.unusedSimpArgs false
set_option linter.unusedVariables false
namespace Go.Proofs.Ytjalkjeldlchoaa.Ex
open Go Go.RowKit Go.Proofs.Ytjalkjeldlchoaa.X
set_option linter.unusedVariables false
theorem encodes_law (kA : CallSpec Try.prog 17 [] [] ⟨.bool true, [], []⟩) (P R : Pk) (fl ce : Int) (hP : P.Fits) (hR : R.Fits) : CallSpec Try.prog 7 [fA P R fl ce] (fH P R) ⟨.bool true, fH P R, []⟩ := by
  have kL := lent_done P R fl ce hP hR
  have kC := CallSpec.wide (hp' := ownH P R) (encode_bb (l := P.list) (r := R.list) (c := P.list.length + 1) (d := R.list.length + 1) (fl := fl) (ce := ce) hP.m) rfl rfl (wide_lent P R)
  have kR := rencode_done P R fl ce
  have kK := kept_done P R fl ce hP hR
  cases P <;> cases R
  · exact lencs_nn _ _ _ _ _ _ kL kA kC kR kK _ res_refl
  · exact lencs_nd _ _ _ _ _ _ kL kA kC kR kK _ res_refl
  · exact lencs_nb _ _ _ _ _ _ _ _ kL kA kC kR kK _ res_refl
  · exact lencs_dn _ _ _ _ _ _ kL kA kC kR kK _ res_refl
  · exact lencs_dd _ _ _ _ _ _ kL kA kC kR kK _ res_refl
  · exact lencs_db _ _ _ _ _ _ _ _ kL kA kC kR kK _ res_refl
  · exact lencs_bn _ _ _ _ _ _ _ _ kL kA kC kR kK _ res_refl
  · exact lencs_bd _ _ _ _ _ _ _ _ kL kA kC kR kK _ res_refl
  · exact lencs_bb _ _ _ _ _ _ _ _ _ _ kL kA kC kR kK _ res_refl
end Go.Proofs.Ytjalkjeldlchoaa.Ex
end
