import Derived.Test.YtjalkjeldlchoaaZFnc5
section
set_option linter.unusedSectionVars false
set_option linter.unusedSimpArgs false
set_option linter.unusedVariables false
namespace Go.Proofs.Ytjalkjeldlchoaa.Ex
open Go
set_option linter.unusedVariables false
section
variable (ps qs : List Value) (fl ce e : Int) (kL : CallSpec Try.prog 16 [fV slN fl ce slN] [] (.mk (fV (lentV 0 0) fl ce (lentV 1 0)) [.own 39 ps, .own 39 qs] [])) (kA : CallSpec Try.prog 17 [] [] (.mk (.bool true) [] [])) (kC : CallSpec Try.prog 18 [fV (lentV 0 0) fl ce (lentV 1 0)] [.own 39 ps, .own 39 qs] (.mk (.int .i64 e) [.own 39 ps, .own 39 qs] [])) (kR : CallSpec Try.prog 19 [fV slN fl ce slN] [] (.mk (.int .i64 e) [] [])) (kK : CallSpec Try.prog 20 [fV (lentV 0 0) fl ce (lentV 1 0), fV slN fl ce slN] [.own 39 ps, .own 39 qs] (.mk (.bool true) [.own 39 ps, .own 39 qs] []))
include ps qs fl ce e kL kA kC kR kK
theorem checks_nn_p : go (exec (Try.prog) (8) (3) ([fV slN fl ce slN]) ([])) [(8, .call (.mk (.agg #[(sB 0 0 1), .int .i64 fl, .int .i64 ce, (sB 1 0 1)]) [.own 39 ps, .own 39 qs] [])), (10, .call (.mk (.bool true) [] [])), (7, .call (.mk (.int .i64 e) [.own 39 ps, .own 39 qs] [])), (6, .call (.mk (.int .i64 e) [] [])), (7, .dec true), (2, .dec true), (2, .dec true), (0, .call (.mk (.bool true) [.own 39 ps, .own 39 qs] [])), (2, .dec true)] = some (.mk (.bool true) [] [], true, [type_of% kL, type_of% kA, type_of% kC, type_of% kR, decide (e = e) = true, decide (e = e) = true, decide (e = e) = true, type_of% kK, decide (e = e) = true]) := by kernel_rfl
theorem checks_nn (R : Res) (k_p : Res.le (.mk (.bool true) [] []) R) : CallSpec (Try.prog) (3) ([fV slN fl ce slN]) ([]) R := by
  exact (CallSpec.id (go_ok (exec_ok tnamed tcalm tmixed _ _ _ _) (checks_nn_p ps qs fl ce e kL kA kC kR kK ) (aC (kL) (aC (kA) (aC (kC) (aC (kR) (aC dO (aC dO (aC dO (aC (kK) (aC dO aN))))))))))).le (k_p )
end
section
variable (ps qs : List Value) (fl ce e : Int) (kL : CallSpec Try.prog 16 [fV slN fl ce (slD 0)] [.dead] (.mk (fV (lentV 1 0) fl ce (lentV 2 0)) [.dead, .own 39 ps, .own 39 qs] [])) (kA : CallSpec Try.prog 17 [] [] (.mk (.bool true) [] [])) (kC : CallSpec Try.prog 18 [fV (lentV 0 0) fl ce (lentV 1 0)] [.own 39 ps, .own 39 qs] (.mk (.int .i64 e) [.own 39 ps, .own 39 qs] [])) (kR : CallSpec Try.prog 19 [fV slN fl ce (slD 0)] [.dead] (.mk (.int .i64 e) [.dead] [])) (kK : CallSpec Try.prog 20 [fV (lentV 0 0) fl ce (lentV 1 0), fV slN fl ce (slD 2)] [.own 39 ps, .own 39 qs, .dead] (.mk (.bool true) [.own 39 ps, .own 39 qs, .dead] []))
include ps qs fl ce e kL kA kC kR kK
theorem checks_nd_p : go (exec (Try.prog) (8) (3) ([fV slN fl ce (slD 0)]) ([.dead])) [(8, .call (.mk (.agg #[(sB 1 0 1), .int .i64 fl, .int .i64 ce, (sB 2 0 1)]) [.dead, .own 39 ps, .own 39 qs] [])), (10, .call (.mk (.bool true) [] [])), (7, .call (.mk (.int .i64 e) [.own 39 ps, .own 39 qs] [])), (6, .call (.mk (.int .i64 e) [.dead] [])), (7, .dec true), (2, .dec true), (2, .dec true), (0, .call (.mk (.bool true) [.own 39 ps, .own 39 qs, .dead] [])), (2, .dec true)] = some (.mk (.bool true) [.dead] [], true, [type_of% kL, type_of% kA, type_of% kC, type_of% kR, decide (e = e) = true, decide (e = e) = true, decide (e = e) = true, type_of% kK, decide (e = e) = true]) := by kernel_rfl
theorem checks_nd (R : Res) (k_p : Res.le (.mk (.bool true) [.dead] []) R) : CallSpec (Try.prog) (3) ([fV slN fl ce (slD 0)]) ([.dead]) R := by
  exact (CallSpec.id (go_ok (exec_ok tnamed tcalm tmixed _ _ _ _) (checks_nd_p ps qs fl ce e kL kA kC kR kK ) (aC (kL) (aC (kA) (aC (kC) (aC (kR) (aC dO (aC dO (aC dO (aC (kK) (aC dO aN))))))))))).le (k_p )
end
section
variable (m : Nat) (rs ps qs : List Value) (fl ce e : Int) (kL : CallSpec Try.prog 16 [fV slN fl ce (slB 0 m m)] [.ro 39 rs] (.mk (fV (lentV 1 0) fl ce (lentV 2 m)) [.ro 39 rs, .own 39 ps, .own 39 qs] [])) (kA : CallSpec Try.prog 17 [] [] (.mk (.bool true) [] [])) (kC : CallSpec Try.prog 18 [fV (lentV 0 0) fl ce (lentV 1 m)] [.own 39 ps, .own 39 qs] (.mk (.int .i64 e) [.own 39 ps, .own 39 qs] [])) (kR : CallSpec Try.prog 19 [fV slN fl ce (slB 0 m m)] [.ro 39 rs] (.mk (.int .i64 e) [.ro 39 rs] [])) (kK : CallSpec Try.prog 20 [fV (lentV 0 0) fl ce (lentV 1 m), fV slN fl ce (slB 2 m m)] [.own 39 ps, .own 39 qs, .ro 39 rs] (.mk (.bool true) [.own 39 ps, .own 39 qs, .ro 39 rs] []))
include m rs ps qs fl ce e kL kA kC kR kK
theorem checks_nb_p : go (exec (Try.prog) (8) (3) ([fV slN fl ce (slB 0 m m)]) ([.ro 39 rs])) [(8, .call (.mk (.agg #[.slice (some (.mk (List.length [Blk.ro 39 rs]) 0 none)) 0 1, .int .i64 fl, .int .i64 ce, .slice (some (.mk (List.length [Blk.ro 39 rs] + 1) 0 none)) m (m + 1)]) [.ro 39 rs, .own 39 ps, .own 39 qs] [])), (10, .call (.mk (.bool true) [] [])), (7, .call (.mk (.int .i64 e) [.own 39 ps, .own 39 qs] [])), (6, .call (.mk (.int .i64 e) [.ro 39 rs] [])), (7, .dec true), (2, .dec true), (2, .dec true), (0, .call (.mk (.bool true) [.own 39 ps, .own 39 qs, .ro 39 rs] [])), (2, .dec true)] = some (.mk (.bool true) [.ro 39 rs] [], true, [type_of% kL, type_of% kA, type_of% kC, type_of% kR, decide (e = e) = true, decide (e = e) = true, decide (e = e) = true, type_of% kK, decide (e = e) = true]) := by kernel_rfl
theorem checks_nb (R : Res) (k_p : Res.le (.mk (.bool true) [.ro 39 rs] []) R) : CallSpec (Try.prog) (3) ([fV slN fl ce (slB 0 m m)]) ([.ro 39 rs]) R := by
  exact (CallSpec.id (go_ok (exec_ok tnamed tcalm tmixed _ _ _ _) (checks_nb_p m rs ps qs fl ce e kL kA kC kR kK ) (aC (kL) (aC (kA) (aC (kC) (aC (kR) (aC dO (aC dO (aC dO (aC (kK) (aC dO aN))))))))))).le (k_p )
end
section
variable (ps qs : List Value) (fl ce e : Int) (kL : CallSpec Try.prog 16 [fV (slD 0) fl ce slN] [.dead] (.mk (fV (lentV 1 0) fl ce (lentV 2 0)) [.dead, .own 39 ps, .own 39 qs] [])) (kA : CallSpec Try.prog 17 [] [] (.mk (.bool true) [] [])) (kC : CallSpec Try.prog 18 [fV (lentV 0 0) fl ce (lentV 1 0)] [.own 39 ps, .own 39 qs] (.mk (.int .i64 e) [.own 39 ps, .own 39 qs] [])) (kR : CallSpec Try.prog 19 [fV (slD 0) fl ce slN] [.dead] (.mk (.int .i64 e) [.dead] [])) (kK : CallSpec Try.prog 20 [fV (lentV 0 0) fl ce (lentV 1 0), fV (slD 2) fl ce slN] [.own 39 ps, .own 39 qs, .dead] (.mk (.bool true) [.own 39 ps, .own 39 qs, .dead] []))
include ps qs fl ce e kL kA kC kR kK
theorem checks_dn_p : go (exec (Try.prog) (8) (3) ([fV (slD 0) fl ce slN]) ([.dead])) [(8, .call (.mk (.agg #[(sB 1 0 1), .int .i64 fl, .int .i64 ce, (sB 2 0 1)]) [.dead, .own 39 ps, .own 39 qs] [])), (10, .call (.mk (.bool true) [] [])), (7, .call (.mk (.int .i64 e) [.own 39 ps, .own 39 qs] [])), (6, .call (.mk (.int .i64 e) [.dead] [])), (7, .dec true), (2, .dec true), (2, .dec true), (0, .call (.mk (.bool true) [.own 39 ps, .own 39 qs, .dead] [])), (2, .dec true)] = some (.mk (.bool true) [.dead] [], true, [type_of% kL, type_of% kA, type_of% kC, type_of% kR, decide (e = e) = true, decide (e = e) = true, decide (e = e) = true, type_of% kK, decide (e = e) = true]) := by kernel_rfl
theorem checks_dn (R : Res) (k_p : Res.le (.mk (.bool true) [.dead] []) R) : CallSpec (Try.prog) (3) ([fV (slD 0) fl ce slN]) ([.dead]) R := by
  exact (CallSpec.id (go_ok (exec_ok tnamed tcalm tmixed _ _ _ _) (checks_dn_p ps qs fl ce e kL kA kC kR kK ) (aC (kL) (aC (kA) (aC (kC) (aC (kR) (aC dO (aC dO (aC dO (aC (kK) (aC dO aN))))))))))).le (k_p )
end
section
variable (ps qs : List Value) (fl ce e : Int) (kL : CallSpec Try.prog 16 [fV (slD 0) fl ce (slD 1)] [.dead, .dead] (.mk (fV (lentV 2 0) fl ce (lentV 3 0)) [.dead, .dead, .own 39 ps, .own 39 qs] [])) (kA : CallSpec Try.prog 17 [] [] (.mk (.bool true) [] [])) (kC : CallSpec Try.prog 18 [fV (lentV 0 0) fl ce (lentV 1 0)] [.own 39 ps, .own 39 qs] (.mk (.int .i64 e) [.own 39 ps, .own 39 qs] [])) (kR : CallSpec Try.prog 19 [fV (slD 0) fl ce (slD 1)] [.dead, .dead] (.mk (.int .i64 e) [.dead, .dead] [])) (kK : CallSpec Try.prog 20 [fV (lentV 0 0) fl ce (lentV 1 0), fV (slD 2) fl ce (slD 3)] [.own 39 ps, .own 39 qs, .dead, .dead] (.mk (.bool true) [.own 39 ps, .own 39 qs, .dead, .dead] []))
include ps qs fl ce e kL kA kC kR kK
theorem checks_dd_p : go (exec (Try.prog) (8) (3) ([fV (slD 0) fl ce (slD 1)]) ([.dead, .dead])) [(8, .call (.mk (.agg #[(sB 2 0 1), .int .i64 fl, .int .i64 ce, (sB 3 0 1)]) [.dead, .dead, .own 39 ps, .own 39 qs] [])), (10, .call (.mk (.bool true) [] [])), (7, .call (.mk (.int .i64 e) [.own 39 ps, .own 39 qs] [])), (6, .call (.mk (.int .i64 e) [.dead, .dead] [])), (7, .dec true), (2, .dec true), (2, .dec true), (0, .call (.mk (.bool true) [.own 39 ps, .own 39 qs, .dead, .dead] [])), (2, .dec true)] = some (.mk (.bool true) [.dead, .dead] [], true, [type_of% kL, type_of% kA, type_of% kC, type_of% kR, decide (e = e) = true, decide (e = e) = true, decide (e = e) = true, type_of% kK, decide (e = e) = true]) := by kernel_rfl
theorem checks_dd (R : Res) (k_p : Res.le (.mk (.bool true) [.dead, .dead] []) R) : CallSpec (Try.prog) (3) ([fV (slD 0) fl ce (slD 1)]) ([.dead, .dead]) R := by
  exact (CallSpec.id (go_ok (exec_ok tnamed tcalm tmixed _ _ _ _) (checks_dd_p ps qs fl ce e kL kA kC kR kK ) (aC (kL) (aC (kA) (aC (kC) (aC (kR) (aC dO (aC dO (aC dO (aC (kK) (aC dO aN))))))))))).le (k_p )
end
section
variable (m : Nat) (rs ps qs : List Value) (fl ce e : Int) (kL : CallSpec Try.prog 16 [fV (slD 0) fl ce (slB 1 m m)] [.dead, .ro 39 rs] (.mk (fV (lentV 2 0) fl ce (lentV 3 m)) [.dead, .ro 39 rs, .own 39 ps, .own 39 qs] [])) (kA : CallSpec Try.prog 17 [] [] (.mk (.bool true) [] [])) (kC : CallSpec Try.prog 18 [fV (lentV 0 0) fl ce (lentV 1 m)] [.own 39 ps, .own 39 qs] (.mk (.int .i64 e) [.own 39 ps, .own 39 qs] [])) (kR : CallSpec Try.prog 19 [fV (slD 0) fl ce (slB 1 m m)] [.dead, .ro 39 rs] (.mk (.int .i64 e) [.dead, .ro 39 rs] [])) (kK : CallSpec Try.prog 20 [fV (lentV 0 0) fl ce (lentV 1 m), fV (slD 2) fl ce (slB 3 m m)] [.own 39 ps, .own 39 qs, .dead, .ro 39 rs] (.mk (.bool true) [.own 39 ps, .own 39 qs, .dead, .ro 39 rs] []))
include m rs ps qs fl ce e kL kA kC kR kK
theorem checks_db_p : go (exec (Try.prog) (8) (3) ([fV (slD 0) fl ce (slB 1 m m)]) ([.dead, .ro 39 rs])) [(8, .call (.mk (.agg #[.slice (some (.mk (List.length [Blk.dead, Blk.ro 39 rs]) 0 none)) 0 1, .int .i64 fl, .int .i64 ce, .slice (some (.mk (List.length [Blk.dead, Blk.ro 39 rs] + 1) 0 none)) m (m + 1)]) [.dead, .ro 39 rs, .own 39 ps, .own 39 qs] [])), (10, .call (.mk (.bool true) [] [])), (7, .call (.mk (.int .i64 e) [.own 39 ps, .own 39 qs] [])), (6, .call (.mk (.int .i64 e) [.dead, .ro 39 rs] [])), (7, .dec true), (2, .dec true), (2, .dec true), (0, .call (.mk (.bool true) [.own 39 ps, .own 39 qs, .dead, .ro 39 rs] [])), (2, .dec true)] = some (.mk (.bool true) [.dead, .ro 39 rs] [], true, [type_of% kL, type_of% kA, type_of% kC, type_of% kR, decide (e = e) = true, decide (e = e) = true, decide (e = e) = true, type_of% kK, decide (e = e) = true]) := by kernel_rfl
theorem checks_db (R : Res) (k_p : Res.le (.mk (.bool true) [.dead, .ro 39 rs] []) R) : CallSpec (Try.prog) (3) ([fV (slD 0) fl ce (slB 1 m m)]) ([.dead, .ro 39 rs]) R := by
  exact (CallSpec.id (go_ok (exec_ok tnamed tcalm tmixed _ _ _ _) (checks_db_p m rs ps qs fl ce e kL kA kC kR kK ) (aC (kL) (aC (kA) (aC (kC) (aC (kR) (aC dO (aC dO (aC dO (aC (kK) (aC dO aN))))))))))).le (k_p )
end
section
variable (n : Nat) (cs ps qs : List Value) (fl ce e : Int) (kL : CallSpec Try.prog 16 [fV (slB 0 n n) fl ce slN] [.ro 39 cs] (.mk (fV (lentV 1 n) fl ce (lentV 2 0)) [.ro 39 cs, .own 39 ps, .own 39 qs] [])) (kA : CallSpec Try.prog 17 [] [] (.mk (.bool true) [] [])) (kC : CallSpec Try.prog 18 [fV (lentV 0 n) fl ce (lentV 1 0)] [.own 39 ps, .own 39 qs] (.mk (.int .i64 e) [.own 39 ps, .own 39 qs] [])) (kR : CallSpec Try.prog 19 [fV (slB 0 n n) fl ce slN] [.ro 39 cs] (.mk (.int .i64 e) [.ro 39 cs] [])) (kK : CallSpec Try.prog 20 [fV (lentV 0 n) fl ce (lentV 1 0), fV (slB 2 n n) fl ce slN] [.own 39 ps, .own 39 qs, .ro 39 cs] (.mk (.bool true) [.own 39 ps, .own 39 qs, .ro 39 cs] []))
include n cs ps qs fl ce e kL kA kC kR kK
theorem checks_bn_p : go (exec (Try.prog) (8) (3) ([fV (slB 0 n n) fl ce slN]) ([.ro 39 cs])) [(8, .call (.mk (.agg #[.slice (some (.mk (List.length [Blk.ro 39 cs]) 0 none)) n (n + 1), .int .i64 fl, .int .i64 ce, .slice (some (.mk (List.length [Blk.ro 39 cs] + 1) 0 none)) 0 1]) [.ro 39 cs, .own 39 ps, .own 39 qs] [])), (10, .call (.mk (.bool true) [] [])), (7, .call (.mk (.int .i64 e) [.own 39 ps, .own 39 qs] [])), (6, .call (.mk (.int .i64 e) [.ro 39 cs] [])), (7, .dec true), (2, .dec true), (2, .dec true), (0, .call (.mk (.bool true) [.own 39 ps, .own 39 qs, .ro 39 cs] [])), (2, .dec true)] = some (.mk (.bool true) [.ro 39 cs] [], true, [type_of% kL, type_of% kA, type_of% kC, type_of% kR, decide (e = e) = true, decide (e = e) = true, decide (e = e) = true, type_of% kK, decide (e = e) = true]) := by kernel_rfl
theorem checks_bn (R : Res) (k_p : Res.le (.mk (.bool true) [.ro 39 cs] []) R) : CallSpec (Try.prog) (3) ([fV (slB 0 n n) fl ce slN]) ([.ro 39 cs]) R := by
  exact (CallSpec.id (go_ok (exec_ok tnamed tcalm tmixed _ _ _ _) (checks_bn_p n cs ps qs fl ce e kL kA kC kR kK ) (aC (kL) (aC (kA) (aC (kC) (aC (kR) (aC dO (aC dO (aC dO (aC (kK) (aC dO aN))))))))))).le (k_p )
end
section
variable (n : Nat) (cs ps qs : List Value) (fl ce e : Int) (kL : CallSpec Try.prog 16 [fV (slB 0 n n) fl ce (slD 1)] [.ro 39 cs, .dead] (.mk (fV (lentV 2 n) fl ce (lentV 3 0)) [.ro 39 cs, .dead, .own 39 ps, .own 39 qs] [])) (kA : CallSpec Try.prog 17 [] [] (.mk (.bool true) [] [])) (kC : CallSpec Try.prog 18 [fV (lentV 0 n) fl ce (lentV 1 0)] [.own 39 ps, .own 39 qs] (.mk (.int .i64 e) [.own 39 ps, .own 39 qs] [])) (kR : CallSpec Try.prog 19 [fV (slB 0 n n) fl ce (slD 1)] [.ro 39 cs, .dead] (.mk (.int .i64 e) [.ro 39 cs, .dead] [])) (kK : CallSpec Try.prog 20 [fV (lentV 0 n) fl ce (lentV 1 0), fV (slB 2 n n) fl ce (slD 3)] [.own 39 ps, .own 39 qs, .ro 39 cs, .dead] (.mk (.bool true) [.own 39 ps, .own 39 qs, .ro 39 cs, .dead] []))
include n cs ps qs fl ce e kL kA kC kR kK
theorem checks_bd_p : go (exec (Try.prog) (8) (3) ([fV (slB 0 n n) fl ce (slD 1)]) ([.ro 39 cs, .dead])) [(8, .call (.mk (.agg #[.slice (some (.mk (List.length [Blk.ro 39 cs, Blk.dead]) 0 none)) n (n + 1), .int .i64 fl, .int .i64 ce, .slice (some (.mk (List.length [Blk.ro 39 cs, Blk.dead] + 1) 0 none)) 0 1]) [.ro 39 cs, .dead, .own 39 ps, .own 39 qs] [])), (10, .call (.mk (.bool true) [] [])), (7, .call (.mk (.int .i64 e) [.own 39 ps, .own 39 qs] [])), (6, .call (.mk (.int .i64 e) [.ro 39 cs, .dead] [])), (7, .dec true), (2, .dec true), (2, .dec true), (0, .call (.mk (.bool true) [.own 39 ps, .own 39 qs, .ro 39 cs, .dead] [])), (2, .dec true)] = some (.mk (.bool true) [.ro 39 cs, .dead] [], true, [type_of% kL, type_of% kA, type_of% kC, type_of% kR, decide (e = e) = true, decide (e = e) = true, decide (e = e) = true, type_of% kK, decide (e = e) = true]) := by kernel_rfl
theorem checks_bd (R : Res) (k_p : Res.le (.mk (.bool true) [.ro 39 cs, .dead] []) R) : CallSpec (Try.prog) (3) ([fV (slB 0 n n) fl ce (slD 1)]) ([.ro 39 cs, .dead]) R := by
  exact (CallSpec.id (go_ok (exec_ok tnamed tcalm tmixed _ _ _ _) (checks_bd_p n cs ps qs fl ce e kL kA kC kR kK ) (aC (kL) (aC (kA) (aC (kC) (aC (kR) (aC dO (aC dO (aC dO (aC (kK) (aC dO aN))))))))))).le (k_p )
end
section
variable (n : Nat) (cs : List Value) (m : Nat) (rs ps qs : List Value) (fl ce e : Int) (kL : CallSpec Try.prog 16 [fV (slB 0 n n) fl ce (slB 1 m m)] [.ro 39 cs, .ro 39 rs] (.mk (fV (lentV 2 n) fl ce (lentV 3 m)) [.ro 39 cs, .ro 39 rs, .own 39 ps, .own 39 qs] [])) (kA : CallSpec Try.prog 17 [] [] (.mk (.bool true) [] [])) (kC : CallSpec Try.prog 18 [fV (lentV 0 n) fl ce (lentV 1 m)] [.own 39 ps, .own 39 qs] (.mk (.int .i64 e) [.own 39 ps, .own 39 qs] [])) (kR : CallSpec Try.prog 19 [fV (slB 0 n n) fl ce (slB 1 m m)] [.ro 39 cs, .ro 39 rs] (.mk (.int .i64 e) [.ro 39 cs, .ro 39 rs] [])) (kK : CallSpec Try.prog 20 [fV (lentV 0 n) fl ce (lentV 1 m), fV (slB 2 n n) fl ce (slB 3 m m)] [.own 39 ps, .own 39 qs, .ro 39 cs, .ro 39 rs] (.mk (.bool true) [.own 39 ps, .own 39 qs, .ro 39 cs, .ro 39 rs] []))
include n cs m rs ps qs fl ce e kL kA kC kR kK
theorem checks_bb_p : go (exec (Try.prog) (8) (3) ([fV (slB 0 n n) fl ce (slB 1 m m)]) ([.ro 39 cs, .ro 39 rs])) [(8, .call (.mk (.agg #[.slice (some (.mk (List.length [Blk.ro 39 cs, Blk.ro 39 rs]) 0 none)) n (n + 1), .int .i64 fl, .int .i64 ce, .slice (some (.mk (List.length [Blk.ro 39 cs, Blk.ro 39 rs] + 1) 0 none)) m (m + 1)]) [.ro 39 cs, .ro 39 rs, .own 39 ps, .own 39 qs] [])), (10, .call (.mk (.bool true) [] [])), (7, .call (.mk (.int .i64 e) [.own 39 ps, .own 39 qs] [])), (6, .call (.mk (.int .i64 e) [.ro 39 cs, .ro 39 rs] [])), (7, .dec true), (2, .dec true), (2, .dec true), (0, .call (.mk (.bool true) [.own 39 ps, .own 39 qs, .ro 39 cs, .ro 39 rs] [])), (2, .dec true)] = some (.mk (.bool true) [.ro 39 cs, .ro 39 rs] [], true, [type_of% kL, type_of% kA, type_of% kC, type_of% kR, decide (e = e) = true, decide (e = e) = true, decide (e = e) = true, type_of% kK, decide (e = e) = true]) := by kernel_rfl
theorem checks_bb (R : Res) (k_p : Res.le (.mk (.bool true) [.ro 39 cs, .ro 39 rs] []) R) : CallSpec (Try.prog) (3) ([fV (slB 0 n n) fl ce (slB 1 m m)]) ([.ro 39 cs, .ro 39 rs]) R := by
  exact (CallSpec.id (go_ok (exec_ok tnamed tcalm tmixed _ _ _ _) (checks_bb_p n cs m rs ps qs fl ce e kL kA kC kR kK ) (aC (kL) (aC (kA) (aC (kC) (aC (kR) (aC dO (aC dO (aC dO (aC (kK) (aC dO aN))))))))))).le (k_p )
end
end Go.Proofs.Ytjalkjeldlchoaa.Ex
end
section
set_option linter.unusedSectionVars false
set_option linter.unusedSimpArgs false
set_option linter.unusedVariables false
namespace Go.Proofs.Ytjalkjeldlchoaa.Ex
open Go Go.ChangeShapes Go.WideShapes Go.ChangeAt Go.RowKit Go.Proofs.Ytjalkjeldlchoaa.X
set_option linter.unusedVariables false
theorem checks_law (kA : CallSpec Try.prog 17 [] [] ⟨.bool true, [], []⟩) (P R : Pk) (fl ce : Int) (hP : P.Fits) (hR : R.Fits) : CallSpec Try.prog 3 [fA P R fl ce] (fH P R) ⟨.bool true, fH P R, []⟩ := by
  have kL := lent_done P R fl ce hP hR
  have kC := check_own P R fl ce hP
  have kR := rcheck_done P R fl ce
  have kK := kept_done P R fl ce hP hR
  cases P <;> cases R
  · exact checks_nn _ _ _ _ _ kL kA kC kR kK _ res_refl
  · exact checks_nd _ _ _ _ _ kL kA kC kR kK _ res_refl
  · exact checks_nb _ _ _ _ _ _ _ kL kA kC kR kK _ res_refl
  · exact checks_dn _ _ _ _ _ kL kA kC kR kK _ res_refl
  · exact checks_dd _ _ _ _ _ kL kA kC kR kK _ res_refl
  · exact checks_db _ _ _ _ _ _ _ kL kA kC kR kK _ res_refl
  · exact checks_bn _ _ _ _ _ _ _ kL kA kC kR kK _ res_refl
  · exact checks_bd _ _ _ _ _ _ _ kL kA kC kR kK _ res_refl
  · exact checks_bb _ _ _ _ _ _ _ _ _ kL kA kC kR kK _ res_refl
end Go.Proofs.Ytjalkjeldlchoaa.Ex
end
