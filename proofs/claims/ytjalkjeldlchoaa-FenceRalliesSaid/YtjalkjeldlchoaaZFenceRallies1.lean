import Derived.Test.YtjalkjeldlchoaaZFnc5
section
set_option linter.unusedSectionVars false
set_option linter.unusedSimpArgs false
set_option linter.unusedVariables false
namespace Go.Proofs.Ytjalkjeldlchoaa.Ex
open Go
set_option linter.unusedVariables false
section
variable (ps qs : List Value) (fl ce p q k t e : Int) (kL : CallSpec Try.prog 16 [fV slN fl ce slN] [] (.mk (fV (lentV 0 0) fl ce (lentV 1 0)) [.own 39 ps, .own 39 qs] [])) (kA : CallSpec Try.prog 17 [] [] (.mk (.bool true) [] [])) (kC : CallSpec Try.prog 25 [fV (lentV 0 0) fl ce (lentV 1 0), pV p q, .int .i64 k] [.own 39 ps, .own 39 qs] (.mk (.tuple #[.int .i64 t, .int .i64 e]) [.own 39 ps, .own 39 qs] [])) (kR : CallSpec Try.prog 26 [fV slN fl ce slN, pV p q, .int .i64 k] [] (.mk (.tuple #[.int .i64 t, .int .i64 e]) [] [])) (kK : CallSpec Try.prog 20 [fV (lentV 0 0) fl ce (lentV 1 0), fV slN fl ce slN] [.own 39 ps, .own 39 qs] (.mk (.bool true) [.own 39 ps, .own 39 qs] []))
include ps qs fl ce p q k t e kL kA kC kR kK
theorem lrallies_nn_p : go (exec (Try.prog) (8) (6) ([fV slN fl ce slN, pV p q, .int .i64 k]) ([])) [(11, .call (.mk (.agg #[(sB 0 0 1), .int .i64 fl, .int .i64 ce, (sB 1 0 1)]) [.own 39 ps, .own 39 qs] [])), (15, .call (.mk (.tuple #[.int .i64 t, .int .i64 e]) [.own 39 ps, .own 39 qs] [])), (13, .call (.mk (.tuple #[.int .i64 t, .int .i64 e]) [] [])), (8, .call (.mk (.bool true) [] [])), (12, .dec true), (1, .dec true), (1, .dec true), (1, .dec true), (2, .dec true), (2, .dec true), (2, .dec true), (0, .call (.mk (.bool true) [.own 39 ps, .own 39 qs] [])), (2, .dec true)] = some (.mk (.bool true) [] [], true, [type_of% kL, type_of% kC, type_of% kR, type_of% kA, decide (t = t) = true, decide (t = t) = true, decide (t = t) = true, decide (t = t) = true, decide (e = e) = true, decide (e = e) = true, decide (e = e) = true, type_of% kK, decide (e = e) = true]) := by kernel_rfl
theorem lrallies_nn (R : Res) (k_p : Res.le (.mk (.bool true) [] []) R) : CallSpec (Try.prog) (6) ([fV slN fl ce slN, pV p q, .int .i64 k]) ([]) R := by
  exact (CallSpec.id (go_ok (exec_ok tnamed tcalm tmixed _ _ _ _) (lrallies_nn_p ps qs fl ce p q k t e kL kA kC kR kK ) (aC (kL) (aC (kC) (aC (kR) (aC (kA) (aC dO (aC dO (aC dO (aC dO (aC dO (aC dO (aC dO (aC (kK) (aC dO aN))))))))))))))).le (k_p )
end
section
variable (ps qs : List Value) (fl ce p q k t e : Int) (kL : CallSpec Try.prog 16 [fV slN fl ce (slD 0)] [.dead] (.mk (fV (lentV 1 0) fl ce (lentV 2 0)) [.dead, .own 39 ps, .own 39 qs] [])) (kA : CallSpec Try.prog 17 [] [] (.mk (.bool true) [] [])) (kC : CallSpec Try.prog 25 [fV (lentV 0 0) fl ce (lentV 1 0), pV p q, .int .i64 k] [.own 39 ps, .own 39 qs] (.mk (.tuple #[.int .i64 t, .int .i64 e]) [.own 39 ps, .own 39 qs] [])) (kR : CallSpec Try.prog 26 [fV slN fl ce (slD 0), pV p q, .int .i64 k] [.dead] (.mk (.tuple #[.int .i64 t, .int .i64 e]) [.dead] [])) (kK : CallSpec Try.prog 20 [fV (lentV 0 0) fl ce (lentV 1 0), fV slN fl ce (slD 2)] [.own 39 ps, .own 39 qs, .dead] (.mk (.bool true) [.own 39 ps, .own 39 qs, .dead] []))
include ps qs fl ce p q k t e kL kA kC kR kK
theorem lrallies_nd_p : go (exec (Try.prog) (8) (6) ([fV slN fl ce (slD 0), pV p q, .int .i64 k]) ([.dead])) [(11, .call (.mk (.agg #[(sB 1 0 1), .int .i64 fl, .int .i64 ce, (sB 2 0 1)]) [.dead, .own 39 ps, .own 39 qs] [])), (15, .call (.mk (.tuple #[.int .i64 t, .int .i64 e]) [.own 39 ps, .own 39 qs] [])), (13, .call (.mk (.tuple #[.int .i64 t, .int .i64 e]) [.dead] [])), (8, .call (.mk (.bool true) [] [])), (12, .dec true), (1, .dec true), (1, .dec true), (1, .dec true), (2, .dec true), (2, .dec true), (2, .dec true), (0, .call (.mk (.bool true) [.own 39 ps, .own 39 qs, .dead] [])), (2, .dec true)] = some (.mk (.bool true) [.dead] [], true, [type_of% kL, type_of% kC, type_of% kR, type_of% kA, decide (t = t) = true, decide (t = t) = true, decide (t = t) = true, decide (t = t) = true, decide (e = e) = true, decide (e = e) = true, decide (e = e) = true, type_of% kK, decide (e = e) = true]) := by kernel_rfl
theorem lrallies_nd (R : Res) (k_p : Res.le (.mk (.bool true) [.dead] []) R) : CallSpec (Try.prog) (6) ([fV slN fl ce (slD 0), pV p q, .int .i64 k]) ([.dead]) R := by
  exact (CallSpec.id (go_ok (exec_ok tnamed tcalm tmixed _ _ _ _) (lrallies_nd_p ps qs fl ce p q k t e kL kA kC kR kK ) (aC (kL) (aC (kC) (aC (kR) (aC (kA) (aC dO (aC dO (aC dO (aC dO (aC dO (aC dO (aC dO (aC (kK) (aC dO aN))))))))))))))).le (k_p )
end
section
variable (m : Nat) (rs ps qs : List Value) (fl ce p q k t e : Int) (kL : CallSpec Try.prog 16 [fV slN fl ce (slB 0 m m)] [.ro 39 rs] (.mk (fV (lentV 1 0) fl ce (lentV 2 m)) [.ro 39 rs, .own 39 ps, .own 39 qs] [])) (kA : CallSpec Try.prog 17 [] [] (.mk (.bool true) [] [])) (kC : CallSpec Try.prog 25 [fV (lentV 0 0) fl ce (lentV 1 m), pV p q, .int .i64 k] [.own 39 ps, .own 39 qs] (.mk (.tuple #[.int .i64 t, .int .i64 e]) [.own 39 ps, .own 39 qs] [])) (kR : CallSpec Try.prog 26 [fV slN fl ce (slB 0 m m), pV p q, .int .i64 k] [.ro 39 rs] (.mk (.tuple #[.int .i64 t, .int .i64 e]) [.ro 39 rs] [])) (kK : CallSpec Try.prog 20 [fV (lentV 0 0) fl ce (lentV 1 m), fV slN fl ce (slB 2 m m)] [.own 39 ps, .own 39 qs, .ro 39 rs] (.mk (.bool true) [.own 39 ps, .own 39 qs, .ro 39 rs] []))
include m rs ps qs fl ce p q k t e kL kA kC kR kK
theorem lrallies_nb_p : go (exec (Try.prog) (8) (6) ([fV slN fl ce (slB 0 m m), pV p q, .int .i64 k]) ([.ro 39 rs])) [(11, .call (.mk (.agg #[.slice (some (.mk (List.length [Blk.ro 39 rs]) 0 none)) 0 1, .int .i64 fl, .int .i64 ce, .slice (some (.mk (List.length [Blk.ro 39 rs] + 1) 0 none)) m (m + 1)]) [.ro 39 rs, .own 39 ps, .own 39 qs] [])), (15, .call (.mk (.tuple #[.int .i64 t, .int .i64 e]) [.own 39 ps, .own 39 qs] [])), (13, .call (.mk (.tuple #[.int .i64 t, .int .i64 e]) [.ro 39 rs] [])), (8, .call (.mk (.bool true) [] [])), (12, .dec true), (1, .dec true), (1, .dec true), (1, .dec true), (2, .dec true), (2, .dec true), (2, .dec true), (0, .call (.mk (.bool true) [.own 39 ps, .own 39 qs, .ro 39 rs] [])), (2, .dec true)] = some (.mk (.bool true) [.ro 39 rs] [], true, [type_of% kL, type_of% kC, type_of% kR, type_of% kA, decide (t = t) = true, decide (t = t) = true, decide (t = t) = true, decide (t = t) = true, decide (e = e) = true, decide (e = e) = true, decide (e = e) = true, type_of% kK, decide (e = e) = true]) := by kernel_rfl
theorem lrallies_nb (R : Res) (k_p : Res.le (.mk (.bool true) [.ro 39 rs] []) R) : CallSpec (Try.prog) (6) ([fV slN fl ce (slB 0 m m), pV p q, .int .i64 k]) ([.ro 39 rs]) R := by
  exact (CallSpec.id (go_ok (exec_ok tnamed tcalm tmixed _ _ _ _) (lrallies_nb_p m rs ps qs fl ce p q k t e kL kA kC kR kK ) (aC (kL) (aC (kC) (aC (kR) (aC (kA) (aC dO (aC dO (aC dO (aC dO (aC dO (aC dO (aC dO (aC (kK) (aC dO aN))))))))))))))).le (k_p )
end
section
variable (ps qs : List Value) (fl ce p q k t e : Int) (kL : CallSpec Try.prog 16 [fV (slD 0) fl ce slN] [.dead] (.mk (fV (lentV 1 0) fl ce (lentV 2 0)) [.dead, .own 39 ps, .own 39 qs] [])) (kA : CallSpec Try.prog 17 [] [] (.mk (.bool true) [] [])) (kC : CallSpec Try.prog 25 [fV (lentV 0 0) fl ce (lentV 1 0), pV p q, .int .i64 k] [.own 39 ps, .own 39 qs] (.mk (.tuple #[.int .i64 t, .int .i64 e]) [.own 39 ps, .own 39 qs] [])) (kR : CallSpec Try.prog 26 [fV (slD 0) fl ce slN, pV p q, .int .i64 k] [.dead] (.mk (.tuple #[.int .i64 t, .int .i64 e]) [.dead] [])) (kK : CallSpec Try.prog 20 [fV (lentV 0 0) fl ce (lentV 1 0), fV (slD 2) fl ce slN] [.own 39 ps, .own 39 qs, .dead] (.mk (.bool true) [.own 39 ps, .own 39 qs, .dead] []))
include ps qs fl ce p q k t e kL kA kC kR kK
theorem lrallies_dn_p : go (exec (Try.prog) (8) (6) ([fV (slD 0) fl ce slN, pV p q, .int .i64 k]) ([.dead])) [(11, .call (.mk (.agg #[(sB 1 0 1), .int .i64 fl, .int .i64 ce, (sB 2 0 1)]) [.dead, .own 39 ps, .own 39 qs] [])), (15, .call (.mk (.tuple #[.int .i64 t, .int .i64 e]) [.own 39 ps, .own 39 qs] [])), (13, .call (.mk (.tuple #[.int .i64 t, .int .i64 e]) [.dead] [])), (8, .call (.mk (.bool true) [] [])), (12, .dec true), (1, .dec true), (1, .dec true), (1, .dec true), (2, .dec true), (2, .dec true), (2, .dec true), (0, .call (.mk (.bool true) [.own 39 ps, .own 39 qs, .dead] [])), (2, .dec true)] = some (.mk (.bool true) [.dead] [], true, [type_of% kL, type_of% kC, type_of% kR, type_of% kA, decide (t = t) = true, decide (t = t) = true, decide (t = t) = true, decide (t = t) = true, decide (e = e) = true, decide (e = e) = true, decide (e = e) = true, type_of% kK, decide (e = e) = true]) := by kernel_rfl
theorem lrallies_dn (R : Res) (k_p : Res.le (.mk (.bool true) [.dead] []) R) : CallSpec (Try.prog) (6) ([fV (slD 0) fl ce slN, pV p q, .int .i64 k]) ([.dead]) R := by
  exact (CallSpec.id (go_ok (exec_ok tnamed tcalm tmixed _ _ _ _) (lrallies_dn_p ps qs fl ce p q k t e kL kA kC kR kK ) (aC (kL) (aC (kC) (aC (kR) (aC (kA) (aC dO (aC dO (aC dO (aC dO (aC dO (aC dO (aC dO (aC (kK) (aC dO aN))))))))))))))).le (k_p )
end
section
variable (ps qs : List Value) (fl ce p q k t e : Int) (kL : CallSpec Try.prog 16 [fV (slD 0) fl ce (slD 1)] [.dead, .dead] (.mk (fV (lentV 2 0) fl ce (lentV 3 0)) [.dead, .dead, .own 39 ps, .own 39 qs] [])) (kA : CallSpec Try.prog 17 [] [] (.mk (.bool true) [] [])) (kC : CallSpec Try.prog 25 [fV (lentV 0 0) fl ce (lentV 1 0), pV p q, .int .i64 k] [.own 39 ps, .own 39 qs] (.mk (.tuple #[.int .i64 t, .int .i64 e]) [.own 39 ps, .own 39 qs] [])) (kR : CallSpec Try.prog 26 [fV (slD 0) fl ce (slD 1), pV p q, .int .i64 k] [.dead, .dead] (.mk (.tuple #[.int .i64 t, .int .i64 e]) [.dead, .dead] [])) (kK : CallSpec Try.prog 20 [fV (lentV 0 0) fl ce (lentV 1 0), fV (slD 2) fl ce (slD 3)] [.own 39 ps, .own 39 qs, .dead, .dead] (.mk (.bool true) [.own 39 ps, .own 39 qs, .dead, .dead] []))
include ps qs fl ce p q k t e kL kA kC kR kK
theorem lrallies_dd_p : go (exec (Try.prog) (8) (6) ([fV (slD 0) fl ce (slD 1), pV p q, .int .i64 k]) ([.dead, .dead])) [(11, .call (.mk (.agg #[(sB 2 0 1), .int .i64 fl, .int .i64 ce, (sB 3 0 1)]) [.dead, .dead, .own 39 ps, .own 39 qs] [])), (15, .call (.mk (.tuple #[.int .i64 t, .int .i64 e]) [.own 39 ps, .own 39 qs] [])), (13, .call (.mk (.tuple #[.int .i64 t, .int .i64 e]) [.dead, .dead] [])), (8, .call (.mk (.bool true) [] [])), (12, .dec true), (1, .dec true), (1, .dec true), (1, .dec true), (2, .dec true), (2, .dec true), (2, .dec true), (0, .call (.mk (.bool true) [.own 39 ps, .own 39 qs, .dead, .dead] [])), (2, .dec true)] = some (.mk (.bool true) [.dead, .dead] [], true, [type_of% kL, type_of% kC, type_of% kR, type_of% kA, decide (t = t) = true, decide (t = t) = true, decide (t = t) = true, decide (t = t) = true, decide (e = e) = true, decide (e = e) = true, decide (e = e) = true, type_of% kK, decide (e = e) = true]) := by kernel_rfl
theorem lrallies_dd (R : Res) (k_p : Res.le (.mk (.bool true) [.dead, .dead] []) R) : CallSpec (Try.prog) (6) ([fV (slD 0) fl ce (slD 1), pV p q, .int .i64 k]) ([.dead, .dead]) R := by
  exact (CallSpec.id (go_ok (exec_ok tnamed tcalm tmixed _ _ _ _) (lrallies_dd_p ps qs fl ce p q k t e kL kA kC kR kK ) (aC (kL) (aC (kC) (aC (kR) (aC (kA) (aC dO (aC dO (aC dO (aC dO (aC dO (aC dO (aC dO (aC (kK) (aC dO aN))))))))))))))).le (k_p )
end
section
variable (m : Nat) (rs ps qs : List Value) (fl ce p q k t e : Int) (kL : CallSpec Try.prog 16 [fV (slD 0) fl ce (slB 1 m m)] [.dead, .ro 39 rs] (.mk (fV (lentV 2 0) fl ce (lentV 3 m)) [.dead, .ro 39 rs, .own 39 ps, .own 39 qs] [])) (kA : CallSpec Try.prog 17 [] [] (.mk (.bool true) [] [])) (kC : CallSpec Try.prog 25 [fV (lentV 0 0) fl ce (lentV 1 m), pV p q, .int .i64 k] [.own 39 ps, .own 39 qs] (.mk (.tuple #[.int .i64 t, .int .i64 e]) [.own 39 ps, .own 39 qs] [])) (kR : CallSpec Try.prog 26 [fV (slD 0) fl ce (slB 1 m m), pV p q, .int .i64 k] [.dead, .ro 39 rs] (.mk (.tuple #[.int .i64 t, .int .i64 e]) [.dead, .ro 39 rs] [])) (kK : CallSpec Try.prog 20 [fV (lentV 0 0) fl ce (lentV 1 m), fV (slD 2) fl ce (slB 3 m m)] [.own 39 ps, .own 39 qs, .dead, .ro 39 rs] (.mk (.bool true) [.own 39 ps, .own 39 qs, .dead, .ro 39 rs] []))
include m rs ps qs fl ce p q k t e kL kA kC kR kK
theorem lrallies_db_p : go (exec (Try.prog) (8) (6) ([fV (slD 0) fl ce (slB 1 m m), pV p q, .int .i64 k]) ([.dead, .ro 39 rs])) [(11, .call (.mk (.agg #[.slice (some (.mk (List.length [Blk.dead, Blk.ro 39 rs]) 0 none)) 0 1, .int .i64 fl, .int .i64 ce, .slice (some (.mk (List.length [Blk.dead, Blk.ro 39 rs] + 1) 0 none)) m (m + 1)]) [.dead, .ro 39 rs, .own 39 ps, .own 39 qs] [])), (15, .call (.mk (.tuple #[.int .i64 t, .int .i64 e]) [.own 39 ps, .own 39 qs] [])), (13, .call (.mk (.tuple #[.int .i64 t, .int .i64 e]) [.dead, .ro 39 rs] [])), (8, .call (.mk (.bool true) [] [])), (12, .dec true), (1, .dec true), (1, .dec true), (1, .dec true), (2, .dec true), (2, .dec true), (2, .dec true), (0, .call (.mk (.bool true) [.own 39 ps, .own 39 qs, .dead, .ro 39 rs] [])), (2, .dec true)] = some (.mk (.bool true) [.dead, .ro 39 rs] [], true, [type_of% kL, type_of% kC, type_of% kR, type_of% kA, decide (t = t) = true, decide (t = t) = true, decide (t = t) = true, decide (t = t) = true, decide (e = e) = true, decide (e = e) = true, decide (e = e) = true, type_of% kK, decide (e = e) = true]) := by kernel_rfl
theorem lrallies_db (R : Res) (k_p : Res.le (.mk (.bool true) [.dead, .ro 39 rs] []) R) : CallSpec (Try.prog) (6) ([fV (slD 0) fl ce (slB 1 m m), pV p q, .int .i64 k]) ([.dead, .ro 39 rs]) R := by
  exact (CallSpec.id (go_ok (exec_ok tnamed tcalm tmixed _ _ _ _) (lrallies_db_p m rs ps qs fl ce p q k t e kL kA kC kR kK ) (aC (kL) (aC (kC) (aC (kR) (aC (kA) (aC dO (aC dO (aC dO (aC dO (aC dO (aC dO (aC dO (aC (kK) (aC dO aN))))))))))))))).le (k_p )
end
section
variable (n : Nat) (cs ps qs : List Value) (fl ce p q k t e : Int) (kL : CallSpec Try.prog 16 [fV (slB 0 n n) fl ce slN] [.ro 39 cs] (.mk (fV (lentV 1 n) fl ce (lentV 2 0)) [.ro 39 cs, .own 39 ps, .own 39 qs] [])) (kA : CallSpec Try.prog 17 [] [] (.mk (.bool true) [] [])) (kC : CallSpec Try.prog 25 [fV (lentV 0 n) fl ce (lentV 1 0), pV p q, .int .i64 k] [.own 39 ps, .own 39 qs] (.mk (.tuple #[.int .i64 t, .int .i64 e]) [.own 39 ps, .own 39 qs] [])) (kR : CallSpec Try.prog 26 [fV (slB 0 n n) fl ce slN, pV p q, .int .i64 k] [.ro 39 cs] (.mk (.tuple #[.int .i64 t, .int .i64 e]) [.ro 39 cs] [])) (kK : CallSpec Try.prog 20 [fV (lentV 0 n) fl ce (lentV 1 0), fV (slB 2 n n) fl ce slN] [.own 39 ps, .own 39 qs, .ro 39 cs] (.mk (.bool true) [.own 39 ps, .own 39 qs, .ro 39 cs] []))
include n cs ps qs fl ce p q k t e kL kA kC kR kK
theorem lrallies_bn_p : go (exec (Try.prog) (8) (6) ([fV (slB 0 n n) fl ce slN, pV p q, .int .i64 k]) ([.ro 39 cs])) [(11, .call (.mk (.agg #[.slice (some (.mk (List.length [Blk.ro 39 cs]) 0 none)) n (n + 1), .int .i64 fl, .int .i64 ce, .slice (some (.mk (List.length [Blk.ro 39 cs] + 1) 0 none)) 0 1]) [.ro 39 cs, .own 39 ps, .own 39 qs] [])), (15, .call (.mk (.tuple #[.int .i64 t, .int .i64 e]) [.own 39 ps, .own 39 qs] [])), (13, .call (.mk (.tuple #[.int .i64 t, .int .i64 e]) [.ro 39 cs] [])), (8, .call (.mk (.bool true) [] [])), (12, .dec true), (1, .dec true), (1, .dec true), (1, .dec true), (2, .dec true), (2, .dec true), (2, .dec true), (0, .call (.mk (.bool true) [.own 39 ps, .own 39 qs, .ro 39 cs] [])), (2, .dec true)] = some (.mk (.bool true) [.ro 39 cs] [], true, [type_of% kL, type_of% kC, type_of% kR, type_of% kA, decide (t = t) = true, decide (t = t) = true, decide (t = t) = true, decide (t = t) = true, decide (e = e) = true, decide (e = e) = true, decide (e = e) = true, type_of% kK, decide (e = e) = true]) := by kernel_rfl
theorem lrallies_bn (R : Res) (k_p : Res.le (.mk (.bool true) [.ro 39 cs] []) R) : CallSpec (Try.prog) (6) ([fV (slB 0 n n) fl ce slN, pV p q, .int .i64 k]) ([.ro 39 cs]) R := by
  exact (CallSpec.id (go_ok (exec_ok tnamed tcalm tmixed _ _ _ _) (lrallies_bn_p n cs ps qs fl ce p q k t e kL kA kC kR kK ) (aC (kL) (aC (kC) (aC (kR) (aC (kA) (aC dO (aC dO (aC dO (aC dO (aC dO (aC dO (aC dO (aC (kK) (aC dO aN))))))))))))))).le (k_p )
end
section
variable (n : Nat) (cs ps qs : List Value) (fl ce p q k t e : Int) (kL : CallSpec Try.prog 16 [fV (slB 0 n n) fl ce (slD 1)] [.ro 39 cs, .dead] (.mk (fV (lentV 2 n) fl ce (lentV 3 0)) [.ro 39 cs, .dead, .own 39 ps, .own 39 qs] [])) (kA : CallSpec Try.prog 17 [] [] (.mk (.bool true) [] [])) (kC : CallSpec Try.prog 25 [fV (lentV 0 n) fl ce (lentV 1 0), pV p q, .int .i64 k] [.own 39 ps, .own 39 qs] (.mk (.tuple #[.int .i64 t, .int .i64 e]) [.own 39 ps, .own 39 qs] [])) (kR : CallSpec Try.prog 26 [fV (slB 0 n n) fl ce (slD 1), pV p q, .int .i64 k] [.ro 39 cs, .dead] (.mk (.tuple #[.int .i64 t, .int .i64 e]) [.ro 39 cs, .dead] [])) (kK : CallSpec Try.prog 20 [fV (lentV 0 n) fl ce (lentV 1 0), fV (slB 2 n n) fl ce (slD 3)] [.own 39 ps, .own 39 qs, .ro 39 cs, .dead] (.mk (.bool true) [.own 39 ps, .own 39 qs, .ro 39 cs, .dead] []))
include n cs ps qs fl ce p q k t e kL kA kC kR kK
theorem lrallies_bd_p : go (exec (Try.prog) (8) (6) ([fV (slB 0 n n) fl ce (slD 1), pV p q, .int .i64 k]) ([.ro 39 cs, .dead])) [(11, .call (.mk (.agg #[.slice (some (.mk (List.length [Blk.ro 39 cs, Blk.dead]) 0 none)) n (n + 1), .int .i64 fl, .int .i64 ce, .slice (some (.mk (List.length [Blk.ro 39 cs, Blk.dead] + 1) 0 none)) 0 1]) [.ro 39 cs, .dead, .own 39 ps, .own 39 qs] [])), (15, .call (.mk (.tuple #[.int .i64 t, .int .i64 e]) [.own 39 ps, .own 39 qs] [])), (13, .call (.mk (.tuple #[.int .i64 t, .int .i64 e]) [.ro 39 cs, .dead] [])), (8, .call (.mk (.bool true) [] [])), (12, .dec true), (1, .dec true), (1, .dec true), (1, .dec true), (2, .dec true), (2, .dec true), (2, .dec true), (0, .call (.mk (.bool true) [.own 39 ps, .own 39 qs, .ro 39 cs, .dead] [])), (2, .dec true)] = some (.mk (.bool true) [.ro 39 cs, .dead] [], true, [type_of% kL, type_of% kC, type_of% kR, type_of% kA, decide (t = t) = true, decide (t = t) = true, decide (t = t) = true, decide (t = t) = true, decide (e = e) = true, decide (e = e) = true, decide (e = e) = true, type_of% kK, decide (e = e) = true]) := by kernel_rfl
theorem lrallies_bd (R : Res) (k_p : Res.le (.mk (.bool true) [.ro 39 cs, .dead] []) R) : CallSpec (Try.prog) (6) ([fV (slB 0 n n) fl ce (slD 1), pV p q, .int .i64 k]) ([.ro 39 cs, .dead]) R := by
  exact (CallSpec.id (go_ok (exec_ok tnamed tcalm tmixed _ _ _ _) (lrallies_bd_p n cs ps qs fl ce p q k t e kL kA kC kR kK ) (aC (kL) (aC (kC) (aC (kR) (aC (kA) (aC dO (aC dO (aC dO (aC dO (aC dO (aC dO (aC dO (aC (kK) (aC dO aN))))))))))))))).le (k_p )
end
section
variable (n : Nat) (cs : List Value) (m : Nat) (rs ps qs : List Value) (fl ce p q k t e : Int) (kL : CallSpec Try.prog 16 [fV (slB 0 n n) fl ce (slB 1 m m)] [.ro 39 cs, .ro 39 rs] (.mk (fV (lentV 2 n) fl ce (lentV 3 m)) [.ro 39 cs, .ro 39 rs, .own 39 ps, .own 39 qs] [])) (kA : CallSpec Try.prog 17 [] [] (.mk (.bool true) [] [])) (kC : CallSpec Try.prog 25 [fV (lentV 0 n) fl ce (lentV 1 m), pV p q, .int .i64 k] [.own 39 ps, .own 39 qs] (.mk (.tuple #[.int .i64 t, .int .i64 e]) [.own 39 ps, .own 39 qs] [])) (kR : CallSpec Try.prog 26 [fV (slB 0 n n) fl ce (slB 1 m m), pV p q, .int .i64 k] [.ro 39 cs, .ro 39 rs] (.mk (.tuple #[.int .i64 t, .int .i64 e]) [.ro 39 cs, .ro 39 rs] [])) (kK : CallSpec Try.prog 20 [fV (lentV 0 n) fl ce (lentV 1 m), fV (slB 2 n n) fl ce (slB 3 m m)] [.own 39 ps, .own 39 qs, .ro 39 cs, .ro 39 rs] (.mk (.bool true) [.own 39 ps, .own 39 qs, .ro 39 cs, .ro 39 rs] []))
include n cs m rs ps qs fl ce p q k t e kL kA kC kR kK
theorem lrallies_bb_p : go (exec (Try.prog) (8) (6) ([fV (slB 0 n n) fl ce (slB 1 m m), pV p q, .int .i64 k]) ([.ro 39 cs, .ro 39 rs])) [(11, .call (.mk (.agg #[.slice (some (.mk (List.length [Blk.ro 39 cs, Blk.ro 39 rs]) 0 none)) n (n + 1), .int .i64 fl, .int .i64 ce, .slice (some (.mk (List.length [Blk.ro 39 cs, Blk.ro 39 rs] + 1) 0 none)) m (m + 1)]) [.ro 39 cs, .ro 39 rs, .own 39 ps, .own 39 qs] [])), (15, .call (.mk (.tuple #[.int .i64 t, .int .i64 e]) [.own 39 ps, .own 39 qs] [])), (13, .call (.mk (.tuple #[.int .i64 t, .int .i64 e]) [.ro 39 cs, .ro 39 rs] [])), (8, .call (.mk (.bool true) [] [])), (12, .dec true), (1, .dec true), (1, .dec true), (1, .dec true), (2, .dec true), (2, .dec true), (2, .dec true), (0, .call (.mk (.bool true) [.own 39 ps, .own 39 qs, .ro 39 cs, .ro 39 rs] [])), (2, .dec true)] = some (.mk (.bool true) [.ro 39 cs, .ro 39 rs] [], true, [type_of% kL, type_of% kC, type_of% kR, type_of% kA, decide (t = t) = true, decide (t = t) = true, decide (t = t) = true, decide (t = t) = true, decide (e = e) = true, decide (e = e) = true, decide (e = e) = true, type_of% kK, decide (e = e) = true]) := by kernel_rfl
theorem lrallies_bb (R : Res) (k_p : Res.le (.mk (.bool true) [.ro 39 cs, .ro 39 rs] []) R) : CallSpec (Try.prog) (6) ([fV (slB 0 n n) fl ce (slB 1 m m), pV p q, .int .i64 k]) ([.ro 39 cs, .ro 39 rs]) R := by
  exact (CallSpec.id (go_ok (exec_ok tnamed tcalm tmixed _ _ _ _) (lrallies_bb_p n cs m rs ps qs fl ce p q k t e kL kA kC kR kK ) (aC (kL) (aC (kC) (aC (kR) (aC (kA) (aC dO (aC dO (aC dO (aC dO (aC dO (aC dO (aC dO (aC (kK) (aC dO aN))))))))))))))).le (k_p )
end
end Go.Proofs.Ytjalkjeldlchoaa.Ex
end
section
set_option linter.unusedSectionVars false
set_option linter.unusedSimpArgs false
set_option linter.unusedVariables false
namespace Go.Proofs.Ytjalkjeldlchoaa.Ex
open Go
set_option linter.unusedVariables false
noncomputable def rra_l : Code := loopAt Try.prog 26 0
theorem rra_l_calm : calmC rra_l = true := loopAt_calm tcalm 26 0
noncomputable def rra_lC : Code := .loop rra_l
def frRra (k b n i : Int) : Fr := frOf 63 [(2, .int .i64 k), (3, at_ 2 0), (4, at_ 3 0), (9, .int .i64 b), (10, .int .i64 n), (11, .int .i64 i)]
section
variable (fl ce e p q k : Int) (he : e ≠ 0) (kC : CallSpec Try.prog 19 [fV slN fl ce slN] [] (.mk (.int .i64 e) [] []))
include fl ce e p q k he kC
theorem rrally_nn_p : go (exec (Try.prog) (8) (26) ([fV slN fl ce slN, pV p q, .int .i64 k]) ([])) [(12, .call (.mk (.int .i64 e) [] [])), (7, .dec true)] = some (.mk (.tuple #[.int .i64 0, .int .i64 e]) [] [], true, [type_of% kC, (!decide (e = 0)) = true]) := by kernel_rfl
theorem rrally_nn (R : Res) (k_p : Res.le (.mk (.tuple #[.int .i64 0, .int .i64 e]) [] []) R) : CallSpec (Try.prog) (26) ([fV slN fl ce slN, pV p q, .int .i64 k]) ([]) R := by
  exact (CallSpec.id (go_ok (exec_ok tnamed tcalm tmixed _ _ _ _) (rrally_nn_p fl ce e p q k he kC ) (aC (kC) (aC (congrArg not dN) aN)))).le (k_p )
end
section
variable (fl ce e p q k : Int) (he : e ≠ 0) (kC : CallSpec Try.prog 19 [fV slN fl ce (slD 0)] [.dead] (.mk (.int .i64 e) [.dead] []))
include fl ce e p q k he kC
theorem rrally_nd_p : go (exec (Try.prog) (8) (26) ([fV slN fl ce (slD 0), pV p q, .int .i64 k]) ([.dead])) [(12, .call (.mk (.int .i64 e) [.dead] [])), (7, .dec true)] = some (.mk (.tuple #[.int .i64 0, .int .i64 e]) [.dead] [], true, [type_of% kC, (!decide (e = 0)) = true]) := by kernel_rfl
theorem rrally_nd (R : Res) (k_p : Res.le (.mk (.tuple #[.int .i64 0, .int .i64 e]) [.dead] []) R) : CallSpec (Try.prog) (26) ([fV slN fl ce (slD 0), pV p q, .int .i64 k]) ([.dead]) R := by
  exact (CallSpec.id (go_ok (exec_ok tnamed tcalm tmixed _ _ _ _) (rrally_nd_p fl ce e p q k he kC ) (aC (kC) (aC (congrArg not dN) aN)))).le (k_p )
end
section
variable (m : Nat) (rs : List Value) (fl ce e p q k : Int) (he : e ≠ 0) (kC : CallSpec Try.prog 19 [fV slN fl ce (slB 0 m m)] [.ro 39 rs] (.mk (.int .i64 e) [.ro 39 rs] []))
include m rs fl ce e p q k he kC
theorem rrally_nb_p : go (exec (Try.prog) (8) (26) ([fV slN fl ce (slB 0 m m), pV p q, .int .i64 k]) ([.ro 39 rs])) [(12, .call (.mk (.int .i64 e) [.ro 39 rs] [])), (7, .dec true)] = some (.mk (.tuple #[.int .i64 0, .int .i64 e]) [.ro 39 rs] [], true, [type_of% kC, (!decide (e = 0)) = true]) := by kernel_rfl
theorem rrally_nb (R : Res) (k_p : Res.le (.mk (.tuple #[.int .i64 0, .int .i64 e]) [.ro 39 rs] []) R) : CallSpec (Try.prog) (26) ([fV slN fl ce (slB 0 m m), pV p q, .int .i64 k]) ([.ro 39 rs]) R := by
  exact (CallSpec.id (go_ok (exec_ok tnamed tcalm tmixed _ _ _ _) (rrally_nb_p m rs fl ce e p q k he kC ) (aC (kC) (aC (congrArg not dN) aN)))).le (k_p )
end
section
variable (fl ce e p q k : Int) (he : e ≠ 0) (kC : CallSpec Try.prog 19 [fV (slD 0) fl ce slN] [.dead] (.mk (.int .i64 e) [.dead] []))
include fl ce e p q k he kC
theorem rrally_dn_p : go (exec (Try.prog) (8) (26) ([fV (slD 0) fl ce slN, pV p q, .int .i64 k]) ([.dead])) [(12, .call (.mk (.int .i64 e) [.dead] [])), (7, .dec true)] = some (.mk (.tuple #[.int .i64 0, .int .i64 e]) [.dead] [], true, [type_of% kC, (!decide (e = 0)) = true]) := by kernel_rfl
theorem rrally_dn (R : Res) (k_p : Res.le (.mk (.tuple #[.int .i64 0, .int .i64 e]) [.dead] []) R) : CallSpec (Try.prog) (26) ([fV (slD 0) fl ce slN, pV p q, .int .i64 k]) ([.dead]) R := by
  exact (CallSpec.id (go_ok (exec_ok tnamed tcalm tmixed _ _ _ _) (rrally_dn_p fl ce e p q k he kC ) (aC (kC) (aC (congrArg not dN) aN)))).le (k_p )
end
section
variable (fl ce e p q k : Int) (he : e ≠ 0) (kC : CallSpec Try.prog 19 [fV (slD 0) fl ce (slD 1)] [.dead, .dead] (.mk (.int .i64 e) [.dead, .dead] []))
include fl ce e p q k he kC
theorem rrally_dd_p : go (exec (Try.prog) (8) (26) ([fV (slD 0) fl ce (slD 1), pV p q, .int .i64 k]) ([.dead, .dead])) [(12, .call (.mk (.int .i64 e) [.dead, .dead] [])), (7, .dec true)] = some (.mk (.tuple #[.int .i64 0, .int .i64 e]) [.dead, .dead] [], true, [type_of% kC, (!decide (e = 0)) = true]) := by kernel_rfl
theorem rrally_dd (R : Res) (k_p : Res.le (.mk (.tuple #[.int .i64 0, .int .i64 e]) [.dead, .dead] []) R) : CallSpec (Try.prog) (26) ([fV (slD 0) fl ce (slD 1), pV p q, .int .i64 k]) ([.dead, .dead]) R := by
  exact (CallSpec.id (go_ok (exec_ok tnamed tcalm tmixed _ _ _ _) (rrally_dd_p fl ce e p q k he kC ) (aC (kC) (aC (congrArg not dN) aN)))).le (k_p )
end
section
variable (m : Nat) (rs : List Value) (fl ce e p q k : Int) (he : e ≠ 0) (kC : CallSpec Try.prog 19 [fV (slD 0) fl ce (slB 1 m m)] [.dead, .ro 39 rs] (.mk (.int .i64 e) [.dead, .ro 39 rs] []))
include m rs fl ce e p q k he kC
theorem rrally_db_p : go (exec (Try.prog) (8) (26) ([fV (slD 0) fl ce (slB 1 m m), pV p q, .int .i64 k]) ([.dead, .ro 39 rs])) [(12, .call (.mk (.int .i64 e) [.dead, .ro 39 rs] [])), (7, .dec true)] = some (.mk (.tuple #[.int .i64 0, .int .i64 e]) [.dead, .ro 39 rs] [], true, [type_of% kC, (!decide (e = 0)) = true]) := by kernel_rfl
theorem rrally_db (R : Res) (k_p : Res.le (.mk (.tuple #[.int .i64 0, .int .i64 e]) [.dead, .ro 39 rs] []) R) : CallSpec (Try.prog) (26) ([fV (slD 0) fl ce (slB 1 m m), pV p q, .int .i64 k]) ([.dead, .ro 39 rs]) R := by
  exact (CallSpec.id (go_ok (exec_ok tnamed tcalm tmixed _ _ _ _) (rrally_db_p m rs fl ce e p q k he kC ) (aC (kC) (aC (congrArg not dN) aN)))).le (k_p )
end
section
variable (n : Nat) (cs : List Value) (fl ce e p q k : Int) (kC : CallSpec Try.prog 19 [fV (slB 0 n n) fl ce slN] [.ro 39 cs] (.mk (.int .i64 e) [.ro 39 cs] []))
include n cs fl ce e p q k kC
theorem rrally_bn_pt : go (exec (Try.prog) (8) (26) ([fV (slB 0 n n) fl ce slN, pV p q, .int .i64 k]) ([.ro 39 cs])) [(12, .call (.mk (.int .i64 e) [.ro 39 cs] [])), (7, .dec true)] = some (.mk (.tuple #[.int .i64 0, .int .i64 e]) [.ro 39 cs] [], true, [type_of% kC, (!decide (e = 0)) = true]) := by kernel_rfl
theorem rrally_bn_pft : go (exec (Try.prog) (8) (26) ([fV (slB 0 n n) fl ce slN, pV p q, .int .i64 k]) ([.ro 39 cs])) [(12, .call (.mk (.int .i64 e) [.ro 39 cs] [])), (7, .dec false), (2, .call (.mk (.bool !X.outP (X.S23.mk p q)) [] [])), (4, .dec true)] = some (.mk (.tuple #[.int .i64 0, .int .i64 5]) [.ro 39 cs] [], true, [type_of% kC, (!decide (e = 0)) = false, CallSpec Try.prog 49 [(a2 p q)] [] (.mk (.bool !X.outP (X.S23.mk p q)) [] []), (!!X.outP (X.S23.mk p q)) = true]) := by kernel_rfl
theorem rrally_bn_pfft : go (exec (Try.prog) (8) (26) ([fV (slB 0 n n) fl ce slN, pV p q, .int .i64 k]) ([.ro 39 cs])) [(12, .call (.mk (.int .i64 e) [.ro 39 cs] [])), (7, .dec false), (2, .call (.mk (.bool !X.outP (X.S23.mk p q)) [] [])), (4, .dec false), (3, .dec true)] = some (.mk (.tuple #[.int .i64 0, .int .i64 1]) [.ro 39 cs] [], true, [type_of% kC, (!decide (e = 0)) = false, CallSpec Try.prog 49 [(a2 p q)] [] (.mk (.bool !X.outP (X.S23.mk p q)) [] []), (!!X.outP (X.S23.mk p q)) = false, decide (k < 0) = true]) := by kernel_rfl
theorem rrally_bn_pfff : go (exec (Try.prog) (8) (26) ([fV (slB 0 n n) fl ce slN, pV p q, .int .i64 k]) ([.ro 39 cs])) [(12, .call (.mk (.int .i64 e) [.ro 39 cs] [])), (7, .dec false), (2, .call (.mk (.bool !X.outP (X.S23.mk p q)) [] [])), (4, .dec false), (3, .dec false)] = some (.mk (.tuple #[.int .i64 (-1), .int .i64 0]) [.ro 39 cs] [], true, [type_of% kC, (!decide (e = 0)) = false, CallSpec Try.prog 49 [(a2 p q)] [] (.mk (.bool !X.outP (X.S23.mk p q)) [] []), (!!X.outP (X.S23.mk p q)) = false, decide (k < 0) = false]) := by kernel_rfl
theorem rrally_bn (R : Res) (k_pt : (h0 : ¬e = 0) → Res.le (.mk (.tuple #[.int .i64 0, .int .i64 e]) [.ro 39 cs] []) R) (k_pft : (h0 : ¬ (¬e = 0)) → (h1 : (!!X.outP (X.S23.mk p q)) = true) → Res.le (.mk (.tuple #[.int .i64 0, .int .i64 5]) [.ro 39 cs] []) R) (k_pfft : (h0 : ¬ (¬e = 0)) → (h1 : ¬ ((!!X.outP (X.S23.mk p q)) = true)) → (h2 : k < 0) → Res.le (.mk (.tuple #[.int .i64 0, .int .i64 1]) [.ro 39 cs] []) R) (k_pfff : (h0 : ¬ (¬e = 0)) → (h1 : ¬ ((!!X.outP (X.S23.mk p q)) = true)) → (h2 : ¬ (k < 0)) → Res.le (.mk (.tuple #[.int .i64 (-1), .int .i64 0]) [.ro 39 cs] []) R) : CallSpec (Try.prog) (26) ([fV (slB 0 n n) fl ce slN, pV p q, .int .i64 k]) ([.ro 39 cs]) R := by
  by_cases h0 : ¬e = 0
  · exact (CallSpec.id (go_ok (exec_ok tnamed tcalm tmixed _ _ _ _) (rrally_bn_pt n cs fl ce e p q k kC ) (aC (kC) (aC ((by simpa using h0)) aN)))).le (k_pt h0)
  · by_cases h1 : (!!X.outP (X.S23.mk p q)) = true
    · exact (CallSpec.id (go_ok (exec_ok tnamed tcalm tmixed _ _ _ _) (rrally_bn_pft n cs fl ce e p q k kC ) (aC (kC) (aC ((by simpa using h0)) (aC ((fits_done _ _)) (aC (h1) aN)))))).le (k_pft h0 h1)
    · by_cases h2 : k < 0
      · exact (CallSpec.id (go_ok (exec_ok tnamed tcalm tmixed _ _ _ _) (rrally_bn_pfft n cs fl ce e p q k kC ) (aC (kC) (aC ((by simpa using h0)) (aC ((fits_done _ _)) (aC ((bF h1)) (aC (dT h2) aN))))))).le (k_pfft h0 h1 h2)
      · exact (CallSpec.id (go_ok (exec_ok tnamed tcalm tmixed _ _ _ _) (rrally_bn_pfff n cs fl ce e p q k kC ) (aC (kC) (aC ((by simpa using h0)) (aC ((fits_done _ _)) (aC ((bF h1)) (aC (dF h2) aN))))))).le (k_pfff h0 h1 h2)
end
section
variable (n : Nat) (cs : List Value) (fl ce e p q k : Int) (kC : CallSpec Try.prog 19 [fV (slB 0 n n) fl ce (slD 1)] [.ro 39 cs, .dead] (.mk (.int .i64 e) [.ro 39 cs, .dead] []))
include n cs fl ce e p q k kC
theorem rrally_bd_pt : go (exec (Try.prog) (8) (26) ([fV (slB 0 n n) fl ce (slD 1), pV p q, .int .i64 k]) ([.ro 39 cs, .dead])) [(12, .call (.mk (.int .i64 e) [.ro 39 cs, .dead] [])), (7, .dec true)] = some (.mk (.tuple #[.int .i64 0, .int .i64 e]) [.ro 39 cs, .dead] [], true, [type_of% kC, (!decide (e = 0)) = true]) := by kernel_rfl
theorem rrally_bd_pft : go (exec (Try.prog) (8) (26) ([fV (slB 0 n n) fl ce (slD 1), pV p q, .int .i64 k]) ([.ro 39 cs, .dead])) [(12, .call (.mk (.int .i64 e) [.ro 39 cs, .dead] [])), (7, .dec false), (2, .call (.mk (.bool !X.outP (X.S23.mk p q)) [] [])), (4, .dec true)] = some (.mk (.tuple #[.int .i64 0, .int .i64 5]) [.ro 39 cs, .dead] [], true, [type_of% kC, (!decide (e = 0)) = false, CallSpec Try.prog 49 [(a2 p q)] [] (.mk (.bool !X.outP (X.S23.mk p q)) [] []), (!!X.outP (X.S23.mk p q)) = true]) := by kernel_rfl
theorem rrally_bd_pfft : go (exec (Try.prog) (8) (26) ([fV (slB 0 n n) fl ce (slD 1), pV p q, .int .i64 k]) ([.ro 39 cs, .dead])) [(12, .call (.mk (.int .i64 e) [.ro 39 cs, .dead] [])), (7, .dec false), (2, .call (.mk (.bool !X.outP (X.S23.mk p q)) [] [])), (4, .dec false), (3, .dec true)] = some (.mk (.tuple #[.int .i64 0, .int .i64 1]) [.ro 39 cs, .dead] [], true, [type_of% kC, (!decide (e = 0)) = false, CallSpec Try.prog 49 [(a2 p q)] [] (.mk (.bool !X.outP (X.S23.mk p q)) [] []), (!!X.outP (X.S23.mk p q)) = false, decide (k < 0) = true]) := by kernel_rfl
theorem rrally_bd_pfff : go (exec (Try.prog) (8) (26) ([fV (slB 0 n n) fl ce (slD 1), pV p q, .int .i64 k]) ([.ro 39 cs, .dead])) [(12, .call (.mk (.int .i64 e) [.ro 39 cs, .dead] [])), (7, .dec false), (2, .call (.mk (.bool !X.outP (X.S23.mk p q)) [] [])), (4, .dec false), (3, .dec false)] = some (.mk (.tuple #[.int .i64 (-1), .int .i64 0]) [.ro 39 cs, .dead] [], true, [type_of% kC, (!decide (e = 0)) = false, CallSpec Try.prog 49 [(a2 p q)] [] (.mk (.bool !X.outP (X.S23.mk p q)) [] []), (!!X.outP (X.S23.mk p q)) = false, decide (k < 0) = false]) := by kernel_rfl
theorem rrally_bd (R : Res) (k_pt : (h0 : ¬e = 0) → Res.le (.mk (.tuple #[.int .i64 0, .int .i64 e]) [.ro 39 cs, .dead] []) R) (k_pft : (h0 : ¬ (¬e = 0)) → (h1 : (!!X.outP (X.S23.mk p q)) = true) → Res.le (.mk (.tuple #[.int .i64 0, .int .i64 5]) [.ro 39 cs, .dead] []) R) (k_pfft : (h0 : ¬ (¬e = 0)) → (h1 : ¬ ((!!X.outP (X.S23.mk p q)) = true)) → (h2 : k < 0) → Res.le (.mk (.tuple #[.int .i64 0, .int .i64 1]) [.ro 39 cs, .dead] []) R) (k_pfff : (h0 : ¬ (¬e = 0)) → (h1 : ¬ ((!!X.outP (X.S23.mk p q)) = true)) → (h2 : ¬ (k < 0)) → Res.le (.mk (.tuple #[.int .i64 (-1), .int .i64 0]) [.ro 39 cs, .dead] []) R) : CallSpec (Try.prog) (26) ([fV (slB 0 n n) fl ce (slD 1), pV p q, .int .i64 k]) ([.ro 39 cs, .dead]) R := by
  by_cases h0 : ¬e = 0
  · exact (CallSpec.id (go_ok (exec_ok tnamed tcalm tmixed _ _ _ _) (rrally_bd_pt n cs fl ce e p q k kC ) (aC (kC) (aC ((by simpa using h0)) aN)))).le (k_pt h0)
  · by_cases h1 : (!!X.outP (X.S23.mk p q)) = true
    · exact (CallSpec.id (go_ok (exec_ok tnamed tcalm tmixed _ _ _ _) (rrally_bd_pft n cs fl ce e p q k kC ) (aC (kC) (aC ((by simpa using h0)) (aC ((fits_done _ _)) (aC (h1) aN)))))).le (k_pft h0 h1)
    · by_cases h2 : k < 0
      · exact (CallSpec.id (go_ok (exec_ok tnamed tcalm tmixed _ _ _ _) (rrally_bd_pfft n cs fl ce e p q k kC ) (aC (kC) (aC ((by simpa using h0)) (aC ((fits_done _ _)) (aC ((bF h1)) (aC (dT h2) aN))))))).le (k_pfft h0 h1 h2)
      · exact (CallSpec.id (go_ok (exec_ok tnamed tcalm tmixed _ _ _ _) (rrally_bd_pfff n cs fl ce e p q k kC ) (aC (kC) (aC ((by simpa using h0)) (aC ((fits_done _ _)) (aC ((bF h1)) (aC (dF h2) aN))))))).le (k_pfff h0 h1 h2)
end
section
variable (n m : Nat) (cs rs : List Value) (fl ce p q k b ne i x y fa fe : Int) (w : Bool) (hi : 0 ≤ i ∧ i ≤ (↑m : Int)) (hm : m ≤ 8) (hl : List.length rs = m * 2) (hA : i < (↑m : Int) → ptAt rs i x y) (kF : i < (↑m : Int) → CallSpec Try.prog 58 [pV p q, (a2 x y)] [] (.mk (.tuple #[.int .i64 fa, .int .i64 fe]) [] [])) (kL : i < (↑m : Int) → CallSpec Try.prog 57 [slB 0 n n, pV p q, (a2 x y), .int .i64 k] [.ro 39 cs] (.mk (.bool w) [.ro 39 cs] []))
include n m cs rs fl ce p q k b ne i x y fa fe w hi hm hl hA kF kL
theorem rra_round_pttt : go (body (Try.prog) (8) (2) (8) (fun x_1 => [2, 3, 4, 9, 10, 11]) (rra_l) (frRra k b ne i) (hpRa n n m m cs rs fl ce p q)) [(7, .dec true), (6, Itm.must), (1, Itm.must), (0, Itm.val ((a2 x y))), (0, .call (.mk (.tuple #[.int .i64 fa, .int .i64 fe]) [] [])), (17, Itm.must), (1, Itm.must), (0, Itm.val ((a2 x y))), (1, .call (.mk (.bool w) [.ro 39 cs] [])), (3, .dec true), (1, .dec true), (1, .dec true), (1, .dec true), (0, .dec true), (0, .dec true), (0, .dec true), (0, .dec true), (1, .dec true), (10, Itm.val (.int .i64 (i + 1)))] = some (Out.mk Xt.normal (frOf 63 [(2, .int .i64 k), (3, (pA 2)), (4, (pA 3)), (9, .int .i64 i), (10, .int .i64 fa), (11, .int .i64 (i + 1))]) [.ro 39 cs, .ro 39 rs, .own 24 [(sB 0 n n), .int .i64 fl, .int .i64 ce, (sB 1 m m)], .own 39 [.int .i64 p, .int .i64 q]] [], true, [decide (i < (↑m : Int)) = true, inside i m = true, decide (0 + Int.toNat i * 2 + 2 ≤ List.length rs) = true, Value.agg (List.toArray (List.take 2 (List.drop (0 + Int.toNat i * 2) rs))) = (a2 x y), CallSpec Try.prog 58 [(a2 p q), (a2 x y)] [] (.mk (.tuple #[.int .i64 fa, .int .i64 fe]) [] []), inside i m = true, decide (0 + Int.toNat i * 2 + 2 ≤ List.length rs) = true, Value.agg (List.toArray (List.take 2 (List.drop (0 + Int.toNat i * 2) rs))) = (a2 x y), CallSpec Try.prog 57 [(sB 0 n n), (a2 p q), (a2 x y), .int .i64 k] [.ro 39 cs] (.mk (.bool w) [.ro 39 cs] []), w = true, w = true, w = true, decide (b < 0) = true, decide (b < 0) = true, decide (b < 0) = true, w = true, decide (b < 0) = true, w = true, Value.int .i64 (IntKind.wrap .i64 (i + 1)) = .int .i64 (i + 1)]) := by kernel_rfl
theorem rra_round_pttft : go (body (Try.prog) (8) (2) (8) (fun x_1 => [2, 3, 4, 9, 10, 11]) (rra_l) (frRra k b ne i) (hpRa n n m m cs rs fl ce p q)) [(7, .dec true), (6, Itm.must), (1, Itm.must), (0, Itm.val ((a2 x y))), (0, .call (.mk (.tuple #[.int .i64 fa, .int .i64 fe]) [] [])), (17, Itm.must), (1, Itm.must), (0, Itm.val ((a2 x y))), (1, .call (.mk (.bool w) [.ro 39 cs] [])), (3, .dec true), (1, .dec true), (1, .dec true), (1, .dec false), (1, .dec false), (1, .dec false), (1, .dec true), (0, .dec false), (1, .dec true), (2, .dec true), (7, Itm.val (.int .i64 (i + 1)))] = some (Out.mk Xt.normal (frOf 63 [(2, .int .i64 k), (3, (pA 2)), (4, (pA 3)), (9, .int .i64 i), (10, .int .i64 fa), (11, .int .i64 (i + 1))]) [.ro 39 cs, .ro 39 rs, .own 24 [(sB 0 n n), .int .i64 fl, .int .i64 ce, (sB 1 m m)], .own 39 [.int .i64 p, .int .i64 q]] [], true, [decide (i < (↑m : Int)) = true, inside i m = true, decide (0 + Int.toNat i * 2 + 2 ≤ List.length rs) = true, Value.agg (List.toArray (List.take 2 (List.drop (0 + Int.toNat i * 2) rs))) = (a2 x y), CallSpec Try.prog 58 [(a2 p q), (a2 x y)] [] (.mk (.tuple #[.int .i64 fa, .int .i64 fe]) [] []), inside i m = true, decide (0 + Int.toNat i * 2 + 2 ≤ List.length rs) = true, Value.agg (List.toArray (List.take 2 (List.drop (0 + Int.toNat i * 2) rs))) = (a2 x y), CallSpec Try.prog 57 [(sB 0 n n), (a2 p q), (a2 x y), .int .i64 k] [.ro 39 cs] (.mk (.bool w) [.ro 39 cs] []), w = true, w = true, w = true, decide (b < 0) = false, decide (b < 0) = false, decide (b < 0) = false, w = true, decide (b < 0) = false, w = true, decide (fa < ne) = true, Value.int .i64 (IntKind.wrap .i64 (i + 1)) = .int .i64 (i + 1)]) := by kernel_rfl
theorem rra_round_pttff : go (body (Try.prog) (8) (2) (8) (fun x_1 => [2, 3, 4, 9, 10, 11]) (rra_l) (frRra k b ne i) (hpRa n n m m cs rs fl ce p q)) [(7, .dec true), (6, Itm.must), (1, Itm.must), (0, Itm.val ((a2 x y))), (0, .call (.mk (.tuple #[.int .i64 fa, .int .i64 fe]) [] [])), (17, Itm.must), (1, Itm.must), (0, Itm.val ((a2 x y))), (1, .call (.mk (.bool w) [.ro 39 cs] [])), (3, .dec true), (1, .dec true), (1, .dec true), (1, .dec false), (1, .dec false), (1, .dec false), (1, .dec true), (0, .dec false), (1, .dec true), (2, .dec false), (1, Itm.val (.int .i64 (i + 1)))] = some (Out.mk Xt.normal (frOf 63 [(2, .int .i64 k), (3, (pA 2)), (4, (pA 3)), (9, .int .i64 b), (10, .int .i64 ne), (11, .int .i64 (i + 1))]) [.ro 39 cs, .ro 39 rs, .own 24 [(sB 0 n n), .int .i64 fl, .int .i64 ce, (sB 1 m m)], .own 39 [.int .i64 p, .int .i64 q]] [], true, [decide (i < (↑m : Int)) = true, inside i m = true, decide (0 + Int.toNat i * 2 + 2 ≤ List.length rs) = true, Value.agg (List.toArray (List.take 2 (List.drop (0 + Int.toNat i * 2) rs))) = (a2 x y), CallSpec Try.prog 58 [(a2 p q), (a2 x y)] [] (.mk (.tuple #[.int .i64 fa, .int .i64 fe]) [] []), inside i m = true, decide (0 + Int.toNat i * 2 + 2 ≤ List.length rs) = true, Value.agg (List.toArray (List.take 2 (List.drop (0 + Int.toNat i * 2) rs))) = (a2 x y), CallSpec Try.prog 57 [(sB 0 n n), (a2 p q), (a2 x y), .int .i64 k] [.ro 39 cs] (.mk (.bool w) [.ro 39 cs] []), w = true, w = true, w = true, decide (b < 0) = false, decide (b < 0) = false, decide (b < 0) = false, w = true, decide (b < 0) = false, w = true, decide (fa < ne) = false, Value.int .i64 (IntKind.wrap .i64 (i + 1)) = .int .i64 (i + 1)]) := by kernel_rfl
theorem rra_round_ptf : go (body (Try.prog) (8) (2) (8) (fun x_1 => [2, 3, 4, 9, 10, 11]) (rra_l) (frRra k b ne i) (hpRa n n m m cs rs fl ce p q)) [(7, .dec true), (6, Itm.must), (1, Itm.must), (0, Itm.val ((a2 x y))), (0, .call (.mk (.tuple #[.int .i64 fa, .int .i64 fe]) [] [])), (17, Itm.must), (1, Itm.must), (0, Itm.val ((a2 x y))), (1, .call (.mk (.bool w) [.ro 39 cs] [])), (3, .dec false), (0, .dec false), (0, .dec false), (0, .dec false), (0, .dec false), (4, Itm.val (.int .i64 (i + 1)))] = some (Out.mk Xt.normal (frOf 63 [(2, .int .i64 k), (3, (pA 2)), (4, (pA 3)), (9, .int .i64 b), (10, .int .i64 ne), (11, .int .i64 (i + 1))]) [.ro 39 cs, .ro 39 rs, .own 24 [(sB 0 n n), .int .i64 fl, .int .i64 ce, (sB 1 m m)], .own 39 [.int .i64 p, .int .i64 q]] [], true, [decide (i < (↑m : Int)) = true, inside i m = true, decide (0 + Int.toNat i * 2 + 2 ≤ List.length rs) = true, Value.agg (List.toArray (List.take 2 (List.drop (0 + Int.toNat i * 2) rs))) = (a2 x y), CallSpec Try.prog 58 [(a2 p q), (a2 x y)] [] (.mk (.tuple #[.int .i64 fa, .int .i64 fe]) [] []), inside i m = true, decide (0 + Int.toNat i * 2 + 2 ≤ List.length rs) = true, Value.agg (List.toArray (List.take 2 (List.drop (0 + Int.toNat i * 2) rs))) = (a2 x y), CallSpec Try.prog 57 [(sB 0 n n), (a2 p q), (a2 x y), .int .i64 k] [.ro 39 cs] (.mk (.bool w) [.ro 39 cs] []), w = false, w = false, w = false, w = false, w = false, Value.int .i64 (IntKind.wrap .i64 (i + 1)) = .int .i64 (i + 1)]) := by kernel_rfl
theorem rra_round_pf : go (body (Try.prog) (8) (2) (8) (fun x_1 => [2, 3, 4, 9, 10, 11]) (rra_l) (frRra k b ne i) (hpRa n n m m cs rs fl ce p q)) [(7, .dec false)] = some (Out.mk (Xt.exit 0) (frOf 63 [(2, .int .i64 k), (3, (pA 2)), (4, (pA 3)), (9, .int .i64 b), (10, .int .i64 ne), (11, .int .i64 i)]) [.ro 39 cs, .ro 39 rs, .own 24 [(sB 0 n n), .int .i64 fl, .int .i64 ce, (sB 1 m m)], .own 39 [.int .i64 p, .int .i64 q]] [], true, [decide (i < (↑m : Int)) = false]) := by kernel_rfl
theorem rra_round (R : Out) (k_pttt : (h0 : i < (↑m : Int)) → (h1 : w = true) → (h2 : b < 0) → Out.le (Out.mk Xt.normal (frOf 63 [(2, .int .i64 k), (3, (pA 2)), (4, (pA 3)), (9, .int .i64 i), (10, .int .i64 fa), (11, .int .i64 (i + 1))]) [.ro 39 cs, .ro 39 rs, .own 24 [(sB 0 n n), .int .i64 fl, .int .i64 ce, (sB 1 m m)], .own 39 [.int .i64 p, .int .i64 q]] []) R) (k_pttft : (h0 : i < (↑m : Int)) → (h1 : w = true) → (h2 : ¬ (b < 0)) → (h3 : fa < ne) → Out.le (Out.mk Xt.normal (frOf 63 [(2, .int .i64 k), (3, (pA 2)), (4, (pA 3)), (9, .int .i64 i), (10, .int .i64 fa), (11, .int .i64 (i + 1))]) [.ro 39 cs, .ro 39 rs, .own 24 [(sB 0 n n), .int .i64 fl, .int .i64 ce, (sB 1 m m)], .own 39 [.int .i64 p, .int .i64 q]] []) R) (k_pttff : (h0 : i < (↑m : Int)) → (h1 : w = true) → (h2 : ¬ (b < 0)) → (h3 : ¬ (fa < ne)) → Out.le (Out.mk Xt.normal (frOf 63 [(2, .int .i64 k), (3, (pA 2)), (4, (pA 3)), (9, .int .i64 b), (10, .int .i64 ne), (11, .int .i64 (i + 1))]) [.ro 39 cs, .ro 39 rs, .own 24 [(sB 0 n n), .int .i64 fl, .int .i64 ce, (sB 1 m m)], .own 39 [.int .i64 p, .int .i64 q]] []) R) (k_ptf : (h0 : i < (↑m : Int)) → (h1 : ¬ (w = true)) → Out.le (Out.mk Xt.normal (frOf 63 [(2, .int .i64 k), (3, (pA 2)), (4, (pA 3)), (9, .int .i64 b), (10, .int .i64 ne), (11, .int .i64 (i + 1))]) [.ro 39 cs, .ro 39 rs, .own 24 [(sB 0 n n), .int .i64 fl, .int .i64 ce, (sB 1 m m)], .own 39 [.int .i64 p, .int .i64 q]] []) R) (k_pf : (h0 : ¬ (i < (↑m : Int))) → Out.le (Out.mk (Xt.exit 0) (frOf 63 [(2, .int .i64 k), (3, (pA 2)), (4, (pA 3)), (9, .int .i64 b), (10, .int .i64 ne), (11, .int .i64 i)]) [.ro 39 cs, .ro 39 rs, .own 24 [(sB 0 n n), .int .i64 fl, .int .i64 ce, (sB 1 m m)], .own 39 [.int .i64 p, .int .i64 q]] []) R) : CodeSpec (Try.prog) (2) (rra_l) (frRra k b ne i) (hpRa n n m m cs rs fl ce p q) R := by
  by_cases h0 : i < (↑m : Int)
  · by_cases h1 : w = true
    · by_cases h2 : b < 0
      · exact (CodeSpec.id (go_ok (body_ok tnamed tcalm tmixed _ _ _ _ _ _ rra_l_calm) (rra_round_pttt n m cs rs fl ce p q k b ne i x y fa fe w hi hm hl hA kF kL ) (aC (dT h0) (aC (inside_of (by omega)) (aC dO (aC ((hA (by omega))) (aC ((kF (by omega))) (aC (inside_of (by omega)) (aC dO (aC ((hA (by omega))) (aC ((kL (by omega))) (aC (h1) (aC (h1) (aC (h1) (aC (dT h2) (aC (dT h2) (aC (dT h2) (aC (h1) (aC (dT h2) (aC (h1) (aC (congrArg (Value.int _) (Go.IntWalk.i64_in _ (by omega))) aN))))))))))))))))))))).le (k_pttt h0 h1 h2)
      · by_cases h3 : fa < ne
        · exact (CodeSpec.id (go_ok (body_ok tnamed tcalm tmixed _ _ _ _ _ _ rra_l_calm) (rra_round_pttft n m cs rs fl ce p q k b ne i x y fa fe w hi hm hl hA kF kL ) (aC (dT h0) (aC (inside_of (by omega)) (aC dO (aC ((hA (by omega))) (aC ((kF (by omega))) (aC (inside_of (by omega)) (aC dO (aC ((hA (by omega))) (aC ((kL (by omega))) (aC (h1) (aC (h1) (aC (h1) (aC (dF h2) (aC (dF h2) (aC (dF h2) (aC (h1) (aC (dF h2) (aC (h1) (aC (dT h3) (aC (congrArg (Value.int _) (Go.IntWalk.i64_in _ (by omega))) aN)))))))))))))))))))))).le (k_pttft h0 h1 h2 h3)
        · exact (CodeSpec.id (go_ok (body_ok tnamed tcalm tmixed _ _ _ _ _ _ rra_l_calm) (rra_round_pttff n m cs rs fl ce p q k b ne i x y fa fe w hi hm hl hA kF kL ) (aC (dT h0) (aC (inside_of (by omega)) (aC dO (aC ((hA (by omega))) (aC ((kF (by omega))) (aC (inside_of (by omega)) (aC dO (aC ((hA (by omega))) (aC ((kL (by omega))) (aC (h1) (aC (h1) (aC (h1) (aC (dF h2) (aC (dF h2) (aC (dF h2) (aC (h1) (aC (dF h2) (aC (h1) (aC (dF h3) (aC (congrArg (Value.int _) (Go.IntWalk.i64_in _ (by omega))) aN)))))))))))))))))))))).le (k_pttff h0 h1 h2 h3)
    · exact (CodeSpec.id (go_ok (body_ok tnamed tcalm tmixed _ _ _ _ _ _ rra_l_calm) (rra_round_ptf n m cs rs fl ce p q k b ne i x y fa fe w hi hm hl hA kF kL ) (aC (dT h0) (aC (inside_of (by omega)) (aC dO (aC ((hA (by omega))) (aC ((kF (by omega))) (aC (inside_of (by omega)) (aC dO (aC ((hA (by omega))) (aC ((kL (by omega))) (aC ((bF h1)) (aC ((bF h1)) (aC ((bF h1)) (aC ((bF h1)) (aC ((bF h1)) (aC (congrArg (Value.int _) (Go.IntWalk.i64_in _ (by omega))) aN))))))))))))))))).le (k_ptf h0 h1)
  · exact (CodeSpec.id (go_ok (body_ok tnamed tcalm tmixed _ _ _ _ _ _ rra_l_calm) (rra_round_pf n m cs rs fl ce p q k b ne i x y fa fe w hi hm hl hA kF kL ) (aC (dF h0) aN))).le (k_pf h0)
end
section
variable (n m : Nat) (cs rs : List Value) (fl ce p q k e b ne : Int) (kC : CallSpec Try.prog 19 [fV (slB 0 n n) fl ce (slB 1 m m)] [.ro 39 cs, .ro 39 rs] (.mk (.int .i64 e) [.ro 39 cs, .ro 39 rs] [])) (hL : e = 0 → X.outP (X.S23.mk p q) = false → 0 ≤ k → CodeSpec Try.prog 2 rra_lC (frRra k (-1) 0 0) (hpRa n n m m cs rs fl ce p q) (Out.mk (Xt.exit 0) (frRra k b ne (↑m : Int)) (hpRa n n m m cs rs fl ce p q) []))
include n m cs rs fl ce p q k e b ne kC hL
theorem rra_ok_pt : go (exec (Try.prog) (8) (26) ([fV (slB 0 n n) fl ce (slB 1 m m), pV p q, .int .i64 k]) ([.ro 39 cs, .ro 39 rs])) [(12, .call (.mk (.int .i64 e) [.ro 39 cs, .ro 39 rs] [])), (7, .dec true)] = some (.mk (.tuple #[.int .i64 0, .int .i64 e]) [.ro 39 cs, .ro 39 rs] [], true, [type_of% kC, (!decide (e = 0)) = true]) := by kernel_rfl
theorem rra_ok_pft : go (exec (Try.prog) (8) (26) ([fV (slB 0 n n) fl ce (slB 1 m m), pV p q, .int .i64 k]) ([.ro 39 cs, .ro 39 rs])) [(12, .call (.mk (.int .i64 e) [.ro 39 cs, .ro 39 rs] [])), (7, .dec false), (2, .call (.mk (.bool !X.outP (X.S23.mk p q)) [] [])), (4, .dec true)] = some (.mk (.tuple #[.int .i64 0, .int .i64 5]) [.ro 39 cs, .ro 39 rs] [], true, [type_of% kC, (!decide (e = 0)) = false, CallSpec Try.prog 49 [(a2 p q)] [] (.mk (.bool !X.outP (X.S23.mk p q)) [] []), (!!X.outP (X.S23.mk p q)) = true]) := by kernel_rfl
theorem rra_ok_pfft : go (exec (Try.prog) (8) (26) ([fV (slB 0 n n) fl ce (slB 1 m m), pV p q, .int .i64 k]) ([.ro 39 cs, .ro 39 rs])) [(12, .call (.mk (.int .i64 e) [.ro 39 cs, .ro 39 rs] [])), (7, .dec false), (2, .call (.mk (.bool !X.outP (X.S23.mk p q)) [] [])), (4, .dec false), (3, .dec true)] = some (.mk (.tuple #[.int .i64 0, .int .i64 1]) [.ro 39 cs, .ro 39 rs] [], true, [type_of% kC, (!decide (e = 0)) = false, CallSpec Try.prog 49 [(a2 p q)] [] (.mk (.bool !X.outP (X.S23.mk p q)) [] []), (!!X.outP (X.S23.mk p q)) = false, decide (k < 0) = true]) := by kernel_rfl
theorem rra_ok_pfff : go (exec (Try.prog) (8) (26) ([fV (slB 0 n n) fl ce (slB 1 m m), pV p q, .int .i64 k]) ([.ro 39 cs, .ro 39 rs])) [(12, .call (.mk (.int .i64 e) [.ro 39 cs, .ro 39 rs] [])), (7, .dec false), (2, .call (.mk (.bool !X.outP (X.S23.mk p q)) [] [])), (4, .dec false), (3, .dec false), (6, Itm.loop [2, 3, 4, 9, 10, 11] (Out.mk (Xt.exit 0) (frOf 63 [(2, .int .i64 k), (3, (pA 2)), (4, (pA 3)), (9, .int .i64 b), (10, .int .i64 ne), (11, .int .i64 (↑m : Int))]) [.ro 39 cs, .ro 39 rs, .own 24 [(sB 0 n n), .int .i64 fl, .int .i64 ce, (sB 1 m m)], .own 39 [.int .i64 p, .int .i64 q]] []))] = some (.mk (.tuple #[.int .i64 b, .int .i64 0]) [.ro 39 cs, .ro 39 rs] [], true, [type_of% kC, (!decide (e = 0)) = false, CallSpec Try.prog 49 [(a2 p q)] [] (.mk (.bool !X.outP (X.S23.mk p q)) [] []), (!!X.outP (X.S23.mk p q)) = false, decide (k < 0) = false, CodeSpec Try.prog (List.length [Blk.ro 39 cs, Blk.ro 39 rs]) rra_lC (frOf 63 [(2, .int .i64 k), (3, (pA 2)), (4, (pA 3)), (9, .int .i64 (-1)), (10, .int .i64 0), (11, .int .i64 0)]) [.ro 39 cs, .ro 39 rs, .own 24 [(sB 0 n n), .int .i64 fl, .int .i64 ce, (sB 1 m m)], .own 39 [.int .i64 p, .int .i64 q]] (Out.mk (Xt.exit 0) (frOf 63 [(2, .int .i64 k), (3, (pA 2)), (4, (pA 3)), (9, .int .i64 b), (10, .int .i64 ne), (11, .int .i64 (↑m : Int))]) [.ro 39 cs, .ro 39 rs, .own 24 [(sB 0 n n), .int .i64 fl, .int .i64 ce, (sB 1 m m)], .own 39 [.int .i64 p, .int .i64 q]] [])]) := by kernel_rfl
theorem rra_ok (R : Res) (k_pt : (h0 : ¬e = 0) → Res.le (.mk (.tuple #[.int .i64 0, .int .i64 e]) [.ro 39 cs, .ro 39 rs] []) R) (k_pft : (h0 : ¬ (¬e = 0)) → (h1 : (!!X.outP (X.S23.mk p q)) = true) → Res.le (.mk (.tuple #[.int .i64 0, .int .i64 5]) [.ro 39 cs, .ro 39 rs] []) R) (k_pfft : (h0 : ¬ (¬e = 0)) → (h1 : ¬ ((!!X.outP (X.S23.mk p q)) = true)) → (h2 : k < 0) → Res.le (.mk (.tuple #[.int .i64 0, .int .i64 1]) [.ro 39 cs, .ro 39 rs] []) R) (k_pfff : (h0 : ¬ (¬e = 0)) → (h1 : ¬ ((!!X.outP (X.S23.mk p q)) = true)) → (h2 : ¬ (k < 0)) → Res.le (.mk (.tuple #[.int .i64 b, .int .i64 0]) [.ro 39 cs, .ro 39 rs] []) R) : CallSpec (Try.prog) (26) ([fV (slB 0 n n) fl ce (slB 1 m m), pV p q, .int .i64 k]) ([.ro 39 cs, .ro 39 rs]) R := by
  by_cases h0 : ¬e = 0
  · exact (CallSpec.id (go_ok (exec_ok tnamed tcalm tmixed _ _ _ _) (rra_ok_pt n m cs rs fl ce p q k e b ne kC hL ) (aC (kC) (aC ((by simpa using h0)) aN)))).le (k_pt h0)
  · by_cases h1 : (!!X.outP (X.S23.mk p q)) = true
    · exact (CallSpec.id (go_ok (exec_ok tnamed tcalm tmixed _ _ _ _) (rra_ok_pft n m cs rs fl ce p q k e b ne kC hL ) (aC (kC) (aC ((by simpa using h0)) (aC ((fits_done _ _)) (aC (h1) aN)))))).le (k_pft h0 h1)
    · by_cases h2 : k < 0
      · exact (CallSpec.id (go_ok (exec_ok tnamed tcalm tmixed _ _ _ _) (rra_ok_pfft n m cs rs fl ce p q k e b ne kC hL ) (aC (kC) (aC ((by simpa using h0)) (aC ((fits_done _ _)) (aC ((bF h1)) (aC (dT h2) aN))))))).le (k_pfft h0 h1 h2)
      · exact (CallSpec.id (go_ok (exec_ok tnamed tcalm tmixed _ _ _ _) (rra_ok_pfff n m cs rs fl ce p q k e b ne kC hL ) (aC (kC) (aC ((by simpa using h0)) (aC ((fits_done _ _)) (aC ((bF h1)) (aC (dF h2) (aC ((hL (by omega) (by simpa using h1) (by omega))) aN)))))))).le (k_pfff h0 h1 h2)
end
end Go.Proofs.Ytjalkjeldlchoaa.Ex
end
section
set_option linter.unusedSectionVars false
set_option linter.unusedSimpArgs false
set_option linter.unusedVariables false
namespace Go.Proofs.Ytjalkjeldlchoaa.Ex
open Go Go.RowKit Go.Proofs.Ytjalkjeldlchoaa.X
set_option linter.unusedVariables false
theorem rra_rounds {l r : List S23} {fl ce p q k : Int} (hc : checkV l r fl ce = 0) (hp : outP ⟨p, q⟩ = false) (hk : 0 ≤ k) : ∀ (j i : Nat) (s : Int × Int), i + j = r.length →
    LoopSpec Try.prog 2 rra_l (frRra k s.1 s.2 i) (hpRa l.length l.length r.length r.length (pc l) (pc r) fl ce p q) ⟨.exit 0, frRra k (nearV (fun x => laneV l p q x.f0 x.f1 k) p q (r.drop i) i s).1 (nearV (fun x => laneV l p q x.f0 x.f1 k) p q (r.drop i) i s).2 r.length, hpRa l.length l.length r.length r.length (pc l) (pc r) fl ce p q, []⟩
  | 0, i, s, hi => by
    obtain rfl : i = r.length := by omega
    rw [List.drop_length]
    have hm := limV_le (checkV_zero hc).2.1
    refine .last (rra_round l.length r.length (pc l) (pc r) fl ce p q k s.1 s.2 r.length 0 0 0 0 false (by omega) hm (pc_len r) (fun h => by omega) (fun h => by omega) (fun h => by omega) _ (fun h => by omega) (fun h => by omega) (fun h => by omega) (fun h => by omega) (fun _ => out_eq)) (by intro h; cases h)
  | j + 1, i, s, hi => by
    have z := checkV_zero hc
    have hm := limV_le z.2.1
    have hlt : i < r.length := by omega
    have hin := (outP_eq _ _).2 (rallyV_in z.2.2 i hlt)
    have hq : quad p q (pt r i).f0 (pt r i).f1 = true := by rw [quad_out, hp, hin]; rfl
    have round := rra_round l.length r.length (pc l) (pc r) fl ce p q k s.1 s.2 i _ _ _ _ _ (by omega) hm (pc_len r) (fun _ => ptAt_of hlt) (fun _ => rfar_done p q (pt r i).f0 (pt r i).f1) (fun _ => rlane_done (c := l.length) z.1 hq hk)
    have ih := rra_rounds (k := k) hc hp hk j (i + 1)
    rw [drop_pt hlt, nearV]
    have key : ∀ s' : Int × Int, s' = (if (s.1 < 0 ∨ farA p q (pt r i).f0 (pt r i).f1 < s.2) ∧ laneV l p q (pt r i).f0 (pt r i).f1 k = true then ((i : Int), farA p q (pt r i).f0 (pt r i).f1) else s) →
        CodeSpec Try.prog 2 rra_l (frRra k s.1 s.2 i) (hpRa l.length l.length r.length r.length (pc l) (pc r) fl ce p q) ⟨.normal, frRra k s'.1 s'.2 ((i + 1 : Nat) : Int), hpRa l.length l.length r.length r.length (pc l) (pc r) fl ce p q, []⟩ := fun s' hs => by
      have fe : ∀ {u : Int × Int}, u = s' → Out.le ⟨.normal, frRra k u.1 u.2 ((i : Int) + 1), hpRa l.length l.length r.length r.length (pc l) (pc r) fl ce p q, []⟩ ⟨.normal, frRra k s'.1 s'.2 ((i + 1 : Nat) : Int), hpRa l.length l.length r.length r.length (pc l) (pc r) fl ce p q, []⟩ := fun h => by rw [h]; exact out_eq
      refine round _ (fun _ h g => fe (u := ((i : Int), farA p q (pt r i).f0 (pt r i).f1)) ?_) (fun _ h g t => fe (u := ((i : Int), farA p q (pt r i).f0 (pt r i).f1)) ?_) (fun _ h g t => fe (u := s) ?_) (fun _ h => fe (u := s) ?_) (fun h => absurd (by omega) h)
      · rw [hs, if_pos ⟨.inl g, h⟩]
      · rw [hs, if_pos ⟨.inr t, h⟩]
      · rw [hs, if_neg (fun a => a.1.elim g t)]
      · rw [hs, if_neg (fun a => h a.2)]
    exact .more (key _ rfl) rfl (ih _ (by omega)) (fun j hj => by cases hj)
section
variable {l r : List S23} {fl ce p q k : Int}
theorem rr_ways {L : S23 → Bool} (hp : Hp) : let R : Res := ⟨.tuple #[.int .i64 (RallyA L l r fl ce p q k), .int .i64 (RallyE l r fl ce p q k)], hp, []⟩; let e := checkV l r fl ce
    ((h0 : ¬e = 0) → Res.le ⟨.tuple #[.int .i64 0, .int .i64 e], hp, []⟩ R) ∧ ((h0 : ¬ (¬e = 0)) → (h1 : (!!outP ⟨p, q⟩) = true) → Res.le ⟨.tuple #[.int .i64 0, .int .i64 5], hp, []⟩ R) ∧
    ((h0 : ¬ (¬e = 0)) → (h1 : ¬ ((!!outP ⟨p, q⟩) = true)) → (h2 : k < 0) → Res.le ⟨.tuple #[.int .i64 0, .int .i64 1], hp, []⟩ R) ∧
    (∀ b, b = (nearV L p q r 0 (-1, 0)).1 → (h0 : ¬ (¬e = 0)) → (h1 : ¬ ((!!outP ⟨p, q⟩) = true)) → (h2 : ¬ (k < 0)) → Res.le ⟨.tuple #[.int .i64 b, .int .i64 0], hp, []⟩ R) := by
  intro R e
  have q1 : (!!outP ⟨p, q⟩) = true → (inQ p && inQ q) = false := fun h => by rw [inQ_out]; simp at h; simp [h]
  have q3 : ¬ ((!!outP ⟨p, q⟩) = true) → (inQ p && inQ q) = true := fun h => by rw [inQ_out]; simp at h; simp [h]
  have e5 : ¬ (¬checkV l r fl ce = 0) → (inQ p && inQ q) = false → RallyE l r fl ce p q k = 5 := fun h g => by unfold RallyE; rw [if_pos (by omega), if_neg (by rw [g]; exact Bool.false_ne_true)]
  have e1 : ¬ (¬checkV l r fl ce = 0) → (inQ p && inQ q) = true → k < 0 → RallyE l r fl ce p q k = 1 := fun h g t => by unfold RallyE; rw [if_pos (by omega), if_pos g, if_pos t]
  have e0 : ¬ (¬checkV l r fl ce = 0) → (inQ p && inQ q) = true → ¬ k < 0 → RallyE l r fl ce p q k = 0 := fun h g t => by unfold RallyE; rw [if_pos (by omega), if_pos g, if_neg t]
  refine ⟨fun h => ?_, fun h g => ?_, fun h g t => ?_, fun b hb h g t => ?_⟩
  all_goals show Res.le _ ⟨.tuple #[.int .i64 (RallyA L l r fl ce p q k), .int .i64 (RallyE l r fl ce p q k)], hp, []⟩
  all_goals unfold RallyA
  · have e : RallyE l r fl ce p q k = checkV l r fl ce := by unfold RallyE; rw [if_neg h]
    rw [e, if_neg h]
    exact res_refl
  · rw [e5 h (q1 g)]; exact res_refl
  · rw [e1 h (q3 g) t]; exact res_refl
  · rw [e0 h (q3 g) t, hb]; exact res_refl
end
theorem rrally_done (P R : Pk) (fl ce p q k : Int) : CallSpec Try.prog 26 [fA P R fl ce, pV p q, .int .i64 k] (fH P R) ⟨.tuple #[.int .i64 (RallyA (fun x => laneV P.list p q x.f0 x.f1 k) P.list R.list fl ce p q k), .int .i64 (RallyE P.list R.list fl ce p q k)], fH P R, []⟩ := by
  have kC := rcheck_done P R fl ce
  obtain ⟨k1, k2, k3, k4⟩ := rr_ways (l := P.list) (r := R.list) (fl := fl) (ce := ce) (p := p) (q := q) (k := k) (L := fun x => laneV P.list p q x.f0 x.f1 k) (fH P R)
  have n0 : ∀ r, checkV [] r fl ce ≠ 0 := fun r h => by
    have : (90 : Int) = 0 := h
    omega
  cases P with
  | nil =>
    cases R with
    | nil => exact rrally_nn _ _ _ _ _ _ (n0 _) kC _ (k1 (n0 _))
    | emp => exact rrally_nd _ _ _ _ _ _ (n0 _) kC _ (k1 (n0 _))
    | pts r => exact rrally_nb _ _ _ _ _ _ _ _ (n0 _) kC _ (k1 (n0 _))
  | emp =>
    cases R with
    | nil => exact rrally_dn _ _ _ _ _ _ (n0 _) kC _ (k1 (n0 _))
    | emp => exact rrally_dd _ _ _ _ _ _ (n0 _) kC _ (k1 (n0 _))
    | pts r => exact rrally_db _ _ _ _ _ _ _ _ (n0 _) kC _ (k1 (n0 _))
  | pts l =>
    cases R with
    | nil => exact rrally_bn _ _ _ _ _ _ _ _ kC _ k1 k2 k3 (k4 (-1) rfl)
    | emp => exact rrally_bd _ _ _ _ _ _ _ _ kC _ k1 k2 k3 (k4 (-1) rfl)
    | pts r => exact rra_ok _ _ _ _ _ _ _ _ _ _ _ _ kC (fun a b c => (rra_rounds a b c r.length 0 (-1, 0) (Nat.zero_add _)).code) _ k1 k2 k3 (k4 _ rfl)
end Go.Proofs.Ytjalkjeldlchoaa.Ex
end
section
set_option linter.unusedSectionVars false
set_option linter.unusedSimpArgs false
set_option linter.unusedVariables false
namespace Go.Proofs.Ytjalkjeldlchoaa.Ex
open Go Go.RowKit Go.Proofs.Ytjalkjeldlchoaa.X
set_option linter.unusedVariables false
theorem rallies_law (kA : CallSpec Try.prog 17 [] [] ⟨.bool true, [], []⟩) (P R : Pk) (fl ce p q k : Int) (hP : P.Fits) (hR : R.Fits) : CallSpec Try.prog 6 [fA P R fl ce, pV p q, .int .i64 k] (fH P R) ⟨.bool true, fH P R, []⟩ := by
  have kL := lent_done P R fl ce hP hR
  have kC := CallSpec.wide (hp' := ownH P R) (rally_bb (l := P.list) (r := R.list) (c := P.list.length + 1) (d := R.list.length + 1) (fl := fl) (ce := ce) hP.m p q k) rfl rfl (wide_lent P R)
  have kR := rrally_done P R fl ce p q k
  have kK := kept_done P R fl ce hP hR
  cases P <;> cases R
  · exact lrallies_nn _ _ _ _ _ _ _ _ _ kL kA kC kR kK _ res_refl
  · exact lrallies_nd _ _ _ _ _ _ _ _ _ kL kA kC kR kK _ res_refl
  · exact lrallies_nb _ _ _ _ _ _ _ _ _ _ _ kL kA kC kR kK _ res_refl
  · exact lrallies_dn _ _ _ _ _ _ _ _ _ kL kA kC kR kK _ res_refl
  · exact lrallies_dd _ _ _ _ _ _ _ _ _ kL kA kC kR kK _ res_refl
  · exact lrallies_db _ _ _ _ _ _ _ _ _ _ _ kL kA kC kR kK _ res_refl
  · exact lrallies_bn _ _ _ _ _ _ _ _ _ _ _ kL kA kC kR kK _ res_refl
  · exact lrallies_bd _ _ _ _ _ _ _ _ _ _ _ kL kA kC kR kK _ res_refl
  · exact lrallies_bb _ _ _ _ _ _ _ _ _ _ _ _ _ kL kA kC kR kK _ res_refl
end Go.Proofs.Ytjalkjeldlchoaa.Ex
end
