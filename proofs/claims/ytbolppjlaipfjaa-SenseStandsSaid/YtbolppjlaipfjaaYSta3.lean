import Derived.Test.YtbolppjlaipfjaaYSta2
section
set_option linter.unusedSectionVars false
set_option linter.unusedSimpArgs false
set_option linter.unusedVariables false
namespace Go.Proofs.Ytbolppjlaipfjaa.Ex
open Go
set_option linter.unusedVariables false
noncomputable def lpA : Code := loopAt Try.prog 15 0
theorem lpA_calm : calmC lpA = true := loopAt_calm tcalm 15 0
noncomputable def lpAC : Code := .loop lpA
def frA (sn : Int) (n c q m : Nat) (i : Int) : Fr := frOf 92 [(0, .int .u8 sn), (1, slB 0 n c), (7, slB 1 q q), (28, slB 2 m m), (29, .int .i64 m), (30, .int .i64 i)]
def kA : Xt → List Nat
  | .normal => [0, 1, 7, 28, 29, 30]
  | .exit _ => [0, 1, 7, 28, 29, 30]
  | _ => [4, 5]
section
variable (sn x : Int) (n c q m i : Nat) (cs bs es : List Value) (hcs : n ≤ List.length cs) (hbs : List.length bs = q) (hes : List.length es = m) (hq : 1 ≤ q ∧ q ≤ 40) (hi : i < n ∧ i < m ∧ m ≤ 5) (hx : -9223372036854775808 ≤ x ∧ x ≤ 9223372036854775807) (hw0 : isInt .i64 (List.getD es (0 + Int.toNat (↑i : Int) * 1) undef) = true) (hw : Value.int .i64 (intOf (List.getD es (0 + Int.toNat (↑i : Int) * 1) undef)) = .int .i64 8) (hv0 : isInt .i64 (List.getD cs (0 + Int.toNat (↑i : Int) * 1) undef) = true) (hv : Value.int .i64 (intOf (List.getD cs (0 + Int.toNat (↑i : Int) * 1) undef)) = .int .i64 x)
include sn x n c q m i cs bs es hcs hbs hes hq hi hx hw0 hw hv0 hv
theorem wr_8_pt : go (body (Try.prog) (8) (1) (8) (kA) (lpA) (frA sn n c q m (↑i : Int)) ([.own 3 cs, .own 5 bs, .own 3 es])) [(2, .dec true), (1, Itm.must), (1, Itm.must), (0, Itm.must), (0, Itm.val (.int .i64 8)), (16, Itm.must), (1, Itm.must), (0, Itm.must), (0, Itm.val (.int .i64 x)), (3, .dec true), (0, .dec true), (0, .dec true), (0, .dec true), (0, .dec true), (0, .dec true), (0, .dec true), (0, .dec true), (0, .dec true), (0, .dec true), (0, .dec true)] = some (Out.mk Xt.ret (frOf 92 [(4, .string (ByteArray.mk #[])), (5, .int .i64 5)]) [.own 3 cs] [], true, [decide ((↑i : Int) < (↑m : Int)) = true, inside (↑i : Int) m = true, decide (0 + Int.toNat (↑i : Int) * 1 < List.length es) = true, isInt .i64 (List.getD es (0 + Int.toNat (↑i : Int) * 1) undef) = true, type_of% hw, inside (↑i : Int) n = true, decide (0 + Int.toNat (↑i : Int) * 1 < List.length cs) = true, isInt .i64 (List.getD cs (0 + Int.toNat (↑i : Int) * 1) undef) = true, type_of% hv, decide (x < 0) = true, decide (x < 0) = true, decide (x < 0) = true, decide (x < 0) = true, decide (x < 0) = true, decide (x < 0) = true, decide (x < 0) = true, decide (x < 0) = true, decide (x < 0) = true, decide (x < 0) = true, decide (x < 0) = true]) := by kernel_rfl
theorem wr_8_pft : go (body (Try.prog) (8) (1) (8) (kA) (lpA) (frA sn n c q m (↑i : Int)) ([.own 3 cs, .own 5 bs, .own 3 es])) [(2, .dec true), (1, Itm.must), (1, Itm.must), (0, Itm.must), (0, Itm.val (.int .i64 8)), (16, Itm.must), (1, Itm.must), (0, Itm.must), (0, Itm.val (.int .i64 x)), (3, .dec false), (1, .dec false), (1, .dec false), (0, Itm.must), (1, .dec false), (0, Itm.must), (0, Itm.must), (0, Itm.val (.int .i64 x)), (0, .dec false), (1, .dec false), (1, .dec false), (2, .dec false), (1, .dec false), (1, .dec false), (1, .dec false), (2, .dec true)] = some (Out.mk Xt.ret (frOf 92 [(4, .string (ByteArray.mk #[])), (5, .int .i64 5)]) [.own 3 cs] [], true, [decide ((↑i : Int) < (↑m : Int)) = true, inside (↑i : Int) m = true, decide (0 + Int.toNat (↑i : Int) * 1 < List.length es) = true, isInt .i64 (List.getD es (0 + Int.toNat (↑i : Int) * 1) undef) = true, type_of% hw, inside (↑i : Int) n = true, decide (0 + Int.toNat (↑i : Int) * 1 < List.length cs) = true, isInt .i64 (List.getD cs (0 + Int.toNat (↑i : Int) * 1) undef) = true, type_of% hv, decide (x < 0) = false, decide (x < 0) = false, decide (x < 0) = false, inside (↑i : Int) n = true, decide (x < 0) = false, decide (0 + Int.toNat (↑i : Int) * 1 < List.length cs) = true, isInt .i64 (List.getD cs (0 + Int.toNat (↑i : Int) * 1) undef) = true, type_of% hv, decide (x < 0) = false, decide (x < 0) = false, decide (x < 0) = false, decide (x < 0) = false, decide (x < 0) = false, decide (x < 0) = false, decide (x < 0) = false, decide (x > 255) = true]) := by kernel_rfl
theorem wr_8_pff : go (body (Try.prog) (8) (1) (8) (kA) (lpA) (frA sn n c q m (↑i : Int)) ([.own 3 cs, .own 5 bs, .own 3 es])) [(2, .dec true), (1, Itm.must), (1, Itm.must), (0, Itm.must), (0, Itm.val (.int .i64 8)), (16, Itm.must), (1, Itm.must), (0, Itm.must), (0, Itm.val (.int .i64 x)), (3, .dec false), (1, .dec false), (1, .dec false), (0, Itm.must), (1, .dec false), (0, Itm.must), (0, Itm.must), (0, Itm.val (.int .i64 x)), (0, .dec false), (1, .dec false), (1, .dec false), (2, .dec false), (1, .dec false), (1, .dec false), (1, .dec false), (2, .dec false), (11, Itm.must), (1, Itm.must), (0, Itm.must), (0, Itm.val (.int .i64 x)), (2, Itm.val (.int .i64 (x / 1))), (0, Itm.val (.int .u8 (x / 1))), (7, Itm.must), (0, .dec false), (0, Itm.must), (12, Itm.val (.int .i64 ((↑i : Int) + 1)))] = some (Out.mk Xt.normal (frOf 92 [(0, .int .u8 sn), (1, (zSB 0 n c)), (7, (zSB 1 (q + 1) (q + 1))), (28, (zSB 2 m m)), (29, .int .i64 (↑m : Int)), (30, .int .i64 ((↑i : Int) + 1))]) [.own 3 cs, .own 5 (bs ++ [.int .u8 (x / 1)]), .own 3 es] [], true, [decide ((↑i : Int) < (↑m : Int)) = true, inside (↑i : Int) m = true, decide (0 + Int.toNat (↑i : Int) * 1 < List.length es) = true, isInt .i64 (List.getD es (0 + Int.toNat (↑i : Int) * 1) undef) = true, type_of% hw, inside (↑i : Int) n = true, decide (0 + Int.toNat (↑i : Int) * 1 < List.length cs) = true, isInt .i64 (List.getD cs (0 + Int.toNat (↑i : Int) * 1) undef) = true, type_of% hv, decide (x < 0) = false, decide (x < 0) = false, decide (x < 0) = false, inside (↑i : Int) n = true, decide (x < 0) = false, decide (0 + Int.toNat (↑i : Int) * 1 < List.length cs) = true, isInt .i64 (List.getD cs (0 + Int.toNat (↑i : Int) * 1) undef) = true, type_of% hv, decide (x < 0) = false, decide (x < 0) = false, decide (x < 0) = false, decide (x < 0) = false, decide (x < 0) = false, decide (x < 0) = false, decide (x < 0) = false, decide (x > 255) = false, inside (↑i : Int) n = true, decide (0 + Int.toNat (↑i : Int) * 1 < List.length cs) = true, isInt .i64 (List.getD cs (0 + Int.toNat (↑i : Int) * 1) undef) = true, type_of% hv, Value.int .i64 (Int.fdiv x 1) = .int .i64 (x / 1), Value.int .u8 (IntKind.wrap IntKind.u8 (x / 1)) = .int .u8 (x / 1), (true && decide ((q + 1) * 1 ≤ 140737488355328) && decide (q + 1 ≤ 140737488355328) && decide (q * 1 ≤ List.length bs)) = true, decide (q + 1 ≤ q) = false, decide (List.length bs = q * 1) = true, Value.int .i64 (IntKind.wrap .i64 ((↑i : Int) + 1)) = .int .i64 ((↑i : Int) + 1)]) := by kernel_rfl
theorem wr_8 (R : Out) (k_pt : (h0 : x < 0) → Out.le (Out.mk Xt.ret (frOf 92 [(4, .string (ByteArray.mk #[])), (5, .int .i64 5)]) [.own 3 cs] []) R) (k_pft : (h0 : ¬ (x < 0)) → (h1 : x > 255) → Out.le (Out.mk Xt.ret (frOf 92 [(4, .string (ByteArray.mk #[])), (5, .int .i64 5)]) [.own 3 cs] []) R) (k_pff : (h0 : ¬ (x < 0)) → (h1 : ¬ (x > 255)) → Out.le (Out.mk Xt.normal (frOf 92 [(0, .int .u8 sn), (1, (zSB 0 n c)), (7, (zSB 1 (q + 1) (q + 1))), (28, (zSB 2 m m)), (29, .int .i64 (↑m : Int)), (30, .int .i64 ((↑i : Int) + 1))]) [.own 3 cs, .own 5 (bs ++ [.int .u8 (x / 1)]), .own 3 es] []) R) : CodeSpec (Try.prog) (1) (lpA) (frA sn n c q m (↑i : Int)) ([.own 3 cs, .own 5 bs, .own 3 es]) R := by
  by_cases h0 : x < 0
  · exact (CodeSpec.id (go_ok (body_ok tnamed tcalm tmixed _ _ _ _ _ _ lpA_calm) (wr_8_pt sn x n c q m i cs bs es hcs hbs hes hq hi hx hw0 hw hv0 hv ) (aC dO (aC (inside_of (by omega)) (aC dO (aC ((by omega)) (aC (hw) (aC (inside_of (by omega)) (aC dO (aC ((by omega)) (aC (hv) (aC (dTq h0) (aC (dTq h0) (aC (dTq h0) (aC (dTq h0) (aC (dTq h0) (aC (dTq h0) (aC (dTq h0) (aC (dTq h0) (aC (dTq h0) (aC (dTq h0) (aC (dTq h0) aN)))))))))))))))))))))).le (k_pt h0)
  · by_cases h1 : x > 255
    · exact (CodeSpec.id (go_ok (body_ok tnamed tcalm tmixed _ _ _ _ _ _ lpA_calm) (wr_8_pft sn x n c q m i cs bs es hcs hbs hes hq hi hx hw0 hw hv0 hv ) (aC dO (aC (inside_of (by omega)) (aC dO (aC ((by omega)) (aC (hw) (aC (inside_of (by omega)) (aC dO (aC ((by omega)) (aC (hv) (aC (dFq h0) (aC (dFq h0) (aC (dFq h0) (aC (inside_of (by omega)) (aC (dFq h0) (aC dO (aC ((by omega)) (aC (hv) (aC (dFq h0) (aC (dFq h0) (aC (dFq h0) (aC (dFq h0) (aC (dFq h0) (aC (dFq h0) (aC (dFq h0) (aC (dTq h1) aN))))))))))))))))))))))))))).le (k_pft h0 h1)
    · exact (CodeSpec.id (go_ok (body_ok tnamed tcalm tmixed _ _ _ _ _ _ lpA_calm) (wr_8_pff sn x n c q m i cs bs es hcs hbs hes hq hi hx hw0 hw hv0 hv ) (aC dO (aC (inside_of (by omega)) (aC dO (aC ((by omega)) (aC (hw) (aC (inside_of (by omega)) (aC dO (aC ((by omega)) (aC (hv) (aC (dFq h0) (aC (dFq h0) (aC (dFq h0) (aC (inside_of (by omega)) (aC (dFq h0) (aC dO (aC ((by omega)) (aC (hv) (aC (dFq h0) (aC (dFq h0) (aC (dFq h0) (aC (dFq h0) (aC (dFq h0) (aC (dFq h0) (aC (dFq h0) (aC (dFq h1) (aC (inside_of (by omega)) (aC dO (aC ((by omega)) (aC (hv) (aC (congrArg (Value.int _) (Int.fdiv_eq_ediv_of_nonneg _ (by omega))) (aC (congrArg (Value.int _) (Go.IntWalk.u8_in _ (by omega))) (aC ((by simp [ByteArray.size_append, ByteArray.size_extract, sz_mk] <;> omega)) (aC dN (aC dO (aC (congrArg (Value.int _) (Go.IntWalk.i64_in _ (by omega))) aN))))))))))))))))))))))))))))))))))))).le (k_pff h0 h1)
end
section
variable (sn x : Int) (n c q m i : Nat) (cs bs es : List Value) (hcs : n ≤ List.length cs) (hbs : List.length bs = q) (hes : List.length es = m) (hq : 1 ≤ q ∧ q ≤ 40) (hi : i < n ∧ i < m ∧ m ≤ 5) (hx : -9223372036854775808 ≤ x ∧ x ≤ 9223372036854775807) (hw0 : isInt .i64 (List.getD es (0 + Int.toNat (↑i : Int) * 1) undef) = true) (hw : Value.int .i64 (intOf (List.getD es (0 + Int.toNat (↑i : Int) * 1) undef)) = .int .i64 16) (hv0 : isInt .i64 (List.getD cs (0 + Int.toNat (↑i : Int) * 1) undef) = true) (hv : Value.int .i64 (intOf (List.getD cs (0 + Int.toNat (↑i : Int) * 1) undef)) = .int .i64 x)
include sn x n c q m i cs bs es hcs hbs hes hq hi hx hw0 hw hv0 hv
theorem wr_16_pt : go (body (Try.prog) (8) (1) (8) (kA) (lpA) (frA sn n c q m (↑i : Int)) ([.own 3 cs, .own 5 bs, .own 3 es])) [(2, .dec true), (1, Itm.must), (1, Itm.must), (0, Itm.must), (0, Itm.val (.int .i64 16)), (16, Itm.must), (1, Itm.must), (0, Itm.must), (0, Itm.val (.int .i64 x)), (3, .dec true), (0, .dec true), (0, .dec true), (0, .dec true), (0, .dec true), (0, .dec true), (0, .dec true), (0, .dec true), (0, .dec true), (0, .dec true), (0, .dec true)] = some (Out.mk Xt.ret (frOf 92 [(4, .string (ByteArray.mk #[])), (5, .int .i64 5)]) [.own 3 cs] [], true, [decide ((↑i : Int) < (↑m : Int)) = true, inside (↑i : Int) m = true, decide (0 + Int.toNat (↑i : Int) * 1 < List.length es) = true, isInt .i64 (List.getD es (0 + Int.toNat (↑i : Int) * 1) undef) = true, type_of% hw, inside (↑i : Int) n = true, decide (0 + Int.toNat (↑i : Int) * 1 < List.length cs) = true, isInt .i64 (List.getD cs (0 + Int.toNat (↑i : Int) * 1) undef) = true, type_of% hv, decide (x < 0) = true, decide (x < 0) = true, decide (x < 0) = true, decide (x < 0) = true, decide (x < 0) = true, decide (x < 0) = true, decide (x < 0) = true, decide (x < 0) = true, decide (x < 0) = true, decide (x < 0) = true, decide (x < 0) = true]) := by kernel_rfl
theorem wr_16_pft : go (body (Try.prog) (8) (1) (8) (kA) (lpA) (frA sn n c q m (↑i : Int)) ([.own 3 cs, .own 5 bs, .own 3 es])) [(2, .dec true), (1, Itm.must), (1, Itm.must), (0, Itm.must), (0, Itm.val (.int .i64 16)), (16, Itm.must), (1, Itm.must), (0, Itm.must), (0, Itm.val (.int .i64 x)), (3, .dec false), (1, .dec false), (1, .dec false), (0, Itm.must), (1, .dec false), (0, Itm.must), (0, Itm.must), (0, Itm.val (.int .i64 x)), (0, .dec false), (1, .dec false), (1, .dec false), (2, .dec false), (1, .dec false), (1, .dec false), (1, .dec false), (2, .dec true)] = some (Out.mk Xt.ret (frOf 92 [(4, .string (ByteArray.mk #[])), (5, .int .i64 5)]) [.own 3 cs] [], true, [decide ((↑i : Int) < (↑m : Int)) = true, inside (↑i : Int) m = true, decide (0 + Int.toNat (↑i : Int) * 1 < List.length es) = true, isInt .i64 (List.getD es (0 + Int.toNat (↑i : Int) * 1) undef) = true, type_of% hw, inside (↑i : Int) n = true, decide (0 + Int.toNat (↑i : Int) * 1 < List.length cs) = true, isInt .i64 (List.getD cs (0 + Int.toNat (↑i : Int) * 1) undef) = true, type_of% hv, decide (x < 0) = false, decide (x < 0) = false, decide (x < 0) = false, inside (↑i : Int) n = true, decide (x < 0) = false, decide (0 + Int.toNat (↑i : Int) * 1 < List.length cs) = true, isInt .i64 (List.getD cs (0 + Int.toNat (↑i : Int) * 1) undef) = true, type_of% hv, decide (x < 0) = false, decide (x < 0) = false, decide (x < 0) = false, decide (x < 0) = false, decide (x < 0) = false, decide (x < 0) = false, decide (x < 0) = false, decide (x > 65535) = true]) := by kernel_rfl
theorem wr_16_pff : go (body (Try.prog) (8) (1) (8) (kA) (lpA) (frA sn n c q m (↑i : Int)) ([.own 3 cs, .own 5 bs, .own 3 es])) [(2, .dec true), (1, Itm.must), (1, Itm.must), (0, Itm.must), (0, Itm.val (.int .i64 16)), (16, Itm.must), (1, Itm.must), (0, Itm.must), (0, Itm.val (.int .i64 x)), (3, .dec false), (1, .dec false), (1, .dec false), (0, Itm.must), (1, .dec false), (0, Itm.must), (0, Itm.must), (0, Itm.val (.int .i64 x)), (0, .dec false), (1, .dec false), (1, .dec false), (2, .dec false), (1, .dec false), (1, .dec false), (1, .dec false), (2, .dec false), (11, Itm.must), (1, Itm.must), (0, Itm.must), (0, Itm.val (.int .i64 x)), (2, Itm.val (.int .i64 (x / 1))), (8, Itm.must), (0, .dec false), (0, Itm.must), (15, Itm.must), (1, Itm.must), (0, Itm.must), (0, Itm.val (.int .i64 x)), (2, Itm.val (.int .i64 (x / 256))), (0, Itm.val (.int .u8 (x / 256))), (7, Itm.must), (0, .dec false), (0, Itm.must), (12, Itm.val (.int .i64 ((↑i : Int) + 1)))] = some (Out.mk Xt.normal (frOf 92 [(0, .int .u8 sn), (1, (zSB 0 n c)), (7, (zSB 1 (q + 1 + 1) (q + 1 + 1))), (28, (zSB 2 m m)), (29, .int .i64 (↑m : Int)), (30, .int .i64 ((↑i : Int) + 1))]) [.own 3 cs, .own 5 (bs ++ [.int .u8 (IntKind.wrap IntKind.u8 (x / 1))] ++ [.int .u8 (x / 256)]), .own 3 es] [], true, [decide ((↑i : Int) < (↑m : Int)) = true, inside (↑i : Int) m = true, decide (0 + Int.toNat (↑i : Int) * 1 < List.length es) = true, isInt .i64 (List.getD es (0 + Int.toNat (↑i : Int) * 1) undef) = true, type_of% hw, inside (↑i : Int) n = true, decide (0 + Int.toNat (↑i : Int) * 1 < List.length cs) = true, isInt .i64 (List.getD cs (0 + Int.toNat (↑i : Int) * 1) undef) = true, type_of% hv, decide (x < 0) = false, decide (x < 0) = false, decide (x < 0) = false, inside (↑i : Int) n = true, decide (x < 0) = false, decide (0 + Int.toNat (↑i : Int) * 1 < List.length cs) = true, isInt .i64 (List.getD cs (0 + Int.toNat (↑i : Int) * 1) undef) = true, type_of% hv, decide (x < 0) = false, decide (x < 0) = false, decide (x < 0) = false, decide (x < 0) = false, decide (x < 0) = false, decide (x < 0) = false, decide (x < 0) = false, decide (x > 65535) = false, inside (↑i : Int) n = true, decide (0 + Int.toNat (↑i : Int) * 1 < List.length cs) = true, isInt .i64 (List.getD cs (0 + Int.toNat (↑i : Int) * 1) undef) = true, type_of% hv, Value.int .i64 (Int.fdiv x 1) = .int .i64 (x / 1), (true && decide ((q + 1) * 1 ≤ 140737488355328) && decide (q + 1 ≤ 140737488355328) && decide (q * 1 ≤ List.length bs)) = true, decide (q + 1 ≤ q) = false, decide (List.length bs = q * 1) = true, inside (↑i : Int) n = true, decide (0 + Int.toNat (↑i : Int) * 1 < List.length cs) = true, isInt .i64 (List.getD cs (0 + Int.toNat (↑i : Int) * 1) undef) = true, type_of% hv, Value.int .i64 (Int.fdiv x 256) = .int .i64 (x / 256), Value.int .u8 (IntKind.wrap IntKind.u8 (x / 256)) = .int .u8 (x / 256), (true && decide ((q + 1 + 1) * 1 ≤ 140737488355328) && decide (q + 1 + 1 ≤ 140737488355328) && decide ((q + 1) * 1 ≤ List.length (bs ++ [.int .u8 (IntKind.wrap IntKind.u8 (x / 1))]))) = true, decide (q + 1 + 1 ≤ q + 1) = false, decide (List.length (bs ++ [.int .u8 (IntKind.wrap IntKind.u8 (x / 1))]) = (q + 1) * 1) = true, Value.int .i64 (IntKind.wrap .i64 ((↑i : Int) + 1)) = .int .i64 ((↑i : Int) + 1)]) := by kernel_rfl
theorem wr_16 (R : Out) (k_pt : (h0 : x < 0) → Out.le (Out.mk Xt.ret (frOf 92 [(4, .string (ByteArray.mk #[])), (5, .int .i64 5)]) [.own 3 cs] []) R) (k_pft : (h0 : ¬ (x < 0)) → (h1 : x > 65535) → Out.le (Out.mk Xt.ret (frOf 92 [(4, .string (ByteArray.mk #[])), (5, .int .i64 5)]) [.own 3 cs] []) R) (k_pff : (h0 : ¬ (x < 0)) → (h1 : ¬ (x > 65535)) → Out.le (Out.mk Xt.normal (frOf 92 [(0, .int .u8 sn), (1, (zSB 0 n c)), (7, (zSB 1 (q + 1 + 1) (q + 1 + 1))), (28, (zSB 2 m m)), (29, .int .i64 (↑m : Int)), (30, .int .i64 ((↑i : Int) + 1))]) [.own 3 cs, .own 5 (bs ++ [.int .u8 (IntKind.wrap IntKind.u8 (x / 1))] ++ [.int .u8 (x / 256)]), .own 3 es] []) R) : CodeSpec (Try.prog) (1) (lpA) (frA sn n c q m (↑i : Int)) ([.own 3 cs, .own 5 bs, .own 3 es]) R := by
  by_cases h0 : x < 0
  · exact (CodeSpec.id (go_ok (body_ok tnamed tcalm tmixed _ _ _ _ _ _ lpA_calm) (wr_16_pt sn x n c q m i cs bs es hcs hbs hes hq hi hx hw0 hw hv0 hv ) (aC dO (aC (inside_of (by omega)) (aC dO (aC ((by omega)) (aC (hw) (aC (inside_of (by omega)) (aC dO (aC ((by omega)) (aC (hv) (aC (dTq h0) (aC (dTq h0) (aC (dTq h0) (aC (dTq h0) (aC (dTq h0) (aC (dTq h0) (aC (dTq h0) (aC (dTq h0) (aC (dTq h0) (aC (dTq h0) (aC (dTq h0) aN)))))))))))))))))))))).le (k_pt h0)
  · by_cases h1 : x > 65535
    · exact (CodeSpec.id (go_ok (body_ok tnamed tcalm tmixed _ _ _ _ _ _ lpA_calm) (wr_16_pft sn x n c q m i cs bs es hcs hbs hes hq hi hx hw0 hw hv0 hv ) (aC dO (aC (inside_of (by omega)) (aC dO (aC ((by omega)) (aC (hw) (aC (inside_of (by omega)) (aC dO (aC ((by omega)) (aC (hv) (aC (dFq h0) (aC (dFq h0) (aC (dFq h0) (aC (inside_of (by omega)) (aC (dFq h0) (aC dO (aC ((by omega)) (aC (hv) (aC (dFq h0) (aC (dFq h0) (aC (dFq h0) (aC (dFq h0) (aC (dFq h0) (aC (dFq h0) (aC (dFq h0) (aC (dTq h1) aN))))))))))))))))))))))))))).le (k_pft h0 h1)
    · exact (CodeSpec.id (go_ok (body_ok tnamed tcalm tmixed _ _ _ _ _ _ lpA_calm) (wr_16_pff sn x n c q m i cs bs es hcs hbs hes hq hi hx hw0 hw hv0 hv ) (aC dO (aC (inside_of (by omega)) (aC dO (aC ((by omega)) (aC (hw) (aC (inside_of (by omega)) (aC dO (aC ((by omega)) (aC (hv) (aC (dFq h0) (aC (dFq h0) (aC (dFq h0) (aC (inside_of (by omega)) (aC (dFq h0) (aC dO (aC ((by omega)) (aC (hv) (aC (dFq h0) (aC (dFq h0) (aC (dFq h0) (aC (dFq h0) (aC (dFq h0) (aC (dFq h0) (aC (dFq h0) (aC (dFq h1) (aC (inside_of (by omega)) (aC dO (aC ((by omega)) (aC (hv) (aC (congrArg (Value.int _) (Int.fdiv_eq_ediv_of_nonneg _ (by omega))) (aC ((by simp [ByteArray.size_append, ByteArray.size_extract, sz_mk] <;> omega)) (aC dN (aC dO (aC (inside_of (by omega)) (aC dO (aC ((by omega)) (aC (hv) (aC (congrArg (Value.int _) (Int.fdiv_eq_ediv_of_nonneg _ (by omega))) (aC (congrArg (Value.int _) (Go.IntWalk.u8_in _ (by omega))) (aC ((by simp [ByteArray.size_append, ByteArray.size_extract, sz_mk] <;> omega)) (aC dN (aC (dTq (by simp [ByteArray.size_append, ByteArray.size_extract, sz_mk] <;> omega)) (aC (congrArg (Value.int _) (Go.IntWalk.i64_in _ (by omega))) aN))))))))))))))))))))))))))))))))))))))))))))).le (k_pff h0 h1)
end
section
variable (sn x : Int) (n c q m i : Nat) (cs bs es : List Value) (hcs : n ≤ List.length cs) (hbs : List.length bs = q) (hes : List.length es = m) (hq : 1 ≤ q ∧ q ≤ 40) (hi : i < n ∧ i < m ∧ m ≤ 5) (hx : -9223372036854775808 ≤ x ∧ x ≤ 9223372036854775807) (hw0 : isInt .i64 (List.getD es (0 + Int.toNat (↑i : Int) * 1) undef) = true) (hw : Value.int .i64 (intOf (List.getD es (0 + Int.toNat (↑i : Int) * 1) undef)) = .int .i64 (-16)) (hv0 : isInt .i64 (List.getD cs (0 + Int.toNat (↑i : Int) * 1) undef) = true) (hv : Value.int .i64 (intOf (List.getD cs (0 + Int.toNat (↑i : Int) * 1) undef)) = .int .i64 x)
include sn x n c q m i cs bs es hcs hbs hes hq hi hx hw0 hw hv0 hv
theorem wr_m16_pt : go (body (Try.prog) (8) (1) (8) (kA) (lpA) (frA sn n c q m (↑i : Int)) ([.own 3 cs, .own 5 bs, .own 3 es])) [(2, .dec true), (1, Itm.must), (1, Itm.must), (0, Itm.must), (0, Itm.val (.int .i64 (-16))), (22, Itm.must), (1, Itm.must), (0, Itm.must), (0, Itm.val (.int .i64 x)), (3, .dec true), (0, .dec true), (0, .dec true), (0, .dec true), (0, .dec true), (0, .dec true), (0, .dec true), (0, .dec true), (0, .dec true), (0, .dec true), (0, .dec true)] = some (Out.mk Xt.ret (frOf 92 [(4, .string (ByteArray.mk #[])), (5, .int .i64 5)]) [.own 3 cs] [], true, [decide ((↑i : Int) < (↑m : Int)) = true, inside (↑i : Int) m = true, decide (0 + Int.toNat (↑i : Int) * 1 < List.length es) = true, isInt .i64 (List.getD es (0 + Int.toNat (↑i : Int) * 1) undef) = true, type_of% hw, inside (↑i : Int) n = true, decide (0 + Int.toNat (↑i : Int) * 1 < List.length cs) = true, isInt .i64 (List.getD cs (0 + Int.toNat (↑i : Int) * 1) undef) = true, type_of% hv, decide (x < -32768) = true, decide (x < -32768) = true, decide (x < -32768) = true, decide (x < -32768) = true, decide (x < -32768) = true, decide (x < -32768) = true, decide (x < -32768) = true, decide (x < -32768) = true, decide (x < -32768) = true, decide (x < -32768) = true, decide (x < -32768) = true]) := by kernel_rfl
theorem wr_m16_pft : go (body (Try.prog) (8) (1) (8) (kA) (lpA) (frA sn n c q m (↑i : Int)) ([.own 3 cs, .own 5 bs, .own 3 es])) [(2, .dec true), (1, Itm.must), (1, Itm.must), (0, Itm.must), (0, Itm.val (.int .i64 (-16))), (22, Itm.must), (1, Itm.must), (0, Itm.must), (0, Itm.val (.int .i64 x)), (3, .dec false), (1, .dec false), (1, .dec false), (0, Itm.must), (1, .dec false), (0, Itm.must), (0, Itm.must), (0, Itm.val (.int .i64 x)), (0, .dec false), (1, .dec false), (1, .dec false), (2, .dec false), (1, .dec false), (1, .dec false), (1, .dec false), (2, .dec true)] = some (Out.mk Xt.ret (frOf 92 [(4, .string (ByteArray.mk #[])), (5, .int .i64 5)]) [.own 3 cs] [], true, [decide ((↑i : Int) < (↑m : Int)) = true, inside (↑i : Int) m = true, decide (0 + Int.toNat (↑i : Int) * 1 < List.length es) = true, isInt .i64 (List.getD es (0 + Int.toNat (↑i : Int) * 1) undef) = true, type_of% hw, inside (↑i : Int) n = true, decide (0 + Int.toNat (↑i : Int) * 1 < List.length cs) = true, isInt .i64 (List.getD cs (0 + Int.toNat (↑i : Int) * 1) undef) = true, type_of% hv, decide (x < -32768) = false, decide (x < -32768) = false, decide (x < -32768) = false, inside (↑i : Int) n = true, decide (x < -32768) = false, decide (0 + Int.toNat (↑i : Int) * 1 < List.length cs) = true, isInt .i64 (List.getD cs (0 + Int.toNat (↑i : Int) * 1) undef) = true, type_of% hv, decide (x < -32768) = false, decide (x < -32768) = false, decide (x < -32768) = false, decide (x < -32768) = false, decide (x < -32768) = false, decide (x < -32768) = false, decide (x < -32768) = false, decide (x > 32767) = true]) := by kernel_rfl
theorem wr_m16_pff : go (body (Try.prog) (8) (1) (8) (kA) (lpA) (frA sn n c q m (↑i : Int)) ([.own 3 cs, .own 5 bs, .own 3 es])) [(2, .dec true), (1, Itm.must), (1, Itm.must), (0, Itm.must), (0, Itm.val (.int .i64 (-16))), (22, Itm.must), (1, Itm.must), (0, Itm.must), (0, Itm.val (.int .i64 x)), (3, .dec false), (1, .dec false), (1, .dec false), (0, Itm.must), (1, .dec false), (0, Itm.must), (0, Itm.must), (0, Itm.val (.int .i64 x)), (0, .dec false), (1, .dec false), (1, .dec false), (2, .dec false), (1, .dec false), (1, .dec false), (1, .dec false), (2, .dec false), (11, Itm.must), (1, Itm.must), (0, Itm.must), (0, Itm.val (.int .i64 x)), (2, Itm.val (.int .i64 (x / 1))), (8, Itm.must), (0, .dec false), (0, Itm.must), (15, Itm.must), (1, Itm.must), (0, Itm.must), (0, Itm.val (.int .i64 x)), (2, Itm.val (.int .i64 (x / 256))), (8, Itm.must), (0, .dec false), (0, Itm.must), (12, Itm.val (.int .i64 ((↑i : Int) + 1)))] = some (Out.mk Xt.normal (frOf 92 [(0, .int .u8 sn), (1, (zSB 0 n c)), (7, (zSB 1 (q + 1 + 1) (q + 1 + 1))), (28, (zSB 2 m m)), (29, .int .i64 (↑m : Int)), (30, .int .i64 ((↑i : Int) + 1))]) [.own 3 cs, .own 5 (bs ++ [.int .u8 (IntKind.wrap IntKind.u8 (x / 1))] ++ [.int .u8 (IntKind.wrap IntKind.u8 (x / 256))]), .own 3 es] [], true, [decide ((↑i : Int) < (↑m : Int)) = true, inside (↑i : Int) m = true, decide (0 + Int.toNat (↑i : Int) * 1 < List.length es) = true, isInt .i64 (List.getD es (0 + Int.toNat (↑i : Int) * 1) undef) = true, type_of% hw, inside (↑i : Int) n = true, decide (0 + Int.toNat (↑i : Int) * 1 < List.length cs) = true, isInt .i64 (List.getD cs (0 + Int.toNat (↑i : Int) * 1) undef) = true, type_of% hv, decide (x < -32768) = false, decide (x < -32768) = false, decide (x < -32768) = false, inside (↑i : Int) n = true, decide (x < -32768) = false, decide (0 + Int.toNat (↑i : Int) * 1 < List.length cs) = true, isInt .i64 (List.getD cs (0 + Int.toNat (↑i : Int) * 1) undef) = true, type_of% hv, decide (x < -32768) = false, decide (x < -32768) = false, decide (x < -32768) = false, decide (x < -32768) = false, decide (x < -32768) = false, decide (x < -32768) = false, decide (x < -32768) = false, decide (x > 32767) = false, inside (↑i : Int) n = true, decide (0 + Int.toNat (↑i : Int) * 1 < List.length cs) = true, isInt .i64 (List.getD cs (0 + Int.toNat (↑i : Int) * 1) undef) = true, type_of% hv, Value.int .i64 (Int.fdiv x 1) = .int .i64 (x / 1), (true && decide ((q + 1) * 1 ≤ 140737488355328) && decide (q + 1 ≤ 140737488355328) && decide (q * 1 ≤ List.length bs)) = true, decide (q + 1 ≤ q) = false, decide (List.length bs = q * 1) = true, inside (↑i : Int) n = true, decide (0 + Int.toNat (↑i : Int) * 1 < List.length cs) = true, isInt .i64 (List.getD cs (0 + Int.toNat (↑i : Int) * 1) undef) = true, type_of% hv, Value.int .i64 (Int.fdiv x 256) = .int .i64 (x / 256), (true && decide ((q + 1 + 1) * 1 ≤ 140737488355328) && decide (q + 1 + 1 ≤ 140737488355328) && decide ((q + 1) * 1 ≤ List.length (bs ++ [.int .u8 (IntKind.wrap IntKind.u8 (x / 1))]))) = true, decide (q + 1 + 1 ≤ q + 1) = false, decide (List.length (bs ++ [.int .u8 (IntKind.wrap IntKind.u8 (x / 1))]) = (q + 1) * 1) = true, Value.int .i64 (IntKind.wrap .i64 ((↑i : Int) + 1)) = .int .i64 ((↑i : Int) + 1)]) := by kernel_rfl
theorem wr_m16 (R : Out) (k_pt : (h0 : x < -32768) → Out.le (Out.mk Xt.ret (frOf 92 [(4, .string (ByteArray.mk #[])), (5, .int .i64 5)]) [.own 3 cs] []) R) (k_pft : (h0 : ¬ (x < -32768)) → (h1 : x > 32767) → Out.le (Out.mk Xt.ret (frOf 92 [(4, .string (ByteArray.mk #[])), (5, .int .i64 5)]) [.own 3 cs] []) R) (k_pff : (h0 : ¬ (x < -32768)) → (h1 : ¬ (x > 32767)) → Out.le (Out.mk Xt.normal (frOf 92 [(0, .int .u8 sn), (1, (zSB 0 n c)), (7, (zSB 1 (q + 1 + 1) (q + 1 + 1))), (28, (zSB 2 m m)), (29, .int .i64 (↑m : Int)), (30, .int .i64 ((↑i : Int) + 1))]) [.own 3 cs, .own 5 (bs ++ [.int .u8 (IntKind.wrap IntKind.u8 (x / 1))] ++ [.int .u8 (IntKind.wrap IntKind.u8 (x / 256))]), .own 3 es] []) R) : CodeSpec (Try.prog) (1) (lpA) (frA sn n c q m (↑i : Int)) ([.own 3 cs, .own 5 bs, .own 3 es]) R := by
  by_cases h0 : x < -32768
  · exact (CodeSpec.id (go_ok (body_ok tnamed tcalm tmixed _ _ _ _ _ _ lpA_calm) (wr_m16_pt sn x n c q m i cs bs es hcs hbs hes hq hi hx hw0 hw hv0 hv ) (aC dO (aC (inside_of (by omega)) (aC dO (aC ((by omega)) (aC (hw) (aC (inside_of (by omega)) (aC dO (aC ((by omega)) (aC (hv) (aC (dTq h0) (aC (dTq h0) (aC (dTq h0) (aC (dTq h0) (aC (dTq h0) (aC (dTq h0) (aC (dTq h0) (aC (dTq h0) (aC (dTq h0) (aC (dTq h0) (aC (dTq h0) aN)))))))))))))))))))))).le (k_pt h0)
  · by_cases h1 : x > 32767
    · exact (CodeSpec.id (go_ok (body_ok tnamed tcalm tmixed _ _ _ _ _ _ lpA_calm) (wr_m16_pft sn x n c q m i cs bs es hcs hbs hes hq hi hx hw0 hw hv0 hv ) (aC dO (aC (inside_of (by omega)) (aC dO (aC ((by omega)) (aC (hw) (aC (inside_of (by omega)) (aC dO (aC ((by omega)) (aC (hv) (aC (dFq h0) (aC (dFq h0) (aC (dFq h0) (aC (inside_of (by omega)) (aC (dFq h0) (aC dO (aC ((by omega)) (aC (hv) (aC (dFq h0) (aC (dFq h0) (aC (dFq h0) (aC (dFq h0) (aC (dFq h0) (aC (dFq h0) (aC (dFq h0) (aC (dTq h1) aN))))))))))))))))))))))))))).le (k_pft h0 h1)
    · exact (CodeSpec.id (go_ok (body_ok tnamed tcalm tmixed _ _ _ _ _ _ lpA_calm) (wr_m16_pff sn x n c q m i cs bs es hcs hbs hes hq hi hx hw0 hw hv0 hv ) (aC dO (aC (inside_of (by omega)) (aC dO (aC ((by omega)) (aC (hw) (aC (inside_of (by omega)) (aC dO (aC ((by omega)) (aC (hv) (aC (dFq h0) (aC (dFq h0) (aC (dFq h0) (aC (inside_of (by omega)) (aC (dFq h0) (aC dO (aC ((by omega)) (aC (hv) (aC (dFq h0) (aC (dFq h0) (aC (dFq h0) (aC (dFq h0) (aC (dFq h0) (aC (dFq h0) (aC (dFq h0) (aC (dFq h1) (aC (inside_of (by omega)) (aC dO (aC ((by omega)) (aC (hv) (aC (congrArg (Value.int _) (Int.fdiv_eq_ediv_of_nonneg _ (by omega))) (aC ((by simp [ByteArray.size_append, ByteArray.size_extract, sz_mk] <;> omega)) (aC dN (aC dO (aC (inside_of (by omega)) (aC dO (aC ((by omega)) (aC (hv) (aC (congrArg (Value.int _) (Int.fdiv_eq_ediv_of_nonneg _ (by omega))) (aC ((by simp [ByteArray.size_append, ByteArray.size_extract, sz_mk] <;> omega)) (aC dN (aC (dTq (by simp [ByteArray.size_append, ByteArray.size_extract, sz_mk] <;> omega)) (aC (congrArg (Value.int _) (Go.IntWalk.i64_in _ (by omega))) aN)))))))))))))))))))))))))))))))))))))))))))).le (k_pff h0 h1)
end
section
variable (sn x : Int) (n c q m i : Nat) (cs bs es : List Value) (hcs : n ≤ List.length cs) (hbs : List.length bs = q) (hes : List.length es = m) (hq : 1 ≤ q ∧ q ≤ 40) (hi : i < n ∧ i < m ∧ m ≤ 5) (hx : -9223372036854775808 ≤ x ∧ x ≤ 9223372036854775807) (hw0 : isInt .i64 (List.getD es (0 + Int.toNat (↑i : Int) * 1) undef) = true) (hw : Value.int .i64 (intOf (List.getD es (0 + Int.toNat (↑i : Int) * 1) undef)) = .int .i64 (-32)) (hv0 : isInt .i64 (List.getD cs (0 + Int.toNat (↑i : Int) * 1) undef) = true) (hv : Value.int .i64 (intOf (List.getD cs (0 + Int.toNat (↑i : Int) * 1) undef)) = .int .i64 x)
include sn x n c q m i cs bs es hcs hbs hes hq hi hx hw0 hw hv0 hv
theorem wr_m32_pt : go (body (Try.prog) (8) (1) (8) (kA) (lpA) (frA sn n c q m (↑i : Int)) ([.own 3 cs, .own 5 bs, .own 3 es])) [(2, .dec true), (1, Itm.must), (1, Itm.must), (0, Itm.must), (0, Itm.val (.int .i64 (-32))), (22, Itm.must), (1, Itm.must), (0, Itm.must), (0, Itm.val (.int .i64 x)), (3, .dec true), (0, .dec true), (0, .dec true), (0, .dec true), (0, .dec true), (0, .dec true), (0, .dec true), (0, .dec true), (0, .dec true), (0, .dec true), (0, .dec true)] = some (Out.mk Xt.ret (frOf 92 [(4, .string (ByteArray.mk #[])), (5, .int .i64 5)]) [.own 3 cs] [], true, [decide ((↑i : Int) < (↑m : Int)) = true, inside (↑i : Int) m = true, decide (0 + Int.toNat (↑i : Int) * 1 < List.length es) = true, isInt .i64 (List.getD es (0 + Int.toNat (↑i : Int) * 1) undef) = true, type_of% hw, inside (↑i : Int) n = true, decide (0 + Int.toNat (↑i : Int) * 1 < List.length cs) = true, isInt .i64 (List.getD cs (0 + Int.toNat (↑i : Int) * 1) undef) = true, type_of% hv, decide (x < -2147483648) = true, decide (x < -2147483648) = true, decide (x < -2147483648) = true, decide (x < -2147483648) = true, decide (x < -2147483648) = true, decide (x < -2147483648) = true, decide (x < -2147483648) = true, decide (x < -2147483648) = true, decide (x < -2147483648) = true, decide (x < -2147483648) = true, decide (x < -2147483648) = true]) := by kernel_rfl
theorem wr_m32_pft : go (body (Try.prog) (8) (1) (8) (kA) (lpA) (frA sn n c q m (↑i : Int)) ([.own 3 cs, .own 5 bs, .own 3 es])) [(2, .dec true), (1, Itm.must), (1, Itm.must), (0, Itm.must), (0, Itm.val (.int .i64 (-32))), (22, Itm.must), (1, Itm.must), (0, Itm.must), (0, Itm.val (.int .i64 x)), (3, .dec false), (1, .dec false), (1, .dec false), (0, Itm.must), (1, .dec false), (0, Itm.must), (0, Itm.must), (0, Itm.val (.int .i64 x)), (0, .dec false), (1, .dec false), (1, .dec false), (2, .dec false), (1, .dec false), (1, .dec false), (1, .dec false), (2, .dec true)] = some (Out.mk Xt.ret (frOf 92 [(4, .string (ByteArray.mk #[])), (5, .int .i64 5)]) [.own 3 cs] [], true, [decide ((↑i : Int) < (↑m : Int)) = true, inside (↑i : Int) m = true, decide (0 + Int.toNat (↑i : Int) * 1 < List.length es) = true, isInt .i64 (List.getD es (0 + Int.toNat (↑i : Int) * 1) undef) = true, type_of% hw, inside (↑i : Int) n = true, decide (0 + Int.toNat (↑i : Int) * 1 < List.length cs) = true, isInt .i64 (List.getD cs (0 + Int.toNat (↑i : Int) * 1) undef) = true, type_of% hv, decide (x < -2147483648) = false, decide (x < -2147483648) = false, decide (x < -2147483648) = false, inside (↑i : Int) n = true, decide (x < -2147483648) = false, decide (0 + Int.toNat (↑i : Int) * 1 < List.length cs) = true, isInt .i64 (List.getD cs (0 + Int.toNat (↑i : Int) * 1) undef) = true, type_of% hv, decide (x < -2147483648) = false, decide (x < -2147483648) = false, decide (x < -2147483648) = false, decide (x < -2147483648) = false, decide (x < -2147483648) = false, decide (x < -2147483648) = false, decide (x < -2147483648) = false, decide (x > 2147483647) = true]) := by kernel_rfl
theorem wr_m32_pff : go (body (Try.prog) (8) (1) (8) (kA) (lpA) (frA sn n c q m (↑i : Int)) ([.own 3 cs, .own 5 bs, .own 3 es])) [(2, .dec true), (1, Itm.must), (1, Itm.must), (0, Itm.must), (0, Itm.val (.int .i64 (-32))), (22, Itm.must), (1, Itm.must), (0, Itm.must), (0, Itm.val (.int .i64 x)), (3, .dec false), (1, .dec false), (1, .dec false), (0, Itm.must), (1, .dec false), (0, Itm.must), (0, Itm.must), (0, Itm.val (.int .i64 x)), (0, .dec false), (1, .dec false), (1, .dec false), (2, .dec false), (1, .dec false), (1, .dec false), (1, .dec false), (2, .dec false), (11, Itm.must), (1, Itm.must), (0, Itm.must), (0, Itm.val (.int .i64 x)), (2, Itm.val (.int .i64 (x / 1))), (8, Itm.must), (0, .dec false), (0, Itm.must), (15, Itm.must), (1, Itm.must), (0, Itm.must), (0, Itm.val (.int .i64 x)), (2, Itm.val (.int .i64 (x / 256))), (8, Itm.must), (0, .dec false), (0, Itm.must), (15, Itm.must), (1, Itm.must), (0, Itm.must), (0, Itm.val (.int .i64 x)), (2, Itm.val (.int .i64 (x / 65536))), (8, Itm.must), (0, .dec false), (0, Itm.must), (15, Itm.must), (1, Itm.must), (0, Itm.must), (0, Itm.val (.int .i64 x)), (2, Itm.val (.int .i64 (x / 16777216))), (8, Itm.must), (0, .dec false), (0, Itm.must), (12, Itm.val (.int .i64 ((↑i : Int) + 1)))] = some (Out.mk Xt.normal (frOf 92 [(0, .int .u8 sn), (1, (zSB 0 n c)), (7, (zSB 1 (q + 1 + 1 + 1 + 1) (q + 1 + 1 + 1 + 1))), (28, (zSB 2 m m)), (29, .int .i64 (↑m : Int)), (30, .int .i64 ((↑i : Int) + 1))]) [.own 3 cs, .own 5 (bs ++ [.int .u8 (IntKind.wrap IntKind.u8 (x / 1))] ++ [.int .u8 (IntKind.wrap IntKind.u8 (x / 256))] ++ [.int .u8 (IntKind.wrap IntKind.u8 (x / 65536))] ++ [.int .u8 (IntKind.wrap IntKind.u8 (x / 16777216))]), .own 3 es] [], true, [decide ((↑i : Int) < (↑m : Int)) = true, inside (↑i : Int) m = true, decide (0 + Int.toNat (↑i : Int) * 1 < List.length es) = true, isInt .i64 (List.getD es (0 + Int.toNat (↑i : Int) * 1) undef) = true, type_of% hw, inside (↑i : Int) n = true, decide (0 + Int.toNat (↑i : Int) * 1 < List.length cs) = true, isInt .i64 (List.getD cs (0 + Int.toNat (↑i : Int) * 1) undef) = true, type_of% hv, decide (x < -2147483648) = false, decide (x < -2147483648) = false, decide (x < -2147483648) = false, inside (↑i : Int) n = true, decide (x < -2147483648) = false, decide (0 + Int.toNat (↑i : Int) * 1 < List.length cs) = true, isInt .i64 (List.getD cs (0 + Int.toNat (↑i : Int) * 1) undef) = true, type_of% hv, decide (x < -2147483648) = false, decide (x < -2147483648) = false, decide (x < -2147483648) = false, decide (x < -2147483648) = false, decide (x < -2147483648) = false, decide (x < -2147483648) = false, decide (x < -2147483648) = false, decide (x > 2147483647) = false, inside (↑i : Int) n = true, decide (0 + Int.toNat (↑i : Int) * 1 < List.length cs) = true, isInt .i64 (List.getD cs (0 + Int.toNat (↑i : Int) * 1) undef) = true, type_of% hv, Value.int .i64 (Int.fdiv x 1) = .int .i64 (x / 1), (true && decide ((q + 1) * 1 ≤ 140737488355328) && decide (q + 1 ≤ 140737488355328) && decide (q * 1 ≤ List.length bs)) = true, decide (q + 1 ≤ q) = false, decide (List.length bs = q * 1) = true, inside (↑i : Int) n = true, decide (0 + Int.toNat (↑i : Int) * 1 < List.length cs) = true, isInt .i64 (List.getD cs (0 + Int.toNat (↑i : Int) * 1) undef) = true, type_of% hv, Value.int .i64 (Int.fdiv x 256) = .int .i64 (x / 256), (true && decide ((q + 1 + 1) * 1 ≤ 140737488355328) && decide (q + 1 + 1 ≤ 140737488355328) && decide ((q + 1) * 1 ≤ List.length (bs ++ [.int .u8 (IntKind.wrap IntKind.u8 (x / 1))]))) = true, decide (q + 1 + 1 ≤ q + 1) = false, decide (List.length (bs ++ [.int .u8 (IntKind.wrap IntKind.u8 (x / 1))]) = (q + 1) * 1) = true, inside (↑i : Int) n = true, decide (0 + Int.toNat (↑i : Int) * 1 < List.length cs) = true, isInt .i64 (List.getD cs (0 + Int.toNat (↑i : Int) * 1) undef) = true, type_of% hv, Value.int .i64 (Int.fdiv x 65536) = .int .i64 (x / 65536), (true && decide ((q + 1 + 1 + 1) * 1 ≤ 140737488355328) && decide (q + 1 + 1 + 1 ≤ 140737488355328) && decide ((q + 1 + 1) * 1 ≤ List.length (bs ++ [.int .u8 (IntKind.wrap IntKind.u8 (x / 1))] ++ [.int .u8 (IntKind.wrap IntKind.u8 (x / 256))]))) = true, decide (q + 1 + 1 + 1 ≤ q + 1 + 1) = false, decide (List.length (bs ++ [.int .u8 (IntKind.wrap IntKind.u8 (x / 1))] ++ [.int .u8 (IntKind.wrap IntKind.u8 (x / 256))]) = (q + 1 + 1) * 1) = true, inside (↑i : Int) n = true, decide (0 + Int.toNat (↑i : Int) * 1 < List.length cs) = true, isInt .i64 (List.getD cs (0 + Int.toNat (↑i : Int) * 1) undef) = true, type_of% hv, Value.int .i64 (Int.fdiv x 16777216) = .int .i64 (x / 16777216), (true && decide ((q + 1 + 1 + 1 + 1) * 1 ≤ 140737488355328) && decide (q + 1 + 1 + 1 + 1 ≤ 140737488355328) && decide ((q + 1 + 1 + 1) * 1 ≤ List.length (bs ++ [.int .u8 (IntKind.wrap IntKind.u8 (x / 1))] ++ [.int .u8 (IntKind.wrap IntKind.u8 (x / 256))] ++ [.int .u8 (IntKind.wrap IntKind.u8 (x / 65536))]))) = true, decide (q + 1 + 1 + 1 + 1 ≤ q + 1 + 1 + 1) = false, decide (List.length (bs ++ [.int .u8 (IntKind.wrap IntKind.u8 (x / 1))] ++ [.int .u8 (IntKind.wrap IntKind.u8 (x / 256))] ++ [.int .u8 (IntKind.wrap IntKind.u8 (x / 65536))]) = (q + 1 + 1 + 1) * 1) = true, Value.int .i64 (IntKind.wrap .i64 ((↑i : Int) + 1)) = .int .i64 ((↑i : Int) + 1)]) := by kernel_rfl
theorem wr_m32 (R : Out) (k_pt : (h0 : x < -2147483648) → Out.le (Out.mk Xt.ret (frOf 92 [(4, .string (ByteArray.mk #[])), (5, .int .i64 5)]) [.own 3 cs] []) R) (k_pft : (h0 : ¬ (x < -2147483648)) → (h1 : x > 2147483647) → Out.le (Out.mk Xt.ret (frOf 92 [(4, .string (ByteArray.mk #[])), (5, .int .i64 5)]) [.own 3 cs] []) R) (k_pff : (h0 : ¬ (x < -2147483648)) → (h1 : ¬ (x > 2147483647)) → Out.le (Out.mk Xt.normal (frOf 92 [(0, .int .u8 sn), (1, (zSB 0 n c)), (7, (zSB 1 (q + 1 + 1 + 1 + 1) (q + 1 + 1 + 1 + 1))), (28, (zSB 2 m m)), (29, .int .i64 (↑m : Int)), (30, .int .i64 ((↑i : Int) + 1))]) [.own 3 cs, .own 5 (bs ++ [.int .u8 (IntKind.wrap IntKind.u8 (x / 1))] ++ [.int .u8 (IntKind.wrap IntKind.u8 (x / 256))] ++ [.int .u8 (IntKind.wrap IntKind.u8 (x / 65536))] ++ [.int .u8 (IntKind.wrap IntKind.u8 (x / 16777216))]), .own 3 es] []) R) : CodeSpec (Try.prog) (1) (lpA) (frA sn n c q m (↑i : Int)) ([.own 3 cs, .own 5 bs, .own 3 es]) R := by
  by_cases h0 : x < -2147483648
  · exact (CodeSpec.id (go_ok (body_ok tnamed tcalm tmixed _ _ _ _ _ _ lpA_calm) (wr_m32_pt sn x n c q m i cs bs es hcs hbs hes hq hi hx hw0 hw hv0 hv ) (aC dO (aC (inside_of (by omega)) (aC dO (aC ((by omega)) (aC (hw) (aC (inside_of (by omega)) (aC dO (aC ((by omega)) (aC (hv) (aC (dTq h0) (aC (dTq h0) (aC (dTq h0) (aC (dTq h0) (aC (dTq h0) (aC (dTq h0) (aC (dTq h0) (aC (dTq h0) (aC (dTq h0) (aC (dTq h0) (aC (dTq h0) aN)))))))))))))))))))))).le (k_pt h0)
  · by_cases h1 : x > 2147483647
    · exact (CodeSpec.id (go_ok (body_ok tnamed tcalm tmixed _ _ _ _ _ _ lpA_calm) (wr_m32_pft sn x n c q m i cs bs es hcs hbs hes hq hi hx hw0 hw hv0 hv ) (aC dO (aC (inside_of (by omega)) (aC dO (aC ((by omega)) (aC (hw) (aC (inside_of (by omega)) (aC dO (aC ((by omega)) (aC (hv) (aC (dFq h0) (aC (dFq h0) (aC (dFq h0) (aC (inside_of (by omega)) (aC (dFq h0) (aC dO (aC ((by omega)) (aC (hv) (aC (dFq h0) (aC (dFq h0) (aC (dFq h0) (aC (dFq h0) (aC (dFq h0) (aC (dFq h0) (aC (dFq h0) (aC (dTq h1) aN))))))))))))))))))))))))))).le (k_pft h0 h1)
    · exact (CodeSpec.id (go_ok (body_ok tnamed tcalm tmixed _ _ _ _ _ _ lpA_calm) (wr_m32_pff sn x n c q m i cs bs es hcs hbs hes hq hi hx hw0 hw hv0 hv ) (aC dO (aC (inside_of (by omega)) (aC dO (aC ((by omega)) (aC (hw) (aC (inside_of (by omega)) (aC dO (aC ((by omega)) (aC (hv) (aC (dFq h0) (aC (dFq h0) (aC (dFq h0) (aC (inside_of (by omega)) (aC (dFq h0) (aC dO (aC ((by omega)) (aC (hv) (aC (dFq h0) (aC (dFq h0) (aC (dFq h0) (aC (dFq h0) (aC (dFq h0) (aC (dFq h0) (aC (dFq h0) (aC (dFq h1) (aC (inside_of (by omega)) (aC dO (aC ((by omega)) (aC (hv) (aC (congrArg (Value.int _) (Int.fdiv_eq_ediv_of_nonneg _ (by omega))) (aC ((by simp [ByteArray.size_append, ByteArray.size_extract, sz_mk] <;> omega)) (aC dN (aC dO (aC (inside_of (by omega)) (aC dO (aC ((by omega)) (aC (hv) (aC (congrArg (Value.int _) (Int.fdiv_eq_ediv_of_nonneg _ (by omega))) (aC ((by simp [ByteArray.size_append, ByteArray.size_extract, sz_mk] <;> omega)) (aC dN (aC (dTq (by simp [ByteArray.size_append, ByteArray.size_extract, sz_mk] <;> omega)) (aC (inside_of (by omega)) (aC dO (aC ((by omega)) (aC (hv) (aC (congrArg (Value.int _) (Int.fdiv_eq_ediv_of_nonneg _ (by omega))) (aC ((by simp [ByteArray.size_append, ByteArray.size_extract, sz_mk] <;> omega)) (aC dN (aC (dTq (by simp [ByteArray.size_append, ByteArray.size_extract, sz_mk] <;> omega)) (aC (inside_of (by omega)) (aC dO (aC ((by omega)) (aC (hv) (aC (congrArg (Value.int _) (Int.fdiv_eq_ediv_of_nonneg _ (by omega))) (aC ((by simp [ByteArray.size_append, ByteArray.size_extract, sz_mk] <;> omega)) (aC dN (aC (dTq (by simp [ByteArray.size_append, ByteArray.size_extract, sz_mk] <;> omega)) (aC (congrArg (Value.int _) (Go.IntWalk.i64_in _ (by omega))) aN)))))))))))))))))))))))))))))))))))))))))))))))))))))))))))).le (k_pff h0 h1)
end
section
variable (sn : Int) (n c q m : Nat) (cs bs es : List Value) (hes : List.length es = m)
include sn n c q m cs bs es hes
theorem wr_end_p : go (body (Try.prog) (8) (1) (8) (kA) (lpA) (frA sn n c q m (↑m : Int)) ([.own 3 cs, .own 5 bs, .own 3 es])) [(2, .dec false)] = some (Out.mk (Xt.exit 1) (frOf 92 [(0, .int .u8 sn), (1, (zSB 0 n c)), (7, (zSB 1 q q)), (28, (zSB 2 m m)), (29, .int .i64 (↑m : Int)), (30, .int .i64 (↑m : Int))]) [.own 3 cs, .own 5 bs, .own 3 es] [], true, [decide ((↑m : Int) < (↑m : Int)) = false]) := by kernel_rfl
theorem wr_end (R : Out) (k_p : Out.le (Out.mk (Xt.exit 1) (frOf 92 [(0, .int .u8 sn), (1, (zSB 0 n c)), (7, (zSB 1 q q)), (28, (zSB 2 m m)), (29, .int .i64 (↑m : Int)), (30, .int .i64 (↑m : Int))]) [.own 3 cs, .own 5 bs, .own 3 es] []) R) : CodeSpec (Try.prog) (1) (lpA) (frA sn n c q m (↑m : Int)) ([.own 3 cs, .own 5 bs, .own 3 es]) R := by
  exact (CodeSpec.id (go_ok (body_ok tnamed tcalm tmixed _ _ _ _ _ _ lpA_calm) (wr_end_p sn n c q m cs bs es hes ) (aC dN aN))).le (k_p )
end
end Go.Proofs.Ytbolppjlaipfjaa.Ex
end
section
set_option linter.unusedSectionVars false
set_option linter.unusedSimpArgs false
set_option linter.unusedVariables false
namespace Go.Proofs.Ytbolppjlaipfjaa.Ex
open Go
set_option linter.unusedVariables false
def loW (w : Int) : Int := if w < 0 then -(256 ^ wB w / 2) else 0
def hiW (w : Int) : Int := if w < 0 then 256 ^ wB w / 2 - 1 else 256 ^ wB w - 1
def okX (w x : Int) : Prop := loW w ≤ x ∧ x ≤ hiW w
instance (w x : Int) : Decidable (okX w x) := inferInstanceAs (Decidable (loW w ≤ x ∧ x ≤ hiW w))
def byW (w x : Int) : List Int := (List.range (wB w)).map fun j => x / 256 ^ j % 256
def uB (l : List Int) : List Value := l.map fun b => .int .u8 b
theorem uB_len (l : List Int) : (uB l).length = l.length := by unfold uB; rw [List.length_map]
theorem uB_app (a b : List Int) : uB (a ++ b) = uB a ++ uB b := by unfold uB; rw [List.map_append]
def wrF : List Int → List Int → Option (List Int)
  | [], _ => some []
  | _ :: _, [] => none
  | w :: ws, x :: xs => if okX w x then (wrF ws xs).map (byW w x ++ ·) else none
def i64 (x : Int) : Prop := -9223372036854775808 ≤ x ∧ x ≤ 9223372036854775807
theorem wrap8 (n : Int) : IntKind.wrap .u8 n = n % 256 := IntKind.wrap_u8 n
theorem wr_round (sn x w : Int) (n c q m i : Nat) (cs bs es : List Value) (hcs : n ≤ cs.length) (hbs : bs.length = q) (hes : es.length = m) (hq : 1 ≤ q ∧ q ≤ 40) (hi : i < n ∧ i < m ∧ m ≤ 5) (hx : i64 x) (hwk : okW w)
    (hw : List.getD es i undef = .int .i64 w) (hv : List.getD cs i undef = .int .i64 x) :
    (okX w x → CodeSpec Try.prog 1 lpA (frA sn n c q m i) [.own 3 cs, .own 5 bs, .own 3 es] ⟨.normal, frA sn n c (q + wB w) m (i + 1 : Nat), [.own 3 cs, .own 5 (bs ++ uB (byW w x)), .own 3 es], []⟩) ∧
    (¬ okX w x → CodeSpec Try.prog 1 lpA (frA sn n c q m i) [.own 3 cs, .own 5 bs, .own 3 es] ⟨.ret, frOf 92 [(4, .string ⟨#[]⟩), (5, .int .i64 5)], [.own 3 cs], []⟩) := by
  have ei : 0 + Int.toNat (i : Int) * 1 = i := by omega
  have w1 : isInt .i64 (List.getD es (0 + Int.toNat (i : Int) * 1) undef) = true := by rw [ei, hw]; rfl
  have w2 : Value.int .i64 (intOf (List.getD es (0 + Int.toNat (i : Int) * 1) undef)) = .int .i64 w := by rw [ei, hw]; rfl
  have v1 : isInt .i64 (List.getD cs (0 + Int.toNat (i : Int) * 1) undef) = true := by rw [ei, hv]; rfl
  have v2 : Value.int .i64 (intOf (List.getD cs (0 + Int.toNat (i : Int) * 1) undef)) = .int .i64 x := by rw [ei, hv]; rfl
  rcases hwk with rfl | rfl | rfl | rfl
  · have e : okX 8 x ↔ (0 ≤ x ∧ x ≤ 255) := Iff.rfl
    have eb : byW 8 x = [x / 1 % 256] := rfl
    refine ⟨fun h => ?_, fun h => ?_⟩
    · have h := e.1 h
      refine wr_8 sn x n c q m i cs bs es hcs hbs hes hq hi hx w1 w2 v1 v2 _ (fun h0 => absurd h0 (by omega)) (fun _ h1 => absurd h1 (by omega)) (fun _ _ => ⟨rfl, rfl, ?_, fun j hj => hj⟩)
      have e1 : x / 1 % 256 = x / 1 := by omega
      rw [eb, e1]
      rfl
    · exact wr_8 sn x n c q m i cs bs es hcs hbs hes hq hi hx w1 w2 v1 v2 _ (fun _ => out_refl) (fun _ _ => out_refl) (fun h0 h1 => absurd (e.2 ⟨by omega, by omega⟩) h)
  · have e : okX 16 x ↔ (0 ≤ x ∧ x ≤ 65535) := Iff.rfl
    have eb : byW 16 x = [x / 1 % 256, x / 256 % 256] := rfl
    refine ⟨fun h => ?_, fun h => ?_⟩
    · have h := e.1 h
      refine wr_16 sn x n c q m i cs bs es hcs hbs hes hq hi hx w1 w2 v1 v2 _ (fun h0 => absurd h0 (by omega)) (fun _ h1 => absurd h1 (by omega)) (fun _ _ => ⟨rfl, rfl, ?_, fun j hj => hj⟩)
      have e1 : x / 256 % 256 = x / 256 := by omega
      rw [eb, e1]
      show [_, _, _] = [_, _, _]
      rw [wrap8, List.append_assoc]
      rfl
    · exact wr_16 sn x n c q m i cs bs es hcs hbs hes hq hi hx w1 w2 v1 v2 _ (fun _ => out_refl) (fun _ _ => out_refl) (fun h0 h1 => absurd (e.2 ⟨by omega, by omega⟩) h)
  · have e : okX (-16) x ↔ (-32768 ≤ x ∧ x ≤ 32767) := Iff.rfl
    have eb : byW (-16) x = [x / 1 % 256, x / 256 % 256] := rfl
    refine ⟨fun h => ?_, fun h => ?_⟩
    · have h := e.1 h
      refine wr_m16 sn x n c q m i cs bs es hcs hbs hes hq hi hx w1 w2 v1 v2 _ (fun h0 => absurd h0 (by omega)) (fun _ h1 => absurd h1 (by omega)) (fun _ _ => ⟨rfl, rfl, ?_, fun j hj => hj⟩)
      rw [eb]
      show [_, _, _] = [_, _, _]
      rw [wrap8, wrap8, List.append_assoc]
      rfl
    · exact wr_m16 sn x n c q m i cs bs es hcs hbs hes hq hi hx w1 w2 v1 v2 _ (fun _ => out_refl) (fun _ _ => out_refl) (fun h0 h1 => absurd (e.2 ⟨by omega, by omega⟩) h)
  · have e : okX (-32) x ↔ (-2147483648 ≤ x ∧ x ≤ 2147483647) := Iff.rfl
    have eb : byW (-32) x = [x / 1 % 256, x / 256 % 256, x / 65536 % 256, x / 16777216 % 256] := rfl
    refine ⟨fun h => ?_, fun h => ?_⟩
    · have h := e.1 h
      refine wr_m32 sn x n c q m i cs bs es hcs hbs hes hq hi hx w1 w2 v1 v2 _ (fun h0 => absurd h0 (by omega)) (fun _ h1 => absurd h1 (by omega)) (fun _ _ => ⟨rfl, rfl, ?_, fun j hj => hj⟩)
      rw [eb]
      show [_, _, _] = [_, _, _]
      rw [wrap8, wrap8, wrap8, wrap8, List.append_assoc, List.append_assoc, List.append_assoc]
      rfl
    · exact wr_m32 sn x n c q m i cs bs es hcs hbs hes hq hi hx w1 w2 v1 v2 _ (fun _ => out_refl) (fun _ _ => out_refl) (fun h0 h1 => absurd (e.2 ⟨by omega, by omega⟩) h)
theorem iW_getD (a b : List Int) (w : Int) (ex : List Value) : List.getD (iW (a ++ w :: b) ++ ex) a.length undef = .int .i64 w := by
  rw [iW_app, List.getD_eq_getElem?_getD, List.getElem?_append_left (by simp [iW_len, iW]), List.getElem?_append_right (by rw [iW_len]; omega), iW_len]
  simp [iW]
theorem byW_len (w x : Int) : (byW w x).length = wB w := by unfold byW; rw [List.length_map, List.length_range]
theorem wr_loop (sn : Int) (c : Nat) (ex : List Value) : ∀ (ws dw xs dx : List Int) (bs : List Int), dw.length = dx.length → ws.length = xs.length → (dw ++ ws).length ≤ 5 → (∀ w ∈ ws, okW w) → (∀ x ∈ xs, i64 x) → 1 ≤ bs.length → bs.length + sumW ws ≤ 30 →
    LoopSpec Try.prog 1 lpA (frA sn (dx ++ xs).length c bs.length (dw ++ ws).length (dw.length : Nat)) [.own 3 (iW (dx ++ xs) ++ ex), .own 5 (uB bs), .own 3 (iW (dw ++ ws))]
      (match wrF ws xs with
      | none => ⟨.ret, frOf 92 [(4, .string ⟨#[]⟩), (5, .int .i64 5)], [.own 3 (iW (dx ++ xs) ++ ex)], []⟩
      | some l => ⟨.exit 1, frA sn (dx ++ xs).length c (bs ++ l).length (dw ++ ws).length ((dw ++ ws).length : Nat), [.own 3 (iW (dx ++ xs) ++ ex), .own 5 (uB (bs ++ l)), .own 3 (iW (dw ++ ws))], []⟩)
  | [], dw, [], dx, bs, hd, hl, h5, hw, hx, hb, hs => by
    rw [wrF]
    simp only [List.append_nil]
    refine .last (wr_end sn dx.length c bs.length dw.length _ _ _ (iW_len _) _ out_refl) (by intro h; cases h)
  | [], _, _ :: _, _, _, _, hl, _, _, _, _, _ => by simp at hl
  | _ :: _, _, [], _, _, _, hl, _, _, _, _, _ => by simp at hl
  | w :: ws, dw, x :: xs, dx, bs, hd, hl, h5, hw, hx, hb, hs => by
    rw [sumW] at hs
    have hl1 : (dw ++ w :: ws).length = dw.length + 1 + ws.length := by simp; omega
    have hl2 : (dx ++ x :: xs).length = dx.length + 1 + xs.length := by simp; omega
    have hR := wr_round sn x w (dx ++ x :: xs).length c bs.length (dw ++ w :: ws).length dw.length (iW (dx ++ x :: xs) ++ ex) (uB bs) (iW (dw ++ w :: ws)) (by have h1 := iW_len (dx ++ x :: xs); have h2 : (iW (dx ++ x :: xs) ++ ex).length = (iW (dx ++ x :: xs)).length + ex.length := List.length_append; omega) (uB_len _) (iW_len _) ⟨hb, by omega⟩ ⟨by omega, by omega, h5⟩ (hx x (by simp)) (hw w (by simp))
      (by have := iW_getD dw ws w []; rwa [List.append_nil] at this) (by rw [hd]; exact iW_getD dx xs x ex)
    rw [wrF]
    by_cases hk : okX w x
    · rw [if_pos hk]
      have ih := wr_loop sn c ex ws (dw ++ [w]) xs (dx ++ [x]) (bs ++ byW w x) (by simp [hd]) (by simpa using hl) (by simpa using h5) (fun u hu => hw u (by simp [hu])) (fun u hu => hx u (by simp [hu])) (by rw [List.length_append]; omega) (by rw [List.length_append, byW_len]; omega)
      rw [List.append_assoc, List.singleton_append, List.append_assoc, List.singleton_append, uB_app, show (bs ++ byW w x).length = bs.length + wB w by rw [List.length_append, byW_len]] at ih
      have e1 : (((dw ++ [w]).length : Nat) : Int) = ((dw.length + 1 : Nat) : Int) := by simp
      rw [e1] at ih
      refine .more (hR.1 hk) rfl ?_ (fun j hj _ => by cases hj)
      cases hF : wrF ws xs with
      | none => rw [hF] at ih; exact ih
      | some l => rw [hF] at ih; simp only [Option.map_some, ← List.append_assoc]; exact ih
    · rw [if_neg hk]
      exact .last (hR.2 hk) (by intro h; cases h)
end Go.Proofs.Ytbolppjlaipfjaa.Ex
end
section
set_option linter.unusedSectionVars false
set_option linter.unusedSimpArgs false
set_option linter.unusedVariables false
namespace Go.Proofs.Ytbolppjlaipfjaa.Ex
open Go
set_option linter.unusedVariables false
def strB (bs : List Value) : ByteArray := ⟨(bs.map unbyte).toArray⟩
section
variable (sn : Int) (n c : Nat) (cs : List Value) (hW : CallSpec Try.prog 20 [.int .u8 sn] [] (.mk slN [] []))
include sn n c cs hW
theorem wrt_0s_p : go (exec (Try.prog) (8) (15) ([.int .u8 sn, slB 0 n c]) ([.own 3 cs])) [(5, .call (.mk (zSN) [] []))] = some (.mk (.tuple #[.string (ByteArray.mk #[]), .int .i64 6]) [.own 3 cs] [], true, [type_of% hW]) := by kernel_rfl
theorem wrt_0s (R : Res) (k_p : Res.le (.mk (.tuple #[.string (ByteArray.mk #[]), .int .i64 6]) [.own 3 cs] []) R) : CallSpec (Try.prog) (15) ([.int .u8 sn, slB 0 n c]) ([.own 3 cs]) R := by
  exact (CallSpec.id (go_ok (exec_ok tnamed tcalm tmixed _ _ _ _) (wrt_0s_p sn n c cs hW ) (aC (hW) aN))).le (k_p )
end
section
variable (sn : Int) (n c m : Nat) (cs es : List Value) (hm : 1 ≤ m) (hn : ¬m = n) (hW : CallSpec Try.prog 20 [.int .u8 sn] [] (.mk (slB 0 m m) [.own 3 es] []))
include sn n c m cs es hm hn hW
theorem wrt_cs_p : go (exec (Try.prog) (8) (15) ([.int .u8 sn, slB 0 n c]) ([.own 3 cs])) [(5, .call (.mk ((zSB 0 m m)) [.own 3 es] [])), (9, .dec false), (7, .dec true)] = some (.mk (.tuple #[.string (ByteArray.mk #[]), .int .i64 50]) [.own 3 cs] [], true, [type_of% hW, decide ((↑m : Int) = 0) = false, (!decide ((↑m : Int) = (↑n : Int))) = true]) := by kernel_rfl
theorem wrt_cs (R : Res) (k_p : Res.le (.mk (.tuple #[.string (ByteArray.mk #[]), .int .i64 50]) [.own 3 cs] []) R) : CallSpec (Try.prog) (15) ([.int .u8 sn, slB 0 n c]) ([.own 3 cs]) R := by
  exact (CallSpec.id (go_ok (exec_ok tnamed tcalm tmixed _ _ _ _) (wrt_cs_p sn n c m cs es hm hn hW ) (aC (hW) (aC dN (aC (congrArg not dN) aN))))).le (k_p )
end
section
variable (sn : Int) (m c : Nat) (cs es : List Value) (hm : 1 ≤ m) (hW : CallSpec Try.prog 20 [.int .u8 sn] [] (.mk (slB 0 m m) [.own 3 es] [])) (kL : CodeSpec Try.prog 1 lpAC (frA sn m c 1 m 0) [.own 3 cs, .own 5 [.int .u8 sn], .own 3 es] (Out.mk Xt.ret (frOf 92 [(4, .string (ByteArray.mk #[])), (5, .int .i64 5)]) [.own 3 cs] []))
include sn m c cs es hm hW kL
theorem wrt_e_p : go (exec (Try.prog) (8) (15) ([.int .u8 sn, slB 0 m c]) ([.own 3 cs])) [(5, .call (.mk ((zSB 0 m m)) [.own 3 es] [])), (9, .dec false), (7, .dec false), (12, Itm.loop [0, 1, 7, 28, 29, 30] (Out.mk Xt.ret (frOf 92 [(4, .string (ByteArray.mk #[])), (5, .int .i64 5)]) [.own 3 cs] []))] = some (.mk (.tuple #[.string (ByteArray.mk #[]), .int .i64 5]) [.own 3 cs] [], true, [type_of% hW, decide ((↑m : Int) = 0) = false, (!decide ((↑m : Int) = (↑m : Int))) = false, type_of% kL]) := by kernel_rfl
theorem wrt_e (R : Res) (k_p : Res.le (.mk (.tuple #[.string (ByteArray.mk #[]), .int .i64 5]) [.own 3 cs] []) R) : CallSpec (Try.prog) (15) ([.int .u8 sn, slB 0 m c]) ([.own 3 cs]) R := by
  exact (CallSpec.id (go_ok (exec_ok tnamed tcalm tmixed _ _ _ _) (wrt_e_p sn m c cs es hm hW kL ) (aC (hW) (aC dN (aC (congrArg not dO) (aC (kL) aN)))))).le (k_p )
end
section
variable (sn k : Int) (m c q : Nat) (cs es bs : List Value) (hm : 1 ≤ m) (hq : List.length bs = q) (hq2 : q ≤ 40) (hb : List.all (List.take (q * 1) (List.drop 0 bs)) (isInt IntKind.u8) = true) (hS : Value.string (ByteArray.mk (List.toArray (List.map unbyte (List.take (q * 1) (List.drop 0 bs))))) = .string (strB bs)) (hk : 0 ≤ k ∧ k ≤ 65535) (hz : ByteArray.size (strB bs) ≤ 40) (hW : CallSpec Try.prog 20 [.int .u8 sn] [] (.mk (slB 0 m m) [.own 3 es] [])) (kC : CallSpec Try.prog 27 [.string (strB bs)] [] (.mk (Value.int IntKind.u16 k) [] [])) (kL : CodeSpec Try.prog 1 lpAC (frA sn m c 1 m 0) [.own 3 cs, .own 5 [.int .u8 sn], .own 3 es] (Out.mk (Xt.exit 1) (frA sn m c q m (↑m : Int)) [.own 3 cs, .own 5 bs, .own 3 es] []))
include sn k m c q cs es bs hm hq hq2 hb hS hk hz hW kC kL
theorem wrt_o_p : go (exec (Try.prog) (8) (15) ([.int .u8 sn, slB 0 m c]) ([.own 3 cs])) [(5, .call (.mk ((zSB 0 m m)) [.own 3 es] [])), (9, .dec false), (7, .dec false), (12, Itm.loop [0, 1, 7, 28, 29, 30] (Out.mk (Xt.exit 1) (frOf 92 [(0, .int .u8 sn), (1, (zSB 0 m c)), (7, (zSB 1 q q)), (28, (zSB 2 m m)), (29, .int .i64 (↑m : Int)), (30, .int .i64 (↑m : Int))]) [.own 3 cs, .own 5 bs, .own 3 es] [])), (1, Itm.must), (0, Itm.must), (0, Itm.val (.string (strB bs))), (0, .call (.mk (Value.int IntKind.u16 k) [] [])), (5, Itm.must), (0, Itm.must), (0, Itm.val (.string (strB bs))), (0, Itm.must), (5, Itm.val (Value.int IntKind.u16 (k / 256))), (0, Itm.val (.int .u8 (k / 256))), (9, Itm.must)] = some (.mk (.tuple #[.string (ByteArray.mk #[UInt8.ofNat 165] ++ ByteArray.mk (List.toArray (List.map unbyte bs)) ++ ByteArray.mk #[unbyte (.int .u8 (IntKind.wrap IntKind.u8 k)), unbyte (.int .u8 (k / 256))]), .int .i64 0]) [.own 3 cs] [], true, [type_of% hW, decide ((↑m : Int) = 0) = false, (!decide ((↑m : Int) = (↑m : Int))) = false, type_of% kL, decide (0 + q * 1 ≤ List.length bs) = true, List.all (List.take (q * 1) (List.drop 0 bs)) (isInt IntKind.u8) = true, type_of% hS, type_of% kC, decide (0 + q * 1 ≤ List.length bs) = true, List.all (List.take (q * 1) (List.drop 0 bs)) (isInt IntKind.u8) = true, type_of% hS, decide (1 + ByteArray.size (ByteArray.mk (List.toArray (List.map unbyte bs))) ≤ 9223372036854775807) = true, Value.int IntKind.u16 (Int.fdiv k 256) = Value.int IntKind.u16 (k / 256), Value.int .u8 (IntKind.wrap IntKind.u8 (k / 256)) = .int .u8 (k / 256), decide (ByteArray.size (ByteArray.mk #[UInt8.ofNat 165] ++ ByteArray.mk (List.toArray (List.map unbyte bs))) + ByteArray.size (ByteArray.mk #[unbyte (.int .u8 (IntKind.wrap IntKind.u8 k)), unbyte (.int .u8 (k / 256))]) ≤ 9223372036854775807) = true]) := by kernel_rfl
theorem wrt_o (R : Res) (k_p : Res.le (.mk (.tuple #[.string (ByteArray.mk #[UInt8.ofNat 165] ++ ByteArray.mk (List.toArray (List.map unbyte bs)) ++ ByteArray.mk #[unbyte (.int .u8 (IntKind.wrap IntKind.u8 k)), unbyte (.int .u8 (k / 256))]), .int .i64 0]) [.own 3 cs] []) R) : CallSpec (Try.prog) (15) ([.int .u8 sn, slB 0 m c]) ([.own 3 cs]) R := by
  exact (CallSpec.id (go_ok (exec_ok tnamed tcalm tmixed _ _ _ _) (wrt_o_p sn k m c q cs es bs hm hq hq2 hb hS hk hz hW kC kL ) (aC (hW) (aC dN (aC (congrArg not dO) (aC (kL) (aC dO (aC ((by omega)) (aC (hS) (aC (kC) (aC dO (aC ((by omega)) (aC (hS) (aC (dTq (by simp [ByteArray.size_append, ByteArray.size_extract, sz_mk] <;> omega)) (aC (congrArg (Value.int _) (Int.fdiv_eq_ediv_of_nonneg _ (by omega))) (aC (congrArg (Value.int _) (Go.IntWalk.u8_in _ (by omega))) (aC (dTq (by simp [ByteArray.size_append, ByteArray.size_extract, sz_mk] <;> omega)) aN))))))))))))))))).le (k_p )
end
end Go.Proofs.Ytbolppjlaipfjaa.Ex
end
section
set_option linter.unusedSectionVars false
set_option linter.unusedSimpArgs false
set_option linter.unusedVariables false
namespace Go.Proofs.Ytbolppjlaipfjaa.Ex
open Go
set_option linter.unusedVariables false
theorem strB_size (a : List Value) : (strB a).size = a.length := by
  show (List.map unbyte a).toArray.size = _
  simp
def wrS (sn : Int) (l : List Int) : ByteArray := strB (uB (sn :: l))
def wrT (sn : Int) (l : List Int) : ByteArray := a5 ++ wrS sn l ++ strB (uB [F.sum (wrS sn l) % 256, F.sum (wrS sn l) / 256])
def F.write (sn : Int) (xs : List Int) : ByteArray × Int :=
  if wds sn = [] then (⟨#[]⟩, 6) else if (wds sn).length ≠ xs.length then (⟨#[]⟩, 50) else match wrF (wds sn) xs with
    | none => (⟨#[]⟩, 5)
    | some l => (wrT sn l, 0)
def wtR (q : ByteArray × Int) (hp : Hp) : Res := ⟨.tuple #[.string q.1, .int .i64 q.2], hp, []⟩
theorem wrF_len : ∀ (ws xs l : List Int), wrF ws xs = some l → l.length = sumW ws
  | [], xs, l, h => by rw [wrF] at h; cases h; rfl
  | w :: ws, [], l, h => by rw [wrF] at h; cases h
  | w :: ws, x :: xs, l, h => by
    rw [wrF] at h
    split at h
    · cases hF : wrF ws xs with
      | none => rw [hF] at h; cases h
      | some l' =>
        rw [hF] at h
        cases h
        rw [List.length_append, byW_len, wrF_len ws xs l' hF, sumW]
    · cases h
theorem uB_all (l : List Int) : (uB l).all (isInt .u8) = true := by
  unfold uB
  rw [List.all_map]
  exact List.all_eq_true.2 fun _ _ => rfl
theorem write_done {sn : Int} {xs : List Int} {c : Nat} {ex : List Value} (hx : ∀ x ∈ xs, i64 x) : CallSpec Try.prog 15 [.int .u8 sn, slB 0 xs.length c] [.own 3 (iW xs ++ ex)] (wtR (F.write sn xs) [.own 3 (iW xs ++ ex)]) := by
  unfold F.write
  by_cases hw : wds sn = []
  · rw [if_pos hw]; exact wrt_0s sn _ _ _ ((wid_done sn).1 hw) _ res_refl
  have hn : 1 ≤ (wds sn).length := List.length_pos_iff.2 hw
  have kW := (wid_done sn).2 hw
  rw [if_neg hw]
  by_cases hl : (wds sn).length ≠ xs.length
  · rw [if_pos hl]; exact wrt_cs sn _ _ _ _ _ hn hl kW _ res_refl
  have hl' : (wds sn).length = xs.length := Classical.not_not.1 hl
  have h17 := frK_le sn
  have hs : sumW (wds sn) ≤ 16 := by unfold frK at h17; omega
  have kL := (wr_loop sn c ex (wds sn) [] xs [] [sn] rfl hl' (wds_len sn) (wds_ok sn) hx (Nat.le_refl _) (by simp; omega)).code
  rw [if_neg hl]
  simp only [List.nil_append, List.singleton_append] at kL
  cases hF : wrF (wds sn) xs with
  | none =>
    rw [hF] at kL
    rw [← hl'] at kL ⊢
    exact wrt_e sn _ c _ _ hn kW kL _ res_refl
  | some l =>
    rw [hF] at kL
    have hll := wrF_len _ _ _ hF
    have hu := sum_u16 (wrS sn l)
    have hlen : (uB (sn :: l)).length = (sn :: l).length := uB_len _
    have hsz : (wrS sn l).size = (sn :: l).length := (strB_size _).trans hlen
    have h1 : (sn :: l).length ≤ 17 := by simp; omega
    have kC : CallSpec Try.prog 27 [.string (wrS sn l)] [] ⟨.int .u16 (F.sum (wrS sn l)), [], []⟩ := psum_done (by omega)
    have ht : List.take ((sn :: l).length * 1) (List.drop 0 (uB (sn :: l))) = uB (sn :: l) := by rw [Nat.mul_one, List.drop_zero, ← hlen, List.take_length]
    rw [← hl'] at kL ⊢
    refine wrt_o sn (F.sum (wrS sn l)) (wds sn).length c (sn :: l).length _ _ (uB (sn :: l)) hn hlen (by omega) (by rw [ht]; exact uB_all _) (by rw [ht]; rfl) hu (by rw [← wrS, hsz]; omega) kW kC kL _ ⟨?_, rfl, fun j hj => hj⟩
    show Value.tuple #[.string _, _] = .tuple #[.string _, _]
    unfold wrT
    rw [wrap8]
    rfl
end Go.Proofs.Ytbolppjlaipfjaa.Ex
end
section
set_option linter.unusedSectionVars false
set_option linter.unusedSimpArgs false
set_option linter.unusedVariables false
namespace Go.Proofs.Ytbolppjlaipfjaa.Ex
open Go
set_option linter.unusedVariables false
noncomputable def lpT : Code := loopAt Try.prog 6 0
theorem lpT_calm : calmC lpT = true := loopAt_calm tcalm 6 0
noncomputable def lpTC : Code := .loop lpT
noncomputable def lpD : Code := loopAt Try.prog 19 0
theorem lpD_calm : calmC lpD = true := loopAt_calm tcalm 19 0
noncomputable def lpDC : Code := .loop lpD
def frT (sn : Int) (s : ByteArray) (l : Value) (is : Bool) (b k i : Int) : Fr := frOf 70 [(0, .int .u8 sn), (1, .string s), (5, l), (6, .bool is), (7, .int .i64 b), (8, .int .i64 k), (9, .int .i64 i)]
def kT : List Nat := [0, 1, 5, 6, 7, 8, 9]
def frFd (s t : ByteArray) (i : Int) : Fr := frOf 24 [(0, .string s), (1, .string t), (5, .int .i64 i)]
def kFd : Xt → List Nat
  | .ret => [4]
  | _ => [0, 1, 5]
section
variable (s t : ByteArray) (i : Int) (hs : ByteArray.size s ≤ 140737488351232) (hi : 0 ≤ i ∧ i + (↑(ByteArray.size t) : Int) ≤ (↑(ByteArray.size s) : Int))
include s t i hs hi
theorem fd_r_pt : go (body (Try.prog) (8) (0) (8) (kFd) (lpD) (frFd s t i) ([])) [(3, Itm.val (.int .i64 (i + (↑(ByteArray.size t) : Int)))), (4, .dec true), (5, Itm.val (.int .i64 (i + (↑(ByteArray.size t) : Int)))), (0, Itm.must), (0, Itm.must), (4, .dec true)] = some (Out.mk Xt.ret (frOf 24 [(4, .bool true)]) [] [], true, [Value.int .i64 (IntKind.wrap .i64 (i + (↑(ByteArray.size t) : Int))) = .int .i64 (i + (↑(ByteArray.size t) : Int)), decide (i + (↑(ByteArray.size t) : Int) ≤ (↑(ByteArray.size s) : Int)) = true, Value.int .i64 (IntKind.wrap .i64 (i + (↑(ByteArray.size t) : Int))) = .int .i64 (i + (↑(ByteArray.size t) : Int)), upto (i + (↑(ByteArray.size t) : Int)) (ByteArray.size s) = true, upto i (Int.toNat (i + (↑(ByteArray.size t) : Int))) = true, (ByteArray.toList (ByteArray.extract s (Int.toNat i) (Int.toNat (i + (↑(ByteArray.size t) : Int)))) == ByteArray.toList t) = true]) := by kernel_rfl
theorem fd_r_pf : go (body (Try.prog) (8) (0) (8) (kFd) (lpD) (frFd s t i) ([])) [(3, Itm.val (.int .i64 (i + (↑(ByteArray.size t) : Int)))), (4, .dec true), (5, Itm.val (.int .i64 (i + (↑(ByteArray.size t) : Int)))), (0, Itm.must), (0, Itm.must), (4, .dec false), (1, Itm.val (.int .i64 (i + 1)))] = some (Out.mk Xt.normal (frOf 24 [(0, .string s), (1, .string t), (5, .int .i64 (i + 1))]) [] [], true, [Value.int .i64 (IntKind.wrap .i64 (i + (↑(ByteArray.size t) : Int))) = .int .i64 (i + (↑(ByteArray.size t) : Int)), decide (i + (↑(ByteArray.size t) : Int) ≤ (↑(ByteArray.size s) : Int)) = true, Value.int .i64 (IntKind.wrap .i64 (i + (↑(ByteArray.size t) : Int))) = .int .i64 (i + (↑(ByteArray.size t) : Int)), upto (i + (↑(ByteArray.size t) : Int)) (ByteArray.size s) = true, upto i (Int.toNat (i + (↑(ByteArray.size t) : Int))) = true, (ByteArray.toList (ByteArray.extract s (Int.toNat i) (Int.toNat (i + (↑(ByteArray.size t) : Int)))) == ByteArray.toList t) = false, Value.int .i64 (IntKind.wrap .i64 (i + 1)) = .int .i64 (i + 1)]) := by kernel_rfl
theorem fd_r (R : Out) (k_pt : (h0 : (ByteArray.toList (ByteArray.extract s (Int.toNat i) (Int.toNat (i + (↑(ByteArray.size t) : Int)))) == ByteArray.toList t) = true) → Out.le (Out.mk Xt.ret (frOf 24 [(4, .bool true)]) [] []) R) (k_pf : (h0 : ¬ ((ByteArray.toList (ByteArray.extract s (Int.toNat i) (Int.toNat (i + (↑(ByteArray.size t) : Int)))) == ByteArray.toList t) = true)) → Out.le (Out.mk Xt.normal (frOf 24 [(0, .string s), (1, .string t), (5, .int .i64 (i + 1))]) [] []) R) : CodeSpec (Try.prog) (0) (lpD) (frFd s t i) ([]) R := by
  by_cases h0 : (ByteArray.toList (ByteArray.extract s (Int.toNat i) (Int.toNat (i + (↑(ByteArray.size t) : Int)))) == ByteArray.toList t) = true
  · exact (CodeSpec.id (go_ok (body_ok tnamed tcalm tmixed _ _ _ _ _ _ lpD_calm) (fd_r_pt s t i hs hi ) (aC (congrArg (Value.int _) (Go.IntWalk.i64_in _ (by omega))) (aC dO (aC (congrArg (Value.int _) (Go.IntWalk.i64_in _ (by omega))) (aC (upto_of (by omega)) (aC (upto_of (by omega)) (aC (h0) aN)))))))).le (k_pt h0)
  · exact (CodeSpec.id (go_ok (body_ok tnamed tcalm tmixed _ _ _ _ _ _ lpD_calm) (fd_r_pf s t i hs hi ) (aC (congrArg (Value.int _) (Go.IntWalk.i64_in _ (by omega))) (aC dO (aC (congrArg (Value.int _) (Go.IntWalk.i64_in _ (by omega))) (aC (upto_of (by omega)) (aC (upto_of (by omega)) (aC ((bF h0)) (aC (congrArg (Value.int _) (Go.IntWalk.i64_in _ (by omega))) aN))))))))).le (k_pf h0)
end
section
variable (s t : ByteArray) (kL : CodeSpec Try.prog 0 lpDC (frFd s t 0) [] (Out.mk Xt.ret (frOf 24 [(4, .bool true)]) [] []))
include s t kL
theorem fd_ok_p : go (exec (Try.prog) (8) (19) ([.string s, .string t]) ([])) [(5, Itm.loop [0, 1, 5] (Out.mk Xt.ret (frOf 24 [(4, .bool true)]) [] []))] = some (.mk (.bool true) [] [], true, [type_of% kL]) := by kernel_rfl
theorem fd_ok (R : Res) (k_p : Res.le (.mk (.bool true) [] []) R) : CallSpec (Try.prog) (19) ([.string s, .string t]) ([]) R := by
  exact (CallSpec.id (go_ok (exec_ok tnamed tcalm tmixed _ _ _ _) (fd_ok_p s t kL ) (aC (kL) aN))).le (k_p )
end
section
variable (sn b k i : Int) (s : ByteArray) (hs : ByteArray.size s ≤ 140737488351232) (hi : 0 ≤ i ∧ i < (↑(ByteArray.size s) : Int)) (hk : 0 ≤ k ∧ k ≤ i)
include sn b k i s hs hi hk
theorem mk0_r_pt : go (body (Try.prog) (8) (0) (8) (fun x => kT) (lpT) (frT sn s slN false b k i) ([])) [(5, .dec true), (2, Itm.must), (3, .dec true), (1, Itm.val (.int .i64 (k + 1))), (3, Itm.val (.int .i64 (i + 1)))] = some (Out.mk Xt.normal (frOf 70 [(0, .int .u8 sn), (1, .string s), (5, zSN), (6, .bool false), (7, .int .i64 b), (8, .int .i64 (k + 1)), (9, .int .i64 (i + 1))]) [] [], true, [decide (i < (↑(ByteArray.size s) : Int)) = true, inside i (ByteArray.size s) = true, decide ((↑(UInt8.toNat (List.getD (Array.toList (ByteArray.data s)) (Int.toNat i) 0)) : Int) = 165) = true, Value.int .i64 (IntKind.wrap .i64 (k + 1)) = .int .i64 (k + 1), Value.int .i64 (IntKind.wrap .i64 (i + 1)) = .int .i64 (i + 1)]) := by kernel_rfl
theorem mk0_r_pf : go (body (Try.prog) (8) (0) (8) (fun x => kT) (lpT) (frT sn s slN false b k i) ([])) [(5, .dec true), (2, Itm.must), (3, .dec false), (1, Itm.val (.int .i64 (i + 1)))] = some (Out.mk Xt.normal (frOf 70 [(0, .int .u8 sn), (1, .string s), (5, zSN), (6, .bool false), (7, .int .i64 b), (8, .int .i64 k), (9, .int .i64 (i + 1))]) [] [], true, [decide (i < (↑(ByteArray.size s) : Int)) = true, inside i (ByteArray.size s) = true, decide ((↑(UInt8.toNat (List.getD (Array.toList (ByteArray.data s)) (Int.toNat i) 0)) : Int) = 165) = false, Value.int .i64 (IntKind.wrap .i64 (i + 1)) = .int .i64 (i + 1)]) := by kernel_rfl
theorem mk0_r (R : Out) (k_pt : (h0 : (↑(UInt8.toNat (List.getD (Array.toList (ByteArray.data s)) (Int.toNat i) 0)) : Int) = 165) → Out.le (Out.mk Xt.normal (frOf 70 [(0, .int .u8 sn), (1, .string s), (5, zSN), (6, .bool false), (7, .int .i64 b), (8, .int .i64 (k + 1)), (9, .int .i64 (i + 1))]) [] []) R) (k_pf : (h0 : ¬ ((↑(UInt8.toNat (List.getD (Array.toList (ByteArray.data s)) (Int.toNat i) 0)) : Int) = 165)) → Out.le (Out.mk Xt.normal (frOf 70 [(0, .int .u8 sn), (1, .string s), (5, zSN), (6, .bool false), (7, .int .i64 b), (8, .int .i64 k), (9, .int .i64 (i + 1))]) [] []) R) : CodeSpec (Try.prog) (0) (lpT) (frT sn s slN false b k i) ([]) R := by
  by_cases h0 : (↑(UInt8.toNat (List.getD (Array.toList (ByteArray.data s)) (Int.toNat i) 0)) : Int) = 165
  · exact (CodeSpec.id (go_ok (body_ok tnamed tcalm tmixed _ _ _ _ _ _ lpT_calm) (mk0_r_pt sn b k i s hs hi hk ) (aC dO (aC (inside_of (by omega)) (aC (dTq h0) (aC (congrArg (Value.int _) (Go.IntWalk.i64_in _ (by omega))) (aC (congrArg (Value.int _) (Go.IntWalk.i64_in _ (by omega))) aN))))))).le (k_pt h0)
  · exact (CodeSpec.id (go_ok (body_ok tnamed tcalm tmixed _ _ _ _ _ _ lpT_calm) (mk0_r_pf sn b k i s hs hi hk ) (aC dO (aC (inside_of (by omega)) (aC (dFq h0) (aC (congrArg (Value.int _) (Go.IntWalk.i64_in _ (by omega))) aN)))))).le (k_pf h0)
end
section
variable (sn b k i : Int) (s : ByteArray) (hi : (↑(ByteArray.size s) : Int) ≤ i)
include sn b k i s hi
theorem mk0_e_p : go (body (Try.prog) (8) (0) (8) (fun x => kT) (lpT) (frT sn s slN false b k i) ([])) [(5, .dec false)] = some (Out.mk (Xt.exit 0) (frOf 70 [(0, .int .u8 sn), (1, .string s), (5, zSN), (6, .bool false), (7, .int .i64 b), (8, .int .i64 k), (9, .int .i64 i)]) [] [], true, [decide (i < (↑(ByteArray.size s) : Int)) = false]) := by kernel_rfl
theorem mk0_e (R : Out) (k_p : Out.le (Out.mk (Xt.exit 0) (frOf 70 [(0, .int .u8 sn), (1, .string s), (5, zSN), (6, .bool false), (7, .int .i64 b), (8, .int .i64 k), (9, .int .i64 i)]) [] []) R) : CodeSpec (Try.prog) (0) (lpT) (frT sn s slN false b k i) ([]) R := by
  exact (CodeSpec.id (go_ok (body_ok tnamed tcalm tmixed _ _ _ _ _ _ lpT_calm) (mk0_e_p sn b k i s hi ) (aC dN aN))).le (k_p )
end
section
variable (sn b k i : Int) (s : ByteArray) (n : Nat) (vs : List Value) (hs : ByteArray.size s ≤ 140737488351232) (hi : 0 ≤ i ∧ i < (↑(ByteArray.size s) : Int)) (hk : 0 ≤ k ∧ k ≤ i)
include sn b k i s n vs hs hi hk
theorem mk1_r_pt : go (body (Try.prog) (8) (0) (8) (fun x => kT) (lpT) (frT sn s (slB 0 n n) true b k i) ([.own 3 vs])) [(5, .dec true), (2, Itm.must), (3, .dec true), (1, Itm.val (.int .i64 (k + 1))), (3, Itm.val (.int .i64 (i + 1)))] = some (Out.mk Xt.normal (frOf 70 [(0, .int .u8 sn), (1, .string s), (5, (zSB 0 n n)), (6, .bool true), (7, .int .i64 b), (8, .int .i64 (k + 1)), (9, .int .i64 (i + 1))]) [.own 3 vs] [], true, [decide (i < (↑(ByteArray.size s) : Int)) = true, inside i (ByteArray.size s) = true, decide ((↑(UInt8.toNat (List.getD (Array.toList (ByteArray.data s)) (Int.toNat i) 0)) : Int) = 165) = true, Value.int .i64 (IntKind.wrap .i64 (k + 1)) = .int .i64 (k + 1), Value.int .i64 (IntKind.wrap .i64 (i + 1)) = .int .i64 (i + 1)]) := by kernel_rfl
theorem mk1_r_pf : go (body (Try.prog) (8) (0) (8) (fun x => kT) (lpT) (frT sn s (slB 0 n n) true b k i) ([.own 3 vs])) [(5, .dec true), (2, Itm.must), (3, .dec false), (1, Itm.val (.int .i64 (i + 1)))] = some (Out.mk Xt.normal (frOf 70 [(0, .int .u8 sn), (1, .string s), (5, (zSB 0 n n)), (6, .bool true), (7, .int .i64 b), (8, .int .i64 k), (9, .int .i64 (i + 1))]) [.own 3 vs] [], true, [decide (i < (↑(ByteArray.size s) : Int)) = true, inside i (ByteArray.size s) = true, decide ((↑(UInt8.toNat (List.getD (Array.toList (ByteArray.data s)) (Int.toNat i) 0)) : Int) = 165) = false, Value.int .i64 (IntKind.wrap .i64 (i + 1)) = .int .i64 (i + 1)]) := by kernel_rfl
theorem mk1_r (R : Out) (k_pt : (h0 : (↑(UInt8.toNat (List.getD (Array.toList (ByteArray.data s)) (Int.toNat i) 0)) : Int) = 165) → Out.le (Out.mk Xt.normal (frOf 70 [(0, .int .u8 sn), (1, .string s), (5, (zSB 0 n n)), (6, .bool true), (7, .int .i64 b), (8, .int .i64 (k + 1)), (9, .int .i64 (i + 1))]) [.own 3 vs] []) R) (k_pf : (h0 : ¬ ((↑(UInt8.toNat (List.getD (Array.toList (ByteArray.data s)) (Int.toNat i) 0)) : Int) = 165)) → Out.le (Out.mk Xt.normal (frOf 70 [(0, .int .u8 sn), (1, .string s), (5, (zSB 0 n n)), (6, .bool true), (7, .int .i64 b), (8, .int .i64 k), (9, .int .i64 (i + 1))]) [.own 3 vs] []) R) : CodeSpec (Try.prog) (0) (lpT) (frT sn s (slB 0 n n) true b k i) ([.own 3 vs]) R := by
  by_cases h0 : (↑(UInt8.toNat (List.getD (Array.toList (ByteArray.data s)) (Int.toNat i) 0)) : Int) = 165
  · exact (CodeSpec.id (go_ok (body_ok tnamed tcalm tmixed _ _ _ _ _ _ lpT_calm) (mk1_r_pt sn b k i s n vs hs hi hk ) (aC dO (aC (inside_of (by omega)) (aC (dTq h0) (aC (congrArg (Value.int _) (Go.IntWalk.i64_in _ (by omega))) (aC (congrArg (Value.int _) (Go.IntWalk.i64_in _ (by omega))) aN))))))).le (k_pt h0)
  · exact (CodeSpec.id (go_ok (body_ok tnamed tcalm tmixed _ _ _ _ _ _ lpT_calm) (mk1_r_pf sn b k i s n vs hs hi hk ) (aC dO (aC (inside_of (by omega)) (aC (dFq h0) (aC (congrArg (Value.int _) (Go.IntWalk.i64_in _ (by omega))) aN)))))).le (k_pf h0)
end
section
variable (sn b k i : Int) (s : ByteArray) (n : Nat) (vs : List Value) (hi : (↑(ByteArray.size s) : Int) ≤ i)
include sn b k i s n vs hi
theorem mk1_e_p : go (body (Try.prog) (8) (0) (8) (fun x => kT) (lpT) (frT sn s (slB 0 n n) true b k i) ([.own 3 vs])) [(5, .dec false)] = some (Out.mk (Xt.exit 0) (frOf 70 [(0, .int .u8 sn), (1, .string s), (5, (zSB 0 n n)), (6, .bool true), (7, .int .i64 b), (8, .int .i64 k), (9, .int .i64 i)]) [.own 3 vs] [], true, [decide (i < (↑(ByteArray.size s) : Int)) = false]) := by kernel_rfl
theorem mk1_e (R : Out) (k_p : Out.le (Out.mk (Xt.exit 0) (frOf 70 [(0, .int .u8 sn), (1, .string s), (5, (zSB 0 n n)), (6, .bool true), (7, .int .i64 b), (8, .int .i64 k), (9, .int .i64 i)]) [.own 3 vs] []) R) : CodeSpec (Try.prog) (0) (lpT) (frT sn s (slB 0 n n) true b k i) ([.own 3 vs]) R := by
  exact (CodeSpec.id (go_ok (body_ok tnamed tcalm tmixed _ _ _ _ _ _ lpT_calm) (mk1_e_p sn b k i s n vs hi ) (aC dN aN))).le (k_p )
end
section
variable (sn b k : Int) (s : ByteArray) (hb : 0 ≤ b ∧ b ≤ k) (kR : CallSpec Try.prog 9 [.int .u8 sn, .string s] [] (.mk (.tuple #[slN, .bool false, .int .i64 b]) [] [])) (kL : CodeSpec Try.prog 0 lpTC (frT sn s slN false b 0 0) [] (Out.mk (Xt.exit 0) (frT sn s slN false b k (↑(ByteArray.size s) : Int)) [] []))
include sn b k s hb kR kL
theorem st_0_p : go (exec (Try.prog) (8) (6) ([.int .u8 sn, .string s]) ([])) [(5, .call (.mk (.tuple #[zSN, .bool false, .int .i64 b]) [] [])), (14, Itm.loop [0, 1, 5, 6, 7, 8, 9] (Out.mk (Xt.exit 0) (frOf 70 [(0, .int .u8 sn), (1, .string s), (5, zSN), (6, .bool false), (7, .int .i64 b), (8, .int .i64 k), (9, .int .i64 (↑(ByteArray.size s) : Int))]) [] [])), (3, .dec false), (1, .dec false), (1, .dec false), (1, .dec false), (2, .dec false), (1, .dec false), (4, .dec false), (2, .dec false), (7, .call (.mk (.bool true) [] []))] = some (.mk (.bool true) [] [], true, [type_of% kR, type_of% kL, decide (b < 0) = false, decide (b < 0) = false, decide (b < 0) = false, decide (b < 0) = false, decide (b > k) = false, decide (b > k) = false, decide (b > k) = false, decide (b > k) = false, CallSpec Try.prog 12 [] [] (.mk (.bool true) [] [])]) := by kernel_rfl
theorem st_0 (R : Res) (k_p : Res.le (.mk (.bool true) [] []) R) : CallSpec (Try.prog) (6) ([.int .u8 sn, .string s]) ([]) R := by
  exact (CallSpec.id (go_ok (exec_ok tnamed tcalm tmixed _ _ _ _) (st_0_p sn b k s hb kR kL ) (aC (kR) (aC (kL) (aC dN (aC dN (aC dN (aC dN (aC dN (aC dN (aC dN (aC dN (aC (awake_done) aN))))))))))))).le (k_p )
end
section
variable (sn b k : Int) (n : Nat) (vs : List Value) (s t : ByteArray) (hb : 0 ≤ b ∧ b < k) (kR : CallSpec Try.prog 9 [.int .u8 sn, .string s] [] (.mk (.tuple #[slB 0 n n, .bool true, .int .i64 b]) [.own 3 vs] [])) (kL : CodeSpec Try.prog 0 lpTC (frT sn s (slB 0 n n) true b 0 0) [.own 3 vs] (Out.mk (Xt.exit 0) (frT sn s (slB 0 n n) true b k (↑(ByteArray.size s) : Int)) [.own 3 vs] [])) (kW : CallSpec Try.prog 15 [.int .u8 sn, slB 0 n n] [.own 3 vs] (.mk (.tuple #[.string t, .int .i64 0]) [.own 3 vs] [])) (kD : CallSpec Try.prog 19 [.string s, .string t] [] (.mk (.bool true) [] []))
include sn b k n vs s t hb kR kL kW kD
theorem st_1_p : go (exec (Try.prog) (8) (6) ([.int .u8 sn, .string s]) ([])) [(5, .call (.mk (.tuple #[(zSB 0 n n), .bool true, .int .i64 b]) [.own 3 vs] [])), (14, Itm.loop [0, 1, 5, 6, 7, 8, 9] (Out.mk (Xt.exit 0) (frOf 70 [(0, .int .u8 sn), (1, .string s), (5, (zSB 0 n n)), (6, .bool true), (7, .int .i64 b), (8, .int .i64 k), (9, .int .i64 (↑(ByteArray.size s) : Int))]) [.own 3 vs] [])), (3, .dec false), (1, .dec false), (1, .dec false), (1, .dec false), (2, .dec false), (1, .dec false), (7, .dec false), (2, .dec false), (2, .dec false), (6, .call (.mk (.tuple #[.string t, .int .i64 0]) [.own 3 vs] [])), (8, .call (.mk (.bool true) [] [])), (15, .call (.mk (.bool true) [] []))] = some (.mk (.bool true) [] [], true, [type_of% kR, type_of% kL, decide (b < 0) = false, decide (b < 0) = false, decide (b < 0) = false, decide (b < 0) = false, decide (b > k) = false, decide (b > k) = false, decide (b > k) = false, decide (b > k) = false, decide (b ≥ k) = false, type_of% kW, CallSpec Try.prog 12 [] [] (.mk (.bool true) [] []), type_of% kD]) := by kernel_rfl
theorem st_1 (R : Res) (k_p : Res.le (.mk (.bool true) [] []) R) : CallSpec (Try.prog) (6) ([.int .u8 sn, .string s]) ([]) R := by
  exact (CallSpec.id (go_ok (exec_ok tnamed tcalm tmixed _ _ _ _) (st_1_p sn b k n vs s t hb kR kL kW kD ) (aC (kR) (aC (kL) (aC dN (aC dN (aC dN (aC dN (aC dN (aC dN (aC dN (aC dN (aC dN (aC (kW) (aC (awake_done) (aC (kD) aN)))))))))))))))).le (k_p )
end
end Go.Proofs.Ytbolppjlaipfjaa.Ex
end
section
set_option linter.unusedSectionVars false
set_option linter.unusedSimpArgs false
set_option linter.unusedVariables false
namespace Go.Proofs.Ytbolppjlaipfjaa.Ex
open Go
set_option linter.unusedVariables false
def bys (s : ByteArray) (k n : Nat) : List Int := (List.range n).map fun j => (bt s (k + j) : Int)
theorem bys_add (s : ByteArray) (k m n : Nat) : bys s k (m + n) = bys s k m ++ bys s (k + m) n := by
  unfold bys
  rw [List.range_add, List.map_append, List.map_map]
  congr 1
  apply List.map_congr_left
  intro j _
  show (bt s (k + (m + j)) : Int) = bt s (k + m + j)
  rw [Nat.add_assoc]
theorem le1 (s : ByteArray) (k : Nat) : leN s k 1 = bt s k := by show 0 + bt s (k + 0) * 1 = _; simp
theorem le2 (s : ByteArray) (k : Nat) : leN s k 2 = bt s k + bt s (k + 1) * 256 := by show leN s k 1 + bt s (k + 1) * 256 = _; rw [le1]
theorem le4 (s : ByteArray) (k : Nat) : leN s k 4 = bt s k + bt s (k + 1) * 256 + bt s (k + 2) * 65536 + bt s (k + 3) * 16777216 := by
  show leN s k 2 + bt s (k + 2) * 65536 + bt s (k + 3) * 16777216 = _
  rw [le2]
theorem field_back {w : Int} (hw : okW w) (s : ByteArray) (k : Nat) : okX w (fV w s k) ∧ byW w (fV w s k) = bys s k (wB w) ∧ i64 (fV w s k) := by
  have h0 := bt_lt s k
  have h1 := bt_lt s (k + 1)
  have h2 := bt_lt s (k + 2)
  have h3 := bt_lt s (k + 3)
  rcases hw with rfl | rfl | rfl | rfl
  · have e : fV 8 s k = bt s k := by unfold fV; rw [if_neg (fun h => absurd h.1 (by decide)), show wB 8 = 1 from rfl, le1]
    rw [e]
    refine ⟨(show 0 ≤ (bt s k : Int) ∧ (bt s k : Int) ≤ 255 from ⟨by omega, by omega⟩), ?_, by unfold i64; omega⟩
    show [(bt s k : Int) / 1 % 256] = [(bt s (k + 0) : Int)]
    rw [show (bt s k : Int) / 1 % 256 = bt s k by omega]; rfl
  · have e : fV 16 s k = (bt s k + bt s (k + 1) * 256 : Nat) := by unfold fV; rw [if_neg (fun h => absurd h.1 (by decide)), show wB 16 = 2 from rfl, le2]
    rw [e]
    refine ⟨(show 0 ≤ ((bt s k + bt s (k + 1) * 256 : Nat) : Int) ∧ ((bt s k + bt s (k + 1) * 256 : Nat) : Int) ≤ 65535 from ⟨by omega, by omega⟩), ?_, by unfold i64; omega⟩
    show [((bt s k + bt s (k + 1) * 256 : Nat) : Int) / 1 % 256, ((bt s k + bt s (k + 1) * 256 : Nat) : Int) / 256 % 256] = [(bt s (k + 0) : Int), (bt s (k + 1) : Int)]
    rw [show ((bt s k + bt s (k + 1) * 256 : Nat) : Int) / 1 % 256 = bt s k by omega, show ((bt s k + bt s (k + 1) * 256 : Nat) : Int) / 256 % 256 = bt s (k + 1) by omega]; rfl
  · generalize hm : bt s k + bt s (k + 1) * 256 = m
    have e : fV (-16) s k = if 65536 ≤ 2 * m then (m : Int) - 65536 else m := by
      unfold fV
      rw [show wB (-16) = 2 from rfl, le2, hm]
      by_cases c : 65536 ≤ 2 * m
      · rw [if_pos ⟨by decide, c⟩, if_pos c]; rfl
      · rw [if_neg (fun h => c h.2), if_neg c]
    have key : ∀ x : Int, (x = m ∧ 2 * m < 65536 ∨ x = m - 65536 ∧ 65536 ≤ 2 * m) → okX (-16) x ∧ byW (-16) x = bys s k 2 ∧ i64 x := by
      intro x hx
      refine ⟨(show -32768 ≤ x ∧ x ≤ 32767 by omega), ?_, by unfold i64; omega⟩
      show [x / 1 % 256, x / 256 % 256] = [(bt s (k + 0) : Int), (bt s (k + 1) : Int)]
      rw [show x / 1 % 256 = bt s k by omega, show x / 256 % 256 = bt s (k + 1) by omega]; rfl
    rw [e]
    split
    · exact key _ (.inr ⟨rfl, by omega⟩)
    · exact key _ (.inl ⟨rfl, by omega⟩)
  · generalize hm : bt s k + bt s (k + 1) * 256 + bt s (k + 2) * 65536 + bt s (k + 3) * 16777216 = m
    have e : fV (-32) s k = if 4294967296 ≤ 2 * m then (m : Int) - 4294967296 else m := by
      unfold fV
      rw [show wB (-32) = 4 from rfl, le4, hm]
      by_cases c : 4294967296 ≤ 2 * m
      · rw [if_pos ⟨by decide, c⟩, if_pos c]; rfl
      · rw [if_neg (fun h => c h.2), if_neg c]
    have key : ∀ x : Int, (x = m ∧ 2 * m < 4294967296 ∨ x = m - 4294967296 ∧ 4294967296 ≤ 2 * m) → okX (-32) x ∧ byW (-32) x = bys s k 4 ∧ i64 x := by
      intro x hx
      refine ⟨(show -2147483648 ≤ x ∧ x ≤ 2147483647 by omega), ?_, by unfold i64; omega⟩
      show [x / 1 % 256, x / 256 % 256, x / 65536 % 256, x / 16777216 % 256] = [(bt s (k + 0) : Int), (bt s (k + 1) : Int), (bt s (k + 2) : Int), (bt s (k + 3) : Int)]
      rw [show x / 1 % 256 = bt s k by omega, show x / 256 % 256 = bt s (k + 1) by omega, show x / 65536 % 256 = bt s (k + 2) by omega, show x / 16777216 % 256 = bt s (k + 3) by omega]; rfl
    rw [e]
    split
    · exact key _ (.inr ⟨rfl, by omega⟩)
    · exact key _ (.inl ⟨rfl, by omega⟩)
theorem fields_back : ∀ (ws : List Int), (∀ w ∈ ws, okW w) → ∀ (s : ByteArray) (k : Nat), wrF ws (rdW ws s k) = some (bys s k (sumW ws)) ∧ ∀ x ∈ rdW ws s k, i64 x
  | [], _, s, k => ⟨rfl, fun x hx => by cases hx⟩
  | w :: ws, hw, s, k => by
    obtain ⟨a, b, c⟩ := field_back (hw w (by simp)) s k
    obtain ⟨d, e⟩ := fields_back ws (fun u hu => hw u (by simp [hu])) s (k + wB w)
    rw [rdW, wrF, if_pos a, d, b, sumW, bys_add]
    refine ⟨rfl, fun x hx => ?_⟩
    rcases List.mem_cons.1 hx with rfl | hx
    · exact c
    · exact e x hx
theorem bl_get (s : ByteArray) (j : Nat) (h : j < s.size) : (bl s)[j]? = some (UInt8.ofNat (bt s j)) := by
  have hl : j < (bl s).length := by rw [bl_len]; exact h
  rw [List.getElem?_eq_getElem hl, bt_bl s j hl, UInt8.ofNat_toNat]
theorem strB_bys (s : ByteArray) (k n : Nat) (h : k + n ≤ s.size) : strB (uB (bys s k n)) = s.extract k (k + n) := by
  apply str_inj
  rw [bl_cut]
  show List.map unbyte (uB (bys s k n)) = _
  apply List.ext_getElem?
  intro j
  rw [List.drop_take, List.getElem?_take, List.getElem?_drop, Nat.add_sub_cancel_left]
  unfold uB bys
  rw [List.map_map, List.map_map, List.getElem?_map]
  by_cases hj : j < n
  · rw [List.getElem?_range hj, if_pos hj, bl_get s (k + j) (by omega)]
    show some (UInt8.ofNat (Int.toNat ((bt s (k + j) : Nat) : Int))) = _
    rw [Int.toNat_natCast]
  · rw [if_neg hj, List.getElem?_eq_none (by rw [List.length_range]; omega)]
    rfl
theorem frame_back {sn : Int} {d : ByteArray} {p : Nat} (hp : bt d p = 165) (hg : frG sn (cutB d (p + 1))) (hw : wds sn ≠ []) : F.write sn (rdW (wds sn) (cutB d (p + 1)) 1) = (d.extract p (p + frK sn + 3), 0) := by
  have hG := hg.1
  rw [cutB_size] at hG
  have hpz : p < d.size := by omega
  unfold F.write
  rw [if_neg hw, if_neg (fun h => h (rdW_len _ _ _).symm), (fields_back _ (wds_ok sn) _ _).1]
  show (wrT sn (bys (cutB d (p + 1)) 1 (sumW (wds sn))), (0 : Int)) = _
  congr 1
  have e1 : sn :: bys (cutB d (p + 1)) 1 (sumW (wds sn)) = bys (cutB d (p + 1)) 0 (frK sn) := by
    unfold frK
    rw [bys_add]
    show _ = [((bt (cutB d (p + 1)) (0 + 0) : Nat) : Int)] ++ _
    rw [Nat.add_zero, hg.2.1]
    rfl
  have e2 : wrS sn (bys (cutB d (p + 1)) 1 (sumW (wds sn))) = (cutB d (p + 1)).extract 0 (frK sn) := by
    unfold wrS
    rw [e1, strB_bys _ 0 _ (by rw [cutB_size]; omega), Nat.zero_add]
  have e3 : uB [F.sum (wrS sn (bys (cutB d (p + 1)) 1 (sumW (wds sn)))) % 256, F.sum (wrS sn (bys (cutB d (p + 1)) 1 (sumW (wds sn)))) / 256] = uB (bys (cutB d (p + 1)) (frK sn) 2) := by
    have g3 := hg.2.2.1
    have g4 := hg.2.2.2
    rw [wrap8] at g3
    rw [e2]
    show [_, _] = [_, _]
    unfold frC at g3 g4
    rw [← g3, ← g4]
    rfl
  unfold wrT
  rw [e3, e2, strB_bys _ _ _ (by rw [cutB_size]; omega)]
  apply str_inj
  rw [bl_append, bl_append, bl_cut, bl_cut, bl_cut, bl_cutB, List.drop_zero]
  have ha : bl a5 = ((bl d).drop p).take 1 := by
    have hl : p < (bl d).length := by rw [bl_len]; exact hpz
    rw [List.drop_eq_getElem_cons hl, List.take_succ_cons, List.take_zero]
    have : (bl d)[p] = 165 := UInt8.toNat_inj.1 (by rw [← bt_bl d p hl, hp]; rfl)
    rw [this]
    rfl
  have h2 : List.drop (frK sn) (List.take (frK sn + 2) (List.drop (p + 1) (bl d))) = List.take 2 (List.drop (p + 1 + frK sn) (bl d)) := by rw [List.drop_take, List.drop_drop, Nat.add_sub_cancel_left]
  have h3 : List.drop p (List.take (p + frK sn + 3) (bl d)) = List.take (frK sn + 3) (List.drop p (bl d)) := by rw [List.drop_take]; congr 1; omega
  rw [ha, h2, h3, show frK sn + 3 = 1 + frK sn + 2 by omega, List.take_add, List.take_add, List.drop_drop, List.drop_drop]
  congr 3
  omega
end Go.Proofs.Ytbolppjlaipfjaa.Ex
end
section
set_option linter.unusedSectionVars false
set_option linter.unusedSimpArgs false
set_option linter.unusedVariables false
namespace Go.Proofs.Ytbolppjlaipfjaa.Ex
open Go
set_option linter.unusedVariables false
def cnt (d : ByteArray) : Nat → Nat
  | 0 => 0
  | p + 1 => cnt d p + if bt d p = 165 then 1 else 0
theorem cnt_le (d : ByteArray) : ∀ p, cnt d p ≤ p
  | 0 => Nat.le_refl _
  | p + 1 => by have := cnt_le d p; rw [cnt]; split <;> omega
theorem cnt_mono (d : ByteArray) (p : Nat) : ∀ n, cnt d p ≤ cnt d (p + n)
  | 0 => Nat.le_refl _
  | n + 1 => Nat.le_trans (cnt_mono d p n) (by rw [← Nat.add_assoc, cnt]; omega)
def one (l : List Int) : Nat := if l = [] then 0 else 1
theorem rfS_law (sn : Int) (hw : wds sn ≠ []) (d : ByteArray) : ∀ (g p : Nat) (l : List Int) (b : Nat), b + one l ≤ cnt d p →
    (rfS sn d g p l b).2 + one (rfS sn d g p l b).1 ≤ cnt d d.size + (cnt d p - cnt d d.size) ∧ ((rfS sn d g p l b).1 = l ∨ ∃ q, bt d q = 165 ∧ frG sn (cutB d (q + 1)) ∧ (rfS sn d g p l b).1 = rdW (wds sn) (cutB d (q + 1)) 1)
  | 0, p, l, b, h => ⟨by rw [rfS]; show b + one l ≤ _; omega, .inl rfl⟩
  | g + 1, p, l, b, h => by
    rw [rfS]
    split
    · exact ⟨by show b + one l ≤ _; omega, .inl rfl⟩
    · rename_i h0
      have hc1 : cnt d (p + 1) ≤ cnt d d.size := by
        have := cnt_mono d (p + 1) (d.size - (p + 1))
        rwa [show p + 1 + (d.size - (p + 1)) = d.size by omega] at this
      have hc0 := cnt_mono d p 1
      split
      · rename_i h5
        obtain ⟨k1, k2⟩ := rfS_law sn hw d g (p + 1) l b (by omega)
        exact ⟨by omega, k2⟩
      · rename_i h5
        have h5 : bt d p = 165 := Classical.not_not.1 h5
        have e : cnt d (p + 1) = cnt d p + 1 := by rw [cnt, if_pos h5]
        split
        · rename_i hg
          have hne : one (rdW (wds sn) (cutB d (p + 1)) 1) = 1 := if_neg (rdW_ne hw _ _)
          have hm := cnt_mono d (p + 1) (frK sn + 2)
          rw [show p + 1 + (frK sn + 2) = p + frK sn + 3 by omega] at hm
          have hG := hg.1
          rw [cutB_size] at hG
          have hc2 : cnt d (p + frK sn + 3) ≤ cnt d d.size := by
            have := cnt_mono d (p + frK sn + 3) (d.size - (p + frK sn + 3))
            rwa [show p + frK sn + 3 + (d.size - (p + frK sn + 3)) = d.size by omega] at this
          obtain ⟨k1, k2⟩ := rfS_law sn hw d g (p + frK sn + 3) (rdW (wds sn) (cutB d (p + 1)) 1) b (by rw [hne]; omega)
          refine ⟨by omega, .inr ?_⟩
          rcases k2 with k2 | k2
          · exact ⟨p, h5, hg, k2⟩
          · exact k2
        · obtain ⟨k1, k2⟩ := rfS_law sn hw d g (p + 1) l (b + 1) (by omega)
          exact ⟨by omega, k2⟩
theorem read_law (sn : Int) (d : ByteArray) : (F.read sn d).2 + one (F.read sn d).1 ≤ cnt d d.size ∧ ((F.read sn d).1 = [] ∨ ∃ q, bt d q = 165 ∧ frG sn (cutB d (q + 1)) ∧ wds sn ≠ [] ∧ (F.read sn d).1 = rdW (wds sn) (cutB d (q + 1)) 1) := by
  unfold F.read
  by_cases hw : wds sn = []
  · rw [if_pos hw]; exact ⟨Nat.zero_le _, .inl rfl⟩
  · rw [if_neg hw]
    have e := rd_same sn d (d.size + 1) 0 (d.size + 1) [] 0 (by omega) (by omega) (by omega)
    rw [cutB_zero] at e
    rw [e]
    obtain ⟨k1, k2⟩ := rfS_law sn hw d (d.size + 1) 0 [] 0 (by rw [cnt]; exact Nat.le_refl _)
    rw [cnt] at k1
    refine ⟨by omega, ?_⟩
    rcases k2 with k2 | ⟨q, a, b, c⟩
    · exact .inl k2
    · exact .inr ⟨q, a, b, hw, c⟩
theorem fd_loop (s t : ByteArray) (hs : s.size ≤ 140737488351232) (p : Nat) (hp : p + t.size ≤ s.size) (ht : s.extract p (p + t.size) = t) : ∀ d i, i + d = p → LoopSpec Try.prog 0 lpD (frFd s t (i : Nat)) [] ⟨.ret, frOf 24 [(4, .bool true)], [], []⟩ := by
  have e : ∀ i : Nat, s.extract (Int.toNat (i : Int)) (Int.toNat ((i : Int) + (t.size : Int))) = s.extract i (i + t.size) := fun i => by rw [Int.toNat_natCast, show Int.toNat ((i : Int) + (t.size : Int)) = i + t.size by omega]
  have eq_ : ∀ u : ByteArray, u = t → (ByteArray.toList u == ByteArray.toList t) = true := fun u h => by rw [h]; exact beq_self_eq_true _
  intro d
  induction d with
  | zero =>
    intro i hi
    obtain rfl : i = p := by omega
    exact .last (fd_r s t (i : Nat) hs ⟨by omega, by omega⟩ _ (fun _ => out_refl) (fun h => absurd (eq_ _ (by rw [e, ht])) h)) (by intro h; cases h)
  | succ d ih =>
    intro i hi
    by_cases hc : (ByteArray.toList (s.extract (Int.toNat ((i : Nat) : Int)) (Int.toNat (((i : Nat) : Int) + (t.size : Int)))) == ByteArray.toList t) = true
    · exact .last (fd_r s t (i : Nat) hs ⟨by omega, by omega⟩ _ (fun _ => out_refl) (fun h => absurd hc h)) (by intro h; cases h)
    · exact .more (fd_r s t (i : Nat) hs ⟨by omega, by omega⟩ ⟨.normal, frFd s t (i + 1 : Nat), [], []⟩ (fun h => absurd h hc) (fun _ => out_refl)) rfl (ih (i + 1) (by omega)) (fun j hj _ => by cases hj)
theorem find_done {s t : ByteArray} (hs : s.size ≤ 140737488351232) (p : Nat) (hp : p + t.size ≤ s.size) (ht : s.extract p (p + t.size) = t) : CallSpec Try.prog 19 [.string s, .string t] [] ⟨.bool true, [], []⟩ :=
  fd_ok s t (fd_loop s t hs p hp ht p 0 (by omega)).code _ res_refl
theorem mk0_loop (sn b : Int) (s : ByteArray) (hs : s.size ≤ 140737488351232) : ∀ d i, i + d = s.size → LoopSpec Try.prog 0 lpT (frT sn s slN false b (cnt s i : Nat) (i : Nat)) [] ⟨.exit 0, frT sn s slN false b (cnt s s.size : Nat) s.size, [], []⟩ := by
  intro d
  induction d with
  | zero =>
    intro i hi
    obtain rfl : i = s.size := by omega
    exact .last (mk0_e sn b _ _ s (Int.le_refl _) _ out_refl) (by intro h; cases h)
  | succ d ih =>
    intro i hi
    have hc := cnt_le s i
    refine .more (mk0_r sn b (cnt s i : Nat) (i : Nat) s hs ⟨by omega, by omega⟩ ⟨by omega, by omega⟩ ⟨.normal, frT sn s slN false b (cnt s (i + 1) : Nat) (i + 1 : Nat), [], []⟩ (fun h => ?_) (fun h => ?_)) rfl (ih (i + 1) (by omega)) (fun j hj _ => by cases hj)
    · rw [bt_i, Int.toNat_natCast] at h
      rw [cnt, if_pos (by omega)]
      exact out_refl
    · rw [bt_i, Int.toNat_natCast] at h
      rw [cnt, if_neg (by omega)]
      exact out_refl
theorem mk1_loop (sn b : Int) (n : Nat) (vs : List Value) (s : ByteArray) (hs : s.size ≤ 140737488351232) : ∀ d i, i + d = s.size → LoopSpec Try.prog 0 lpT (frT sn s (slB 0 n n) true b (cnt s i : Nat) (i : Nat)) [.own 3 vs] ⟨.exit 0, frT sn s (slB 0 n n) true b (cnt s s.size : Nat) s.size, [.own 3 vs], []⟩ := by
  intro d
  induction d with
  | zero =>
    intro i hi
    obtain rfl : i = s.size := by omega
    exact .last (mk1_e sn b _ _ s n vs (Int.le_refl _) _ out_refl) (by intro h; cases h)
  | succ d ih =>
    intro i hi
    have hc := cnt_le s i
    refine .more (mk1_r sn b (cnt s i : Nat) (i : Nat) s n vs hs ⟨by omega, by omega⟩ ⟨by omega, by omega⟩ ⟨.normal, frT sn s (slB 0 n n) true b (cnt s (i + 1) : Nat) (i + 1 : Nat), [.own 3 vs], []⟩ (fun h => ?_) (fun h => ?_)) rfl (ih (i + 1) (by omega)) (fun j hj _ => by cases hj)
    · rw [bt_i, Int.toNat_natCast] at h
      rw [cnt, if_pos (by omega)]
      exact out_refl
    · rw [bt_i, Int.toNat_natCast] at h
      rw [cnt, if_neg (by omega)]
      exact out_refl
theorem stands_law (sn : Int) (s : ByteArray) (hs : s.size ≤ 140737488351232) : CallSpec Try.prog 6 [.int .u8 sn, .string s] [] ⟨.bool true, [], []⟩ := by
  have kR := read_done (sn := sn) hs
  obtain ⟨k1, k2⟩ := read_law sn s
  unfold rdR at kR
  by_cases hl : (F.read sn s).1 = []
  · rw [if_pos hl] at kR
    exact st_0 sn (F.read sn s).2 (cnt s s.size : Nat) s ⟨by omega, by omega⟩ kR (mk0_loop sn _ s hs s.size 0 (by omega)).code _ res_refl
  · rw [if_neg hl] at kR
    have h1 : one (F.read sn s).1 = 1 := if_neg hl
    rcases k2 with k2 | ⟨q, h5, hg, hw, e⟩
    · exact absurd k2 hl
    have hx := (fields_back (wds sn) (wds_ok sn) (cutB s (q + 1)) 1).2
    have hwb := frame_back h5 hg hw
    rw [← e] at hx hwb
    have hG := hg.1
    rw [cutB_size] at hG
    have hsz : (s.extract q (q + frK sn + 3)).size = frK sn + 3 := by rw [ByteArray.size_extract]; omega
    have kW := write_done (sn := sn) (c := (F.read sn s).1.length) (ex := []) hx
    rw [hwb, List.append_nil] at kW
    have kD : CallSpec Try.prog 19 [.string s, .string (s.extract q (q + frK sn + 3))] [] ⟨.bool true, [], []⟩ := find_done hs q (by rw [hsz]; omega) (by rw [hsz]; rfl)
    exact st_1 sn (F.read sn s).2 (cnt s s.size : Nat) _ _ s _ ⟨by omega, by omega⟩ kR (mk1_loop sn _ _ _ s hs s.size 0 (by omega)).code kW kD _ res_refl
end Go.Proofs.Ytbolppjlaipfjaa.Ex
end
