import Derived.Test.YtbolppjlaipfjaaYTur2
section
set_option linter.unusedSectionVars false
set_option linter.unusedSimpArgs false
set_option linter.unusedVariables false
namespace Go.Proofs.Ytbolppjlaipfjaa.Ex
open Go
set_option linter.unusedVariables false
noncomputable def lpA : Code := loopAt Try.prog 15 0
theorem lpA_calm : calmC lpA = true := loopAt_calm tcalm 15 0
noncomputable def lpAC : Code := .loop lpA
def frA (sn : Int) (n c q m : Nat) (i : Int) : Fr := frOf 92 [(0, .int .u8 sn), (1, slB 0 n c), (7, slB 1 q q), (28, slB 2 m m), (29, .int .i64 m), (30, .int .i64 i)]
def kA : Xt → List Nat
  | .normal => [0, 1, 7, 28, 29, 30]
  | .exit _ => [0, 1, 7, 28, 29, 30]
  | _ => [4, 5]
section
variable (sn x : Int) (n c q m i : Nat) (cs bs es : List Value) (hcs : n ≤ List.length cs) (hbs : List.length bs = q) (hes : List.length es = m) (hq : 1 ≤ q ∧ q ≤ 40) (hi : i < n ∧ i < m ∧ m ≤ 5) (hx : -9223372036854775808 ≤ x ∧ x ≤ 9223372036854775807) (hw0 : isInt .i64 (List.getD es (0 + Int.toNat (↑i : Int) * 1) undef) = true) (hw : Value.int .i64 (intOf (List.getD es (0 + Int.toNat (↑i : Int) * 1) undef)) = .int .i64 8) (hv0 : isInt .i64 (List.getD cs (0 + Int.toNat (↑i : Int) * 1) undef) = true) (hv : Value.int .i64 (intOf (List.getD cs (0 + Int.toNat (↑i : Int) * 1) undef)) = .int .i64 x)
include sn x n c q m i cs bs es hcs hbs hes hq hi hx hw0 hw hv0 hv
theorem wr_8_pt : go (body (Try.prog) (8) (1) (8) (kA) (lpA) (frA sn n c q m (↑i : Int)) ([.own 3 cs, .own 5 bs, .own 3 es])) [(2, .dec true), (1, Itm.must), (1, Itm.must), (0, Itm.must), (0, Itm.val (.int .i64 8)), (16, Itm.must), (1, Itm.must), (0, Itm.must), (0, Itm.val (.int .i64 x)), (3, .dec true), (0, .dec true), (0, .dec true), (0, .dec true), (0, .dec true), (0, .dec true), (0, .dec true), (0, .dec true), (0, .dec true), (0, .dec true), (0, .dec true)] = some (Out.mk Xt.ret (frOf 92 [(4, .string (ByteArray.mk #[])), (5, .int .i64 5)]) [.own 3 cs] [], true, [decide ((↑i : Int) < (↑m : Int)) = true, inside (↑i : Int) m = true, decide (0 + Int.toNat (↑i : Int) * 1 < List.length es) = true, isInt .i64 (List.getD es (0 + Int.toNat (↑i : Int) * 1) undef) = true, type_of% hw, inside (↑i : Int) n = true, decide (0 + Int.toNat (↑i : Int) * 1 < List.length cs) = true, isInt .i64 (List.getD cs (0 + Int.toNat (↑i : Int) * 1) undef) = true, type_of% hv, decide (x < 0) = true, decide (x < 0) = true, decide (x < 0) = true, decide (x < 0) = true, decide (x < 0) = true, decide (x < 0) = true, decide (x < 0) = true, decide (x < 0) = true, decide (x < 0) = true, decide (x < 0) = true, decide (x < 0) = true]) := by kernel_rfl
theorem wr_8_pft : go (body (Try.prog) (8) (1) (8) (kA) (lpA) (frA sn n c q m (↑i : Int)) ([.own 3 cs, .own 5 bs, .own 3 es])) [(2, .dec true), (1, Itm.must), (1, Itm.must), (0, Itm.must), (0, Itm.val (.int .i64 8)), (16, Itm.must), (1, Itm.must), (0, Itm.must), (0, Itm.val (.int .i64 x)), (3, .dec false), (1, .dec false), (1, .dec false), (0, Itm.must), (1, .dec false), (0, Itm.must), (0, Itm.must), (0, Itm.val (.int .i64 x)), (0, .dec false), (1, .dec false), (1, .dec false), (2, .dec false), (1, .dec false), (1, .dec false), (1, .dec false), (2, .dec true)] = some (Out.mk Xt.ret (frOf 92 [(4, .string (ByteArray.mk #[])), (5, .int .i64 5)]) [.own 3 cs] [], true, [decide ((↑i : Int) < (↑m : Int)) = true, inside (↑i : Int) m = true, decide (0 + Int.toNat (↑i : Int) * 1 < List.length es) = true, isInt .i64 (List.getD es (0 + Int.toNat (↑i : Int) * 1) undef) = true, type_of% hw, inside (↑i : Int) n = true, decide (0 + Int.toNat (↑i : Int) * 1 < List.length cs) = true, isInt .i64 (List.getD cs (0 + Int.toNat (↑i : Int) * 1) undef) = true, type_of% hv, decide (x < 0) = false, decide (x < 0) = false, decide (x < 0) = false, inside (↑i : Int) n = true, decide (x < 0) = false, decide (0 + Int.toNat (↑i : Int) * 1 < List.length cs) = true, isInt .i64 (List.getD cs (0 + Int.toNat (↑i : Int) * 1) undef) = true, type_of% hv, decide (x < 0) = false, decide (x < 0) = false, decide (x < 0) = false, decide (x < 0) = false, decide (x < 0) = false, decide (x < 0) = false, decide (x < 0) = false, decide (x > 255) = true]) := by kernel_rfl
theorem wr_8_pff : go (body (Try.prog) (8) (1) (8) (kA) (lpA) (frA sn n c q m (↑i : Int)) ([.own 3 cs, .own 5 bs, .own 3 es])) [(2, .dec true), (1, Itm.must), (1, Itm.must), (0, Itm.must), (0, Itm.val (.int .i64 8)), (16, Itm.must), (1, Itm.must), (0, Itm.must), (0, Itm.val (.int .i64 x)), (3, .dec false), (1, .dec false), (1, .dec false), (0, Itm.must), (1, .dec false), (0, Itm.must), (0, Itm.must), (0, Itm.val (.int .i64 x)), (0, .dec false), (1, .dec false), (1, .dec false), (2, .dec false), (1, .dec false), (1, .dec false), (1, .dec false), (2, .dec false), (11, Itm.must), (1, Itm.must), (0, Itm.must), (0, Itm.val (.int .i64 x)), (2, Itm.val (.int .i64 (x / 1))), (0, Itm.val (.int .u8 (x / 1))), (7, Itm.must), (0, .dec false), (0, Itm.must), (12, Itm.val (.int .i64 ((↑i : Int) + 1)))] = some (Out.mk Xt.normal (frOf 92 [(0, .int .u8 sn), (1, (zSB 0 n c)), (7, (zSB 1 (q + 1) (q + 1))), (28, (zSB 2 m m)), (29, .int .i64 (↑m : Int)), (30, .int .i64 ((↑i : Int) + 1))]) [.own 3 cs, .own 5 (bs ++ [.int .u8 (x / 1)]), .own 3 es] [], true, [decide ((↑i : Int) < (↑m : Int)) = true, inside (↑i : Int) m = true, decide (0 + Int.toNat (↑i : Int) * 1 < List.length es) = true, isInt .i64 (List.getD es (0 + Int.toNat (↑i : Int) * 1) undef) = true, type_of% hw, inside (↑i : Int) n = true, decide (0 + Int.toNat (↑i : Int) * 1 < List.length cs) = true, isInt .i64 (List.getD cs (0 + Int.toNat (↑i : Int) * 1) undef) = true, type_of% hv, decide (x < 0) = false, decide (x < 0) = false, decide (x < 0) = false, inside (↑i : Int) n = true, decide (x < 0) = false, decide (0 + Int.toNat (↑i : Int) * 1 < List.length cs) = true, isInt .i64 (List.getD cs (0 + Int.toNat (↑i : Int) * 1) undef) = true, type_of% hv, decide (x < 0) = false, decide (x < 0) = false, decide (x < 0) = false, decide (x < 0) = false, decide (x < 0) = false, decide (x < 0) = false, decide (x < 0) = false, decide (x > 255) = false, inside (↑i : Int) n = true, decide (0 + Int.toNat (↑i : Int) * 1 < List.length cs) = true, isInt .i64 (List.getD cs (0 + Int.toNat (↑i : Int) * 1) undef) = true, type_of% hv, Value.int .i64 (Int.fdiv x 1) = .int .i64 (x / 1), Value.int .u8 (IntKind.wrap IntKind.u8 (x / 1)) = .int .u8 (x / 1), (true && decide ((q + 1) * 1 ≤ 140737488355328) && decide (q + 1 ≤ 140737488355328) && decide (q * 1 ≤ List.length bs)) = true, decide (q + 1 ≤ q) = false, decide (List.length bs = q * 1) = true, Value.int .i64 (IntKind.wrap .i64 ((↑i : Int) + 1)) = .int .i64 ((↑i : Int) + 1)]) := by kernel_rfl
theorem wr_8 (R : Out) (k_pt : (h0 : x < 0) → Out.le (Out.mk Xt.ret (frOf 92 [(4, .string (ByteArray.mk #[])), (5, .int .i64 5)]) [.own 3 cs] []) R) (k_pft : (h0 : ¬ (x < 0)) → (h1 : x > 255) → Out.le (Out.mk Xt.ret (frOf 92 [(4, .string (ByteArray.mk #[])), (5, .int .i64 5)]) [.own 3 cs] []) R) (k_pff : (h0 : ¬ (x < 0)) → (h1 : ¬ (x > 255)) → Out.le (Out.mk Xt.normal (frOf 92 [(0, .int .u8 sn), (1, (zSB 0 n c)), (7, (zSB 1 (q + 1) (q + 1))), (28, (zSB 2 m m)), (29, .int .i64 (↑m : Int)), (30, .int .i64 ((↑i : Int) + 1))]) [.own 3 cs, .own 5 (bs ++ [.int .u8 (x / 1)]), .own 3 es] []) R) : CodeSpec (Try.prog) (1) (lpA) (frA sn n c q m (↑i : Int)) ([.own 3 cs, .own 5 bs, .own 3 es]) R := by
  by_cases h0 : x < 0
  · exact (CodeSpec.id (go_ok (body_ok tnamed tcalm tmixed _ _ _ _ _ _ lpA_calm) (wr_8_pt sn x n c q m i cs bs es hcs hbs hes hq hi hx hw0 hw hv0 hv ) (aC dO (aC (inside_of (by omega)) (aC dO (aC ((by omega)) (aC (hw) (aC (inside_of (by omega)) (aC dO (aC ((by omega)) (aC (hv) (aC (dTq h0) (aC (dTq h0) (aC (dTq h0) (aC (dTq h0) (aC (dTq h0) (aC (dTq h0) (aC (dTq h0) (aC (dTq h0) (aC (dTq h0) (aC (dTq h0) (aC (dTq h0) aN)))))))))))))))))))))).le (k_pt h0)
  · by_cases h1 : x > 255
    · exact (CodeSpec.id (go_ok (body_ok tnamed tcalm tmixed _ _ _ _ _ _ lpA_calm) (wr_8_pft sn x n c q m i cs bs es hcs hbs hes hq hi hx hw0 hw hv0 hv ) (aC dO (aC (inside_of (by omega)) (aC dO (aC ((by omega)) (aC (hw) (aC (inside_of (by omega)) (aC dO (aC ((by omega)) (aC (hv) (aC (dFq h0) (aC (dFq h0) (aC (dFq h0) (aC (inside_of (by omega)) (aC (dFq h0) (aC dO (aC ((by omega)) (aC (hv) (aC (dFq h0) (aC (dFq h0) (aC (dFq h0) (aC (dFq h0) (aC (dFq h0) (aC (dFq h0) (aC (dFq h0) (aC (dTq h1) aN))))))))))))))))))))))))))).le (k_pft h0 h1)
    · exact (CodeSpec.id (go_ok (body_ok tnamed tcalm tmixed _ _ _ _ _ _ lpA_calm) (wr_8_pff sn x n c q m i cs bs es hcs hbs hes hq hi hx hw0 hw hv0 hv ) (aC dO (aC (inside_of (by omega)) (aC dO (aC ((by omega)) (aC (hw) (aC (inside_of (by omega)) (aC dO (aC ((by omega)) (aC (hv) (aC (dFq h0) (aC (dFq h0) (aC (dFq h0) (aC (inside_of (by omega)) (aC (dFq h0) (aC dO (aC ((by omega)) (aC (hv) (aC (dFq h0) (aC (dFq h0) (aC (dFq h0) (aC (dFq h0) (aC (dFq h0) (aC (dFq h0) (aC (dFq h0) (aC (dFq h1) (aC (inside_of (by omega)) (aC dO (aC ((by omega)) (aC (hv) (aC (congrArg (Value.int _) (Int.fdiv_eq_ediv_of_nonneg _ (by omega))) (aC (congrArg (Value.int _) (Go.IntWalk.u8_in _ (by omega))) (aC ((by simp [ByteArray.size_append, ByteArray.size_extract, sz_mk] <;> omega)) (aC dN (aC dO (aC (congrArg (Value.int _) (Go.IntWalk.i64_in _ (by omega))) aN))))))))))))))))))))))))))))))))))))).le (k_pff h0 h1)
end
section
variable (sn x : Int) (n c q m i : Nat) (cs bs es : List Value) (hcs : n ≤ List.length cs) (hbs : List.length bs = q) (hes : List.length es = m) (hq : 1 ≤ q ∧ q ≤ 40) (hi : i < n ∧ i < m ∧ m ≤ 5) (hx : -9223372036854775808 ≤ x ∧ x ≤ 9223372036854775807) (hw0 : isInt .i64 (List.getD es (0 + Int.toNat (↑i : Int) * 1) undef) = true) (hw : Value.int .i64 (intOf (List.getD es (0 + Int.toNat (↑i : Int) * 1) undef)) = .int .i64 16) (hv0 : isInt .i64 (List.getD cs (0 + Int.toNat (↑i : Int) * 1) undef) = true) (hv : Value.int .i64 (intOf (List.getD cs (0 + Int.toNat (↑i : Int) * 1) undef)) = .int .i64 x)
include sn x n c q m i cs bs es hcs hbs hes hq hi hx hw0 hw hv0 hv
theorem wr_16_pt : go (body (Try.prog) (8) (1) (8) (kA) (lpA) (frA sn n c q m (↑i : Int)) ([.own 3 cs, .own 5 bs, .own 3 es])) [(2, .dec true), (1, Itm.must), (1, Itm.must), (0, Itm.must), (0, Itm.val (.int .i64 16)), (16, Itm.must), (1, Itm.must), (0, Itm.must), (0, Itm.val (.int .i64 x)), (3, .dec true), (0, .dec true), (0, .dec true), (0, .dec true), (0, .dec true), (0, .dec true), (0, .dec true), (0, .dec true), (0, .dec true), (0, .dec true), (0, .dec true)] = some (Out.mk Xt.ret (frOf 92 [(4, .string (ByteArray.mk #[])), (5, .int .i64 5)]) [.own 3 cs] [], true, [decide ((↑i : Int) < (↑m : Int)) = true, inside (↑i : Int) m = true, decide (0 + Int.toNat (↑i : Int) * 1 < List.length es) = true, isInt .i64 (List.getD es (0 + Int.toNat (↑i : Int) * 1) undef) = true, type_of% hw, inside (↑i : Int) n = true, decide (0 + Int.toNat (↑i : Int) * 1 < List.length cs) = true, isInt .i64 (List.getD cs (0 + Int.toNat (↑i : Int) * 1) undef) = true, type_of% hv, decide (x < 0) = true, decide (x < 0) = true, decide (x < 0) = true, decide (x < 0) = true, decide (x < 0) = true, decide (x < 0) = true, decide (x < 0) = true, decide (x < 0) = true, decide (x < 0) = true, decide (x < 0) = true, decide (x < 0) = true]) := by kernel_rfl
theorem wr_16_pft : go (body (Try.prog) (8) (1) (8) (kA) (lpA) (frA sn n c q m (↑i : Int)) ([.own 3 cs, .own 5 bs, .own 3 es])) [(2, .dec true), (1, Itm.must), (1, Itm.must), (0, Itm.must), (0, Itm.val (.int .i64 16)), (16, Itm.must), (1, Itm.must), (0, Itm.must), (0, Itm.val (.int .i64 x)), (3, .dec false), (1, .dec false), (1, .dec false), (0, Itm.must), (1, .dec false), (0, Itm.must), (0, Itm.must), (0, Itm.val (.int .i64 x)), (0, .dec false), (1, .dec false), (1, .dec false), (2, .dec false), (1, .dec false), (1, .dec false), (1, .dec false), (2, .dec true)] = some (Out.mk Xt.ret (frOf 92 [(4, .string (ByteArray.mk #[])), (5, .int .i64 5)]) [.own 3 cs] [], true, [decide ((↑i : Int) < (↑m : Int)) = true, inside (↑i : Int) m = true, decide (0 + Int.toNat (↑i : Int) * 1 < List.length es) = true, isInt .i64 (List.getD es (0 + Int.toNat (↑i : Int) * 1) undef) = true, type_of% hw, inside (↑i : Int) n = true, decide (0 + Int.toNat (↑i : Int) * 1 < List.length cs) = true, isInt .i64 (List.getD cs (0 + Int.toNat (↑i : Int) * 1) undef) = true, type_of% hv, decide (x < 0) = false, decide (x < 0) = false, decide (x < 0) = false, inside (↑i : Int) n = true, decide (x < 0) = false, decide (0 + Int.toNat (↑i : Int) * 1 < List.length cs) = true, isInt .i64 (List.getD cs (0 + Int.toNat (↑i : Int) * 1) undef) = true, type_of% hv, decide (x < 0) = false, decide (x < 0) = false, decide (x < 0) = false, decide (x < 0) = false, decide (x < 0) = false, decide (x < 0) = false, decide (x < 0) = false, decide (x > 65535) = true]) := by kernel_rfl
theorem wr_16_pff : go (body (Try.prog) (8) (1) (8) (kA) (lpA) (frA sn n c q m (↑i : Int)) ([.own 3 cs, .own 5 bs, .own 3 es])) [(2, .dec true), (1, Itm.must), (1, Itm.must), (0, Itm.must), (0, Itm.val (.int .i64 16)), (16, Itm.must), (1, Itm.must), (0, Itm.must), (0, Itm.val (.int .i64 x)), (3, .dec false), (1, .dec false), (1, .dec false), (0, Itm.must), (1, .dec false), (0, Itm.must), (0, Itm.must), (0, Itm.val (.int .i64 x)), (0, .dec false), (1, .dec false), (1, .dec false), (2, .dec false), (1, .dec false), (1, .dec false), (1, .dec false), (2, .dec false), (11, Itm.must), (1, Itm.must), (0, Itm.must), (0, Itm.val (.int .i64 x)), (2, Itm.val (.int .i64 (x / 1))), (8, Itm.must), (0, .dec false), (0, Itm.must), (15, Itm.must), (1, Itm.must), (0, Itm.must), (0, Itm.val (.int .i64 x)), (2, Itm.val (.int .i64 (x / 256))), (0, Itm.val (.int .u8 (x / 256))), (7, Itm.must), (0, .dec false), (0, Itm.must), (12, Itm.val (.int .i64 ((↑i : Int) + 1)))] = some (Out.mk Xt.normal (frOf 92 [(0, .int .u8 sn), (1, (zSB 0 n c)), (7, (zSB 1 (q + 1 + 1) (q + 1 + 1))), (28, (zSB 2 m m)), (29, .int .i64 (↑m : Int)), (30, .int .i64 ((↑i : Int) + 1))]) [.own 3 cs, .own 5 (bs ++ [.int .u8 (IntKind.wrap IntKind.u8 (x / 1))] ++ [.int .u8 (x / 256)]), .own 3 es] [], true, [decide ((↑i : Int) < (↑m : Int)) = true, inside (↑i : Int) m = true, decide (0 + Int.toNat (↑i : Int) * 1 < List.length es) = true, isInt .i64 (List.getD es (0 + Int.toNat (↑i : Int) * 1) undef) = true, type_of% hw, inside (↑i : Int) n = true, decide (0 + Int.toNat (↑i : Int) * 1 < List.length cs) = true, isInt .i64 (List.getD cs (0 + Int.toNat (↑i : Int) * 1) undef) = true, type_of% hv, decide (x < 0) = false, decide (x < 0) = false, decide (x < 0) = false, inside (↑i : Int) n = true, decide (x < 0) = false, decide (0 + Int.toNat (↑i : Int) * 1 < List.length cs) = true, isInt .i64 (List.getD cs (0 + Int.toNat (↑i : Int) * 1) undef) = true, type_of% hv, decide (x < 0) = false, decide (x < 0) = false, decide (x < 0) = false, decide (x < 0) = false, decide (x < 0) = false, decide (x < 0) = false, decide (x < 0) = false, decide (x > 65535) = false, inside (↑i : Int) n = true, decide (0 + Int.toNat (↑i : Int) * 1 < List.length cs) = true, isInt .i64 (List.getD cs (0 + Int.toNat (↑i : Int) * 1) undef) = true, type_of% hv, Value.int .i64 (Int.fdiv x 1) = .int .i64 (x / 1), (true && decide ((q + 1) * 1 ≤ 140737488355328) && decide (q + 1 ≤ 140737488355328) && decide (q * 1 ≤ List.length bs)) = true, decide (q + 1 ≤ q) = false, decide (List.length bs = q * 1) = true, inside (↑i : Int) n = true, decide (0 + Int.toNat (↑i : Int) * 1 < List.length cs) = true, isInt .i64 (List.getD cs (0 + Int.toNat (↑i : Int) * 1) undef) = true, type_of% hv, Value.int .i64 (Int.fdiv x 256) = .int .i64 (x / 256), Value.int .u8 (IntKind.wrap IntKind.u8 (x / 256)) = .int .u8 (x / 256), (true && decide ((q + 1 + 1) * 1 ≤ 140737488355328) && decide (q + 1 + 1 ≤ 140737488355328) && decide ((q + 1) * 1 ≤ List.length (bs ++ [.int .u8 (IntKind.wrap IntKind.u8 (x / 1))]))) = true, decide (q + 1 + 1 ≤ q + 1) = false, decide (List.length (bs ++ [.int .u8 (IntKind.wrap IntKind.u8 (x / 1))]) = (q + 1) * 1) = true, Value.int .i64 (IntKind.wrap .i64 ((↑i : Int) + 1)) = .int .i64 ((↑i : Int) + 1)]) := by kernel_rfl
theorem wr_16 (R : Out) (k_pt : (h0 : x < 0) → Out.le (Out.mk Xt.ret (frOf 92 [(4, .string (ByteArray.mk #[])), (5, .int .i64 5)]) [.own 3 cs] []) R) (k_pft : (h0 : ¬ (x < 0)) → (h1 : x > 65535) → Out.le (Out.mk Xt.ret (frOf 92 [(4, .string (ByteArray.mk #[])), (5, .int .i64 5)]) [.own 3 cs] []) R) (k_pff : (h0 : ¬ (x < 0)) → (h1 : ¬ (x > 65535)) → Out.le (Out.mk Xt.normal (frOf 92 [(0, .int .u8 sn), (1, (zSB 0 n c)), (7, (zSB 1 (q + 1 + 1) (q + 1 + 1))), (28, (zSB 2 m m)), (29, .int .i64 (↑m : Int)), (30, .int .i64 ((↑i : Int) + 1))]) [.own 3 cs, .own 5 (bs ++ [.int .u8 (IntKind.wrap IntKind.u8 (x / 1))] ++ [.int .u8 (x / 256)]), .own 3 es] []) R) : CodeSpec (Try.prog) (1) (lpA) (frA sn n c q m (↑i : Int)) ([.own 3 cs, .own 5 bs, .own 3 es]) R := by
  by_cases h0 : x < 0
  · exact (CodeSpec.id (go_ok (body_ok tnamed tcalm tmixed _ _ _ _ _ _ lpA_calm) (wr_16_pt sn x n c q m i cs bs es hcs hbs hes hq hi hx hw0 hw hv0 hv ) (aC dO (aC (inside_of (by omega)) (aC dO (aC ((by omega)) (aC (hw) (aC (inside_of (by omega)) (aC dO (aC ((by omega)) (aC (hv) (aC (dTq h0) (aC (dTq h0) (aC (dTq h0) (aC (dTq h0) (aC (dTq h0) (aC (dTq h0) (aC (dTq h0) (aC (dTq h0) (aC (dTq h0) (aC (dTq h0) (aC (dTq h0) aN)))))))))))))))))))))).le (k_pt h0)
  · by_cases h1 : x > 65535
    · exact (CodeSpec.id (go_ok (body_ok tnamed tcalm tmixed _ _ _ _ _ _ lpA_calm) (wr_16_pft sn x n c q m i cs bs es hcs hbs hes hq hi hx hw0 hw hv0 hv ) (aC dO (aC (inside_of (by omega)) (aC dO (aC ((by omega)) (aC (hw) (aC (inside_of (by omega)) (aC dO (aC ((by omega)) (aC (hv) (aC (dFq h0) (aC (dFq h0) (aC (dFq h0) (aC (inside_of (by omega)) (aC (dFq h0) (aC dO (aC ((by omega)) (aC (hv) (aC (dFq h0) (aC (dFq h0) (aC (dFq h0) (aC (dFq h0) (aC (dFq h0) (aC (dFq h0) (aC (dFq h0) (aC (dTq h1) aN))))))))))))))))))))))))))).le (k_pft h0 h1)
    · exact (CodeSpec.id (go_ok (body_ok tnamed tcalm tmixed _ _ _ _ _ _ lpA_calm) (wr_16_pff sn x n c q m i cs bs es hcs hbs hes hq hi hx hw0 hw hv0 hv ) (aC dO (aC (inside_of (by omega)) (aC dO (aC ((by omega)) (aC (hw) (aC (inside_of (by omega)) (aC dO (aC ((by omega)) (aC (hv) (aC (dFq h0) (aC (dFq h0) (aC (dFq h0) (aC (inside_of (by omega)) (aC (dFq h0) (aC dO (aC ((by omega)) (aC (hv) (aC (dFq h0) (aC (dFq h0) (aC (dFq h0) (aC (dFq h0) (aC (dFq h0) (aC (dFq h0) (aC (dFq h0) (aC (dFq h1) (aC (inside_of (by omega)) (aC dO (aC ((by omega)) (aC (hv) (aC (congrArg (Value.int _) (Int.fdiv_eq_ediv_of_nonneg _ (by omega))) (aC ((by simp [ByteArray.size_append, ByteArray.size_extract, sz_mk] <;> omega)) (aC dN (aC dO (aC (inside_of (by omega)) (aC dO (aC ((by omega)) (aC (hv) (aC (congrArg (Value.int _) (Int.fdiv_eq_ediv_of_nonneg _ (by omega))) (aC (congrArg (Value.int _) (Go.IntWalk.u8_in _ (by omega))) (aC ((by simp [ByteArray.size_append, ByteArray.size_extract, sz_mk] <;> omega)) (aC dN (aC (dTq (by simp [ByteArray.size_append, ByteArray.size_extract, sz_mk] <;> omega)) (aC (congrArg (Value.int _) (Go.IntWalk.i64_in _ (by omega))) aN))))))))))))))))))))))))))))))))))))))))))))).le (k_pff h0 h1)
end
section
variable (sn x : Int) (n c q m i : Nat) (cs bs es : List Value) (hcs : n ≤ List.length cs) (hbs : List.length bs = q) (hes : List.length es = m) (hq : 1 ≤ q ∧ q ≤ 40) (hi : i < n ∧ i < m ∧ m ≤ 5) (hx : -9223372036854775808 ≤ x ∧ x ≤ 9223372036854775807) (hw0 : isInt .i64 (List.getD es (0 + Int.toNat (↑i : Int) * 1) undef) = true) (hw : Value.int .i64 (intOf (List.getD es (0 + Int.toNat (↑i : Int) * 1) undef)) = .int .i64 (-16)) (hv0 : isInt .i64 (List.getD cs (0 + Int.toNat (↑i : Int) * 1) undef) = true) (hv : Value.int .i64 (intOf (List.getD cs (0 + Int.toNat (↑i : Int) * 1) undef)) = .int .i64 x)
include sn x n c q m i cs bs es hcs hbs hes hq hi hx hw0 hw hv0 hv
theorem wr_m16_pt : go (body (Try.prog) (8) (1) (8) (kA) (lpA) (frA sn n c q m (↑i : Int)) ([.own 3 cs, .own 5 bs, .own 3 es])) [(2, .dec true), (1, Itm.must), (1, Itm.must), (0, Itm.must), (0, Itm.val (.int .i64 (-16))), (22, Itm.must), (1, Itm.must), (0, Itm.must), (0, Itm.val (.int .i64 x)), (3, .dec true), (0, .dec true), (0, .dec true), (0, .dec true), (0, .dec true), (0, .dec true), (0, .dec true), (0, .dec true), (0, .dec true), (0, .dec true), (0, .dec true)] = some (Out.mk Xt.ret (frOf 92 [(4, .string (ByteArray.mk #[])), (5, .int .i64 5)]) [.own 3 cs] [], true, [decide ((↑i : Int) < (↑m : Int)) = true, inside (↑i : Int) m = true, decide (0 + Int.toNat (↑i : Int) * 1 < List.length es) = true, isInt .i64 (List.getD es (0 + Int.toNat (↑i : Int) * 1) undef) = true, type_of% hw, inside (↑i : Int) n = true, decide (0 + Int.toNat (↑i : Int) * 1 < List.length cs) = true, isInt .i64 (List.getD cs (0 + Int.toNat (↑i : Int) * 1) undef) = true, type_of% hv, decide (x < -32768) = true, decide (x < -32768) = true, decide (x < -32768) = true, decide (x < -32768) = true, decide (x < -32768) = true, decide (x < -32768) = true, decide (x < -32768) = true, decide (x < -32768) = true, decide (x < -32768) = true, decide (x < -32768) = true, decide (x < -32768) = true]) := by kernel_rfl
theorem wr_m16_pft : go (body (Try.prog) (8) (1) (8) (kA) (lpA) (frA sn n c q m (↑i : Int)) ([.own 3 cs, .own 5 bs, .own 3 es])) [(2, .dec true), (1, Itm.must), (1, Itm.must), (0, Itm.must), (0, Itm.val (.int .i64 (-16))), (22, Itm.must), (1, Itm.must), (0, Itm.must), (0, Itm.val (.int .i64 x)), (3, .dec false), (1, .dec false), (1, .dec false), (0, Itm.must), (1, .dec false), (0, Itm.must), (0, Itm.must), (0, Itm.val (.int .i64 x)), (0, .dec false), (1, .dec false), (1, .dec false), (2, .dec false), (1, .dec false), (1, .dec false), (1, .dec false), (2, .dec true)] = some (Out.mk Xt.ret (frOf 92 [(4, .string (ByteArray.mk #[])), (5, .int .i64 5)]) [.own 3 cs] [], true, [decide ((↑i : Int) < (↑m : Int)) = true, inside (↑i : Int) m = true, decide (0 + Int.toNat (↑i : Int) * 1 < List.length es) = true, isInt .i64 (List.getD es (0 + Int.toNat (↑i : Int) * 1) undef) = true, type_of% hw, inside (↑i : Int) n = true, decide (0 + Int.toNat (↑i : Int) * 1 < List.length cs) = true, isInt .i64 (List.getD cs (0 + Int.toNat (↑i : Int) * 1) undef) = true, type_of% hv, decide (x < -32768) = false, decide (x < -32768) = false, decide (x < -32768) = false, inside (↑i : Int) n = true, decide (x < -32768) = false, decide (0 + Int.toNat (↑i : Int) * 1 < List.length cs) = true, isInt .i64 (List.getD cs (0 + Int.toNat (↑i : Int) * 1) undef) = true, type_of% hv, decide (x < -32768) = false, decide (x < -32768) = false, decide (x < -32768) = false, decide (x < -32768) = false, decide (x < -32768) = false, decide (x < -32768) = false, decide (x < -32768) = false, decide (x > 32767) = true]) := by kernel_rfl
theorem wr_m16_pff : go (body (Try.prog) (8) (1) (8) (kA) (lpA) (frA sn n c q m (↑i : Int)) ([.own 3 cs, .own 5 bs, .own 3 es])) [(2, .dec true), (1, Itm.must), (1, Itm.must), (0, Itm.must), (0, Itm.val (.int .i64 (-16))), (22, Itm.must), (1, Itm.must), (0, Itm.must), (0, Itm.val (.int .i64 x)), (3, .dec false), (1, .dec false), (1, .dec false), (0, Itm.must), (1, .dec false), (0, Itm.must), (0, Itm.must), (0, Itm.val (.int .i64 x)), (0, .dec false), (1, .dec false), (1, .dec false), (2, .dec false), (1, .dec false), (1, .dec false), (1, .dec false), (2, .dec false), (11, Itm.must), (1, Itm.must), (0, Itm.must), (0, Itm.val (.int .i64 x)), (2, Itm.val (.int .i64 (x / 1))), (8, Itm.must), (0, .dec false), (0, Itm.must), (15, Itm.must), (1, Itm.must), (0, Itm.must), (0, Itm.val (.int .i64 x)), (2, Itm.val (.int .i64 (x / 256))), (8, Itm.must), (0, .dec false), (0, Itm.must), (12, Itm.val (.int .i64 ((↑i : Int) + 1)))] = some (Out.mk Xt.normal (frOf 92 [(0, .int .u8 sn), (1, (zSB 0 n c)), (7, (zSB 1 (q + 1 + 1) (q + 1 + 1))), (28, (zSB 2 m m)), (29, .int .i64 (↑m : Int)), (30, .int .i64 ((↑i : Int) + 1))]) [.own 3 cs, .own 5 (bs ++ [.int .u8 (IntKind.wrap IntKind.u8 (x / 1))] ++ [.int .u8 (IntKind.wrap IntKind.u8 (x / 256))]), .own 3 es] [], true, [decide ((↑i : Int) < (↑m : Int)) = true, inside (↑i : Int) m = true, decide (0 + Int.toNat (↑i : Int) * 1 < List.length es) = true, isInt .i64 (List.getD es (0 + Int.toNat (↑i : Int) * 1) undef) = true, type_of% hw, inside (↑i : Int) n = true, decide (0 + Int.toNat (↑i : Int) * 1 < List.length cs) = true, isInt .i64 (List.getD cs (0 + Int.toNat (↑i : Int) * 1) undef) = true, type_of% hv, decide (x < -32768) = false, decide (x < -32768) = false, decide (x < -32768) = false, inside (↑i : Int) n = true, decide (x < -32768) = false, decide (0 + Int.toNat (↑i : Int) * 1 < List.length cs) = true, isInt .i64 (List.getD cs (0 + Int.toNat (↑i : Int) * 1) undef) = true, type_of% hv, decide (x < -32768) = false, decide (x < -32768) = false, decide (x < -32768) = false, decide (x < -32768) = false, decide (x < -32768) = false, decide (x < -32768) = false, decide (x < -32768) = false, decide (x > 32767) = false, inside (↑i : Int) n = true, decide (0 + Int.toNat (↑i : Int) * 1 < List.length cs) = true, isInt .i64 (List.getD cs (0 + Int.toNat (↑i : Int) * 1) undef) = true, type_of% hv, Value.int .i64 (Int.fdiv x 1) = .int .i64 (x / 1), (true && decide ((q + 1) * 1 ≤ 140737488355328) && decide (q + 1 ≤ 140737488355328) && decide (q * 1 ≤ List.length bs)) = true, decide (q + 1 ≤ q) = false, decide (List.length bs = q * 1) = true, inside (↑i : Int) n = true, decide (0 + Int.toNat (↑i : Int) * 1 < List.length cs) = true, isInt .i64 (List.getD cs (0 + Int.toNat (↑i : Int) * 1) undef) = true, type_of% hv, Value.int .i64 (Int.fdiv x 256) = .int .i64 (x / 256), (true && decide ((q + 1 + 1) * 1 ≤ 140737488355328) && decide (q + 1 + 1 ≤ 140737488355328) && decide ((q + 1) * 1 ≤ List.length (bs ++ [.int .u8 (IntKind.wrap IntKind.u8 (x / 1))]))) = true, decide (q + 1 + 1 ≤ q + 1) = false, decide (List.length (bs ++ [.int .u8 (IntKind.wrap IntKind.u8 (x / 1))]) = (q + 1) * 1) = true, Value.int .i64 (IntKind.wrap .i64 ((↑i : Int) + 1)) = .int .i64 ((↑i : Int) + 1)]) := by kernel_rfl
theorem wr_m16 (R : Out) (k_pt : (h0 : x < -32768) → Out.le (Out.mk Xt.ret (frOf 92 [(4, .string (ByteArray.mk #[])), (5, .int .i64 5)]) [.own 3 cs] []) R) (k_pft : (h0 : ¬ (x < -32768)) → (h1 : x > 32767) → Out.le (Out.mk Xt.ret (frOf 92 [(4, .string (ByteArray.mk #[])), (5, .int .i64 5)]) [.own 3 cs] []) R) (k_pff : (h0 : ¬ (x < -32768)) → (h1 : ¬ (x > 32767)) → Out.le (Out.mk Xt.normal (frOf 92 [(0, .int .u8 sn), (1, (zSB 0 n c)), (7, (zSB 1 (q + 1 + 1) (q + 1 + 1))), (28, (zSB 2 m m)), (29, .int .i64 (↑m : Int)), (30, .int .i64 ((↑i : Int) + 1))]) [.own 3 cs, .own 5 (bs ++ [.int .u8 (IntKind.wrap IntKind.u8 (x / 1))] ++ [.int .u8 (IntKind.wrap IntKind.u8 (x / 256))]), .own 3 es] []) R) : CodeSpec (Try.prog) (1) (lpA) (frA sn n c q m (↑i : Int)) ([.own 3 cs, .own 5 bs, .own 3 es]) R := by
  by_cases h0 : x < -32768
  · exact (CodeSpec.id (go_ok (body_ok tnamed tcalm tmixed _ _ _ _ _ _ lpA_calm) (wr_m16_pt sn x n c q m i cs bs es hcs hbs hes hq hi hx hw0 hw hv0 hv ) (aC dO (aC (inside_of (by omega)) (aC dO (aC ((by omega)) (aC (hw) (aC (inside_of (by omega)) (aC dO (aC ((by omega)) (aC (hv) (aC (dTq h0) (aC (dTq h0) (aC (dTq h0) (aC (dTq h0) (aC (dTq h0) (aC (dTq h0) (aC (dTq h0) (aC (dTq h0) (aC (dTq h0) (aC (dTq h0) (aC (dTq h0) aN)))))))))))))))))))))).le (k_pt h0)
  · by_cases h1 : x > 32767
    · exact (CodeSpec.id (go_ok (body_ok tnamed tcalm tmixed _ _ _ _ _ _ lpA_calm) (wr_m16_pft sn x n c q m i cs bs es hcs hbs hes hq hi hx hw0 hw hv0 hv ) (aC dO (aC (inside_of (by omega)) (aC dO (aC ((by omega)) (aC (hw) (aC (inside_of (by omega)) (aC dO (aC ((by omega)) (aC (hv) (aC (dFq h0) (aC (dFq h0) (aC (dFq h0) (aC (inside_of (by omega)) (aC (dFq h0) (aC dO (aC ((by omega)) (aC (hv) (aC (dFq h0) (aC (dFq h0) (aC (dFq h0) (aC (dFq h0) (aC (dFq h0) (aC (dFq h0) (aC (dFq h0) (aC (dTq h1) aN))))))))))))))))))))))))))).le (k_pft h0 h1)
    · exact (CodeSpec.id (go_ok (body_ok tnamed tcalm tmixed _ _ _ _ _ _ lpA_calm) (wr_m16_pff sn x n c q m i cs bs es hcs hbs hes hq hi hx hw0 hw hv0 hv ) (aC dO (aC (inside_of (by omega)) (aC dO (aC ((by omega)) (aC (hw) (aC (inside_of (by omega)) (aC dO (aC ((by omega)) (aC (hv) (aC (dFq h0) (aC (dFq h0) (aC (dFq h0) (aC (inside_of (by omega)) (aC (dFq h0) (aC dO (aC ((by omega)) (aC (hv) (aC (dFq h0) (aC (dFq h0) (aC (dFq h0) (aC (dFq h0) (aC (dFq h0) (aC (dFq h0) (aC (dFq h0) (aC (dFq h1) (aC (inside_of (by omega)) (aC dO (aC ((by omega)) (aC (hv) (aC (congrArg (Value.int _) (Int.fdiv_eq_ediv_of_nonneg _ (by omega))) (aC ((by simp [ByteArray.size_append, ByteArray.size_extract, sz_mk] <;> omega)) (aC dN (aC dO (aC (inside_of (by omega)) (aC dO (aC ((by omega)) (aC (hv) (aC (congrArg (Value.int _) (Int.fdiv_eq_ediv_of_nonneg _ (by omega))) (aC ((by simp [ByteArray.size_append, ByteArray.size_extract, sz_mk] <;> omega)) (aC dN (aC (dTq (by simp [ByteArray.size_append, ByteArray.size_extract, sz_mk] <;> omega)) (aC (congrArg (Value.int _) (Go.IntWalk.i64_in _ (by omega))) aN)))))))))))))))))))))))))))))))))))))))))))).le (k_pff h0 h1)
end
section
variable (sn x : Int) (n c q m i : Nat) (cs bs es : List Value) (hcs : n ≤ List.length cs) (hbs : List.length bs = q) (hes : List.length es = m) (hq : 1 ≤ q ∧ q ≤ 40) (hi : i < n ∧ i < m ∧ m ≤ 5) (hx : -9223372036854775808 ≤ x ∧ x ≤ 9223372036854775807) (hw0 : isInt .i64 (List.getD es (0 + Int.toNat (↑i : Int) * 1) undef) = true) (hw : Value.int .i64 (intOf (List.getD es (0 + Int.toNat (↑i : Int) * 1) undef)) = .int .i64 (-32)) (hv0 : isInt .i64 (List.getD cs (0 + Int.toNat (↑i : Int) * 1) undef) = true) (hv : Value.int .i64 (intOf (List.getD cs (0 + Int.toNat (↑i : Int) * 1) undef)) = .int .i64 x)
include sn x n c q m i cs bs es hcs hbs hes hq hi hx hw0 hw hv0 hv
theorem wr_m32_pt : go (body (Try.prog) (8) (1) (8) (kA) (lpA) (frA sn n c q m (↑i : Int)) ([.own 3 cs, .own 5 bs, .own 3 es])) [(2, .dec true), (1, Itm.must), (1, Itm.must), (0, Itm.must), (0, Itm.val (.int .i64 (-32))), (22, Itm.must), (1, Itm.must), (0, Itm.must), (0, Itm.val (.int .i64 x)), (3, .dec true), (0, .dec true), (0, .dec true), (0, .dec true), (0, .dec true), (0, .dec true), (0, .dec true), (0, .dec true), (0, .dec true), (0, .dec true), (0, .dec true)] = some (Out.mk Xt.ret (frOf 92 [(4, .string (ByteArray.mk #[])), (5, .int .i64 5)]) [.own 3 cs] [], true, [decide ((↑i : Int) < (↑m : Int)) = true, inside (↑i : Int) m = true, decide (0 + Int.toNat (↑i : Int) * 1 < List.length es) = true, isInt .i64 (List.getD es (0 + Int.toNat (↑i : Int) * 1) undef) = true, type_of% hw, inside (↑i : Int) n = true, decide (0 + Int.toNat (↑i : Int) * 1 < List.length cs) = true, isInt .i64 (List.getD cs (0 + Int.toNat (↑i : Int) * 1) undef) = true, type_of% hv, decide (x < -2147483648) = true, decide (x < -2147483648) = true, decide (x < -2147483648) = true, decide (x < -2147483648) = true, decide (x < -2147483648) = true, decide (x < -2147483648) = true, decide (x < -2147483648) = true, decide (x < -2147483648) = true, decide (x < -2147483648) = true, decide (x < -2147483648) = true, decide (x < -2147483648) = true]) := by kernel_rfl
theorem wr_m32_pft : go (body (Try.prog) (8) (1) (8) (kA) (lpA) (frA sn n c q m (↑i : Int)) ([.own 3 cs, .own 5 bs, .own 3 es])) [(2, .dec true), (1, Itm.must), (1, Itm.must), (0, Itm.must), (0, Itm.val (.int .i64 (-32))), (22, Itm.must), (1, Itm.must), (0, Itm.must), (0, Itm.val (.int .i64 x)), (3, .dec false), (1, .dec false), (1, .dec false), (0, Itm.must), (1, .dec false), (0, Itm.must), (0, Itm.must), (0, Itm.val (.int .i64 x)), (0, .dec false), (1, .dec false), (1, .dec false), (2, .dec false), (1, .dec false), (1, .dec false), (1, .dec false), (2, .dec true)] = some (Out.mk Xt.ret (frOf 92 [(4, .string (ByteArray.mk #[])), (5, .int .i64 5)]) [.own 3 cs] [], true, [decide ((↑i : Int) < (↑m : Int)) = true, inside (↑i : Int) m = true, decide (0 + Int.toNat (↑i : Int) * 1 < List.length es) = true, isInt .i64 (List.getD es (0 + Int.toNat (↑i : Int) * 1) undef) = true, type_of% hw, inside (↑i : Int) n = true, decide (0 + Int.toNat (↑i : Int) * 1 < List.length cs) = true, isInt .i64 (List.getD cs (0 + Int.toNat (↑i : Int) * 1) undef) = true, type_of% hv, decide (x < -2147483648) = false, decide (x < -2147483648) = false, decide (x < -2147483648) = false, inside (↑i : Int) n = true, decide (x < -2147483648) = false, decide (0 + Int.toNat (↑i : Int) * 1 < List.length cs) = true, isInt .i64 (List.getD cs (0 + Int.toNat (↑i : Int) * 1) undef) = true, type_of% hv, decide (x < -2147483648) = false, decide (x < -2147483648) = false, decide (x < -2147483648) = false, decide (x < -2147483648) = false, decide (x < -2147483648) = false, decide (x < -2147483648) = false, decide (x < -2147483648) = false, decide (x > 2147483647) = true]) := by kernel_rfl
theorem wr_m32_pff : go (body (Try.prog) (8) (1) (8) (kA) (lpA) (frA sn n c q m (↑i : Int)) ([.own 3 cs, .own 5 bs, .own 3 es])) [(2, .dec true), (1, Itm.must), (1, Itm.must), (0, Itm.must), (0, Itm.val (.int .i64 (-32))), (22, Itm.must), (1, Itm.must), (0, Itm.must), (0, Itm.val (.int .i64 x)), (3, .dec false), (1, .dec false), (1, .dec false), (0, Itm.must), (1, .dec false), (0, Itm.must), (0, Itm.must), (0, Itm.val (.int .i64 x)), (0, .dec false), (1, .dec false), (1, .dec false), (2, .dec false), (1, .dec false), (1, .dec false), (1, .dec false), (2, .dec false), (11, Itm.must), (1, Itm.must), (0, Itm.must), (0, Itm.val (.int .i64 x)), (2, Itm.val (.int .i64 (x / 1))), (8, Itm.must), (0, .dec false), (0, Itm.must), (15, Itm.must), (1, Itm.must), (0, Itm.must), (0, Itm.val (.int .i64 x)), (2, Itm.val (.int .i64 (x / 256))), (8, Itm.must), (0, .dec false), (0, Itm.must), (15, Itm.must), (1, Itm.must), (0, Itm.must), (0, Itm.val (.int .i64 x)), (2, Itm.val (.int .i64 (x / 65536))), (8, Itm.must), (0, .dec false), (0, Itm.must), (15, Itm.must), (1, Itm.must), (0, Itm.must), (0, Itm.val (.int .i64 x)), (2, Itm.val (.int .i64 (x / 16777216))), (8, Itm.must), (0, .dec false), (0, Itm.must), (12, Itm.val (.int .i64 ((↑i : Int) + 1)))] = some (Out.mk Xt.normal (frOf 92 [(0, .int .u8 sn), (1, (zSB 0 n c)), (7, (zSB 1 (q + 1 + 1 + 1 + 1) (q + 1 + 1 + 1 + 1))), (28, (zSB 2 m m)), (29, .int .i64 (↑m : Int)), (30, .int .i64 ((↑i : Int) + 1))]) [.own 3 cs, .own 5 (bs ++ [.int .u8 (IntKind.wrap IntKind.u8 (x / 1))] ++ [.int .u8 (IntKind.wrap IntKind.u8 (x / 256))] ++ [.int .u8 (IntKind.wrap IntKind.u8 (x / 65536))] ++ [.int .u8 (IntKind.wrap IntKind.u8 (x / 16777216))]), .own 3 es] [], true, [decide ((↑i : Int) < (↑m : Int)) = true, inside (↑i : Int) m = true, decide (0 + Int.toNat (↑i : Int) * 1 < List.length es) = true, isInt .i64 (List.getD es (0 + Int.toNat (↑i : Int) * 1) undef) = true, type_of% hw, inside (↑i : Int) n = true, decide (0 + Int.toNat (↑i : Int) * 1 < List.length cs) = true, isInt .i64 (List.getD cs (0 + Int.toNat (↑i : Int) * 1) undef) = true, type_of% hv, decide (x < -2147483648) = false, decide (x < -2147483648) = false, decide (x < -2147483648) = false, inside (↑i : Int) n = true, decide (x < -2147483648) = false, decide (0 + Int.toNat (↑i : Int) * 1 < List.length cs) = true, isInt .i64 (List.getD cs (0 + Int.toNat (↑i : Int) * 1) undef) = true, type_of% hv, decide (x < -2147483648) = false, decide (x < -2147483648) = false, decide (x < -2147483648) = false, decide (x < -2147483648) = false, decide (x < -2147483648) = false, decide (x < -2147483648) = false, decide (x < -2147483648) = false, decide (x > 2147483647) = false, inside (↑i : Int) n = true, decide (0 + Int.toNat (↑i : Int) * 1 < List.length cs) = true, isInt .i64 (List.getD cs (0 + Int.toNat (↑i : Int) * 1) undef) = true, type_of% hv, Value.int .i64 (Int.fdiv x 1) = .int .i64 (x / 1), (true && decide ((q + 1) * 1 ≤ 140737488355328) && decide (q + 1 ≤ 140737488355328) && decide (q * 1 ≤ List.length bs)) = true, decide (q + 1 ≤ q) = false, decide (List.length bs = q * 1) = true, inside (↑i : Int) n = true, decide (0 + Int.toNat (↑i : Int) * 1 < List.length cs) = true, isInt .i64 (List.getD cs (0 + Int.toNat (↑i : Int) * 1) undef) = true, type_of% hv, Value.int .i64 (Int.fdiv x 256) = .int .i64 (x / 256), (true && decide ((q + 1 + 1) * 1 ≤ 140737488355328) && decide (q + 1 + 1 ≤ 140737488355328) && decide ((q + 1) * 1 ≤ List.length (bs ++ [.int .u8 (IntKind.wrap IntKind.u8 (x / 1))]))) = true, decide (q + 1 + 1 ≤ q + 1) = false, decide (List.length (bs ++ [.int .u8 (IntKind.wrap IntKind.u8 (x / 1))]) = (q + 1) * 1) = true, inside (↑i : Int) n = true, decide (0 + Int.toNat (↑i : Int) * 1 < List.length cs) = true, isInt .i64 (List.getD cs (0 + Int.toNat (↑i : Int) * 1) undef) = true, type_of% hv, Value.int .i64 (Int.fdiv x 65536) = .int .i64 (x / 65536), (true && decide ((q + 1 + 1 + 1) * 1 ≤ 140737488355328) && decide (q + 1 + 1 + 1 ≤ 140737488355328) && decide ((q + 1 + 1) * 1 ≤ List.length (bs ++ [.int .u8 (IntKind.wrap IntKind.u8 (x / 1))] ++ [.int .u8 (IntKind.wrap IntKind.u8 (x / 256))]))) = true, decide (q + 1 + 1 + 1 ≤ q + 1 + 1) = false, decide (List.length (bs ++ [.int .u8 (IntKind.wrap IntKind.u8 (x / 1))] ++ [.int .u8 (IntKind.wrap IntKind.u8 (x / 256))]) = (q + 1 + 1) * 1) = true, inside (↑i : Int) n = true, decide (0 + Int.toNat (↑i : Int) * 1 < List.length cs) = true, isInt .i64 (List.getD cs (0 + Int.toNat (↑i : Int) * 1) undef) = true, type_of% hv, Value.int .i64 (Int.fdiv x 16777216) = .int .i64 (x / 16777216), (true && decide ((q + 1 + 1 + 1 + 1) * 1 ≤ 140737488355328) && decide (q + 1 + 1 + 1 + 1 ≤ 140737488355328) && decide ((q + 1 + 1 + 1) * 1 ≤ List.length (bs ++ [.int .u8 (IntKind.wrap IntKind.u8 (x / 1))] ++ [.int .u8 (IntKind.wrap IntKind.u8 (x / 256))] ++ [.int .u8 (IntKind.wrap IntKind.u8 (x / 65536))]))) = true, decide (q + 1 + 1 + 1 + 1 ≤ q + 1 + 1 + 1) = false, decide (List.length (bs ++ [.int .u8 (IntKind.wrap IntKind.u8 (x / 1))] ++ [.int .u8 (IntKind.wrap IntKind.u8 (x / 256))] ++ [.int .u8 (IntKind.wrap IntKind.u8 (x / 65536))]) = (q + 1 + 1 + 1) * 1) = true, Value.int .i64 (IntKind.wrap .i64 ((↑i : Int) + 1)) = .int .i64 ((↑i : Int) + 1)]) := by kernel_rfl
theorem wr_m32 (R : Out) (k_pt : (h0 : x < -2147483648) → Out.le (Out.mk Xt.ret (frOf 92 [(4, .string (ByteArray.mk #[])), (5, .int .i64 5)]) [.own 3 cs] []) R) (k_pft : (h0 : ¬ (x < -2147483648)) → (h1 : x > 2147483647) → Out.le (Out.mk Xt.ret (frOf 92 [(4, .string (ByteArray.mk #[])), (5, .int .i64 5)]) [.own 3 cs] []) R) (k_pff : (h0 : ¬ (x < -2147483648)) → (h1 : ¬ (x > 2147483647)) → Out.le (Out.mk Xt.normal (frOf 92 [(0, .int .u8 sn), (1, (zSB 0 n c)), (7, (zSB 1 (q + 1 + 1 + 1 + 1) (q + 1 + 1 + 1 + 1))), (28, (zSB 2 m m)), (29, .int .i64 (↑m : Int)), (30, .int .i64 ((↑i : Int) + 1))]) [.own 3 cs, .own 5 (bs ++ [.int .u8 (IntKind.wrap IntKind.u8 (x / 1))] ++ [.int .u8 (IntKind.wrap IntKind.u8 (x / 256))] ++ [.int .u8 (IntKind.wrap IntKind.u8 (x / 65536))] ++ [.int .u8 (IntKind.wrap IntKind.u8 (x / 16777216))]), .own 3 es] []) R) : CodeSpec (Try.prog) (1) (lpA) (frA sn n c q m (↑i : Int)) ([.own 3 cs, .own 5 bs, .own 3 es]) R := by
  by_cases h0 : x < -2147483648
  · exact (CodeSpec.id (go_ok (body_ok tnamed tcalm tmixed _ _ _ _ _ _ lpA_calm) (wr_m32_pt sn x n c q m i cs bs es hcs hbs hes hq hi hx hw0 hw hv0 hv ) (aC dO (aC (inside_of (by omega)) (aC dO (aC ((by omega)) (aC (hw) (aC (inside_of (by omega)) (aC dO (aC ((by omega)) (aC (hv) (aC (dTq h0) (aC (dTq h0) (aC (dTq h0) (aC (dTq h0) (aC (dTq h0) (aC (dTq h0) (aC (dTq h0) (aC (dTq h0) (aC (dTq h0) (aC (dTq h0) (aC (dTq h0) aN)))))))))))))))))))))).le (k_pt h0)
  · by_cases h1 : x > 2147483647
    · exact (CodeSpec.id (go_ok (body_ok tnamed tcalm tmixed _ _ _ _ _ _ lpA_calm) (wr_m32_pft sn x n c q m i cs bs es hcs hbs hes hq hi hx hw0 hw hv0 hv ) (aC dO (aC (inside_of (by omega)) (aC dO (aC ((by omega)) (aC (hw) (aC (inside_of (by omega)) (aC dO (aC ((by omega)) (aC (hv) (aC (dFq h0) (aC (dFq h0) (aC (dFq h0) (aC (inside_of (by omega)) (aC (dFq h0) (aC dO (aC ((by omega)) (aC (hv) (aC (dFq h0) (aC (dFq h0) (aC (dFq h0) (aC (dFq h0) (aC (dFq h0) (aC (dFq h0) (aC (dFq h0) (aC (dTq h1) aN))))))))))))))))))))))))))).le (k_pft h0 h1)
    · exact (CodeSpec.id (go_ok (body_ok tnamed tcalm tmixed _ _ _ _ _ _ lpA_calm) (wr_m32_pff sn x n c q m i cs bs es hcs hbs hes hq hi hx hw0 hw hv0 hv ) (aC dO (aC (inside_of (by omega)) (aC dO (aC ((by omega)) (aC (hw) (aC (inside_of (by omega)) (aC dO (aC ((by omega)) (aC (hv) (aC (dFq h0) (aC (dFq h0) (aC (dFq h0) (aC (inside_of (by omega)) (aC (dFq h0) (aC dO (aC ((by omega)) (aC (hv) (aC (dFq h0) (aC (dFq h0) (aC (dFq h0) (aC (dFq h0) (aC (dFq h0) (aC (dFq h0) (aC (dFq h0) (aC (dFq h1) (aC (inside_of (by omega)) (aC dO (aC ((by omega)) (aC (hv) (aC (congrArg (Value.int _) (Int.fdiv_eq_ediv_of_nonneg _ (by omega))) (aC ((by simp [ByteArray.size_append, ByteArray.size_extract, sz_mk] <;> omega)) (aC dN (aC dO (aC (inside_of (by omega)) (aC dO (aC ((by omega)) (aC (hv) (aC (congrArg (Value.int _) (Int.fdiv_eq_ediv_of_nonneg _ (by omega))) (aC ((by simp [ByteArray.size_append, ByteArray.size_extract, sz_mk] <;> omega)) (aC dN (aC (dTq (by simp [ByteArray.size_append, ByteArray.size_extract, sz_mk] <;> omega)) (aC (inside_of (by omega)) (aC dO (aC ((by omega)) (aC (hv) (aC (congrArg (Value.int _) (Int.fdiv_eq_ediv_of_nonneg _ (by omega))) (aC ((by simp [ByteArray.size_append, ByteArray.size_extract, sz_mk] <;> omega)) (aC dN (aC (dTq (by simp [ByteArray.size_append, ByteArray.size_extract, sz_mk] <;> omega)) (aC (inside_of (by omega)) (aC dO (aC ((by omega)) (aC (hv) (aC (congrArg (Value.int _) (Int.fdiv_eq_ediv_of_nonneg _ (by omega))) (aC ((by simp [ByteArray.size_append, ByteArray.size_extract, sz_mk] <;> omega)) (aC dN (aC (dTq (by simp [ByteArray.size_append, ByteArray.size_extract, sz_mk] <;> omega)) (aC (congrArg (Value.int _) (Go.IntWalk.i64_in _ (by omega))) aN)))))))))))))))))))))))))))))))))))))))))))))))))))))))))))).le (k_pff h0 h1)
end
section
variable (sn : Int) (n c q m : Nat) (cs bs es : List Value) (hes : List.length es = m)
include sn n c q m cs bs es hes
theorem wr_end_p : go (body (Try.prog) (8) (1) (8) (kA) (lpA) (frA sn n c q m (↑m : Int)) ([.own 3 cs, .own 5 bs, .own 3 es])) [(2, .dec false)] = some (Out.mk (Xt.exit 1) (frOf 92 [(0, .int .u8 sn), (1, (zSB 0 n c)), (7, (zSB 1 q q)), (28, (zSB 2 m m)), (29, .int .i64 (↑m : Int)), (30, .int .i64 (↑m : Int))]) [.own 3 cs, .own 5 bs, .own 3 es] [], true, [decide ((↑m : Int) < (↑m : Int)) = false]) := by kernel_rfl
theorem wr_end (R : Out) (k_p : Out.le (Out.mk (Xt.exit 1) (frOf 92 [(0, .int .u8 sn), (1, (zSB 0 n c)), (7, (zSB 1 q q)), (28, (zSB 2 m m)), (29, .int .i64 (↑m : Int)), (30, .int .i64 (↑m : Int))]) [.own 3 cs, .own 5 bs, .own 3 es] []) R) : CodeSpec (Try.prog) (1) (lpA) (frA sn n c q m (↑m : Int)) ([.own 3 cs, .own 5 bs, .own 3 es]) R := by
  exact (CodeSpec.id (go_ok (body_ok tnamed tcalm tmixed _ _ _ _ _ _ lpA_calm) (wr_end_p sn n c q m cs bs es hes ) (aC dN aN))).le (k_p )
end
end Go.Proofs.Ytbolppjlaipfjaa.Ex
end
section
set_option linter.unusedSectionVars false
set_option linter.unusedSimpArgs false
set_option linter.unusedVariables false
namespace Go.Proofs.Ytbolppjlaipfjaa.Ex
open Go
set_option linter.unusedVariables false
def loW (w : Int) : Int := if w < 0 then -(256 ^ wB w / 2) else 0
def hiW (w : Int) : Int := if w < 0 then 256 ^ wB w / 2 - 1 else 256 ^ wB w - 1
def okX (w x : Int) : Prop := loW w ≤ x ∧ x ≤ hiW w
instance (w x : Int) : Decidable (okX w x) := inferInstanceAs (Decidable (loW w ≤ x ∧ x ≤ hiW w))
def byW (w x : Int) : List Int := (List.range (wB w)).map fun j => x / 256 ^ j % 256
def uB (l : List Int) : List Value := l.map fun b => .int .u8 b
theorem uB_len (l : List Int) : (uB l).length = l.length := by unfold uB; rw [List.length_map]
theorem uB_app (a b : List Int) : uB (a ++ b) = uB a ++ uB b := by unfold uB; rw [List.map_append]
def wrF : List Int → List Int → Option (List Int)
  | [], _ => some []
  | _ :: _, [] => none
  | w :: ws, x :: xs => if okX w x then (wrF ws xs).map (byW w x ++ ·) else none
def i64 (x : Int) : Prop := -9223372036854775808 ≤ x ∧ x ≤ 9223372036854775807
theorem wrap8 (n : Int) : IntKind.wrap .u8 n = n % 256 := IntKind.wrap_u8 n
theorem wr_round (sn x w : Int) (n c q m i : Nat) (cs bs es : List Value) (hcs : n ≤ cs.length) (hbs : bs.length = q) (hes : es.length = m) (hq : 1 ≤ q ∧ q ≤ 40) (hi : i < n ∧ i < m ∧ m ≤ 5) (hx : i64 x) (hwk : okW w)
    (hw : List.getD es i undef = .int .i64 w) (hv : List.getD cs i undef = .int .i64 x) :
    (okX w x → CodeSpec Try.prog 1 lpA (frA sn n c q m i) [.own 3 cs, .own 5 bs, .own 3 es] ⟨.normal, frA sn n c (q + wB w) m (i + 1 : Nat), [.own 3 cs, .own 5 (bs ++ uB (byW w x)), .own 3 es], []⟩) ∧
    (¬ okX w x → CodeSpec Try.prog 1 lpA (frA sn n c q m i) [.own 3 cs, .own 5 bs, .own 3 es] ⟨.ret, frOf 92 [(4, .string ⟨#[]⟩), (5, .int .i64 5)], [.own 3 cs], []⟩) := by
  have ei : 0 + Int.toNat (i : Int) * 1 = i := by omega
  have w1 : isInt .i64 (List.getD es (0 + Int.toNat (i : Int) * 1) undef) = true := by rw [ei, hw]; rfl
  have w2 : Value.int .i64 (intOf (List.getD es (0 + Int.toNat (i : Int) * 1) undef)) = .int .i64 w := by rw [ei, hw]; rfl
  have v1 : isInt .i64 (List.getD cs (0 + Int.toNat (i : Int) * 1) undef) = true := by rw [ei, hv]; rfl
  have v2 : Value.int .i64 (intOf (List.getD cs (0 + Int.toNat (i : Int) * 1) undef)) = .int .i64 x := by rw [ei, hv]; rfl
  rcases hwk with rfl | rfl | rfl | rfl
  · have e : okX 8 x ↔ (0 ≤ x ∧ x ≤ 255) := Iff.rfl
    have eb : byW 8 x = [x / 1 % 256] := rfl
    refine ⟨fun h => ?_, fun h => ?_⟩
    · have h := e.1 h
      refine wr_8 sn x n c q m i cs bs es hcs hbs hes hq hi hx w1 w2 v1 v2 _ (fun h0 => absurd h0 (by omega)) (fun _ h1 => absurd h1 (by omega)) (fun _ _ => ⟨rfl, rfl, ?_, fun j hj => hj⟩)
      have e1 : x / 1 % 256 = x / 1 := by omega
      rw [eb, e1]
      rfl
    · exact wr_8 sn x n c q m i cs bs es hcs hbs hes hq hi hx w1 w2 v1 v2 _ (fun _ => out_refl) (fun _ _ => out_refl) (fun h0 h1 => absurd (e.2 ⟨by omega, by omega⟩) h)
  · have e : okX 16 x ↔ (0 ≤ x ∧ x ≤ 65535) := Iff.rfl
    have eb : byW 16 x = [x / 1 % 256, x / 256 % 256] := rfl
    refine ⟨fun h => ?_, fun h => ?_⟩
    · have h := e.1 h
      refine wr_16 sn x n c q m i cs bs es hcs hbs hes hq hi hx w1 w2 v1 v2 _ (fun h0 => absurd h0 (by omega)) (fun _ h1 => absurd h1 (by omega)) (fun _ _ => ⟨rfl, rfl, ?_, fun j hj => hj⟩)
      have e1 : x / 256 % 256 = x / 256 := by omega
      rw [eb, e1]
      show [_, _, _] = [_, _, _]
      rw [wrap8, List.append_assoc]
      rfl
    · exact wr_16 sn x n c q m i cs bs es hcs hbs hes hq hi hx w1 w2 v1 v2 _ (fun _ => out_refl) (fun _ _ => out_refl) (fun h0 h1 => absurd (e.2 ⟨by omega, by omega⟩) h)
  · have e : okX (-16) x ↔ (-32768 ≤ x ∧ x ≤ 32767) := Iff.rfl
    have eb : byW (-16) x = [x / 1 % 256, x / 256 % 256] := rfl
    refine ⟨fun h => ?_, fun h => ?_⟩
    · have h := e.1 h
      refine wr_m16 sn x n c q m i cs bs es hcs hbs hes hq hi hx w1 w2 v1 v2 _ (fun h0 => absurd h0 (by omega)) (fun _ h1 => absurd h1 (by omega)) (fun _ _ => ⟨rfl, rfl, ?_, fun j hj => hj⟩)
      rw [eb]
      show [_, _, _] = [_, _, _]
      rw [wrap8, wrap8, List.append_assoc]
      rfl
    · exact wr_m16 sn x n c q m i cs bs es hcs hbs hes hq hi hx w1 w2 v1 v2 _ (fun _ => out_refl) (fun _ _ => out_refl) (fun h0 h1 => absurd (e.2 ⟨by omega, by omega⟩) h)
  · have e : okX (-32) x ↔ (-2147483648 ≤ x ∧ x ≤ 2147483647) := Iff.rfl
    have eb : byW (-32) x = [x / 1 % 256, x / 256 % 256, x / 65536 % 256, x / 16777216 % 256] := rfl
    refine ⟨fun h => ?_, fun h => ?_⟩
    · have h := e.1 h
      refine wr_m32 sn x n c q m i cs bs es hcs hbs hes hq hi hx w1 w2 v1 v2 _ (fun h0 => absurd h0 (by omega)) (fun _ h1 => absurd h1 (by omega)) (fun _ _ => ⟨rfl, rfl, ?_, fun j hj => hj⟩)
      rw [eb]
      show [_, _, _] = [_, _, _]
      rw [wrap8, wrap8, wrap8, wrap8, List.append_assoc, List.append_assoc, List.append_assoc]
      rfl
    · exact wr_m32 sn x n c q m i cs bs es hcs hbs hes hq hi hx w1 w2 v1 v2 _ (fun _ => out_refl) (fun _ _ => out_refl) (fun h0 h1 => absurd (e.2 ⟨by omega, by omega⟩) h)
theorem iW_getD (a b : List Int) (w : Int) (ex : List Value) : List.getD (iW (a ++ w :: b) ++ ex) a.length undef = .int .i64 w := by
  rw [iW_app, List.getD_eq_getElem?_getD, List.getElem?_append_left (by simp [iW_len, iW]), List.getElem?_append_right (by rw [iW_len]; omega), iW_len]
  simp [iW]
theorem byW_len (w x : Int) : (byW w x).length = wB w := by unfold byW; rw [List.length_map, List.length_range]
theorem wr_loop (sn : Int) (c : Nat) (ex : List Value) : ∀ (ws dw xs dx : List Int) (bs : List Int), dw.length = dx.length → ws.length = xs.length → (dw ++ ws).length ≤ 5 → (∀ w ∈ ws, okW w) → (∀ x ∈ xs, i64 x) → 1 ≤ bs.length → bs.length + sumW ws ≤ 30 →
    LoopSpec Try.prog 1 lpA (frA sn (dx ++ xs).length c bs.length (dw ++ ws).length (dw.length : Nat)) [.own 3 (iW (dx ++ xs) ++ ex), .own 5 (uB bs), .own 3 (iW (dw ++ ws))]
      (match wrF ws xs with
      | none => ⟨.ret, frOf 92 [(4, .string ⟨#[]⟩), (5, .int .i64 5)], [.own 3 (iW (dx ++ xs) ++ ex)], []⟩
      | some l => ⟨.exit 1, frA sn (dx ++ xs).length c (bs ++ l).length (dw ++ ws).length ((dw ++ ws).length : Nat), [.own 3 (iW (dx ++ xs) ++ ex), .own 5 (uB (bs ++ l)), .own 3 (iW (dw ++ ws))], []⟩)
  | [], dw, [], dx, bs, hd, hl, h5, hw, hx, hb, hs => by
    rw [wrF]
    simp only [List.append_nil]
    refine .last (wr_end sn dx.length c bs.length dw.length _ _ _ (iW_len _) _ out_refl) (by intro h; cases h)
  | [], _, _ :: _, _, _, _, hl, _, _, _, _, _ => by simp at hl
  | _ :: _, _, [], _, _, _, hl, _, _, _, _, _ => by simp at hl
  | w :: ws, dw, x :: xs, dx, bs, hd, hl, h5, hw, hx, hb, hs => by
    rw [sumW] at hs
    have hl1 : (dw ++ w :: ws).length = dw.length + 1 + ws.length := by simp; omega
    have hl2 : (dx ++ x :: xs).length = dx.length + 1 + xs.length := by simp; omega
    have hR := wr_round sn x w (dx ++ x :: xs).length c bs.length (dw ++ w :: ws).length dw.length (iW (dx ++ x :: xs) ++ ex) (uB bs) (iW (dw ++ w :: ws)) (by have h1 := iW_len (dx ++ x :: xs); have h2 : (iW (dx ++ x :: xs) ++ ex).length = (iW (dx ++ x :: xs)).length + ex.length := List.length_append; omega) (uB_len _) (iW_len _) ⟨hb, by omega⟩ ⟨by omega, by omega, h5⟩ (hx x (by simp)) (hw w (by simp))
      (by have := iW_getD dw ws w []; rwa [List.append_nil] at this) (by rw [hd]; exact iW_getD dx xs x ex)
    rw [wrF]
    by_cases hk : okX w x
    · rw [if_pos hk]
      have ih := wr_loop sn c ex ws (dw ++ [w]) xs (dx ++ [x]) (bs ++ byW w x) (by simp [hd]) (by simpa using hl) (by simpa using h5) (fun u hu => hw u (by simp [hu])) (fun u hu => hx u (by simp [hu])) (by rw [List.length_append]; omega) (by rw [List.length_append, byW_len]; omega)
      rw [List.append_assoc, List.singleton_append, List.append_assoc, List.singleton_append, uB_app, show (bs ++ byW w x).length = bs.length + wB w by rw [List.length_append, byW_len]] at ih
      have e1 : (((dw ++ [w]).length : Nat) : Int) = ((dw.length + 1 : Nat) : Int) := by simp
      rw [e1] at ih
      refine .more (hR.1 hk) rfl ?_ (fun j hj _ => by cases hj)
      cases hF : wrF ws xs with
      | none => rw [hF] at ih; exact ih
      | some l => rw [hF] at ih; simp only [Option.map_some, ← List.append_assoc]; exact ih
    · rw [if_neg hk]
      exact .last (hR.2 hk) (by intro h; cases h)
end Go.Proofs.Ytbolppjlaipfjaa.Ex
end
section
set_option linter.unusedSectionVars false
set_option linter.unusedSimpArgs false
set_option linter.unusedVariables false
namespace Go.Proofs.Ytbolppjlaipfjaa.Ex
open Go
set_option linter.unusedVariables false
def strB (bs : List Value) : ByteArray := ⟨(bs.map unbyte).toArray⟩
section
variable (sn : Int) (n c : Nat) (cs : List Value) (hW : CallSpec Try.prog 20 [.int .u8 sn] [] (.mk slN [] []))
include sn n c cs hW
theorem wrt_0s_p : go (exec (Try.prog) (8) (15) ([.int .u8 sn, slB 0 n c]) ([.own 3 cs])) [(5, .call (.mk (zSN) [] []))] = some (.mk (.tuple #[.string (ByteArray.mk #[]), .int .i64 6]) [.own 3 cs] [], true, [type_of% hW]) := by kernel_rfl
theorem wrt_0s (R : Res) (k_p : Res.le (.mk (.tuple #[.string (ByteArray.mk #[]), .int .i64 6]) [.own 3 cs] []) R) : CallSpec (Try.prog) (15) ([.int .u8 sn, slB 0 n c]) ([.own 3 cs]) R := by
  exact (CallSpec.id (go_ok (exec_ok tnamed tcalm tmixed _ _ _ _) (wrt_0s_p sn n c cs hW ) (aC (hW) aN))).le (k_p )
end
section
variable (sn : Int) (n c m : Nat) (cs es : List Value) (hm : 1 ≤ m) (hn : ¬m = n) (hW : CallSpec Try.prog 20 [.int .u8 sn] [] (.mk (slB 0 m m) [.own 3 es] []))
include sn n c m cs es hm hn hW
theorem wrt_cs_p : go (exec (Try.prog) (8) (15) ([.int .u8 sn, slB 0 n c]) ([.own 3 cs])) [(5, .call (.mk ((zSB 0 m m)) [.own 3 es] [])), (9, .dec false), (7, .dec true)] = some (.mk (.tuple #[.string (ByteArray.mk #[]), .int .i64 50]) [.own 3 cs] [], true, [type_of% hW, decide ((↑m : Int) = 0) = false, (!decide ((↑m : Int) = (↑n : Int))) = true]) := by kernel_rfl
theorem wrt_cs (R : Res) (k_p : Res.le (.mk (.tuple #[.string (ByteArray.mk #[]), .int .i64 50]) [.own 3 cs] []) R) : CallSpec (Try.prog) (15) ([.int .u8 sn, slB 0 n c]) ([.own 3 cs]) R := by
  exact (CallSpec.id (go_ok (exec_ok tnamed tcalm tmixed _ _ _ _) (wrt_cs_p sn n c m cs es hm hn hW ) (aC (hW) (aC dN (aC (congrArg not dN) aN))))).le (k_p )
end
section
variable (sn : Int) (m c : Nat) (cs es : List Value) (hm : 1 ≤ m) (hW : CallSpec Try.prog 20 [.int .u8 sn] [] (.mk (slB 0 m m) [.own 3 es] [])) (kL : CodeSpec Try.prog 1 lpAC (frA sn m c 1 m 0) [.own 3 cs, .own 5 [.int .u8 sn], .own 3 es] (Out.mk Xt.ret (frOf 92 [(4, .string (ByteArray.mk #[])), (5, .int .i64 5)]) [.own 3 cs] []))
include sn m c cs es hm hW kL
theorem wrt_e_p : go (exec (Try.prog) (8) (15) ([.int .u8 sn, slB 0 m c]) ([.own 3 cs])) [(5, .call (.mk ((zSB 0 m m)) [.own 3 es] [])), (9, .dec false), (7, .dec false), (12, Itm.loop [0, 1, 7, 28, 29, 30] (Out.mk Xt.ret (frOf 92 [(4, .string (ByteArray.mk #[])), (5, .int .i64 5)]) [.own 3 cs] []))] = some (.mk (.tuple #[.string (ByteArray.mk #[]), .int .i64 5]) [.own 3 cs] [], true, [type_of% hW, decide ((↑m : Int) = 0) = false, (!decide ((↑m : Int) = (↑m : Int))) = false, type_of% kL]) := by kernel_rfl
theorem wrt_e (R : Res) (k_p : Res.le (.mk (.tuple #[.string (ByteArray.mk #[]), .int .i64 5]) [.own 3 cs] []) R) : CallSpec (Try.prog) (15) ([.int .u8 sn, slB 0 m c]) ([.own 3 cs]) R := by
  exact (CallSpec.id (go_ok (exec_ok tnamed tcalm tmixed _ _ _ _) (wrt_e_p sn m c cs es hm hW kL ) (aC (hW) (aC dN (aC (congrArg not dO) (aC (kL) aN)))))).le (k_p )
end
section
variable (sn k : Int) (m c q : Nat) (cs es bs : List Value) (hm : 1 ≤ m) (hq : List.length bs = q) (hq2 : q ≤ 40) (hb : List.all (List.take (q * 1) (List.drop 0 bs)) (isInt IntKind.u8) = true) (hS : Value.string (ByteArray.mk (List.toArray (List.map unbyte (List.take (q * 1) (List.drop 0 bs))))) = .string (strB bs)) (hk : 0 ≤ k ∧ k ≤ 65535) (hz : ByteArray.size (strB bs) ≤ 40) (hW : CallSpec Try.prog 20 [.int .u8 sn] [] (.mk (slB 0 m m) [.own 3 es] [])) (kC : CallSpec Try.prog 27 [.string (strB bs)] [] (.mk (Value.int IntKind.u16 k) [] [])) (kL : CodeSpec Try.prog 1 lpAC (frA sn m c 1 m 0) [.own 3 cs, .own 5 [.int .u8 sn], .own 3 es] (Out.mk (Xt.exit 1) (frA sn m c q m (↑m : Int)) [.own 3 cs, .own 5 bs, .own 3 es] []))
include sn k m c q cs es bs hm hq hq2 hb hS hk hz hW kC kL
theorem wrt_o_p : go (exec (Try.prog) (8) (15) ([.int .u8 sn, slB 0 m c]) ([.own 3 cs])) [(5, .call (.mk ((zSB 0 m m)) [.own 3 es] [])), (9, .dec false), (7, .dec false), (12, Itm.loop [0, 1, 7, 28, 29, 30] (Out.mk (Xt.exit 1) (frOf 92 [(0, .int .u8 sn), (1, (zSB 0 m c)), (7, (zSB 1 q q)), (28, (zSB 2 m m)), (29, .int .i64 (↑m : Int)), (30, .int .i64 (↑m : Int))]) [.own 3 cs, .own 5 bs, .own 3 es] [])), (1, Itm.must), (0, Itm.must), (0, Itm.val (.string (strB bs))), (0, .call (.mk (Value.int IntKind.u16 k) [] [])), (5, Itm.must), (0, Itm.must), (0, Itm.val (.string (strB bs))), (0, Itm.must), (5, Itm.val (Value.int IntKind.u16 (k / 256))), (0, Itm.val (.int .u8 (k / 256))), (9, Itm.must)] = some (.mk (.tuple #[.string (ByteArray.mk #[UInt8.ofNat 165] ++ ByteArray.mk (List.toArray (List.map unbyte bs)) ++ ByteArray.mk #[unbyte (.int .u8 (IntKind.wrap IntKind.u8 k)), unbyte (.int .u8 (k / 256))]), .int .i64 0]) [.own 3 cs] [], true, [type_of% hW, decide ((↑m : Int) = 0) = false, (!decide ((↑m : Int) = (↑m : Int))) = false, type_of% kL, decide (0 + q * 1 ≤ List.length bs) = true, List.all (List.take (q * 1) (List.drop 0 bs)) (isInt IntKind.u8) = true, type_of% hS, type_of% kC, decide (0 + q * 1 ≤ List.length bs) = true, List.all (List.take (q * 1) (List.drop 0 bs)) (isInt IntKind.u8) = true, type_of% hS, decide (1 + ByteArray.size (ByteArray.mk (List.toArray (List.map unbyte bs))) ≤ 9223372036854775807) = true, Value.int IntKind.u16 (Int.fdiv k 256) = Value.int IntKind.u16 (k / 256), Value.int .u8 (IntKind.wrap IntKind.u8 (k / 256)) = .int .u8 (k / 256), decide (ByteArray.size (ByteArray.mk #[UInt8.ofNat 165] ++ ByteArray.mk (List.toArray (List.map unbyte bs))) + ByteArray.size (ByteArray.mk #[unbyte (.int .u8 (IntKind.wrap IntKind.u8 k)), unbyte (.int .u8 (k / 256))]) ≤ 9223372036854775807) = true]) := by kernel_rfl
theorem wrt_o (R : Res) (k_p : Res.le (.mk (.tuple #[.string (ByteArray.mk #[UInt8.ofNat 165] ++ ByteArray.mk (List.toArray (List.map unbyte bs)) ++ ByteArray.mk #[unbyte (.int .u8 (IntKind.wrap IntKind.u8 k)), unbyte (.int .u8 (k / 256))]), .int .i64 0]) [.own 3 cs] []) R) : CallSpec (Try.prog) (15) ([.int .u8 sn, slB 0 m c]) ([.own 3 cs]) R := by
  exact (CallSpec.id (go_ok (exec_ok tnamed tcalm tmixed _ _ _ _) (wrt_o_p sn k m c q cs es bs hm hq hq2 hb hS hk hz hW kC kL ) (aC (hW) (aC dN (aC (congrArg not dO) (aC (kL) (aC dO (aC ((by omega)) (aC (hS) (aC (kC) (aC dO (aC ((by omega)) (aC (hS) (aC (dTq (by simp [ByteArray.size_append, ByteArray.size_extract, sz_mk] <;> omega)) (aC (congrArg (Value.int _) (Int.fdiv_eq_ediv_of_nonneg _ (by omega))) (aC (congrArg (Value.int _) (Go.IntWalk.u8_in _ (by omega))) (aC (dTq (by simp [ByteArray.size_append, ByteArray.size_extract, sz_mk] <;> omega)) aN))))))))))))))))).le (k_p )
end
end Go.Proofs.Ytbolppjlaipfjaa.Ex
end
section
set_option linter.unusedSectionVars false
set_option linter.unusedSimpArgs false
set_option linter.unusedVariables false
namespace Go.Proofs.Ytbolppjlaipfjaa.Ex
open Go
set_option linter.unusedVariables false
theorem strB_size (a : List Value) : (strB a).size = a.length := by
  show (List.map unbyte a).toArray.size = _
  simp
def wrS (sn : Int) (l : List Int) : ByteArray := strB (uB (sn :: l))
def wrT (sn : Int) (l : List Int) : ByteArray := a5 ++ wrS sn l ++ strB (uB [F.sum (wrS sn l) % 256, F.sum (wrS sn l) / 256])
def F.write (sn : Int) (xs : List Int) : ByteArray × Int :=
  if wds sn = [] then (⟨#[]⟩, 6) else if (wds sn).length ≠ xs.length then (⟨#[]⟩, 50) else match wrF (wds sn) xs with
    | none => (⟨#[]⟩, 5)
    | some l => (wrT sn l, 0)
def wtR (q : ByteArray × Int) (hp : Hp) : Res := ⟨.tuple #[.string q.1, .int .i64 q.2], hp, []⟩
theorem wrF_len : ∀ (ws xs l : List Int), wrF ws xs = some l → l.length = sumW ws
  | [], xs, l, h => by rw [wrF] at h; cases h; rfl
  | w :: ws, [], l, h => by rw [wrF] at h; cases h
  | w :: ws, x :: xs, l, h => by
    rw [wrF] at h
    split at h
    · cases hF : wrF ws xs with
      | none => rw [hF] at h; cases h
      | some l' =>
        rw [hF] at h
        cases h
        rw [List.length_append, byW_len, wrF_len ws xs l' hF, sumW]
    · cases h
theorem uB_all (l : List Int) : (uB l).all (isInt .u8) = true := by
  unfold uB
  rw [List.all_map]
  exact List.all_eq_true.2 fun _ _ => rfl
theorem write_done {sn : Int} {xs : List Int} {c : Nat} {ex : List Value} (hx : ∀ x ∈ xs, i64 x) : CallSpec Try.prog 15 [.int .u8 sn, slB 0 xs.length c] [.own 3 (iW xs ++ ex)] (wtR (F.write sn xs) [.own 3 (iW xs ++ ex)]) := by
  unfold F.write
  by_cases hw : wds sn = []
  · rw [if_pos hw]; exact wrt_0s sn _ _ _ ((wid_done sn).1 hw) _ res_refl
  have hn : 1 ≤ (wds sn).length := List.length_pos_iff.2 hw
  have kW := (wid_done sn).2 hw
  rw [if_neg hw]
  by_cases hl : (wds sn).length ≠ xs.length
  · rw [if_pos hl]; exact wrt_cs sn _ _ _ _ _ hn hl kW _ res_refl
  have hl' : (wds sn).length = xs.length := Classical.not_not.1 hl
  have h17 := frK_le sn
  have hs : sumW (wds sn) ≤ 16 := by unfold frK at h17; omega
  have kL := (wr_loop sn c ex (wds sn) [] xs [] [sn] rfl hl' (wds_len sn) (wds_ok sn) hx (Nat.le_refl _) (by simp; omega)).code
  rw [if_neg hl]
  simp only [List.nil_append, List.singleton_append] at kL
  cases hF : wrF (wds sn) xs with
  | none =>
    rw [hF] at kL
    rw [← hl'] at kL ⊢
    exact wrt_e sn _ c _ _ hn kW kL _ res_refl
  | some l =>
    rw [hF] at kL
    have hll := wrF_len _ _ _ hF
    have hu := sum_u16 (wrS sn l)
    have hlen : (uB (sn :: l)).length = (sn :: l).length := uB_len _
    have hsz : (wrS sn l).size = (sn :: l).length := (strB_size _).trans hlen
    have h1 : (sn :: l).length ≤ 17 := by simp; omega
    have kC : CallSpec Try.prog 27 [.string (wrS sn l)] [] ⟨.int .u16 (F.sum (wrS sn l)), [], []⟩ := psum_done (by omega)
    have ht : List.take ((sn :: l).length * 1) (List.drop 0 (uB (sn :: l))) = uB (sn :: l) := by rw [Nat.mul_one, List.drop_zero, ← hlen, List.take_length]
    rw [← hl'] at kL ⊢
    refine wrt_o sn (F.sum (wrS sn l)) (wds sn).length c (sn :: l).length _ _ (uB (sn :: l)) hn hlen (by omega) (by rw [ht]; exact uB_all _) (by rw [ht]; rfl) hu (by rw [← wrS, hsz]; omega) kW kC kL _ ⟨?_, rfl, fun j hj => hj⟩
    show Value.tuple #[.string _, _] = .tuple #[.string _, _]
    unfold wrT
    rw [wrap8]
    rfl
end Go.Proofs.Ytbolppjlaipfjaa.Ex
end
section
set_option linter.unusedSectionVars false
set_option linter.unusedSimpArgs false
set_option linter.unusedVariables false
namespace Go.Proofs.Ytbolppjlaipfjaa.Ex
open Go
set_option linter.unusedVariables false
theorem le1 (s : ByteArray) (k : Nat) : leN s k 1 = bt s k := by show 0 + bt s (k + 0) * 1 = _; simp
theorem le2 (s : ByteArray) (k : Nat) : leN s k 2 = bt s k + bt s (k + 1) * 256 := by show leN s k 1 + bt s (k + 1) * 256 = _; rw [le1]
end Go.Proofs.Ytbolppjlaipfjaa.Ex
end
section
set_option linter.unusedSectionVars false
set_option linter.unusedSimpArgs false
set_option linter.unusedVariables false
namespace Go.Proofs.Ytbolppjlaipfjaa.Ex
open Go
set_option linter.unusedVariables false
noncomputable def lpQ : Code := loopAt Try.prog 16 0
noncomputable def lpQC : Code := .loop lpQ
def frQ (sn : Int) (n c q m : Nat) (i : Int) : Fr := frOf 105 [(0, .int .u8 sn), (1, slB 0 n c), (6, slB 1 m m), (7, slB 2 q q), (8, .int .i64 i)]
end Go.Proofs.Ytbolppjlaipfjaa.Ex
end
section
set_option linter.unusedSectionVars false
set_option linter.unusedSimpArgs false
set_option linter.unusedVariables false
namespace Go.Proofs.Ytbolppjlaipfjaa.Ex
open Go
set_option linter.unusedVariables false
noncomputable def rgL1 : Code := regAt Try.prog 14 1
theorem rgL1_calm : calmC rgL1 = true := by kernel_rfl
theorem rgL1_run (n : Nat) (cs : List Value) : go (body Try.prog 8 1 8 (fun _ => [0, 3]) rgL1 (frOf 23 [(0, slB 0 n n)]) [.ro 3 cs]) [(2, .val (.int .i64 ((n : Int) + 4))), (0, .must)] =
    some (⟨.normal, frOf 23 [(0, slB 0 n n), (3, slB 1 0 (Int.toNat ((n : Int) + 4)))], [.ro 3 cs, .own 3 (zeros [.int .i64 0] (Int.toNat ((n : Int) + 4)))], []⟩, true,
      [Value.int .i64 (IntKind.wrap .i64 ((n : Int) + 4)) = .int .i64 ((n : Int) + 4), (decide ((0 : Int) ≤ 0) && decide ((0 : Int) ≤ (n : Int) + 4) && decide (((n : Int) + 4) * (8 : Nat) ≤ (most : Nat)) && decide ((n : Int) + 4 ≤ (most : Nat)) && (1 : Nat) == 1 && decide ((0 : Nat) < 1) && true) = true]) := by kernel_rfl
theorem rgL1_done {n : Nat} {cs : List Value} (hn : n ≤ 17592186043904) : CodeSpec Try.prog 1 rgL1 (frOf 23 [(0, slB 0 n n)]) [.ro 3 cs] ⟨.normal, frOf 23 [(0, slB 0 n n), (3, slB 1 0 (n + 4))], [.ro 3 cs, .own 3 (zeros [.int .i64 0] (n + 4))], []⟩ := by
  have h := go_ok (body_ok tnamed tcalm tmixed 8 8 _ _ _ _ rgL1_calm) (rgL1_run n cs) (aC (congrArg (Value.int .i64) (Go.IntWalk.i64_in ((n : Int) + 4) (by omega))) (aC (by
    have a1 : decide ((0 : Int) ≤ (n : Int) + 4) = true := dTq (by omega)
    have a2 : decide (((n : Int) + 4) * (8 : Nat) ≤ (most : Nat)) = true := dTq (by unfold most; omega)
    have a3 : decide ((n : Int) + 4 ≤ (most : Nat)) = true := dTq (by unfold most; omega)
    rw [a1, a2, a3]
    rfl) aN))
  rw [show Int.toNat ((n : Int) + 4) = n + 4 by omega] at h
  exact h
def lmarks : List Value := [.int .i64 (-7770777), .int .i64 (-7770777), .int .i64 (-7770777), .int .i64 (-7770777)]
noncomputable def rgL2 : Code := regAt Try.prog 14 2
theorem rgL2_calm : calmC rgL2 = true := by kernel_rfl
noncomputable def lpL : Code := loopAt Try.prog 14 0
theorem lpL_calm : calmC lpL = true := loopAt_calm tcalm 14 0
noncomputable def lpLC : Code := .loop lpL
def frLe (n k : Nat) (i : Int) : Fr := frOf 23 [(0, slB 0 n n), (3, slB 1 k (n + 4)), (4, .int .i64 i)]
section
variable (_x : Nat)
include _x
theorem lent_n_p : go (exec (Try.prog) (8) (14) ([slN]) ([])) [] = some (.mk ((zSB 0 0 4)) [.own 3 [.int .i64 (-7770777), .int .i64 (-7770777), .int .i64 (-7770777), .int .i64 (-7770777)]] [], true, []) := by kernel_rfl
theorem lent_n (R : Res) (k_p : Res.le (.mk ((zSB 0 0 4)) [.own 3 [.int .i64 (-7770777), .int .i64 (-7770777), .int .i64 (-7770777), .int .i64 (-7770777)]] []) R) : CallSpec (Try.prog) (14) ([slN]) ([]) R := by
  exact (CallSpec.id (go_ok (exec_ok tnamed tcalm tmixed _ _ _ _) (lent_n_p _x ) aN)).le (k_p )
end
section
variable (_x : Nat)
include _x
theorem lent_e_p : go (exec (Try.prog) (8) (14) ([slB 0 0 0]) ([.dead])) [] = some (.mk ((zSB 1 0 4)) [.dead, .own 3 [.int .i64 (-7770777), .int .i64 (-7770777), .int .i64 (-7770777), .int .i64 (-7770777)]] [], true, []) := by kernel_rfl
theorem lent_e (R : Res) (k_p : Res.le (.mk ((zSB 1 0 4)) [.dead, .own 3 [.int .i64 (-7770777), .int .i64 (-7770777), .int .i64 (-7770777), .int .i64 (-7770777)]] []) R) : CallSpec (Try.prog) (14) ([slB 0 0 0]) ([.dead]) R := by
  exact (CallSpec.id (go_ok (exec_ok tnamed tcalm tmixed _ _ _ _) (lent_e_p _x ) aN)).le (k_p )
end
section
variable (n : Nat) (cs zs : List Value) (hcs : List.length cs = n) (hn : 1 ≤ n ∧ n ≤ 17592186043904) (hz : List.length zs = n + 4)
include n cs zs hcs hn hz
theorem lr2_p : go (body (Try.prog) (8) (1) (8) (fun x => [0, 3]) (rgL2) (frOf 23 [(0, slB 0 n n), (3, slB 1 0 (n + 4))]) ([.ro 3 cs, .own 3 zs])) [(2, Itm.must), (1, Itm.must), (0, .dec true), (0, Itm.must)] = some (Out.mk Xt.normal (frOf 23 [(0, (zSB 0 n n)), (3, (zSB 1 (0 + n) (n + 4)))]) [.ro 3 cs, .own 3 (put zs 0 (List.take (n * 1) (List.drop 0 cs)))] [], true, [decide (0 + n * 1 ≤ List.length cs) = true, (true && decide ((0 + n) * 8 ≤ 140737488355328) && decide (0 + n ≤ 140737488355328) && decide (0 ≤ List.length zs)) = true, decide (0 + n ≤ n + 4) = true, decide ((n + 4) * 1 ≤ List.length zs) = true]) := by kernel_rfl
theorem lr2 (R : Out) (k_p : Out.le (Out.mk Xt.normal (frOf 23 [(0, (zSB 0 n n)), (3, (zSB 1 (0 + n) (n + 4)))]) [.ro 3 cs, .own 3 (put zs 0 (List.take (n * 1) (List.drop 0 cs)))] []) R) : CodeSpec (Try.prog) (1) (rgL2) (frOf 23 [(0, slB 0 n n), (3, slB 1 0 (n + 4))]) ([.ro 3 cs, .own 3 zs]) R := by
  exact (CodeSpec.id (go_ok (body_ok tnamed tcalm tmixed _ _ _ _ _ _ rgL2_calm) (lr2_p n cs zs hcs hn hz ) (aC dO (aC ((by simp [ByteArray.size_append, ByteArray.size_extract, sz_mk] <;> omega)) (aC dO (aC dO aN)))))).le (k_p )
end
section
variable (n k : Nat) (i : Int) (cs us : List Value) (hn : 1 ≤ n ∧ n ≤ 17592186043904) (hu : List.length us = n + 4) (hk : k < n + 4) (hi : 0 ≤ i ∧ i < 4) (hM : (true && decide ((k + 1) * 8 ≤ 140737488355328) && decide (k + 1 ≤ 140737488355328) && decide (k * 1 ≤ List.length us)) = true)
include n k i cs us hn hu hk hi hM
theorem lrr_p : go (body (Try.prog) (8) (1) (8) (fun x => [0, 3, 4]) (lpL) (frLe n k i) ([.ro 3 cs, .own 3 us])) [(3, .dec true), (8, Itm.must), (0, .dec true), (0, Itm.must), (4, Itm.val (.int .i64 (i + 1)))] = some (Out.mk Xt.normal (frOf 23 [(0, (zSB 0 n n)), (3, (zSB 1 (k + 1) (n + 4))), (4, .int .i64 (i + 1))]) [.ro 3 cs, .own 3 (put us (k * 1) [.int .i64 (-7770777)])] [], true, [decide (i < 4) = true, (true && decide ((k + 1) * 8 ≤ 140737488355328) && decide (k + 1 ≤ 140737488355328) && decide (k * 1 ≤ List.length us)) = true, decide (k + 1 ≤ n + 4) = true, decide ((n + 4) * 1 ≤ List.length us) = true, Value.int .i64 (IntKind.wrap .i64 (i + 1)) = .int .i64 (i + 1)]) := by kernel_rfl
theorem lrr (R : Out) (k_p : Out.le (Out.mk Xt.normal (frOf 23 [(0, (zSB 0 n n)), (3, (zSB 1 (k + 1) (n + 4))), (4, .int .i64 (i + 1))]) [.ro 3 cs, .own 3 (put us (k * 1) [.int .i64 (-7770777)])] []) R) : CodeSpec (Try.prog) (1) (lpL) (frLe n k i) ([.ro 3 cs, .own 3 us]) R := by
  exact (CodeSpec.id (go_ok (body_ok tnamed tcalm tmixed _ _ _ _ _ _ lpL_calm) (lrr_p n k i cs us hn hu hk hi hM ) (aC dO (aC ((by omega)) (aC dO (aC dO (aC (congrArg (Value.int _) (Go.IntWalk.i64_in _ (by omega))) aN))))))).le (k_p )
end
section
variable (n k : Nat) (cs us : List Value)
include n k cs us
theorem lre_p : go (body (Try.prog) (8) (1) (8) (fun x => [0, 3, 4]) (lpL) (frLe n k 4) ([.ro 3 cs, .own 3 us])) [] = some (Out.mk (Xt.exit 0) (frOf 23 [(0, (zSB 0 n n)), (3, (zSB 1 k (n + 4))), (4, .int .i64 4)]) [.ro 3 cs, .own 3 us] [], true, []) := by kernel_rfl
theorem lre (R : Out) (k_p : Out.le (Out.mk (Xt.exit 0) (frOf 23 [(0, (zSB 0 n n)), (3, (zSB 1 k (n + 4))), (4, .int .i64 4)]) [.ro 3 cs, .own 3 us] []) R) : CodeSpec (Try.prog) (1) (lpL) (frLe n k 4) ([.ro 3 cs, .own 3 us]) R := by
  exact (CodeSpec.id (go_ok (body_ok tnamed tcalm tmixed _ _ _ _ _ _ lpL_calm) (lre_p n k cs us ) aN)).le (k_p )
end
end Go.Proofs.Ytbolppjlaipfjaa.Ex
end
section
set_option linter.unusedSectionVars false
set_option linter.unusedSimpArgs false
set_option linter.unusedVariables false
namespace Go.Proofs.Ytbolppjlaipfjaa.Ex
open Go
set_option linter.unusedVariables false
theorem put_mid : ∀ (vs a b c : List Value), vs.length = b.length → put (a ++ b ++ c) a.length vs = a ++ vs ++ c
  | [], a, b, c, h => by
    cases b with
    | nil => rfl
    | cons x b => simp at h
  | v :: vs, a, b, c, h => by
    cases b with
    | nil => simp at h
    | cons x b =>
      rw [put]
      have e : (a ++ x :: b ++ c).set a.length v = (a ++ [v]) ++ b ++ c := by
        rw [List.append_assoc, List.set_append_right _ _ (Nat.le_refl _), Nat.sub_self]
        simp
      rw [e]
      have h2 : vs.length = b.length := by simpa using h
      have := put_mid vs (a ++ [v]) b c h2
      rw [List.length_append, List.length_singleton] at this
      rw [this]
      simp
theorem lent_nil : CallSpec Try.prog 14 [slN] [] ⟨slB 0 0 4, [.own 3 lmarks], []⟩ := lent_n 0 _ res_refl
theorem lent_emp : CallSpec Try.prog 14 [slB 0 0 0] [.dead] ⟨slB 1 0 4, [.dead, .own 3 lmarks], []⟩ := lent_e 0 _ res_refl
theorem zeros_len4 (n : Nat) : (zeros [.int .i64 0] (n + 4)).length = n + 4 := by rw [zeros_len]; simp
theorem lent_round {n : Nat} {cs us : List Value} (k : Nat) (i : Int) (hn : 1 ≤ n ∧ n ≤ 17592186043904) (hu : us.length = n + 4) (hk : k < n + 4) (hi : 0 ≤ i ∧ i < 4) :
    CodeSpec Try.prog 1 lpL (frLe n k i) [.ro 3 cs, .own 3 us] ⟨.normal, frLe n (k + 1) (i + 1), [.ro 3 cs, .own 3 (put us k [.int .i64 (-7770777)])], []⟩ := by
  refine lrr n k i cs us hn hu hk hi ?_ _ ⟨rfl, rfl, ?_, fun j hj => hj⟩
  · rw [decide_eq_true (show (k + 1) * 8 ≤ 140737488355328 by omega), decide_eq_true (show k + 1 ≤ 140737488355328 by omega), decide_eq_true (show k * 1 ≤ us.length by omega)]
    rfl
  · show [_, _] = [_, _]
    rw [Nat.mul_one]
theorem lent_loop {n : Nat} {cs z : List Value} (hcs : cs.length = n) (hn : 1 ≤ n ∧ n ≤ 17592186043904) (hz : z.length = 4) : LoopSpec Try.prog 1 lpL (frLe n n 0) [.ro 3 cs, .own 3 (cs ++ z)] ⟨.exit 0, frLe n (n + 4) 4, [.ro 3 cs, .own 3 (cs ++ lmarks)], []⟩ := by
  match z, hz with
  | [a, b, c, d], _ =>
    let m : Value := .int .i64 (-7770777)
    have p : ∀ (x : List Value) (y : Value) (w : List Value) (k : Nat), k = (cs ++ x).length → put (cs ++ (x ++ y :: w)) k [m] = cs ++ ((x ++ [m]) ++ w) := by
      intro x y w k hk
      have := put_mid [m] (cs ++ x) [y] w rfl
      rw [← hk] at this
      have e1 : cs ++ (x ++ y :: w) = cs ++ x ++ [y] ++ w := by simp
      have e2 : cs ++ ((x ++ [m]) ++ w) = cs ++ x ++ [m] ++ w := by simp
      rw [e1, e2, this]
    have l : ∀ x : List Value, (cs ++ x).length = n + x.length := fun x => by rw [List.length_append, hcs]
    have r0 := lent_round (cs := cs) (us := cs ++ [a, b, c, d]) n 0 hn (l _) (by omega) ⟨by omega, by omega⟩
    rw [show ([a, b, c, d] : List Value) = [] ++ a :: [b, c, d] from rfl, p [] a [b, c, d] n (l []).symm] at r0
    have r1 := lent_round (cs := cs) (us := cs ++ ([m] ++ b :: [c, d])) (n + 1) (0 + 1) hn (l _) (by omega) ⟨by omega, by omega⟩
    rw [p [m] b [c, d] (n + 1) (l [m]).symm] at r1
    have r2 := lent_round (cs := cs) (us := cs ++ ([m, m] ++ c :: [d])) (n + 1 + 1) (0 + 1 + 1) hn (l _) (by omega) ⟨by omega, by omega⟩
    rw [p [m, m] c [d] (n + 1 + 1) (l [m, m]).symm] at r2
    have r3 := lent_round (cs := cs) (us := cs ++ ([m, m, m] ++ d :: [])) (n + 1 + 1 + 1) (0 + 1 + 1 + 1) hn (l _) (by omega) ⟨by omega, by omega⟩
    rw [p [m, m, m] d [] (n + 1 + 1 + 1) (l [m, m, m]).symm] at r3
    exact .more r0 rfl (.more r1 rfl (.more r2 rfl (.more r3 rfl (.last (lre n (n + 4) cs (cs ++ lmarks) _ out_refl) (by intro h; cases h)) (fun j hj _ => hj)) (fun j hj _ => hj)) (fun j hj _ => hj)) (fun j hj _ => hj)
end Go.Proofs.Ytbolppjlaipfjaa.Ex
end
section
set_option linter.unusedSectionVars false
set_option linter.unusedSimpArgs false
set_option linter.unusedVariables false
namespace Go.Proofs.Ytbolppjlaipfjaa.Ex
open Go
set_option linter.unusedVariables false
noncomputable def lpS : Code := loopAt Try.prog 11 0
noncomputable def lpSC : Code := .loop lpS
def frS (n c m d : Nat) (i : Int) : Fr := frOf 26 [(0, slB 0 n c), (1, slB 1 m d), (5, .int .i64 i)]
noncomputable def lpK : Code := loopAt Try.prog 17 0
noncomputable def lpKC : Code := .loop lpK
def frK' (n c : Nat) (i : Int) : Fr := frOf 29 [(5, slB 0 n c), (6, .int .i64 i)]
section
variable (n : Nat) (cs z : List Value) (hcs : List.length cs = n) (hn : 1 ≤ n ∧ n ≤ 17592186043904) (k1 : CodeSpec Try.prog 1 rgL1 (frOf 23 [(0, slB 0 n n)]) [.ro 3 cs] (Out.mk Xt.normal (frOf 23 [(0, slB 0 n n), (3, slB 1 0 (n + 4))]) [.ro 3 cs, .own 3 z] [])) (k2 : CodeSpec Try.prog 1 rgL2 (frOf 23 [(0, slB 0 n n), (3, slB 1 0 (n + 4))]) [.ro 3 cs, .own 3 z] (Out.mk Xt.normal (frOf 23 [(0, slB 0 n n), (3, slB 1 n (n + 4))]) [.ro 3 cs, .own 3 (cs ++ List.drop n z)] [])) (kL : CodeSpec Try.prog 1 lpLC (frLe n n 0) [.ro 3 cs, .own 3 (cs ++ List.drop n z)] (Out.mk (Xt.exit 0) (frLe n (n + 4) 4) [.ro 3 cs, .own 3 (cs ++ lmarks)] []))
include n cs z hcs hn k1 k2 kL
theorem lent_s_p : go (exec (Try.prog) (8) (14) ([slB 0 n n]) ([.ro 3 cs])) [(3, Itm.loop [0] (Out.mk Xt.normal (frOf 23 [(0, (zSB 0 n n)), (3, (zSB 1 0 (n + 4)))]) [.ro 3 cs, .own 3 z] [])), (0, Itm.loop [0, 3] (Out.mk Xt.normal (frOf 23 [(0, (zSB 0 n n)), (3, (zSB 1 n (n + 4)))]) [.ro 3 cs, .own 3 (cs ++ List.drop n z)] [])), (2, Itm.loop [0, 3, 4] (Out.mk (Xt.exit 0) (frOf 23 [(0, (zSB 0 n n)), (3, (zSB 1 (n + 4) (n + 4))), (4, .int .i64 4)]) [.ro 3 cs, .own 3 (cs ++ [.int .i64 (-7770777), .int .i64 (-7770777), .int .i64 (-7770777), .int .i64 (-7770777)])] [])), (3, Itm.must)] = some (.mk (.slice (some (.mk 1 0 none)) (Int.toNat (↑n : Int) - 0) (n + 4 - 0)) [.ro 3 cs, .own 3 (cs ++ [.int .i64 (-7770777), .int .i64 (-7770777), .int .i64 (-7770777), .int .i64 (-7770777)])] [], true, [type_of% k1, type_of% k2, type_of% kL, upto (↑n : Int) (n + 4) = true]) := by kernel_rfl
theorem lent_s (R : Res) (k_p : Res.le (.mk (.slice (some (.mk 1 0 none)) (Int.toNat (↑n : Int) - 0) (n + 4 - 0)) [.ro 3 cs, .own 3 (cs ++ [.int .i64 (-7770777), .int .i64 (-7770777), .int .i64 (-7770777), .int .i64 (-7770777)])] []) R) : CallSpec (Try.prog) (14) ([slB 0 n n]) ([.ro 3 cs]) R := by
  exact (CallSpec.id (go_ok (exec_ok tnamed tcalm tmixed _ _ _ _) (lent_s_p n cs z hcs hn k1 k2 kL ) (aC (k1) (aC (k2) (aC (kL) (aC (upto_of (by omega)) aN)))))).le (k_p )
end
end Go.Proofs.Ytbolppjlaipfjaa.Ex
end
section
set_option linter.unusedSectionVars false
set_option linter.unusedSimpArgs false
set_option linter.unusedVariables false
namespace Go.Proofs.Ytbolppjlaipfjaa.Ex
open Go
set_option linter.unusedVariables false
theorem lent_some {cs : List Value} (hn : 1 ≤ cs.length ∧ cs.length ≤ 17592186043904) : CallSpec Try.prog 14 [slB 0 cs.length cs.length] [.ro 3 cs] ⟨slB 1 cs.length (cs.length + 4), [.ro 3 cs, .own 3 (cs ++ lmarks)], []⟩ := by
  have hz := zeros_len4 cs.length
  have k2 : CodeSpec Try.prog 1 rgL2 (frOf 23 [(0, slB 0 cs.length cs.length), (3, slB 1 0 (cs.length + 4))]) [.ro 3 cs, .own 3 (zeros [.int .i64 0] (cs.length + 4))] ⟨.normal, frOf 23 [(0, slB 0 cs.length cs.length), (3, slB 1 cs.length (cs.length + 4))], [.ro 3 cs, .own 3 (cs ++ (zeros [.int .i64 0] (cs.length + 4)).drop cs.length)], []⟩ := by
    refine lr2 cs.length cs _ rfl hn hz _ ⟨rfl, ?_, ?_, fun j hj => hj⟩
    · show frOf 23 _ = frOf 23 _
      rw [Nat.zero_add]
    · show [_, _] = [_, _]
      rw [Nat.mul_one, List.drop_zero, List.take_length]
      have h := put_mid cs [] ((zeros [.int .i64 0] (cs.length + 4)).take cs.length) ((zeros [.int .i64 0] (cs.length + 4)).drop cs.length) (by rw [List.length_take]; omega)
      rw [List.nil_append, List.take_append_drop, List.length_nil, List.nil_append] at h
      rw [h]
  refine lent_s cs.length cs _ rfl hn (rgL1_done hn.2) k2 (lent_loop rfl hn (by rw [List.length_drop]; omega)).code _ ⟨?_, rfl, fun j hj => hj⟩
  show Value.slice _ _ _ = .slice _ _ _
  rw [Int.toNat_natCast, Nat.sub_zero, Nat.sub_zero]
end Go.Proofs.Ytbolppjlaipfjaa.Ex
end
section
set_option linter.unusedSectionVars false
set_option linter.unusedSimpArgs false
set_option linter.unusedVariables false
namespace Go.Proofs.Ytbolppjlaipfjaa.Ex
open Go
set_option linter.unusedVariables false
end Go.Proofs.Ytbolppjlaipfjaa.Ex
end
section
set_option linter.unusedSectionVars false
set_option linter.unusedSimpArgs false
set_option linter.unusedVariables false
namespace Go.Proofs.Ytbolppjlaipfjaa.Ex
open Go
set_option linter.unusedVariables false
end Go.Proofs.Ytbolppjlaipfjaa.Ex
end
section
set_option linter.unusedSectionVars false
set_option linter.unusedSimpArgs false
set_option linter.unusedVariables false
namespace Go.Proofs.Ytbolppjlaipfjaa.Ex
open Go
set_option linter.unusedVariables false
theorem i64_of {x : Int} (h : (Lit.int .i64 x).wf = true) : i64 x := by
  unfold Lit.wf at h
  unfold i64
  simp [IntKind.min, IntKind.max, IntKind.signed, IntKind.bits] at h
  omega
theorem iW_flat (l : List Int) : l.flatMap (fun a => [Value.int .i64 a]) = iW l := by
  unfold iW
  induction l with
  | nil => rfl
  | cons a l ih => rw [List.flatMap_cons, ih]; rfl
theorem row_fields {f : FuncId} (W : World) {v : Value} (a : Int) (h : v = .slice none 0 0 ∨ (∃ ν, VR ν (.slice (some ⟨0, 0, none⟩) 0 0) v ∧ Rep Try.prog ν [.dead] W) ∨
      ∃ (l : List Int) (ν : Nu), 0 < l.length ∧ l.length * 8 ≤ 140737488351232 ∧ (∀ x ∈ l, (Lit.int .i64 x).wf = true ∧ ([Value.int .i64 x] : List Value).length = 1) ∧ VR ν (.slice (some ⟨0, 0, none⟩) l.length l.length) v ∧ Rep Try.prog ν [.ro 3 (l.flatMap fun x => [Value.int .i64 x])] W)
    (pre post : List Value) (hf : pre.all flat = true) (hg : post.all flat = true)
    (k0 : CallSpec Try.prog f (pre ++ slN :: post) [] ⟨.bool true, [], []⟩) (k1 : CallSpec Try.prog f (pre ++ slB 0 0 0 :: post) [.dead] ⟨.bool true, [.dead], []⟩)
    (k2 : ∀ l : List Int, (∀ x ∈ l, i64 x) → (1 ≤ l.length ∧ l.length ≤ 17592186043904) → CallSpec Try.prog f (pre ++ slB 0 l.length l.length :: post) [.ro 3 (iW l)] ⟨.bool true, [.ro 3 (iW l)], []⟩) :
    ∃ (args' : List Value) (hp hp' : Hp) (ν : Nu) (args0 : List Value), (pre ++ v :: post).toArray = args'.toArray ∧ L2 (VR ν) args0 args' ∧ Rep Try.prog ν hp W ∧ CallSpec Try.prog f args0 hp ⟨.bool true, hp', []⟩ := by
  have fl : ∀ (ν : Nu) {l : List Value}, l.all flat = true → L2 (VR ν) l l := fun ν l => by
    induction l with
    | nil => intro _; exact .nil
    | cons x l ih => intro h; simp only [List.all_cons, Bool.and_eq_true] at h; exact .cons ((flat_VR h.1 _).2 rfl) (ih h.2)
  rcases h with rfl | ⟨ν, h1, h2⟩ | ⟨l, ν, h0, h8, hg', h1, h2⟩
  · exact ⟨_, [], _, fun _ => none, _, rfl, (fl _ hf).append (.cons ((flat_VR rfl _).2 rfl) (fl _ hg)), rep_none W, k0⟩
  · exact ⟨_, _, _, ν, _, rfl, (fl _ hf).append (.cons h1 (fl _ hg)), h2, k1⟩
  · rw [iW_flat] at h2
    exact ⟨_, _, _, ν, _, rfl, (fl _ hf).append (.cons h1 (fl _ hg)), h2, k2 l (fun x hx => i64_of (hg' x hx).1) ⟨h0, by omega⟩⟩
end Go.Proofs.Ytbolppjlaipfjaa.Ex
end
section
set_option linter.unusedSectionVars false
set_option linter.unusedSimpArgs false
set_option linter.unusedVariables false
namespace Go.Proofs.Ytbolppjlaipfjaa.Ex
open Go
set_option linter.unusedVariables false
theorem sum_list (s : ByteArray) : F.sum s = s.data.toList.foldl (fun c b => F.add c ((b.toNat : Nat) : Int)) 65535 := by
  unfold F.sum F.sumTo
  rw [← size_list, List.take_length]
theorem xor_cancel {a b k : Nat} (h : a ^^^ k = b ^^^ k) : a = b := by
  have := congrArg (· ^^^ k) h
  simpa only [Nat.xor_assoc, Nat.xor_self, Nat.xor_zero] using this
theorem u16_cases {c : Int} (h : F.u16 c) : ∃ n : Nat, c = n ∧ n < 65536 := by
  obtain ⟨n, rfl⟩ := Int.eq_ofNat_of_zero_le h.1
  exact ⟨n, rfl, by have := h.2; omega⟩
theorem top_bit {a b : Nat} (ha : a < 65536) (hb : b < 65536) (h : (a / 2) ^^^ 33800 = b / 2) : False := by
  have h1 := congrArg (fun n => Nat.testBit n 15) h
  simp only [Nat.testBit_xor] at h1
  rw [Nat.testBit_lt_two_pow (show a / 2 < 2 ^ 15 by omega), Nat.testBit_lt_two_pow (show b / 2 < 2 ^ 15 by omega)] at h1
  exact absurd h1 (by decide)
theorem stepN_inj {a b : Nat} (ha : a < 65536) (hb : b < 65536) (h : stepN a = stepN b) : a = b := by
  unfold stepN at h
  by_cases h1 : a % 2 = 1 <;> by_cases h2 : b % 2 = 1
  · rw [if_pos h1, if_pos h2] at h
    have := xor_cancel h
    omega
  · rw [if_pos h1, if_neg h2] at h
    exact (top_bit ha hb h).elim
  · rw [if_neg h1, if_pos h2] at h
    exact (top_bit hb ha h.symm).elim
  · rw [if_neg h1, if_neg h2] at h
    omega
theorem step1_inj {a b : Int} (ha : F.u16 a) (hb : F.u16 b) (h : F.step1 a = F.step1 b) : a = b := by
  obtain ⟨n, rfl, hn⟩ := u16_cases ha
  obtain ⟨m, rfl, hm⟩ := u16_cases hb
  rw [step1_nat hn, step1_nat hm] at h
  have := stepN_inj hn hm (by omega)
  omega
theorem steps_inj : ∀ (n : Nat) {a b : Int}, F.u16 a → F.u16 b → F.steps n a = F.steps n b → a = b
  | 0, _, _, _, _, h => h
  | n + 1, _, _, ha, hb, h => step1_inj ha hb (steps_inj n (step1_u16 ha) (step1_u16 hb) h)
theorem add_inj {a b : Int} {x y : UInt8} (ha : F.u16 a) (hb : F.u16 b) (h : F.add a ((x.toNat : Nat) : Int) = F.add b ((y.toNat : Nat) : Int)) :
    ∃ n m : Nat, a = n ∧ b = m ∧ n ^^^ x.toNat = m ^^^ y.toNat := by
  unfold F.add at h
  have := steps_inj 8 (bxor_u16 _ _) (bxor_u16 _ _) h
  obtain ⟨n, rfl, hn⟩ := u16_cases ha
  obtain ⟨m, rfl, hm⟩ := u16_cases hb
  rw [bxor_nat hn (by have := x.toNat_lt; omega), bxor_nat hm (by have := y.toNat_lt; omega)] at this
  exact ⟨n, m, rfl, rfl, by omega⟩
theorem add_inj_sum {a b : Int} {x : UInt8} (ha : F.u16 a) (hb : F.u16 b) (h : F.add a ((x.toNat : Nat) : Int) = F.add b ((x.toNat : Nat) : Int)) : a = b := by
  obtain ⟨n, m, rfl, rfl, e⟩ := add_inj ha hb h
  rw [xor_cancel e]
theorem add_inj_byte {a : Int} {x y : UInt8} (ha : F.u16 a) (h : F.add a ((x.toNat : Nat) : Int) = F.add a ((y.toNat : Nat) : Int)) : x = y := by
  obtain ⟨n, m, e1, e2, e⟩ := add_inj ha ha h
  have : n = m := by omega
  subst this
  rw [Nat.xor_comm n, Nat.xor_comm n] at e
  exact UInt8.toNat_inj.1 (xor_cancel e)
def foldS (c : Int) (l : List UInt8) : Int := l.foldl (fun c b => F.add c ((b.toNat : Nat) : Int)) c
theorem fold_inj : ∀ (l : List UInt8) {a b : Int}, F.u16 a → F.u16 b → foldS a l = foldS b l → a = b
  | [], _, _, _, _, h => h
  | x :: l, a, b, ha, hb, h => add_inj_sum (x := x) ha hb (fold_inj l (add_u16 _ _) (add_u16 _ _) h)
theorem fold_turn {p q : List UInt8} {x y : UInt8} {c : Int} (hc : F.u16 c) (h : foldS c (p ++ x :: q) = foldS c (p ++ y :: q)) : x = y := by
  unfold foldS at h
  rw [List.foldl_append, List.foldl_append] at h
  exact add_inj_byte (fold_u16 p hc) (fold_inj q (add_u16 _ _) (add_u16 _ _) h)
theorem unbyte_nat {k : Int} (h : 0 ≤ k ∧ k ≤ 255) : ((unbyte (.int .u8 k)).toNat : Int) = k := by
  show ((UInt8.ofNat k.toNat).toNat : Int) = k
  rw [UInt8.toNat_ofNat']
  omega
theorem bytes_len (s : ByteArray) : (bytesOf s).length = s.size := by
  unfold bytesOf
  rw [List.length_map, size_list]
theorem bytes_at {l : List UInt8} {n : Nat} {b : UInt8} (h : l[n]? = some b) : (bytesOf (F.str l)).getD n undef = .int .u8 ((b.toNat : Nat) : Int) := by
  unfold bytesOf
  rw [List.getD_eq_getElem?_getD, List.getElem?_map]
  show Option.getD (Option.map _ l[n]?) undef = _
  rw [h]
  rfl
theorem bytes_set (l : List UInt8) (n : Nat) (y : UInt8) : put (bytesOf (F.str l)) n [.int .u8 ((y.toNat : Nat) : Int)] = bytesOf (F.str (l.set n y)) := by
  show ((l.map fun b => Value.int .u8 ((b.toNat : Nat) : Int))).set n _ = (l.set n y).map fun b => Value.int .u8 ((b.toNat : Nat) : Int)
  rw [List.map_set]
theorem unbyte_nat8 (b : UInt8) : unbyte (.int .u8 ((b.toNat : Nat) : Int)) = b := by
  apply UInt8.toNat_inj.1
  have := unbyte_nat (k := ((b.toNat : Nat) : Int)) (by have := b.toNat_lt; omega)
  omega
theorem unbytes (s : ByteArray) : (bytesOf s).map unbyte = bl s := by
  unfold bytesOf
  rw [List.map_map]
  have : (unbyte ∘ fun (b : UInt8) => Value.int .u8 ((b.toNat : Nat) : Int)) = id := funext unbyte_nat8
  rw [this, List.map_id]
theorem bytes_all (s : ByteArray) : (bytesOf s).all (isInt .u8) = true := by
  unfold bytesOf
  rw [List.all_map]
  exact List.all_eq_true.2 fun b _ => rfl
theorem bxor_u8 (b : UInt8) {k : Int} (hk : 0 ≤ k ∧ k ≤ 255) : F.bxor .u8 ((b.toNat : Nat) : Int) k = (((b ^^^ unbyte (.int .u8 k)).toNat : Nat) : Int) := by
  obtain ⟨m, rfl⟩ := Int.eq_ofNat_of_zero_le hk.1
  have hm : m < 256 := by have := hk.2; omega
  have hb := b.toNat_lt
  have hx : b.toNat ^^^ m < 2 ^ 8 := Nat.xor_lt_two_pow (by omega) (by omega)
  have hu : (unbyte (.int .u8 (m : Int))).toNat = m := by
    have := unbyte_nat hk
    omega
  rw [UInt8.toNat_xor, hu]
  unfold F.bxor
  have e : IntKind.u8.bits = 8 := rfl
  rw [e, IntKind.wrap_u8, BitVec.toNat_xor, BitVec.ofInt_natCast, BitVec.ofInt_natCast, BitVec.toNat_ofNat, BitVec.toNat_ofNat, Nat.mod_eq_of_lt (by omega), Nat.mod_eq_of_lt (by omega)]
  omega
theorem xor_turn {b u : UInt8} (h : b = b ^^^ u) : u = 0 := by
  have h1 := congrArg UInt8.toNat h
  rw [UInt8.toNat_xor] at h1
  apply UInt8.toNat_inj.1
  have h2 : (0 : Nat) ^^^ b.toNat = u.toNat ^^^ b.toNat := by rw [Nat.zero_xor, Nat.xor_comm u.toNat]; exact h1
  exact (xor_cancel h2).symm
end Go.Proofs.Ytbolppjlaipfjaa.Ex
end
section
set_option linter.unusedSectionVars false
set_option linter.unusedSimpArgs false
set_option linter.unusedVariables false
namespace Go.Proofs.Ytbolppjlaipfjaa.Ex
open Go
set_option linter.unusedVariables false
noncomputable def lpO : Code := loopAt Try.prog 7 0
noncomputable def lpOC : Code := .loop lpO
def frOt (t : Int) (a : ByteArray) (i : Int) : Fr := frOf 68 [(1, .int .u8 t), (7, .string a), (9, slB 1 a.size a.size), (10, .int .i64 i)]
end Go.Proofs.Ytbolppjlaipfjaa.Ex
end
section
set_option linter.unusedSectionVars false
set_option linter.unusedSimpArgs false
set_option linter.unusedVariables false
namespace Go.Proofs.Ytbolppjlaipfjaa.Ex
open Go
set_option linter.unusedVariables false
def u8 (x : Int) : Prop := 0 ≤ x ∧ x ≤ 255
theorem bt_getD (s : ByteArray) (k : Nat) : bt s k = ((bl s).getD k 0).toNat := rfl
theorem bl_wrT (sn : Int) (l : List Int) : bl (wrT sn l) = 165 :: unbyte (.int .u8 sn) :: ((uB l).map unbyte ++ (uB [F.sum (wrS sn l) % 256, F.sum (wrS sn l) / 256]).map unbyte) := by
  unfold wrT
  rw [bl_append, bl_append]
  rfl
theorem wrT_size (sn : Int) (l : List Int) : (wrT sn l).size = l.length + 4 := by
  rw [← bl_len, bl_wrT]
  simp [uB_len, uB]
theorem wrT_0 (sn : Int) (l : List Int) : bt (wrT sn l) 0 = 165 := by rw [bt_getD, bl_wrT]; rfl
theorem wrT_1 {sn : Int} (h : u8 sn) (l : List Int) : (bt (wrT sn l) 1 : Int) = sn := by rw [bt_getD, bl_wrT]; exact unbyte_nat h
theorem write_cases (sn : Int) (xs : List Int) : ((F.write sn xs).1 = ⟨#[]⟩ ∧ (F.write sn xs).2 ≠ 0) ∨ ∃ l, wds sn ≠ [] ∧ wrF (wds sn) xs = some l ∧ F.write sn xs = (wrT sn l, 0) ∧ (wrT sn l).size = frK sn + 3 := by
  unfold F.write
  split
  · exact .inl ⟨rfl, by simp⟩
  · rename_i hw
    split
    · exact .inl ⟨rfl, by simp⟩
    · cases hF : wrF (wds sn) xs with
      | none => exact .inl ⟨rfl, by simp⟩
      | some l =>
        refine .inr ⟨l, hw, rfl, rfl, ?_⟩
        rw [wrT_size, wrF_len _ _ _ hF, frK]
        omega
theorem write_nil_bad (sn : Int) : (F.write sn []).1 = ⟨#[]⟩ ∧ (F.write sn []).2 ≠ 0 := by
  rcases write_cases sn [] with h | ⟨l, hw, hF, _, _⟩
  · exact h
  · cases e : wds sn with
    | nil => exact absurd e hw
    | cons w ws => rw [e, wrF] at hF; cases hF
theorem read_rfS {sn : Int} (hw : wds sn ≠ []) (d : ByteArray) : F.read sn d = rfS sn d (d.size + 1) 0 [] 0 := by
  unfold F.read
  rw [if_neg hw]
  have e := rd_same sn d (d.size + 1) 0 (d.size + 1) [] 0 (by omega) (by omega) (by omega)
  rw [cutB_zero] at e
  exact e
theorem bytes_get (a : ByteArray) (i : Nat) (h : i < a.size) : List.getD (bytesOf a) (0 + Int.toNat ((i : Nat) : Int) * 1) undef = .int .u8 (bt a i : Nat) := by
  rw [show 0 + Int.toNat ((i : Nat) : Int) * 1 = i by omega]
  have hl : i < (bl a).length := by rw [bl_len]; exact h
  have := bytes_at (l := bl a) (n := i) (b := (bl a)[i]) (List.getElem?_eq_getElem hl)
  rw [str_bl] at this
  rw [this, bt_bl a i hl]
theorem u8_of {x : Int} (h : (Lit.int .u8 x).wf = true) : u8 x := by
  unfold Lit.wf at h
  unfold u8
  simp [IntKind.min, IntKind.max, IntKind.signed, IntKind.bits] at h
  omega
end Go.Proofs.Ytbolppjlaipfjaa.Ex
end
section
set_option linter.unusedSectionVars false
set_option linter.unusedSimpArgs false
set_option linter.unusedVariables false
namespace Go.Proofs.Ytbolppjlaipfjaa.Ex
open Go
set_option linter.unusedVariables false
section
variable (s e at1 by1 : Int) (he : ¬e = 0) (kW : CallSpec Try.prog 15 [.int .u8 s, slB 0 0 4] [.own 3 lmarks] (.mk (.tuple #[.string (ByteArray.mk #[]), .int .i64 e]) [.own 3 lmarks] []))
include s e at1 by1 he kW
theorem tu_n_p : go (exec (Try.prog) (8) (8) ([.int .u8 s, slN, .agg #[.int .i64 at1, .int .u8 by1]]) ([])) [(8, .call (.mk ((zSB 0 0 4)) [.own 3 [.int .i64 (-7770777), .int .i64 (-7770777), .int .i64 (-7770777), .int .i64 (-7770777)]] [])), (2, .call (.mk (.tuple #[.string (ByteArray.mk #[]), .int .i64 e]) [.own 3 [.int .i64 (-7770777), .int .i64 (-7770777), .int .i64 (-7770777), .int .i64 (-7770777)]] [])), (11, .dec true), (0, .dec true), (0, .dec true), (0, .dec true), (17, .call (.mk (.bool true) [] []))] = some (.mk (.bool true) [] [], true, [CallSpec Try.prog 14 [zSN] [] (.mk ((zSB 0 0 4)) [.own 3 [.int .i64 (-7770777), .int .i64 (-7770777), .int .i64 (-7770777), .int .i64 (-7770777)]] []), type_of% kW, (!decide (e = 0)) = true, (!decide (e = 0)) = true, (!decide (e = 0)) = true, (!decide (e = 0)) = true, CallSpec Try.prog 12 [] [] (.mk (.bool true) [] [])]) := by kernel_rfl
theorem tu_n (R : Res) (k_p : Res.le (.mk (.bool true) [] []) R) : CallSpec (Try.prog) (8) ([.int .u8 s, slN, .agg #[.int .i64 at1, .int .u8 by1]]) ([]) R := by
  exact (CallSpec.id (go_ok (exec_ok tnamed tcalm tmixed _ _ _ _) (tu_n_p s e at1 by1 he kW ) (aC (lent_nil) (aC (kW) (aC (congrArg not dN) (aC (congrArg not dN) (aC (congrArg not dN) (aC (congrArg not dN) (aC (awake_done) aN))))))))).le (k_p )
end
section
variable (s e at1 by1 : Int) (he : ¬e = 0) (kW : CallSpec Try.prog 15 [.int .u8 s, slB 0 0 4] [.own 3 lmarks] (.mk (.tuple #[.string (ByteArray.mk #[]), .int .i64 e]) [.own 3 lmarks] []))
include s e at1 by1 he kW
theorem tu_m_p : go (exec (Try.prog) (8) (8) ([.int .u8 s, slB 0 0 0, .agg #[.int .i64 at1, .int .u8 by1]]) ([.dead])) [(8, .call (.mk ((zSB 1 0 4)) [.dead, .own 3 [.int .i64 (-7770777), .int .i64 (-7770777), .int .i64 (-7770777), .int .i64 (-7770777)]] [])), (2, .call (.mk (.tuple #[.string (ByteArray.mk #[]), .int .i64 e]) [.own 3 [.int .i64 (-7770777), .int .i64 (-7770777), .int .i64 (-7770777), .int .i64 (-7770777)]] [])), (11, .dec true), (0, .dec true), (0, .dec true), (0, .dec true), (17, .call (.mk (.bool true) [] []))] = some (.mk (.bool true) [.dead] [], true, [CallSpec Try.prog 14 [(zSB 0 0 0)] [.dead] (.mk ((zSB 1 0 4)) [.dead, .own 3 [.int .i64 (-7770777), .int .i64 (-7770777), .int .i64 (-7770777), .int .i64 (-7770777)]] []), type_of% kW, (!decide (e = 0)) = true, (!decide (e = 0)) = true, (!decide (e = 0)) = true, (!decide (e = 0)) = true, CallSpec Try.prog 12 [] [] (.mk (.bool true) [] [])]) := by kernel_rfl
theorem tu_m (R : Res) (k_p : Res.le (.mk (.bool true) [.dead] []) R) : CallSpec (Try.prog) (8) ([.int .u8 s, slB 0 0 0, .agg #[.int .i64 at1, .int .u8 by1]]) ([.dead]) R := by
  exact (CallSpec.id (go_ok (exec_ok tnamed tcalm tmixed _ _ _ _) (tu_m_p s e at1 by1 he kW ) (aC (lent_emp) (aC (kW) (aC (congrArg not dN) (aC (congrArg not dN) (aC (congrArg not dN) (aC (congrArg not dN) (aC (awake_done) aN))))))))).le (k_p )
end
section
variable (s e at1 by1 : Int) (n : Nat) (cs us : List Value) (he : ¬e = 0) (kL : CallSpec Try.prog 14 [slB 0 n n] [.ro 3 cs] (.mk (slB 1 n (n + 4)) [.ro 3 cs, .own 3 us] [])) (kW : CallSpec Try.prog 15 [.int .u8 s, slB 0 n (n + 4)] [.own 3 us] (.mk (.tuple #[.string (ByteArray.mk #[]), .int .i64 e]) [.own 3 us] []))
include s e at1 by1 n cs us he kL kW
theorem tu_x_p : go (exec (Try.prog) (8) (8) ([.int .u8 s, slB 0 n n, .agg #[.int .i64 at1, .int .u8 by1]]) ([.ro 3 cs])) [(8, .call (.mk ((zSB 1 n (n + 4))) [.ro 3 cs, .own 3 us] [])), (2, .call (.mk (.tuple #[.string (ByteArray.mk #[]), .int .i64 e]) [.own 3 us] [])), (11, .dec true), (0, .dec true), (0, .dec true), (0, .dec true), (17, .call (.mk (.bool true) [] []))] = some (.mk (.bool true) [.ro 3 cs] [], true, [type_of% kL, type_of% kW, (!decide (e = 0)) = true, (!decide (e = 0)) = true, (!decide (e = 0)) = true, (!decide (e = 0)) = true, CallSpec Try.prog 12 [] [] (.mk (.bool true) [] [])]) := by kernel_rfl
theorem tu_x (R : Res) (k_p : Res.le (.mk (.bool true) [.ro 3 cs] []) R) : CallSpec (Try.prog) (8) ([.int .u8 s, slB 0 n n, .agg #[.int .i64 at1, .int .u8 by1]]) ([.ro 3 cs]) R := by
  exact (CallSpec.id (go_ok (exec_ok tnamed tcalm tmixed _ _ _ _) (tu_x_p s e at1 by1 n cs us he kL kW ) (aC (kL) (aC (kW) (aC (congrArg not dN) (aC (congrArg not dN) (aC (congrArg not dN) (aC (congrArg not dN) (aC (awake_done) aN))))))))).le (k_p )
end
section
variable (s at1 by1 : Int) (a : ByteArray) (n : Nat) (cs us : List Value) (hc : at1 < 2 ∨ (↑(ByteArray.size a) : Int) ≤ at1 ∨ by1 = 0) (kL : CallSpec Try.prog 14 [slB 0 n n] [.ro 3 cs] (.mk (slB 1 n (n + 4)) [.ro 3 cs, .own 3 us] [])) (kW : CallSpec Try.prog 15 [.int .u8 s, slB 0 n (n + 4)] [.own 3 us] (.mk (.tuple #[.string a, .int .i64 0]) [.own 3 us] []))
include s at1 by1 a n cs us hc kL kW
theorem tu_y_pt : go (exec (Try.prog) (8) (8) ([.int .u8 s, slB 0 n n, .agg #[.int .i64 at1, .int .u8 by1]]) ([.ro 3 cs])) [(8, .call (.mk ((zSB 1 n (n + 4))) [.ro 3 cs, .own 3 us] [])), (2, .call (.mk (.tuple #[.string a, .int .i64 0]) [.own 3 us] [])), (22, .dec true), (0, .dec true), (0, .dec true), (0, .dec true), (0, .dec true), (0, .dec true), (9, .call (.mk (.bool true) [] []))] = some (.mk (.bool true) [.ro 3 cs] [], true, [type_of% kL, type_of% kW, decide (at1 < 2) = true, decide (at1 < 2) = true, decide (at1 < 2) = true, decide (at1 < 2) = true, decide (at1 < 2) = true, decide (at1 < 2) = true, CallSpec Try.prog 12 [] [] (.mk (.bool true) [] [])]) := by kernel_rfl
theorem tu_y_pft : go (exec (Try.prog) (8) (8) ([.int .u8 s, slB 0 n n, .agg #[.int .i64 at1, .int .u8 by1]]) ([.ro 3 cs])) [(8, .call (.mk ((zSB 1 n (n + 4))) [.ro 3 cs, .own 3 us] [])), (2, .call (.mk (.tuple #[.string a, .int .i64 0]) [.own 3 us] [])), (22, .dec false), (1, .dec false), (3, .dec false), (1, .dec false), (1, .dec false), (1, .dec false), (2, .dec true), (0, .dec true), (0, .dec true), (0, .dec true), (3, .call (.mk (.bool true) [] []))] = some (.mk (.bool true) [.ro 3 cs] [], true, [type_of% kL, type_of% kW, decide (at1 < 2) = false, decide (at1 < 2) = false, decide (at1 < 2) = false, decide (at1 < 2) = false, decide (at1 < 2) = false, decide (at1 < 2) = false, decide (at1 ≥ (↑(ByteArray.size a) : Int)) = true, decide (at1 ≥ (↑(ByteArray.size a) : Int)) = true, decide (at1 ≥ (↑(ByteArray.size a) : Int)) = true, decide (at1 ≥ (↑(ByteArray.size a) : Int)) = true, CallSpec Try.prog 12 [] [] (.mk (.bool true) [] [])]) := by kernel_rfl
theorem tu_y_pff : go (exec (Try.prog) (8) (8) ([.int .u8 s, slB 0 n n, .agg #[.int .i64 at1, .int .u8 by1]]) ([.ro 3 cs])) [(8, .call (.mk ((zSB 1 n (n + 4))) [.ro 3 cs, .own 3 us] [])), (2, .call (.mk (.tuple #[.string a, .int .i64 0]) [.own 3 us] [])), (22, .dec false), (1, .dec false), (3, .dec false), (1, .dec false), (1, .dec false), (1, .dec false), (2, .dec false), (1, .dec false), (3, .dec false), (1, .dec false), (2, .dec true), (0, .call (.mk (.bool true) [] []))] = some (.mk (.bool true) [.ro 3 cs] [], true, [type_of% kL, type_of% kW, decide (at1 < 2) = false, decide (at1 < 2) = false, decide (at1 < 2) = false, decide (at1 < 2) = false, decide (at1 < 2) = false, decide (at1 < 2) = false, decide (at1 ≥ (↑(ByteArray.size a) : Int)) = false, decide (at1 ≥ (↑(ByteArray.size a) : Int)) = false, decide (at1 ≥ (↑(ByteArray.size a) : Int)) = false, decide (at1 ≥ (↑(ByteArray.size a) : Int)) = false, decide (by1 = 0) = true, CallSpec Try.prog 12 [] [] (.mk (.bool true) [] [])]) := by kernel_rfl
theorem tu_y (R : Res) (k_pt : (h0 : at1 < 2) → Res.le (.mk (.bool true) [.ro 3 cs] []) R) (k_pft : (h0 : ¬ (at1 < 2)) → (h1 : at1 ≥ (↑(ByteArray.size a) : Int)) → Res.le (.mk (.bool true) [.ro 3 cs] []) R) (k_pff : (h0 : ¬ (at1 < 2)) → (h1 : ¬ (at1 ≥ (↑(ByteArray.size a) : Int))) → Res.le (.mk (.bool true) [.ro 3 cs] []) R) : CallSpec (Try.prog) (8) ([.int .u8 s, slB 0 n n, .agg #[.int .i64 at1, .int .u8 by1]]) ([.ro 3 cs]) R := by
  by_cases h0 : at1 < 2
  · exact (CallSpec.id (go_ok (exec_ok tnamed tcalm tmixed _ _ _ _) (tu_y_pt s at1 by1 a n cs us hc kL kW ) (aC (kL) (aC (kW) (aC (dTq h0) (aC (dTq h0) (aC (dTq h0) (aC (dTq h0) (aC (dTq h0) (aC (dTq h0) (aC (awake_done) aN))))))))))).le (k_pt h0)
  · by_cases h1 : at1 ≥ (↑(ByteArray.size a) : Int)
    · exact (CallSpec.id (go_ok (exec_ok tnamed tcalm tmixed _ _ _ _) (tu_y_pft s at1 by1 a n cs us hc kL kW ) (aC (kL) (aC (kW) (aC (dFq h0) (aC (dFq h0) (aC (dFq h0) (aC (dFq h0) (aC (dFq h0) (aC (dFq h0) (aC (dTq h1) (aC (dTq h1) (aC (dTq h1) (aC (dTq h1) (aC (awake_done) aN))))))))))))))).le (k_pft h0 h1)
    · exact (CallSpec.id (go_ok (exec_ok tnamed tcalm tmixed _ _ _ _) (tu_y_pff s at1 by1 a n cs us hc kL kW ) (aC (kL) (aC (kW) (aC (dFq h0) (aC (dFq h0) (aC (dFq h0) (aC (dFq h0) (aC (dFq h0) (aC (dFq h0) (aC (dFq h1) (aC (dFq h1) (aC (dFq h1) (aC (dFq h1) (aC dO (aC (awake_done) aN)))))))))))))))).le (k_pff h0 h1)
end
section
variable (s at1 by1 x b : Int) (a t : ByteArray) (n : Nat) (cs us : List Value) (hv : 2 ≤ at1 ∧ at1 < (↑(ByteArray.size a) : Int) ∧ ¬by1 = 0) (ha : ByteArray.size a ≤ 1000) (hb1 : 1 ≤ b) (hw : 0 + Int.toNat at1 * 1 < List.length (bytesOf a)) (hb : isInt IntKind.u8 (List.getD (bytesOf a) (0 + Int.toNat at1 * 1) undef) = true) (hx : Value.int .u8 (F.bxor IntKind.u8 (intOf (List.getD (bytesOf a) (0 + Int.toNat at1 * 1) undef)) by1) = .int .u8 x) (hc : (decide (0 + Int.toNat at1 * 1 + List.length [Value.int .u8 x] ≤ List.length (bytesOf a)) && (false || List.all [.int .u8 x] flat1)) = true) (hd : 0 + ByteArray.size a * 1 ≤ List.length (put (bytesOf a) (0 + Int.toNat at1 * 1) [.int .u8 x])) (he : List.all (List.take (ByteArray.size a * 1) (List.drop 0 (put (bytesOf a) (0 + Int.toNat at1 * 1) [.int .u8 x]))) (isInt IntKind.u8) = true) (hy : Value.string (ByteArray.mk (List.toArray (List.map unbyte (List.take (ByteArray.size a * 1) (List.drop 0 (put (bytesOf a) (0 + Int.toNat at1 * 1) [.int .u8 x])))))) = .string t) (kL : CallSpec Try.prog 14 [slB 0 n n] [.ro 3 cs] (.mk (slB 1 n (n + 4)) [.ro 3 cs, .own 3 us] [])) (kW : CallSpec Try.prog 15 [.int .u8 s, slB 0 n (n + 4)] [.own 3 us] (.mk (.tuple #[.string a, .int .i64 0]) [.own 3 us] [])) (kR : CallSpec Try.prog 9 [.int .u8 s, .string t] [] (.mk (.tuple #[slN, .bool false, .int .i64 b]) [] []))
include s at1 by1 x b a t n cs us hv ha hb1 hw hb hx hc hd he hy kL kW kR
theorem tu_o_p : go (exec (Try.prog) (8) (8) ([.int .u8 s, slB 0 n n, .agg #[.int .i64 at1, .int .u8 by1]]) ([.ro 3 cs])) [(8, .call (.mk ((zSB 1 n (n + 4))) [.ro 3 cs, .own 3 us] [])), (2, .call (.mk (.tuple #[.string a, .int .i64 0]) [.own 3 us] [])), (22, .dec false), (1, .dec false), (3, .dec false), (1, .dec false), (1, .dec false), (1, .dec false), (2, .dec false), (1, .dec false), (3, .dec false), (1, .dec false), (2, .dec false), (1, Itm.must), (13, Itm.must), (1, Itm.must), (0, Itm.must), (5, Itm.val (.int .u8 x)), (0, Itm.must), (3, Itm.must), (4, Itm.must), (0, Itm.must), (0, Itm.val (.string t)), (0, .call (.mk (.tuple #[zSN, .bool false, .int .i64 b]) [] [])), (10, .call (.mk (.bool true) [] []))] = some (.mk (.bool (decide (b ≥ 1))) [.ro 3 cs] [], true, [type_of% kL, type_of% kW, decide (at1 < 2) = false, decide (at1 < 2) = false, decide (at1 < 2) = false, decide (at1 < 2) = false, decide (at1 < 2) = false, decide (at1 < 2) = false, decide (at1 ≥ (↑(ByteArray.size a) : Int)) = false, decide (at1 ≥ (↑(ByteArray.size a) : Int)) = false, decide (at1 ≥ (↑(ByteArray.size a) : Int)) = false, decide (at1 ≥ (↑(ByteArray.size a) : Int)) = false, decide (by1 = 0) = false, (decide (ByteArray.size a ≤ 140737488355328) && true) = true, inside at1 (ByteArray.size a) = true, decide (0 + Int.toNat at1 * 1 < List.length (bytesOf a)) = true, isInt IntKind.u8 (List.getD (bytesOf a) (0 + Int.toNat at1 * 1) undef) = true, type_of% hx, inside at1 (ByteArray.size a) = true, (decide (0 + Int.toNat at1 * 1 + List.length [Value.int .u8 x] ≤ List.length (bytesOf a)) && (false || List.all [.int .u8 x] flat1)) = true, decide (0 + ByteArray.size a * 1 ≤ List.length (put (bytesOf a) (0 + Int.toNat at1 * 1) [.int .u8 x])) = true, List.all (List.take (ByteArray.size a * 1) (List.drop 0 (put (bytesOf a) (0 + Int.toNat at1 * 1) [.int .u8 x]))) (isInt IntKind.u8) = true, type_of% hy, type_of% kR, CallSpec Try.prog 12 [] [] (.mk (.bool true) [] [])]) := by kernel_rfl
theorem tu_o (R : Res) (k_p : Res.le (.mk (.bool (decide (b ≥ 1))) [.ro 3 cs] []) R) : CallSpec (Try.prog) (8) ([.int .u8 s, slB 0 n n, .agg #[.int .i64 at1, .int .u8 by1]]) ([.ro 3 cs]) R := by
  exact (CallSpec.id (go_ok (exec_ok tnamed tcalm tmixed _ _ _ _) (tu_o_p s at1 by1 x b a t n cs us hv ha hb1 hw hb hx hc hd he hy kL kW kR ) (aC (kL) (aC (kW) (aC dN (aC dN (aC dN (aC dN (aC dN (aC dN (aC dN (aC dN (aC dN (aC dN (aC dN (aC ((by simp [ByteArray.size_append, ByteArray.size_extract, sz_mk] <;> omega)) (aC (inside_of (by omega)) (aC dO (aC ((by omega)) (aC (hx) (aC (inside_of (by omega)) (aC ((by omega)) (aC dO (aC ((by omega)) (aC (hy) (aC (kR) (aC (awake_done) aN))))))))))))))))))))))))))).le (k_p )
end
end Go.Proofs.Ytbolppjlaipfjaa.Ex
end
section
set_option linter.unusedSectionVars false
set_option linter.unusedSimpArgs false
set_option linter.unusedVariables false
namespace Go.Proofs.Ytbolppjlaipfjaa.Ex
open Go
set_option linter.unusedVariables false
theorem rfS_small (sn : Int) (d : ByteArray) : ∀ (g p : Nat) (l : List Int) (b : Nat), (∀ q, p ≤ q → ¬ frG sn (cutB d (q + 1))) → (rfS sn d g p l b).1 = l ∧ b ≤ (rfS sn d g p l b).2
  | 0, p, l, b, h => ⟨rfl, Nat.le_refl _⟩
  | g + 1, p, l, b, h => by
    rw [rfS]
    split
    · exact ⟨rfl, Nat.le_refl _⟩
    · split
      · exact rfS_small sn d g (p + 1) l b fun q hq => h q (by omega)
      · rw [if_neg (h p (Nat.le_refl _))]
        obtain ⟨k1, k2⟩ := rfS_small sn d g (p + 1) l (b + 1) fun q hq => h q (by omega)
        exact ⟨k1, by omega⟩
theorem frC_list (sn : Int) (d : ByteArray) : frC sn (cutB d 1) = foldS 65535 (((bl d).drop 1).take (frK sn)) := by
  unfold frC
  rw [sum_list]
  show foldS 65535 (bl ((cutB d 1).extract 0 (frK sn))) = _
  rw [bl_cut, List.drop_zero, bl_cutB]
theorem u16_pair {a b : Int} (ha : F.u16 a) (hb : F.u16 b) (h1 : a % 256 = b % 256) (h2 : a / 256 = b / 256) : a = b := by
  unfold F.u16 at ha hb; omega
theorem bt_set (L : List UInt8) (n k : Nat) (y : UInt8) (hn : n < L.length) : bt (F.str (L.set n y)) k = if k = n then y.toNat else bt (F.str L) k := by
  rw [bt_getD, bt_getD, bl_str, bl_str, List.getD_eq_getElem?_getD, List.getD_eq_getElem?_getD, List.getElem?_set]
  by_cases h : n = k
  · subst h
    rw [if_pos rfl, if_pos rfl, if_pos hn]
    rfl
  · rw [if_neg h, if_neg (fun e => h e.symm)]
theorem turned_read {sn : Int} {a : ByteArray} (hw : wds sn ≠ []) (hz : a.size = frK sn + 3) (h0 : bt a 0 = 165) (hG : frG sn (cutB a 1)) {n : Nat} {y : UInt8} (hn : 2 ≤ n ∧ n < a.size) (hy : (y.toNat : Nat) ≠ bt a n) :
    (F.read sn (F.str ((bl a).set n y))).1 = [] ∧ 1 ≤ (F.read sn (F.str ((bl a).set n y))).2 := by
  obtain ⟨t, ht⟩ : ∃ t, t = F.str ((bl a).set n y) := ⟨_, rfl⟩
  rw [← ht]
  have hla : (bl a).length = a.size := bl_len a
  have htz : t.size = a.size := by rw [ht, str_size, List.length_set, hla]
  have hb : ∀ k, bt t k = if k = n then y.toNat else bt a k := fun k => by rw [ht, bt_set (bl a) n k y (by omega), str_bl]
  have hno : ¬ frG sn (cutB t 1) := by
    intro g
    obtain ⟨_, _, g3, g4⟩ := g
    obtain ⟨_, _, q3, q4⟩ := hG
    rw [bt_cut, wrap8] at g3 q3
    rw [bt_cut] at g4 q4
    rw [hb] at g3 g4
    have ua : F.u16 (frC sn (cutB a 1)) := sum_u16 _
    have ut : F.u16 (frC sn (cutB t 1)) := sum_u16 _
    by_cases hn1 : n - 1 < frK sn
    · rw [if_neg (by omega)] at g3 g4
      have e := u16_pair ut ua (by omega) (by omega)
      rw [frC_list, frC_list, ht, bl_str] at e
      have hl1 : (bl a).drop 1 = ((bl a).drop 1).take (n - 1) ++ (bl a)[n]'(by omega) :: (bl a).drop (n + 1) := by
        have h1 : n - 1 < ((bl a).drop 1).length := by rw [List.length_drop]; omega
        have h2 := (List.take_append_drop (n - 1) ((bl a).drop 1)).symm
        rw [List.drop_drop, show 1 + (n - 1) = n by omega, List.drop_eq_getElem_cons (show n < (bl a).length by omega)] at h2
        exact h2
      have hs1 : ((bl a).set n y).drop 1 = ((bl a).drop 1).set (n - 1) y := by rw [List.drop_set, if_neg (by omega)]
      rw [hs1, hl1] at e
      have hlen : (((bl a).drop 1).take (n - 1)).length = n - 1 := by rw [List.length_take, List.length_drop]; omega
      obtain ⟨k, hk⟩ : ∃ k, frK sn = (n - 1) + (k + 1) := ⟨frK sn - n, by omega⟩
      rw [List.set_append_right _ _ (by omega), hlen, Nat.sub_self, List.set_cons_zero, hk, List.take_append, List.take_append, hlen, Nat.add_sub_cancel_left, List.take_succ_cons, List.take_succ_cons, List.take_of_length_le (by omega)] at e
      have := fold_turn (by unfold F.u16; omega) e
      apply hy
      rw [this, bt_bl a n (by omega)]
    · have e : frC sn (cutB t 1) = frC sn (cutB a 1) := by
        rw [frC_list, frC_list, ht, bl_str, List.drop_set, if_neg (by omega), List.take_set_of_le (by omega)]
      rw [e] at g3 g4
      have : n = 1 + frK sn ∨ n = 1 + (frK sn + 1) := by omega
      rcases this with rfl | rfl
      · rw [if_pos rfl] at g3
        apply hy
        omega
      · rw [if_pos rfl] at g4
        apply hy
        omega
  rw [read_rfS hw, rfS, if_neg (by omega), if_neg (fun g => g (by rw [hb, if_neg (by omega), h0])), if_neg hno]
  obtain ⟨k1, k2⟩ := rfS_small sn t t.size 1 [] 1 fun q hq g => by
    have := g.1
    rw [cutB_size] at this
    omega
  exact ⟨k1, k2⟩
theorem wrT_good {sn : Int} (h : u8 sn) {l : List Int} (hl : l.length = sumW (wds sn)) : frG sn (cutB (wrT sn l) 1) := by
  have hz := wrT_size sn l
  have hK : frK sn = l.length + 1 := by unfold frK; omega
  have hb := bl_wrT sn l
  have hC : frC sn (cutB (wrT sn l) 1) = F.sum (wrS sn l) := by
    unfold frC
    congr 1
    apply str_inj
    rw [bl_cut, List.drop_zero, bl_cutB, hb, List.drop_succ_cons, List.drop_zero, hK, List.take_succ_cons]
    rw [List.take_append_of_le_length (by rw [List.length_map, uB_len]; omega), List.take_of_length_le (by rw [List.length_map, uB_len]; omega)]
    rfl
  have hu := sum_u16 (wrS sn l)
  have tail : ∀ j, j < 2 → bt (wrT sn l) (l.length + 2 + j) = (([F.sum (wrS sn l) % 256, F.sum (wrS sn l) / 256] : List Int)[j]!).toNat := by
    intro j hj
    rw [bt_getD, hb, List.getD_eq_getElem?_getD, show l.length + 2 + j = (l.length + j) + 1 + 1 by omega, List.getElem?_cons_succ, List.getElem?_cons_succ, List.getElem?_append_right (by rw [List.length_map, uB_len]; omega), List.length_map, uB_len, Nat.add_sub_cancel_left]
    have : j = 0 ∨ j = 1 := by omega
    rcases this with rfl | rfl
    · have := unbyte_nat (k := F.sum (wrS sn l) % 256) (by omega)
      show (unbyte (.int .u8 (F.sum (wrS sn l) % 256))).toNat = (F.sum (wrS sn l) % 256).toNat
      omega
    · have := unbyte_nat (k := F.sum (wrS sn l) / 256) (by unfold F.u16 at hu; omega)
      show (unbyte (.int .u8 (F.sum (wrS sn l) / 256))).toNat = (F.sum (wrS sn l) / 256).toNat
      omega
  have t0 := tail 0 (by omega)
  have t1 := tail 1 (by omega)
  refine ⟨by rw [cutB_size]; omega, by rw [bt_cut, Nat.add_zero, wrT_1 h], ?_, ?_⟩
  · rw [bt_cut, hC, wrap8, show 1 + frK sn = l.length + 2 + 0 by omega, t0]
    show (((F.sum (wrS sn l) % 256).toNat : Nat) : Int) = _
    omega
  · rw [bt_cut, hC, show 1 + (frK sn + 1) = l.length + 2 + 1 by omega, t1]
    show (((F.sum (wrS sn l) / 256).toNat : Nat) : Int) = _
    unfold F.u16 at hu
    omega
theorem turned_nil (s at1 by1 : Int) : CallSpec Try.prog 8 [.int .u8 s, slN, .agg #[.int .i64 at1, .int .u8 by1]] [] ⟨.bool true, [], []⟩ := by
  have hb := write_nil_bad s
  have k := write_done (sn := s) (xs := []) (c := 4) (ex := lmarks) (fun x hx => by cases hx)
  unfold wtR at k
  rw [hb.1] at k
  exact tu_n s _ at1 by1 hb.2 k _ res_refl
theorem turned_emp (s at1 by1 : Int) : CallSpec Try.prog 8 [.int .u8 s, slB 0 0 0, .agg #[.int .i64 at1, .int .u8 by1]] [.dead] ⟨.bool true, [.dead], []⟩ := by
  have hb := write_nil_bad s
  have k := write_done (sn := s) (xs := []) (c := 4) (ex := lmarks) (fun x hx => by cases hx)
  unfold wtR at k
  rw [hb.1] at k
  exact tu_m s _ at1 by1 hb.2 k _ res_refl
theorem turned_some (s at1 by1 : Int) (hs : u8 s) (hby : u8 by1) (l : List Int) (hx : ∀ x ∈ l, i64 x) (hn : 1 ≤ l.length ∧ l.length ≤ 17592186043904) : CallSpec Try.prog 8 [.int .u8 s, slB 0 l.length l.length, .agg #[.int .i64 at1, .int .u8 by1]] [.ro 3 (iW l)] ⟨.bool true, [.ro 3 (iW l)], []⟩ := by
  have kL := lent_some (cs := iW l) (by rw [iW_len]; exact hn)
  rw [iW_len] at kL
  have kW := write_done (sn := s) (c := l.length + 4) (ex := lmarks) hx
  unfold wtR at kW
  rcases write_cases s l with ⟨h1, h2⟩ | ⟨w, hw, hF, e, hz⟩
  · rw [h1] at kW
    exact tu_x s _ at1 by1 _ _ _ h2 kL kW _ res_refl
  · rw [e] at kW
    by_cases hc : at1 < 2 ∨ ((wrT s w).size : Int) ≤ at1 ∨ by1 = 0
    · exact tu_y s at1 by1 (wrT s w) _ _ _ hc kL kW _ (fun _ => res_refl) (fun _ _ => res_refl) (fun _ _ => res_refl)
    · have h17 := frK_le s
      have hv : 2 ≤ at1 ∧ at1 < (wrT s w).size ∧ ¬ by1 = 0 := by omega
      obtain ⟨n, rfl⟩ := Int.eq_ofNat_of_zero_le (show 0 ≤ at1 by omega)
      have hnz : n < (wrT s w).size := by omega
      have hnl : n < (bl (wrT s w)).length := by rw [bl_len]; exact hnz
      obtain ⟨b, hb⟩ : ∃ b, b = (bl (wrT s w))[n] := ⟨_, rfl⟩
      obtain ⟨y, hy⟩ : ∃ y, y = b ^^^ unbyte (.int .u8 by1) := ⟨_, rfl⟩
      have hbt : bt (wrT s w) n = b.toNat := by rw [bt_bl _ _ hnl, hb]
      have hne : (y.toNat : Nat) ≠ bt (wrT s w) n := by
        intro h
        rw [hbt] at h
        have h1 := UInt8.toNat_inj.1 h
        rw [hy] at h1
        have h2 := unbyte_nat hby
        rw [xor_turn h1.symm] at h2
        exact hv.2.2 h2.symm
      have hgood := wrT_good hs (wrF_len _ _ _ hF)
      obtain ⟨r1, r2⟩ := turned_read hw hz (wrT_0 s w) hgood ⟨by omega, hnz⟩ hne
      obtain ⟨t, ht⟩ : ∃ t, t = F.str ((bl (wrT s w)).set n y) := ⟨_, rfl⟩
      rw [← ht] at r1 r2
      have htz : t.size = (wrT s w).size := by rw [ht, str_size, List.length_set, bl_len]
      have hpos : 0 + Int.toNat (n : Int) * 1 = n := by omega
      have hget : List.getD (bytesOf (wrT s w)) (0 + Int.toNat (n : Int) * 1) undef = .int .u8 ((b.toNat : Nat) : Int) := by rw [bytes_get _ _ hnz, hbt]
      have hput : put (bytesOf (wrT s w)) (0 + Int.toNat (n : Int) * 1) [Value.int IntKind.u8 ((y.toNat : Nat) : Int)] = bytesOf t := by
        rw [hpos, ht]
        have := bytes_set (bl (wrT s w)) n y
        rw [str_bl] at this
        exact this
      have hcut : List.take ((wrT s w).size * 1) (List.drop 0 (bytesOf t)) = bytesOf t := by
        rw [List.drop_zero]
        exact List.take_of_length_le (by rw [bytes_len, htz]; omega)
      have kR := read_done (sn := s) (s := t) (by omega)
      unfold rdR at kR
      rw [if_pos r1] at kR
      refine tu_o s n by1 ((y.toNat : Nat) : Int) (F.read s t).2 (wrT s w) t _ _ _ hv (by omega) (by omega) (by rw [bytes_len]; omega) (by rw [hget]; rfl) (by rw [hget]; show Value.int .u8 (F.bxor .u8 ((b.toNat : Nat) : Int) by1) = _; rw [bxor_u8 b hby, hy]) ?_ (by rw [hput, bytes_len]; omega) (by rw [hput, hcut]; exact bytes_all t) (by rw [hput, hcut, unbytes]) kL kW kR _ ?_
      · rw [decide_eq_true (show 0 + Int.toNat (n : Int) * 1 + List.length [Value.int IntKind.u8 ((y.toNat : Nat) : Int)] ≤ List.length (bytesOf (wrT s w)) by rw [bytes_len]; simp; omega)]
        rfl
      · rw [decide_eq_true (show ((F.read s t).2 : Int) ≥ 1 by omega)]
        exact res_refl
end Go.Proofs.Ytbolppjlaipfjaa.Ex
end
