import Derived.Test.YtbolppjlaipfjaaYSwr2
section
set_option linter.unusedSectionVars false
set_option linter.unusedSimpArgs false
set_option linter.unusedVariables false
namespace Go.Proofs.Ytbolppjlaipfjaa.Ex
open Go
set_option linter.unusedVariables false
def rws (sn : Int) : List Int := if sn = 1 then [2, -2, -2, -2] else if sn = 2 then [-4, -4] else if sn = 3 then [-4, -4, -4, -4] else if sn = 4 then [-2, -2, -2, -2, 1] else if sn = 5 then [1, -4] else []
theorem ws_same (sn : Int) : (rws sn).map Int.natAbs = (wds sn).map wB ∧ (rws sn).map (fun r => decide (r < 0)) = (wds sn).map (fun r => decide (r < 0)) ∧ (rws sn).length = (wds sn).length := by
  unfold rws wds
  repeat' split
  all_goals decide
theorem rwid_done (sn : Int) : (rws sn = [] → CallSpec Try.prog 23 [.int .u8 sn] [] ⟨slN, [], []⟩) ∧ (rws sn ≠ [] → CallSpec Try.prog 23 [.int .u8 sn] [] ⟨slB 0 (rws sn).length (rws sn).length, [.own 3 (iW (rws sn))], []⟩) := by
  refine ⟨fun h => ?_, fun h => ?_⟩
  · unfold rws at h
    refine rwid_ok sn _ (fun h0 => ?_) (fun h0 h1 => ?_) (fun h0 h1 h2 => ?_) (fun h0 h1 h2 h3 => ?_) (fun h0 h1 h2 h3 h4 => ?_) (fun h0 h1 h2 h3 h4 => res_refl)
    · simp [h0] at h
    · simp [h1] at h
    · simp [h2] at h
    · simp [h3] at h
    · simp [h4] at h
  · refine rwid_ok sn _ (fun h0 => ?_) (fun h0 h1 => ?_) (fun h0 h1 h2 => ?_) (fun h0 h1 h2 h3 => ?_) (fun h0 h1 h2 h3 h4 => ?_) (fun h0 h1 h2 h3 h4 => ?_)
    · subst h0; exact res_refl
    · subst h1; exact res_refl
    · subst h2; exact res_refl
    · subst h3; exact res_refl
    · subst h4; exact res_refl
    · exact absurd (by unfold rws; simp [h0, h1, h2, h3, h4]) h
end Go.Proofs.Ytbolppjlaipfjaa.Ex
end
section
set_option linter.unusedSectionVars false
set_option linter.unusedSimpArgs false
set_option linter.unusedVariables false
namespace Go.Proofs.Ytbolppjlaipfjaa.Ex
open Go
set_option linter.unusedVariables false
theorem frK_le (sn : Int) : frK sn ≤ 17 := by
  unfold frK wds
  repeat' split
  all_goals decide
end Go.Proofs.Ytbolppjlaipfjaa.Ex
end
section
set_option linter.unusedSectionVars false
set_option linter.unusedSimpArgs false
set_option linter.unusedVariables false
namespace Go.Proofs.Ytbolppjlaipfjaa.Ex
open Go
set_option linter.unusedVariables false
end Go.Proofs.Ytbolppjlaipfjaa.Ex
end
section
set_option linter.unusedSectionVars false
set_option linter.unusedSimpArgs false
set_option linter.unusedVariables false
namespace Go.Proofs.Ytbolppjlaipfjaa.Ex
open Go
set_option linter.unusedVariables false
end Go.Proofs.Ytbolppjlaipfjaa.Ex
end
section
set_option linter.unusedSectionVars false
set_option linter.unusedSimpArgs false
set_option linter.unusedVariables false
namespace Go.Proofs.Ytbolppjlaipfjaa.Ex
open Go
set_option linter.unusedVariables false
def awR1 : Res := ⟨.tuple #[slB 0 2 2, .bool true, .int .i64 2], [.own 3 [.int .i64 3, .int .i64 (-2)]], []⟩
def awR2 : Res := ⟨.tuple #[slN, .bool false, .int .i64 1], [], []⟩
def awS0 : ByteArray := ByteArray.mk #[UInt8.ofNat 5, UInt8.ofNat 3, UInt8.ofNat 254, UInt8.ofNat 255, UInt8.ofNat 255, UInt8.ofNat 255]
def awS1 : ByteArray := ByteArray.mk #[UInt8.ofNat 0, UInt8.ofNat 165, UInt8.ofNat 165, UInt8.ofNat 5, UInt8.ofNat 3, UInt8.ofNat 254, UInt8.ofNat 255, UInt8.ofNat 255, UInt8.ofNat 255, UInt8.ofNat 25, UInt8.ofNat 238, UInt8.ofNat 165, UInt8.ofNat 5]
def awS2 : ByteArray := ByteArray.mk #[UInt8.ofNat 165, UInt8.ofNat 5, UInt8.ofNat 3, UInt8.ofNat 254, UInt8.ofNat 255, UInt8.ofNat 255, UInt8.ofNat 255, UInt8.ofNat 25, UInt8.ofNat 238]
theorem awC0 : F.sum awS0 = 60953 := by decide +kernel
theorem awC1 : F.read 5 awS1 = ([3, -2], 2) := by decide +kernel
theorem awC2 : F.read 2 awS2 = ([], 1) := by decide +kernel
theorem KC : CallSpec Try.prog 27 [.string awS0] [] ⟨.int .u16 60953, [], []⟩ := by
  have h := psum_done (s := awS0) (by decide)
  rwa [awC0] at h
theorem K1 : CallSpec Try.prog 9 [.int .u8 5, .string awS1] [] awR1 := by
  have h := read_done (sn := 5) (s := awS1) (by decide)
  rw [awC1] at h
  exact h
theorem K2 : CallSpec Try.prog 9 [.int .u8 2, .string awS2] [] awR2 := by
  have h := read_done (sn := 2) (s := awS2) (by decide)
  rw [awC2] at h
  exact h
section
variable (_x : Nat)
include _x
theorem awk_p : go (exec (Try.prog) (8) (12) ([]) ([])) [(408, .call (.mk (Value.int IntKind.u16 60953) [] [])), (44, .call (.mk (.tuple #[(zSB 0 2 2), .bool true, .int .i64 2]) [.own 3 [.int .i64 3, .int .i64 (-2)]] [])), (11, .call (.mk (.tuple #[zSN, .bool false, .int .i64 1]) [] []))] = some (.mk (.bool true) [] [], true, [CallSpec Try.prog 27 [.string (ByteArray.mk #[UInt8.ofNat 5, UInt8.ofNat 3, UInt8.ofNat 254, UInt8.ofNat 255, UInt8.ofNat 255, UInt8.ofNat 255])] [] (.mk (Value.int IntKind.u16 60953) [] []), CallSpec Try.prog 9 [.int .u8 5, .string (ByteArray.mk #[UInt8.ofNat 0, UInt8.ofNat 165, UInt8.ofNat 165, UInt8.ofNat 5, UInt8.ofNat 3, UInt8.ofNat 254, UInt8.ofNat 255, UInt8.ofNat 255, UInt8.ofNat 255, UInt8.ofNat 25, UInt8.ofNat 238, UInt8.ofNat 165, UInt8.ofNat 5])] [] (.mk (.tuple #[(zSB 0 2 2), .bool true, .int .i64 2]) [.own 3 [.int .i64 3, .int .i64 (-2)]] []), CallSpec Try.prog 9 [.int .u8 2, .string (ByteArray.mk #[UInt8.ofNat 165, UInt8.ofNat 5, UInt8.ofNat 3, UInt8.ofNat 254, UInt8.ofNat 255, UInt8.ofNat 255, UInt8.ofNat 255, UInt8.ofNat 25, UInt8.ofNat 238])] [] (.mk (.tuple #[zSN, .bool false, .int .i64 1]) [] [])]) := by kernel_rfl
theorem awk (R : Res) (k_p : Res.le (.mk (.bool true) [] []) R) : CallSpec (Try.prog) (12) ([]) ([]) R := by
  exact (CallSpec.id (go_ok (exec_ok tnamed tcalm tmixed _ _ _ _) (awk_p _x ) (aC (KC) (aC (K1) (aC (K2) aN))))).le (k_p )
end
end Go.Proofs.Ytbolppjlaipfjaa.Ex
end
section
set_option linter.unusedSectionVars false
set_option linter.unusedSimpArgs false
set_option linter.unusedVariables false
namespace Go.Proofs.Ytbolppjlaipfjaa.Ex
open Go
theorem awake_done : CallSpec Try.prog 12 [] [] ⟨.bool true, [], []⟩ := awk 0 _ res_refl
end Go.Proofs.Ytbolppjlaipfjaa.Ex
end
section
set_option linter.unusedSectionVars false
set_option linter.unusedSimpArgs false
set_option linter.unusedVariables false
namespace Go.Proofs.Ytbolppjlaipfjaa.Ex
open Go
set_option linter.unusedVariables false
noncomputable def lpA : Code := loopAt Try.prog 15 0
theorem lpA_calm : calmC lpA = true := loopAt_calm tcalm 15 0
noncomputable def lpAC : Code := .loop lpA
def frA (sn : Int) (n c q m : Nat) (i : Int) : Fr := frOf 92 [(0, .int .u8 sn), (1, slB 0 n c), (7, slB 1 q q), (28, slB 2 m m), (29, .int .i64 m), (30, .int .i64 i)]
def kA : Xt → List Nat
  | .normal => [0, 1, 7, 28, 29, 30]
  | .exit _ => [0, 1, 7, 28, 29, 30]
  | _ => [4, 5]
section
variable (sn x : Int) (n c q m i : Nat) (cs bs es : List Value) (hcs : n ≤ List.length cs) (hbs : List.length bs = q) (hes : List.length es = m) (hq : 1 ≤ q ∧ q ≤ 40) (hi : i < n ∧ i < m ∧ m ≤ 5) (hx : -9223372036854775808 ≤ x ∧ x ≤ 9223372036854775807) (hw0 : isInt .i64 (List.getD es (0 + Int.toNat (↑i : Int) * 1) undef) = true) (hw : Value.int .i64 (intOf (List.getD es (0 + Int.toNat (↑i : Int) * 1) undef)) = .int .i64 8) (hv0 : isInt .i64 (List.getD cs (0 + Int.toNat (↑i : Int) * 1) undef) = true) (hv : Value.int .i64 (intOf (List.getD cs (0 + Int.toNat (↑i : Int) * 1) undef)) = .int .i64 x)
include sn x n c q m i cs bs es hcs hbs hes hq hi hx hw0 hw hv0 hv
theorem wr_8_pt : go (body (Try.prog) (8) (1) (8) (kA) (lpA) (frA sn n c q m (↑i : Int)) ([.own 3 cs, .own 5 bs, .own 3 es])) [(2, .dec true), (1, Itm.must), (1, Itm.must), (0, Itm.must), (0, Itm.val (.int .i64 8)), (16, Itm.must), (1, Itm.must), (0, Itm.must), (0, Itm.val (.int .i64 x)), (3, .dec true), (0, .dec true), (0, .dec true), (0, .dec true), (0, .dec true), (0, .dec true), (0, .dec true), (0, .dec true), (0, .dec true), (0, .dec true), (0, .dec true)] = some (Out.mk Xt.ret (frOf 92 [(4, .string (ByteArray.mk #[])), (5, .int .i64 5)]) [.own 3 cs] [], true, [decide ((↑i : Int) < (↑m : Int)) = true, inside (↑i : Int) m = true, decide (0 + Int.toNat (↑i : Int) * 1 < List.length es) = true, isInt .i64 (List.getD es (0 + Int.toNat (↑i : Int) * 1) undef) = true, type_of% hw, inside (↑i : Int) n = true, decide (0 + Int.toNat (↑i : Int) * 1 < List.length cs) = true, isInt .i64 (List.getD cs (0 + Int.toNat (↑i : Int) * 1) undef) = true, type_of% hv, decide (x < 0) = true, decide (x < 0) = true, decide (x < 0) = true, decide (x < 0) = true, decide (x < 0) = true, decide (x < 0) = true, decide (x < 0) = true, decide (x < 0) = true, decide (x < 0) = true, decide (x < 0) = true, decide (x < 0) = true]) := by kernel_rfl
theorem wr_8_pft : go (body (Try.prog) (8) (1) (8) (kA) (lpA) (frA sn n c q m (↑i : Int)) ([.own 3 cs, .own 5 bs, .own 3 es])) [(2, .dec true), (1, Itm.must), (1, Itm.must), (0, Itm.must), (0, Itm.val (.int .i64 8)), (16, Itm.must), (1, Itm.must), (0, Itm.must), (0, Itm.val (.int .i64 x)), (3, .dec false), (1, .dec false), (1, .dec false), (0, Itm.must), (1, .dec false), (0, Itm.must), (0, Itm.must), (0, Itm.val (.int .i64 x)), (0, .dec false), (1, .dec false), (1, .dec false), (2, .dec false), (1, .dec false), (1, .dec false), (1, .dec false), (2, .dec true)] = some (Out.mk Xt.ret (frOf 92 [(4, .string (ByteArray.mk #[])), (5, .int .i64 5)]) [.own 3 cs] [], true, [decide ((↑i : Int) < (↑m : Int)) = true, inside (↑i : Int) m = true, decide (0 + Int.toNat (↑i : Int) * 1 < List.length es) = true, isInt .i64 (List.getD es (0 + Int.toNat (↑i : Int) * 1) undef) = true, type_of% hw, inside (↑i : Int) n = true, decide (0 + Int.toNat (↑i : Int) * 1 < List.length cs) = true, isInt .i64 (List.getD cs (0 + Int.toNat (↑i : Int) * 1) undef) = true, type_of% hv, decide (x < 0) = false, decide (x < 0) = false, decide (x < 0) = false, inside (↑i : Int) n = true, decide (x < 0) = false, decide (0 + Int.toNat (↑i : Int) * 1 < List.length cs) = true, isInt .i64 (List.getD cs (0 + Int.toNat (↑i : Int) * 1) undef) = true, type_of% hv, decide (x < 0) = false, decide (x < 0) = false, decide (x < 0) = false, decide (x < 0) = false, decide (x < 0) = false, decide (x < 0) = false, decide (x < 0) = false, decide (x > 255) = true]) := by kernel_rfl
theorem wr_8_pff : go (body (Try.prog) (8) (1) (8) (kA) (lpA) (frA sn n c q m (↑i : Int)) ([.own 3 cs, .own 5 bs, .own 3 es])) [(2, .dec true), (1, Itm.must), (1, Itm.must), (0, Itm.must), (0, Itm.val (.int .i64 8)), (16, Itm.must), (1, Itm.must), (0, Itm.must), (0, Itm.val (.int .i64 x)), (3, .dec false), (1, .dec false), (1, .dec false), (0, Itm.must), (1, .dec false), (0, Itm.must), (0, Itm.must), (0, Itm.val (.int .i64 x)), (0, .dec false), (1, .dec false), (1, .dec false), (2, .dec false), (1, .dec false), (1, .dec false), (1, .dec false), (2, .dec false), (11, Itm.must), (1, Itm.must), (0, Itm.must), (0, Itm.val (.int .i64 x)), (2, Itm.val (.int .i64 (x / 1))), (0, Itm.val (.int .u8 (x / 1))), (7, Itm.must), (0, .dec false), (0, Itm.must), (12, Itm.val (.int .i64 ((↑i : Int) + 1)))] = some (Out.mk Xt.normal (frOf 92 [(0, .int .u8 sn), (1, (zSB 0 n c)), (7, (zSB 1 (q + 1) (q + 1))), (28, (zSB 2 m m)), (29, .int .i64 (↑m : Int)), (30, .int .i64 ((↑i : Int) + 1))]) [.own 3 cs, .own 5 (bs ++ [.int .u8 (x / 1)]), .own 3 es] [], true, [decide ((↑i : Int) < (↑m : Int)) = true, inside (↑i : Int) m = true, decide (0 + Int.toNat (↑i : Int) * 1 < List.length es) = true, isInt .i64 (List.getD es (0 + Int.toNat (↑i : Int) * 1) undef) = true, type_of% hw, inside (↑i : Int) n = true, decide (0 + Int.toNat (↑i : Int) * 1 < List.length cs) = true, isInt .i64 (List.getD cs (0 + Int.toNat (↑i : Int) * 1) undef) = true, type_of% hv, decide (x < 0) = false, decide (x < 0) = false, decide (x < 0) = false, inside (↑i : Int) n = true, decide (x < 0) = false, decide (0 + Int.toNat (↑i : Int) * 1 < List.length cs) = true, isInt .i64 (List.getD cs (0 + Int.toNat (↑i : Int) * 1) undef) = true, type_of% hv, decide (x < 0) = false, decide (x < 0) = false, decide (x < 0) = false, decide (x < 0) = false, decide (x < 0) = false, decide (x < 0) = false, decide (x < 0) = false, decide (x > 255) = false, inside (↑i : Int) n = true, decide (0 + Int.toNat (↑i : Int) * 1 < List.length cs) = true, isInt .i64 (List.getD cs (0 + Int.toNat (↑i : Int) * 1) undef) = true, type_of% hv, Value.int .i64 (Int.fdiv x 1) = .int .i64 (x / 1), Value.int .u8 (IntKind.wrap IntKind.u8 (x / 1)) = .int .u8 (x / 1), (true && decide ((q + 1) * 1 ≤ 140737488355328) && decide (q + 1 ≤ 140737488355328) && decide (q * 1 ≤ List.length bs)) = true, decide (q + 1 ≤ q) = false, decide (List.length bs = q * 1) = true, Value.int .i64 (IntKind.wrap .i64 ((↑i : Int) + 1)) = .int .i64 ((↑i : Int) + 1)]) := by kernel_rfl
theorem wr_8 (R : Out) (k_pt : (h0 : x < 0) → Out.le (Out.mk Xt.ret (frOf 92 [(4, .string (ByteArray.mk #[])), (5, .int .i64 5)]) [.own 3 cs] []) R) (k_pft : (h0 : ¬ (x < 0)) → (h1 : x > 255) → Out.le (Out.mk Xt.ret (frOf 92 [(4, .string (ByteArray.mk #[])), (5, .int .i64 5)]) [.own 3 cs] []) R) (k_pff : (h0 : ¬ (x < 0)) → (h1 : ¬ (x > 255)) → Out.le (Out.mk Xt.normal (frOf 92 [(0, .int .u8 sn), (1, (zSB 0 n c)), (7, (zSB 1 (q + 1) (q + 1))), (28, (zSB 2 m m)), (29, .int .i64 (↑m : Int)), (30, .int .i64 ((↑i : Int) + 1))]) [.own 3 cs, .own 5 (bs ++ [.int .u8 (x / 1)]), .own 3 es] []) R) : CodeSpec (Try.prog) (1) (lpA) (frA sn n c q m (↑i : Int)) ([.own 3 cs, .own 5 bs, .own 3 es]) R := by
  by_cases h0 : x < 0
  · exact (CodeSpec.id (go_ok (body_ok tnamed tcalm tmixed _ _ _ _ _ _ lpA_calm) (wr_8_pt sn x n c q m i cs bs es hcs hbs hes hq hi hx hw0 hw hv0 hv ) (aC dO (aC (inside_of (by omega)) (aC dO (aC ((by omega)) (aC (hw) (aC (inside_of (by omega)) (aC dO (aC ((by omega)) (aC (hv) (aC (dTq h0) (aC (dTq h0) (aC (dTq h0) (aC (dTq h0) (aC (dTq h0) (aC (dTq h0) (aC (dTq h0) (aC (dTq h0) (aC (dTq h0) (aC (dTq h0) (aC (dTq h0) aN)))))))))))))))))))))).le (k_pt h0)
  · by_cases h1 : x > 255
    · exact (CodeSpec.id (go_ok (body_ok tnamed tcalm tmixed _ _ _ _ _ _ lpA_calm) (wr_8_pft sn x n c q m i cs bs es hcs hbs hes hq hi hx hw0 hw hv0 hv ) (aC dO (aC (inside_of (by omega)) (aC dO (aC ((by omega)) (aC (hw) (aC (inside_of (by omega)) (aC dO (aC ((by omega)) (aC (hv) (aC (dFq h0) (aC (dFq h0) (aC (dFq h0) (aC (inside_of (by omega)) (aC (dFq h0) (aC dO (aC ((by omega)) (aC (hv) (aC (dFq h0) (aC (dFq h0) (aC (dFq h0) (aC (dFq h0) (aC (dFq h0) (aC (dFq h0) (aC (dFq h0) (aC (dTq h1) aN))))))))))))))))))))))))))).le (k_pft h0 h1)
    · exact (CodeSpec.id (go_ok (body_ok tnamed tcalm tmixed _ _ _ _ _ _ lpA_calm) (wr_8_pff sn x n c q m i cs bs es hcs hbs hes hq hi hx hw0 hw hv0 hv ) (aC dO (aC (inside_of (by omega)) (aC dO (aC ((by omega)) (aC (hw) (aC (inside_of (by omega)) (aC dO (aC ((by omega)) (aC (hv) (aC (dFq h0) (aC (dFq h0) (aC (dFq h0) (aC (inside_of (by omega)) (aC (dFq h0) (aC dO (aC ((by omega)) (aC (hv) (aC (dFq h0) (aC (dFq h0) (aC (dFq h0) (aC (dFq h0) (aC (dFq h0) (aC (dFq h0) (aC (dFq h0) (aC (dFq h1) (aC (inside_of (by omega)) (aC dO (aC ((by omega)) (aC (hv) (aC (congrArg (Value.int _) (Int.fdiv_eq_ediv_of_nonneg _ (by omega))) (aC (congrArg (Value.int _) (Go.IntWalk.u8_in _ (by omega))) (aC ((by simp [ByteArray.size_append, ByteArray.size_extract, sz_mk] <;> omega)) (aC dN (aC dO (aC (congrArg (Value.int _) (Go.IntWalk.i64_in _ (by omega))) aN))))))))))))))))))))))))))))))))))))).le (k_pff h0 h1)
end
section
variable (sn x : Int) (n c q m i : Nat) (cs bs es : List Value) (hcs : n ≤ List.length cs) (hbs : List.length bs = q) (hes : List.length es = m) (hq : 1 ≤ q ∧ q ≤ 40) (hi : i < n ∧ i < m ∧ m ≤ 5) (hx : -9223372036854775808 ≤ x ∧ x ≤ 9223372036854775807) (hw0 : isInt .i64 (List.getD es (0 + Int.toNat (↑i : Int) * 1) undef) = true) (hw : Value.int .i64 (intOf (List.getD es (0 + Int.toNat (↑i : Int) * 1) undef)) = .int .i64 16) (hv0 : isInt .i64 (List.getD cs (0 + Int.toNat (↑i : Int) * 1) undef) = true) (hv : Value.int .i64 (intOf (List.getD cs (0 + Int.toNat (↑i : Int) * 1) undef)) = .int .i64 x)
include sn x n c q m i cs bs es hcs hbs hes hq hi hx hw0 hw hv0 hv
theorem wr_16_pt : go (body (Try.prog) (8) (1) (8) (kA) (lpA) (frA sn n c q m (↑i : Int)) ([.own 3 cs, .own 5 bs, .own 3 es])) [(2, .dec true), (1, Itm.must), (1, Itm.must), (0, Itm.must), (0, Itm.val (.int .i64 16)), (16, Itm.must), (1, Itm.must), (0, Itm.must), (0, Itm.val (.int .i64 x)), (3, .dec true), (0, .dec true), (0, .dec true), (0, .dec true), (0, .dec true), (0, .dec true), (0, .dec true), (0, .dec true), (0, .dec true), (0, .dec true), (0, .dec true)] = some (Out.mk Xt.ret (frOf 92 [(4, .string (ByteArray.mk #[])), (5, .int .i64 5)]) [.own 3 cs] [], true, [decide ((↑i : Int) < (↑m : Int)) = true, inside (↑i : Int) m = true, decide (0 + Int.toNat (↑i : Int) * 1 < List.length es) = true, isInt .i64 (List.getD es (0 + Int.toNat (↑i : Int) * 1) undef) = true, type_of% hw, inside (↑i : Int) n = true, decide (0 + Int.toNat (↑i : Int) * 1 < List.length cs) = true, isInt .i64 (List.getD cs (0 + Int.toNat (↑i : Int) * 1) undef) = true, type_of% hv, decide (x < 0) = true, decide (x < 0) = true, decide (x < 0) = true, decide (x < 0) = true, decide (x < 0) = true, decide (x < 0) = true, decide (x < 0) = true, decide (x < 0) = true, decide (x < 0) = true, decide (x < 0) = true, decide (x < 0) = true]) := by kernel_rfl
theorem wr_16_pft : go (body (Try.prog) (8) (1) (8) (kA) (lpA) (frA sn n c q m (↑i : Int)) ([.own 3 cs, .own 5 bs, .own 3 es])) [(2, .dec true), (1, Itm.must), (1, Itm.must), (0, Itm.must), (0, Itm.val (.int .i64 16)), (16, Itm.must), (1, Itm.must), (0, Itm.must), (0, Itm.val (.int .i64 x)), (3, .dec false), (1, .dec false), (1, .dec false), (0, Itm.must), (1, .dec false), (0, Itm.must), (0, Itm.must), (0, Itm.val (.int .i64 x)), (0, .dec false), (1, .dec false), (1, .dec false), (2, .dec false), (1, .dec false), (1, .dec false), (1, .dec false), (2, .dec true)] = some (Out.mk Xt.ret (frOf 92 [(4, .string (ByteArray.mk #[])), (5, .int .i64 5)]) [.own 3 cs] [], true, [decide ((↑i : Int) < (↑m : Int)) = true, inside (↑i : Int) m = true, decide (0 + Int.toNat (↑i : Int) * 1 < List.length es) = true, isInt .i64 (List.getD es (0 + Int.toNat (↑i : Int) * 1) undef) = true, type_of% hw, inside (↑i : Int) n = true, decide (0 + Int.toNat (↑i : Int) * 1 < List.length cs) = true, isInt .i64 (List.getD cs (0 + Int.toNat (↑i : Int) * 1) undef) = true, type_of% hv, decide (x < 0) = false, decide (x < 0) = false, decide (x < 0) = false, inside (↑i : Int) n = true, decide (x < 0) = false, decide (0 + Int.toNat (↑i : Int) * 1 < List.length cs) = true, isInt .i64 (List.getD cs (0 + Int.toNat (↑i : Int) * 1) undef) = true, type_of% hv, decide (x < 0) = false, decide (x < 0) = false, decide (x < 0) = false, decide (x < 0) = false, decide (x < 0) = false, decide (x < 0) = false, decide (x < 0) = false, decide (x > 65535) = true]) := by kernel_rfl
theorem wr_16_pff : go (body (Try.prog) (8) (1) (8) (kA) (lpA) (frA sn n c q m (↑i : Int)) ([.own 3 cs, .own 5 bs, .own 3 es])) [(2, .dec true), (1, Itm.must), (1, Itm.must), (0, Itm.must), (0, Itm.val (.int .i64 16)), (16, Itm.must), (1, Itm.must), (0, Itm.must), (0, Itm.val (.int .i64 x)), (3, .dec false), (1, .dec false), (1, .dec false), (0, Itm.must), (1, .dec false), (0, Itm.must), (0, Itm.must), (0, Itm.val (.int .i64 x)), (0, .dec false), (1, .dec false), (1, .dec false), (2, .dec false), (1, .dec false), (1, .dec false), (1, .dec false), (2, .dec false), (11, Itm.must), (1, Itm.must), (0, Itm.must), (0, Itm.val (.int .i64 x)), (2, Itm.val (.int .i64 (x / 1))), (8, Itm.must), (0, .dec false), (0, Itm.must), (15, Itm.must), (1, Itm.must), (0, Itm.must), (0, Itm.val (.int .i64 x)), (2, Itm.val (.int .i64 (x / 256))), (0, Itm.val (.int .u8 (x / 256))), (7, Itm.must), (0, .dec false), (0, Itm.must), (12, Itm.val (.int .i64 ((↑i : Int) + 1)))] = some (Out.mk Xt.normal (frOf 92 [(0, .int .u8 sn), (1, (zSB 0 n c)), (7, (zSB 1 (q + 1 + 1) (q + 1 + 1))), (28, (zSB 2 m m)), (29, .int .i64 (↑m : Int)), (30, .int .i64 ((↑i : Int) + 1))]) [.own 3 cs, .own 5 (bs ++ [.int .u8 (IntKind.wrap IntKind.u8 (x / 1))] ++ [.int .u8 (x / 256)]), .own 3 es] [], true, [decide ((↑i : Int) < (↑m : Int)) = true, inside (↑i : Int) m = true, decide (0 + Int.toNat (↑i : Int) * 1 < List.length es) = true, isInt .i64 (List.getD es (0 + Int.toNat (↑i : Int) * 1) undef) = true, type_of% hw, inside (↑i : Int) n = true, decide (0 + Int.toNat (↑i : Int) * 1 < List.length cs) = true, isInt .i64 (List.getD cs (0 + Int.toNat (↑i : Int) * 1) undef) = true, type_of% hv, decide (x < 0) = false, decide (x < 0) = false, decide (x < 0) = false, inside (↑i : Int) n = true, decide (x < 0) = false, decide (0 + Int.toNat (↑i : Int) * 1 < List.length cs) = true, isInt .i64 (List.getD cs (0 + Int.toNat (↑i : Int) * 1) undef) = true, type_of% hv, decide (x < 0) = false, decide (x < 0) = false, decide (x < 0) = false, decide (x < 0) = false, decide (x < 0) = false, decide (x < 0) = false, decide (x < 0) = false, decide (x > 65535) = false, inside (↑i : Int) n = true, decide (0 + Int.toNat (↑i : Int) * 1 < List.length cs) = true, isInt .i64 (List.getD cs (0 + Int.toNat (↑i : Int) * 1) undef) = true, type_of% hv, Value.int .i64 (Int.fdiv x 1) = .int .i64 (x / 1), (true && decide ((q + 1) * 1 ≤ 140737488355328) && decide (q + 1 ≤ 140737488355328) && decide (q * 1 ≤ List.length bs)) = true, decide (q + 1 ≤ q) = false, decide (List.length bs = q * 1) = true, inside (↑i : Int) n = true, decide (0 + Int.toNat (↑i : Int) * 1 < List.length cs) = true, isInt .i64 (List.getD cs (0 + Int.toNat (↑i : Int) * 1) undef) = true, type_of% hv, Value.int .i64 (Int.fdiv x 256) = .int .i64 (x / 256), Value.int .u8 (IntKind.wrap IntKind.u8 (x / 256)) = .int .u8 (x / 256), (true && decide ((q + 1 + 1) * 1 ≤ 140737488355328) && decide (q + 1 + 1 ≤ 140737488355328) && decide ((q + 1) * 1 ≤ List.length (bs ++ [.int .u8 (IntKind.wrap IntKind.u8 (x / 1))]))) = true, decide (q + 1 + 1 ≤ q + 1) = false, decide (List.length (bs ++ [.int .u8 (IntKind.wrap IntKind.u8 (x / 1))]) = (q + 1) * 1) = true, Value.int .i64 (IntKind.wrap .i64 ((↑i : Int) + 1)) = .int .i64 ((↑i : Int) + 1)]) := by kernel_rfl
theorem wr_16 (R : Out) (k_pt : (h0 : x < 0) → Out.le (Out.mk Xt.ret (frOf 92 [(4, .string (ByteArray.mk #[])), (5, .int .i64 5)]) [.own 3 cs] []) R) (k_pft : (h0 : ¬ (x < 0)) → (h1 : x > 65535) → Out.le (Out.mk Xt.ret (frOf 92 [(4, .string (ByteArray.mk #[])), (5, .int .i64 5)]) [.own 3 cs] []) R) (k_pff : (h0 : ¬ (x < 0)) → (h1 : ¬ (x > 65535)) → Out.le (Out.mk Xt.normal (frOf 92 [(0, .int .u8 sn), (1, (zSB 0 n c)), (7, (zSB 1 (q + 1 + 1) (q + 1 + 1))), (28, (zSB 2 m m)), (29, .int .i64 (↑m : Int)), (30, .int .i64 ((↑i : Int) + 1))]) [.own 3 cs, .own 5 (bs ++ [.int .u8 (IntKind.wrap IntKind.u8 (x / 1))] ++ [.int .u8 (x / 256)]), .own 3 es] []) R) : CodeSpec (Try.prog) (1) (lpA) (frA sn n c q m (↑i : Int)) ([.own 3 cs, .own 5 bs, .own 3 es]) R := by
  by_cases h0 : x < 0
  · exact (CodeSpec.id (go_ok (body_ok tnamed tcalm tmixed _ _ _ _ _ _ lpA_calm) (wr_16_pt sn x n c q m i cs bs es hcs hbs hes hq hi hx hw0 hw hv0 hv ) (aC dO (aC (inside_of (by omega)) (aC dO (aC ((by omega)) (aC (hw) (aC (inside_of (by omega)) (aC dO (aC ((by omega)) (aC (hv) (aC (dTq h0) (aC (dTq h0) (aC (dTq h0) (aC (dTq h0) (aC (dTq h0) (aC (dTq h0) (aC (dTq h0) (aC (dTq h0) (aC (dTq h0) (aC (dTq h0) (aC (dTq h0) aN)))))))))))))))))))))).le (k_pt h0)
  · by_cases h1 : x > 65535
    · exact (CodeSpec.id (go_ok (body_ok tnamed tcalm tmixed _ _ _ _ _ _ lpA_calm) (wr_16_pft sn x n c q m i cs bs es hcs hbs hes hq hi hx hw0 hw hv0 hv ) (aC dO (aC (inside_of (by omega)) (aC dO (aC ((by omega)) (aC (hw) (aC (inside_of (by omega)) (aC dO (aC ((by omega)) (aC (hv) (aC (dFq h0) (aC (dFq h0) (aC (dFq h0) (aC (inside_of (by omega)) (aC (dFq h0) (aC dO (aC ((by omega)) (aC (hv) (aC (dFq h0) (aC (dFq h0) (aC (dFq h0) (aC (dFq h0) (aC (dFq h0) (aC (dFq h0) (aC (dFq h0) (aC (dTq h1) aN))))))))))))))))))))))))))).le (k_pft h0 h1)
    · exact (CodeSpec.id (go_ok (body_ok tnamed tcalm tmixed _ _ _ _ _ _ lpA_calm) (wr_16_pff sn x n c q m i cs bs es hcs hbs hes hq hi hx hw0 hw hv0 hv ) (aC dO (aC (inside_of (by omega)) (aC dO (aC ((by omega)) (aC (hw) (aC (inside_of (by omega)) (aC dO (aC ((by omega)) (aC (hv) (aC (dFq h0) (aC (dFq h0) (aC (dFq h0) (aC (inside_of (by omega)) (aC (dFq h0) (aC dO (aC ((by omega)) (aC (hv) (aC (dFq h0) (aC (dFq h0) (aC (dFq h0) (aC (dFq h0) (aC (dFq h0) (aC (dFq h0) (aC (dFq h0) (aC (dFq h1) (aC (inside_of (by omega)) (aC dO (aC ((by omega)) (aC (hv) (aC (congrArg (Value.int _) (Int.fdiv_eq_ediv_of_nonneg _ (by omega))) (aC ((by simp [ByteArray.size_append, ByteArray.size_extract, sz_mk] <;> omega)) (aC dN (aC dO (aC (inside_of (by omega)) (aC dO (aC ((by omega)) (aC (hv) (aC (congrArg (Value.int _) (Int.fdiv_eq_ediv_of_nonneg _ (by omega))) (aC (congrArg (Value.int _) (Go.IntWalk.u8_in _ (by omega))) (aC ((by simp [ByteArray.size_append, ByteArray.size_extract, sz_mk] <;> omega)) (aC dN (aC (dTq (by simp [ByteArray.size_append, ByteArray.size_extract, sz_mk] <;> omega)) (aC (congrArg (Value.int _) (Go.IntWalk.i64_in _ (by omega))) aN))))))))))))))))))))))))))))))))))))))))))))).le (k_pff h0 h1)
end
section
variable (sn x : Int) (n c q m i : Nat) (cs bs es : List Value) (hcs : n ≤ List.length cs) (hbs : List.length bs = q) (hes : List.length es = m) (hq : 1 ≤ q ∧ q ≤ 40) (hi : i < n ∧ i < m ∧ m ≤ 5) (hx : -9223372036854775808 ≤ x ∧ x ≤ 9223372036854775807) (hw0 : isInt .i64 (List.getD es (0 + Int.toNat (↑i : Int) * 1) undef) = true) (hw : Value.int .i64 (intOf (List.getD es (0 + Int.toNat (↑i : Int) * 1) undef)) = .int .i64 (-16)) (hv0 : isInt .i64 (List.getD cs (0 + Int.toNat (↑i : Int) * 1) undef) = true) (hv : Value.int .i64 (intOf (List.getD cs (0 + Int.toNat (↑i : Int) * 1) undef)) = .int .i64 x)
include sn x n c q m i cs bs es hcs hbs hes hq hi hx hw0 hw hv0 hv
theorem wr_m16_pt : go (body (Try.prog) (8) (1) (8) (kA) (lpA) (frA sn n c q m (↑i : Int)) ([.own 3 cs, .own 5 bs, .own 3 es])) [(2, .dec true), (1, Itm.must), (1, Itm.must), (0, Itm.must), (0, Itm.val (.int .i64 (-16))), (22, Itm.must), (1, Itm.must), (0, Itm.must), (0, Itm.val (.int .i64 x)), (3, .dec true), (0, .dec true), (0, .dec true), (0, .dec true), (0, .dec true), (0, .dec true), (0, .dec true), (0, .dec true), (0, .dec true), (0, .dec true), (0, .dec true)] = some (Out.mk Xt.ret (frOf 92 [(4, .string (ByteArray.mk #[])), (5, .int .i64 5)]) [.own 3 cs] [], true, [decide ((↑i : Int) < (↑m : Int)) = true, inside (↑i : Int) m = true, decide (0 + Int.toNat (↑i : Int) * 1 < List.length es) = true, isInt .i64 (List.getD es (0 + Int.toNat (↑i : Int) * 1) undef) = true, type_of% hw, inside (↑i : Int) n = true, decide (0 + Int.toNat (↑i : Int) * 1 < List.length cs) = true, isInt .i64 (List.getD cs (0 + Int.toNat (↑i : Int) * 1) undef) = true, type_of% hv, decide (x < -32768) = true, decide (x < -32768) = true, decide (x < -32768) = true, decide (x < -32768) = true, decide (x < -32768) = true, decide (x < -32768) = true, decide (x < -32768) = true, decide (x < -32768) = true, decide (x < -32768) = true, decide (x < -32768) = true, decide (x < -32768) = true]) := by kernel_rfl
theorem wr_m16_pft : go (body (Try.prog) (8) (1) (8) (kA) (lpA) (frA sn n c q m (↑i : Int)) ([.own 3 cs, .own 5 bs, .own 3 es])) [(2, .dec true), (1, Itm.must), (1, Itm.must), (0, Itm.must), (0, Itm.val (.int .i64 (-16))), (22, Itm.must), (1, Itm.must), (0, Itm.must), (0, Itm.val (.int .i64 x)), (3, .dec false), (1, .dec false), (1, .dec false), (0, Itm.must), (1, .dec false), (0, Itm.must), (0, Itm.must), (0, Itm.val (.int .i64 x)), (0, .dec false), (1, .dec false), (1, .dec false), (2, .dec false), (1, .dec false), (1, .dec false), (1, .dec false), (2, .dec true)] = some (Out.mk Xt.ret (frOf 92 [(4, .string (ByteArray.mk #[])), (5, .int .i64 5)]) [.own 3 cs] [], true, [decide ((↑i : Int) < (↑m : Int)) = true, inside (↑i : Int) m = true, decide (0 + Int.toNat (↑i : Int) * 1 < List.length es) = true, isInt .i64 (List.getD es (0 + Int.toNat (↑i : Int) * 1) undef) = true, type_of% hw, inside (↑i : Int) n = true, decide (0 + Int.toNat (↑i : Int) * 1 < List.length cs) = true, isInt .i64 (List.getD cs (0 + Int.toNat (↑i : Int) * 1) undef) = true, type_of% hv, decide (x < -32768) = false, decide (x < -32768) = false, decide (x < -32768) = false, inside (↑i : Int) n = true, decide (x < -32768) = false, decide (0 + Int.toNat (↑i : Int) * 1 < List.length cs) = true, isInt .i64 (List.getD cs (0 + Int.toNat (↑i : Int) * 1) undef) = true, type_of% hv, decide (x < -32768) = false, decide (x < -32768) = false, decide (x < -32768) = false, decide (x < -32768) = false, decide (x < -32768) = false, decide (x < -32768) = false, decide (x < -32768) = false, decide (x > 32767) = true]) := by kernel_rfl
theorem wr_m16_pff : go (body (Try.prog) (8) (1) (8) (kA) (lpA) (frA sn n c q m (↑i : Int)) ([.own 3 cs, .own 5 bs, .own 3 es])) [(2, .dec true), (1, Itm.must), (1, Itm.must), (0, Itm.must), (0, Itm.val (.int .i64 (-16))), (22, Itm.must), (1, Itm.must), (0, Itm.must), (0, Itm.val (.int .i64 x)), (3, .dec false), (1, .dec false), (1, .dec false), (0, Itm.must), (1, .dec false), (0, Itm.must), (0, Itm.must), (0, Itm.val (.int .i64 x)), (0, .dec false), (1, .dec false), (1, .dec false), (2, .dec false), (1, .dec false), (1, .dec false), (1, .dec false), (2, .dec false), (11, Itm.must), (1, Itm.must), (0, Itm.must), (0, Itm.val (.int .i64 x)), (2, Itm.val (.int .i64 (x / 1))), (8, Itm.must), (0, .dec false), (0, Itm.must), (15, Itm.must), (1, Itm.must), (0, Itm.must), (0, Itm.val (.int .i64 x)), (2, Itm.val (.int .i64 (x / 256))), (8, Itm.must), (0, .dec false), (0, Itm.must), (12, Itm.val (.int .i64 ((↑i : Int) + 1)))] = some (Out.mk Xt.normal (frOf 92 [(0, .int .u8 sn), (1, (zSB 0 n c)), (7, (zSB 1 (q + 1 + 1) (q + 1 + 1))), (28, (zSB 2 m m)), (29, .int .i64 (↑m : Int)), (30, .int .i64 ((↑i : Int) + 1))]) [.own 3 cs, .own 5 (bs ++ [.int .u8 (IntKind.wrap IntKind.u8 (x / 1))] ++ [.int .u8 (IntKind.wrap IntKind.u8 (x / 256))]), .own 3 es] [], true, [decide ((↑i : Int) < (↑m : Int)) = true, inside (↑i : Int) m = true, decide (0 + Int.toNat (↑i : Int) * 1 < List.length es) = true, isInt .i64 (List.getD es (0 + Int.toNat (↑i : Int) * 1) undef) = true, type_of% hw, inside (↑i : Int) n = true, decide (0 + Int.toNat (↑i : Int) * 1 < List.length cs) = true, isInt .i64 (List.getD cs (0 + Int.toNat (↑i : Int) * 1) undef) = true, type_of% hv, decide (x < -32768) = false, decide (x < -32768) = false, decide (x < -32768) = false, inside (↑i : Int) n = true, decide (x < -32768) = false, decide (0 + Int.toNat (↑i : Int) * 1 < List.length cs) = true, isInt .i64 (List.getD cs (0 + Int.toNat (↑i : Int) * 1) undef) = true, type_of% hv, decide (x < -32768) = false, decide (x < -32768) = false, decide (x < -32768) = false, decide (x < -32768) = false, decide (x < -32768) = false, decide (x < -32768) = false, decide (x < -32768) = false, decide (x > 32767) = false, inside (↑i : Int) n = true, decide (0 + Int.toNat (↑i : Int) * 1 < List.length cs) = true, isInt .i64 (List.getD cs (0 + Int.toNat (↑i : Int) * 1) undef) = true, type_of% hv, Value.int .i64 (Int.fdiv x 1) = .int .i64 (x / 1), (true && decide ((q + 1) * 1 ≤ 140737488355328) && decide (q + 1 ≤ 140737488355328) && decide (q * 1 ≤ List.length bs)) = true, decide (q + 1 ≤ q) = false, decide (List.length bs = q * 1) = true, inside (↑i : Int) n = true, decide (0 + Int.toNat (↑i : Int) * 1 < List.length cs) = true, isInt .i64 (List.getD cs (0 + Int.toNat (↑i : Int) * 1) undef) = true, type_of% hv, Value.int .i64 (Int.fdiv x 256) = .int .i64 (x / 256), (true && decide ((q + 1 + 1) * 1 ≤ 140737488355328) && decide (q + 1 + 1 ≤ 140737488355328) && decide ((q + 1) * 1 ≤ List.length (bs ++ [.int .u8 (IntKind.wrap IntKind.u8 (x / 1))]))) = true, decide (q + 1 + 1 ≤ q + 1) = false, decide (List.length (bs ++ [.int .u8 (IntKind.wrap IntKind.u8 (x / 1))]) = (q + 1) * 1) = true, Value.int .i64 (IntKind.wrap .i64 ((↑i : Int) + 1)) = .int .i64 ((↑i : Int) + 1)]) := by kernel_rfl
theorem wr_m16 (R : Out) (k_pt : (h0 : x < -32768) → Out.le (Out.mk Xt.ret (frOf 92 [(4, .string (ByteArray.mk #[])), (5, .int .i64 5)]) [.own 3 cs] []) R) (k_pft : (h0 : ¬ (x < -32768)) → (h1 : x > 32767) → Out.le (Out.mk Xt.ret (frOf 92 [(4, .string (ByteArray.mk #[])), (5, .int .i64 5)]) [.own 3 cs] []) R) (k_pff : (h0 : ¬ (x < -32768)) → (h1 : ¬ (x > 32767)) → Out.le (Out.mk Xt.normal (frOf 92 [(0, .int .u8 sn), (1, (zSB 0 n c)), (7, (zSB 1 (q + 1 + 1) (q + 1 + 1))), (28, (zSB 2 m m)), (29, .int .i64 (↑m : Int)), (30, .int .i64 ((↑i : Int) + 1))]) [.own 3 cs, .own 5 (bs ++ [.int .u8 (IntKind.wrap IntKind.u8 (x / 1))] ++ [.int .u8 (IntKind.wrap IntKind.u8 (x / 256))]), .own 3 es] []) R) : CodeSpec (Try.prog) (1) (lpA) (frA sn n c q m (↑i : Int)) ([.own 3 cs, .own 5 bs, .own 3 es]) R := by
  by_cases h0 : x < -32768
  · exact (CodeSpec.id (go_ok (body_ok tnamed tcalm tmixed _ _ _ _ _ _ lpA_calm) (wr_m16_pt sn x n c q m i cs bs es hcs hbs hes hq hi hx hw0 hw hv0 hv ) (aC dO (aC (inside_of (by omega)) (aC dO (aC ((by omega)) (aC (hw) (aC (inside_of (by omega)) (aC dO (aC ((by omega)) (aC (hv) (aC (dTq h0) (aC (dTq h0) (aC (dTq h0) (aC (dTq h0) (aC (dTq h0) (aC (dTq h0) (aC (dTq h0) (aC (dTq h0) (aC (dTq h0) (aC (dTq h0) (aC (dTq h0) aN)))))))))))))))))))))).le (k_pt h0)
  · by_cases h1 : x > 32767
    · exact (CodeSpec.id (go_ok (body_ok tnamed tcalm tmixed _ _ _ _ _ _ lpA_calm) (wr_m16_pft sn x n c q m i cs bs es hcs hbs hes hq hi hx hw0 hw hv0 hv ) (aC dO (aC (inside_of (by omega)) (aC dO (aC ((by omega)) (aC (hw) (aC (inside_of (by omega)) (aC dO (aC ((by omega)) (aC (hv) (aC (dFq h0) (aC (dFq h0) (aC (dFq h0) (aC (inside_of (by omega)) (aC (dFq h0) (aC dO (aC ((by omega)) (aC (hv) (aC (dFq h0) (aC (dFq h0) (aC (dFq h0) (aC (dFq h0) (aC (dFq h0) (aC (dFq h0) (aC (dFq h0) (aC (dTq h1) aN))))))))))))))))))))))))))).le (k_pft h0 h1)
    · exact (CodeSpec.id (go_ok (body_ok tnamed tcalm tmixed _ _ _ _ _ _ lpA_calm) (wr_m16_pff sn x n c q m i cs bs es hcs hbs hes hq hi hx hw0 hw hv0 hv ) (aC dO (aC (inside_of (by omega)) (aC dO (aC ((by omega)) (aC (hw) (aC (inside_of (by omega)) (aC dO (aC ((by omega)) (aC (hv) (aC (dFq h0) (aC (dFq h0) (aC (dFq h0) (aC (inside_of (by omega)) (aC (dFq h0) (aC dO (aC ((by omega)) (aC (hv) (aC (dFq h0) (aC (dFq h0) (aC (dFq h0) (aC (dFq h0) (aC (dFq h0) (aC (dFq h0) (aC (dFq h0) (aC (dFq h1) (aC (inside_of (by omega)) (aC dO (aC ((by omega)) (aC (hv) (aC (congrArg (Value.int _) (Int.fdiv_eq_ediv_of_nonneg _ (by omega))) (aC ((by simp [ByteArray.size_append, ByteArray.size_extract, sz_mk] <;> omega)) (aC dN (aC dO (aC (inside_of (by omega)) (aC dO (aC ((by omega)) (aC (hv) (aC (congrArg (Value.int _) (Int.fdiv_eq_ediv_of_nonneg _ (by omega))) (aC ((by simp [ByteArray.size_append, ByteArray.size_extract, sz_mk] <;> omega)) (aC dN (aC (dTq (by simp [ByteArray.size_append, ByteArray.size_extract, sz_mk] <;> omega)) (aC (congrArg (Value.int _) (Go.IntWalk.i64_in _ (by omega))) aN)))))))))))))))))))))))))))))))))))))))))))).le (k_pff h0 h1)
end
section
variable (sn x : Int) (n c q m i : Nat) (cs bs es : List Value) (hcs : n ≤ List.length cs) (hbs : List.length bs = q) (hes : List.length es = m) (hq : 1 ≤ q ∧ q ≤ 40) (hi : i < n ∧ i < m ∧ m ≤ 5) (hx : -9223372036854775808 ≤ x ∧ x ≤ 9223372036854775807) (hw0 : isInt .i64 (List.getD es (0 + Int.toNat (↑i : Int) * 1) undef) = true) (hw : Value.int .i64 (intOf (List.getD es (0 + Int.toNat (↑i : Int) * 1) undef)) = .int .i64 (-32)) (hv0 : isInt .i64 (List.getD cs (0 + Int.toNat (↑i : Int) * 1) undef) = true) (hv : Value.int .i64 (intOf (List.getD cs (0 + Int.toNat (↑i : Int) * 1) undef)) = .int .i64 x)
include sn x n c q m i cs bs es hcs hbs hes hq hi hx hw0 hw hv0 hv
theorem wr_m32_pt : go (body (Try.prog) (8) (1) (8) (kA) (lpA) (frA sn n c q m (↑i : Int)) ([.own 3 cs, .own 5 bs, .own 3 es])) [(2, .dec true), (1, Itm.must), (1, Itm.must), (0, Itm.must), (0, Itm.val (.int .i64 (-32))), (22, Itm.must), (1, Itm.must), (0, Itm.must), (0, Itm.val (.int .i64 x)), (3, .dec true), (0, .dec true), (0, .dec true), (0, .dec true), (0, .dec true), (0, .dec true), (0, .dec true), (0, .dec true), (0, .dec true), (0, .dec true), (0, .dec true)] = some (Out.mk Xt.ret (frOf 92 [(4, .string (ByteArray.mk #[])), (5, .int .i64 5)]) [.own 3 cs] [], true, [decide ((↑i : Int) < (↑m : Int)) = true, inside (↑i : Int) m = true, decide (0 + Int.toNat (↑i : Int) * 1 < List.length es) = true, isInt .i64 (List.getD es (0 + Int.toNat (↑i : Int) * 1) undef) = true, type_of% hw, inside (↑i : Int) n = true, decide (0 + Int.toNat (↑i : Int) * 1 < List.length cs) = true, isInt .i64 (List.getD cs (0 + Int.toNat (↑i : Int) * 1) undef) = true, type_of% hv, decide (x < -2147483648) = true, decide (x < -2147483648) = true, decide (x < -2147483648) = true, decide (x < -2147483648) = true, decide (x < -2147483648) = true, decide (x < -2147483648) = true, decide (x < -2147483648) = true, decide (x < -2147483648) = true, decide (x < -2147483648) = true, decide (x < -2147483648) = true, decide (x < -2147483648) = true]) := by kernel_rfl
theorem wr_m32_pft : go (body (Try.prog) (8) (1) (8) (kA) (lpA) (frA sn n c q m (↑i : Int)) ([.own 3 cs, .own 5 bs, .own 3 es])) [(2, .dec true), (1, Itm.must), (1, Itm.must), (0, Itm.must), (0, Itm.val (.int .i64 (-32))), (22, Itm.must), (1, Itm.must), (0, Itm.must), (0, Itm.val (.int .i64 x)), (3, .dec false), (1, .dec false), (1, .dec false), (0, Itm.must), (1, .dec false), (0, Itm.must), (0, Itm.must), (0, Itm.val (.int .i64 x)), (0, .dec false), (1, .dec false), (1, .dec false), (2, .dec false), (1, .dec false), (1, .dec false), (1, .dec false), (2, .dec true)] = some (Out.mk Xt.ret (frOf 92 [(4, .string (ByteArray.mk #[])), (5, .int .i64 5)]) [.own 3 cs] [], true, [decide ((↑i : Int) < (↑m : Int)) = true, inside (↑i : Int) m = true, decide (0 + Int.toNat (↑i : Int) * 1 < List.length es) = true, isInt .i64 (List.getD es (0 + Int.toNat (↑i : Int) * 1) undef) = true, type_of% hw, inside (↑i : Int) n = true, decide (0 + Int.toNat (↑i : Int) * 1 < List.length cs) = true, isInt .i64 (List.getD cs (0 + Int.toNat (↑i : Int) * 1) undef) = true, type_of% hv, decide (x < -2147483648) = false, decide (x < -2147483648) = false, decide (x < -2147483648) = false, inside (↑i : Int) n = true, decide (x < -2147483648) = false, decide (0 + Int.toNat (↑i : Int) * 1 < List.length cs) = true, isInt .i64 (List.getD cs (0 + Int.toNat (↑i : Int) * 1) undef) = true, type_of% hv, decide (x < -2147483648) = false, decide (x < -2147483648) = false, decide (x < -2147483648) = false, decide (x < -2147483648) = false, decide (x < -2147483648) = false, decide (x < -2147483648) = false, decide (x < -2147483648) = false, decide (x > 2147483647) = true]) := by kernel_rfl
theorem wr_m32_pff : go (body (Try.prog) (8) (1) (8) (kA) (lpA) (frA sn n c q m (↑i : Int)) ([.own 3 cs, .own 5 bs, .own 3 es])) [(2, .dec true), (1, Itm.must), (1, Itm.must), (0, Itm.must), (0, Itm.val (.int .i64 (-32))), (22, Itm.must), (1, Itm.must), (0, Itm.must), (0, Itm.val (.int .i64 x)), (3, .dec false), (1, .dec false), (1, .dec false), (0, Itm.must), (1, .dec false), (0, Itm.must), (0, Itm.must), (0, Itm.val (.int .i64 x)), (0, .dec false), (1, .dec false), (1, .dec false), (2, .dec false), (1, .dec false), (1, .dec false), (1, .dec false), (2, .dec false), (11, Itm.must), (1, Itm.must), (0, Itm.must), (0, Itm.val (.int .i64 x)), (2, Itm.val (.int .i64 (x / 1))), (8, Itm.must), (0, .dec false), (0, Itm.must), (15, Itm.must), (1, Itm.must), (0, Itm.must), (0, Itm.val (.int .i64 x)), (2, Itm.val (.int .i64 (x / 256))), (8, Itm.must), (0, .dec false), (0, Itm.must), (15, Itm.must), (1, Itm.must), (0, Itm.must), (0, Itm.val (.int .i64 x)), (2, Itm.val (.int .i64 (x / 65536))), (8, Itm.must), (0, .dec false), (0, Itm.must), (15, Itm.must), (1, Itm.must), (0, Itm.must), (0, Itm.val (.int .i64 x)), (2, Itm.val (.int .i64 (x / 16777216))), (8, Itm.must), (0, .dec false), (0, Itm.must), (12, Itm.val (.int .i64 ((↑i : Int) + 1)))] = some (Out.mk Xt.normal (frOf 92 [(0, .int .u8 sn), (1, (zSB 0 n c)), (7, (zSB 1 (q + 1 + 1 + 1 + 1) (q + 1 + 1 + 1 + 1))), (28, (zSB 2 m m)), (29, .int .i64 (↑m : Int)), (30, .int .i64 ((↑i : Int) + 1))]) [.own 3 cs, .own 5 (bs ++ [.int .u8 (IntKind.wrap IntKind.u8 (x / 1))] ++ [.int .u8 (IntKind.wrap IntKind.u8 (x / 256))] ++ [.int .u8 (IntKind.wrap IntKind.u8 (x / 65536))] ++ [.int .u8 (IntKind.wrap IntKind.u8 (x / 16777216))]), .own 3 es] [], true, [decide ((↑i : Int) < (↑m : Int)) = true, inside (↑i : Int) m = true, decide (0 + Int.toNat (↑i : Int) * 1 < List.length es) = true, isInt .i64 (List.getD es (0 + Int.toNat (↑i : Int) * 1) undef) = true, type_of% hw, inside (↑i : Int) n = true, decide (0 + Int.toNat (↑i : Int) * 1 < List.length cs) = true, isInt .i64 (List.getD cs (0 + Int.toNat (↑i : Int) * 1) undef) = true, type_of% hv, decide (x < -2147483648) = false, decide (x < -2147483648) = false, decide (x < -2147483648) = false, inside (↑i : Int) n = true, decide (x < -2147483648) = false, decide (0 + Int.toNat (↑i : Int) * 1 < List.length cs) = true, isInt .i64 (List.getD cs (0 + Int.toNat (↑i : Int) * 1) undef) = true, type_of% hv, decide (x < -2147483648) = false, decide (x < -2147483648) = false, decide (x < -2147483648) = false, decide (x < -2147483648) = false, decide (x < -2147483648) = false, decide (x < -2147483648) = false, decide (x < -2147483648) = false, decide (x > 2147483647) = false, inside (↑i : Int) n = true, decide (0 + Int.toNat (↑i : Int) * 1 < List.length cs) = true, isInt .i64 (List.getD cs (0 + Int.toNat (↑i : Int) * 1) undef) = true, type_of% hv, Value.int .i64 (Int.fdiv x 1) = .int .i64 (x / 1), (true && decide ((q + 1) * 1 ≤ 140737488355328) && decide (q + 1 ≤ 140737488355328) && decide (q * 1 ≤ List.length bs)) = true, decide (q + 1 ≤ q) = false, decide (List.length bs = q * 1) = true, inside (↑i : Int) n = true, decide (0 + Int.toNat (↑i : Int) * 1 < List.length cs) = true, isInt .i64 (List.getD cs (0 + Int.toNat (↑i : Int) * 1) undef) = true, type_of% hv, Value.int .i64 (Int.fdiv x 256) = .int .i64 (x / 256), (true && decide ((q + 1 + 1) * 1 ≤ 140737488355328) && decide (q + 1 + 1 ≤ 140737488355328) && decide ((q + 1) * 1 ≤ List.length (bs ++ [.int .u8 (IntKind.wrap IntKind.u8 (x / 1))]))) = true, decide (q + 1 + 1 ≤ q + 1) = false, decide (List.length (bs ++ [.int .u8 (IntKind.wrap IntKind.u8 (x / 1))]) = (q + 1) * 1) = true, inside (↑i : Int) n = true, decide (0 + Int.toNat (↑i : Int) * 1 < List.length cs) = true, isInt .i64 (List.getD cs (0 + Int.toNat (↑i : Int) * 1) undef) = true, type_of% hv, Value.int .i64 (Int.fdiv x 65536) = .int .i64 (x / 65536), (true && decide ((q + 1 + 1 + 1) * 1 ≤ 140737488355328) && decide (q + 1 + 1 + 1 ≤ 140737488355328) && decide ((q + 1 + 1) * 1 ≤ List.length (bs ++ [.int .u8 (IntKind.wrap IntKind.u8 (x / 1))] ++ [.int .u8 (IntKind.wrap IntKind.u8 (x / 256))]))) = true, decide (q + 1 + 1 + 1 ≤ q + 1 + 1) = false, decide (List.length (bs ++ [.int .u8 (IntKind.wrap IntKind.u8 (x / 1))] ++ [.int .u8 (IntKind.wrap IntKind.u8 (x / 256))]) = (q + 1 + 1) * 1) = true, inside (↑i : Int) n = true, decide (0 + Int.toNat (↑i : Int) * 1 < List.length cs) = true, isInt .i64 (List.getD cs (0 + Int.toNat (↑i : Int) * 1) undef) = true, type_of% hv, Value.int .i64 (Int.fdiv x 16777216) = .int .i64 (x / 16777216), (true && decide ((q + 1 + 1 + 1 + 1) * 1 ≤ 140737488355328) && decide (q + 1 + 1 + 1 + 1 ≤ 140737488355328) && decide ((q + 1 + 1 + 1) * 1 ≤ List.length (bs ++ [.int .u8 (IntKind.wrap IntKind.u8 (x / 1))] ++ [.int .u8 (IntKind.wrap IntKind.u8 (x / 256))] ++ [.int .u8 (IntKind.wrap IntKind.u8 (x / 65536))]))) = true, decide (q + 1 + 1 + 1 + 1 ≤ q + 1 + 1 + 1) = false, decide (List.length (bs ++ [.int .u8 (IntKind.wrap IntKind.u8 (x / 1))] ++ [.int .u8 (IntKind.wrap IntKind.u8 (x / 256))] ++ [.int .u8 (IntKind.wrap IntKind.u8 (x / 65536))]) = (q + 1 + 1 + 1) * 1) = true, Value.int .i64 (IntKind.wrap .i64 ((↑i : Int) + 1)) = .int .i64 ((↑i : Int) + 1)]) := by kernel_rfl
theorem wr_m32 (R : Out) (k_pt : (h0 : x < -2147483648) → Out.le (Out.mk Xt.ret (frOf 92 [(4, .string (ByteArray.mk #[])), (5, .int .i64 5)]) [.own 3 cs] []) R) (k_pft : (h0 : ¬ (x < -2147483648)) → (h1 : x > 2147483647) → Out.le (Out.mk Xt.ret (frOf 92 [(4, .string (ByteArray.mk #[])), (5, .int .i64 5)]) [.own 3 cs] []) R) (k_pff : (h0 : ¬ (x < -2147483648)) → (h1 : ¬ (x > 2147483647)) → Out.le (Out.mk Xt.normal (frOf 92 [(0, .int .u8 sn), (1, (zSB 0 n c)), (7, (zSB 1 (q + 1 + 1 + 1 + 1) (q + 1 + 1 + 1 + 1))), (28, (zSB 2 m m)), (29, .int .i64 (↑m : Int)), (30, .int .i64 ((↑i : Int) + 1))]) [.own 3 cs, .own 5 (bs ++ [.int .u8 (IntKind.wrap IntKind.u8 (x / 1))] ++ [.int .u8 (IntKind.wrap IntKind.u8 (x / 256))] ++ [.int .u8 (IntKind.wrap IntKind.u8 (x / 65536))] ++ [.int .u8 (IntKind.wrap IntKind.u8 (x / 16777216))]), .own 3 es] []) R) : CodeSpec (Try.prog) (1) (lpA) (frA sn n c q m (↑i : Int)) ([.own 3 cs, .own 5 bs, .own 3 es]) R := by
  by_cases h0 : x < -2147483648
  · exact (CodeSpec.id (go_ok (body_ok tnamed tcalm tmixed _ _ _ _ _ _ lpA_calm) (wr_m32_pt sn x n c q m i cs bs es hcs hbs hes hq hi hx hw0 hw hv0 hv ) (aC dO (aC (inside_of (by omega)) (aC dO (aC ((by omega)) (aC (hw) (aC (inside_of (by omega)) (aC dO (aC ((by omega)) (aC (hv) (aC (dTq h0) (aC (dTq h0) (aC (dTq h0) (aC (dTq h0) (aC (dTq h0) (aC (dTq h0) (aC (dTq h0) (aC (dTq h0) (aC (dTq h0) (aC (dTq h0) (aC (dTq h0) aN)))))))))))))))))))))).le (k_pt h0)
  · by_cases h1 : x > 2147483647
    · exact (CodeSpec.id (go_ok (body_ok tnamed tcalm tmixed _ _ _ _ _ _ lpA_calm) (wr_m32_pft sn x n c q m i cs bs es hcs hbs hes hq hi hx hw0 hw hv0 hv ) (aC dO (aC (inside_of (by omega)) (aC dO (aC ((by omega)) (aC (hw) (aC (inside_of (by omega)) (aC dO (aC ((by omega)) (aC (hv) (aC (dFq h0) (aC (dFq h0) (aC (dFq h0) (aC (inside_of (by omega)) (aC (dFq h0) (aC dO (aC ((by omega)) (aC (hv) (aC (dFq h0) (aC (dFq h0) (aC (dFq h0) (aC (dFq h0) (aC (dFq h0) (aC (dFq h0) (aC (dFq h0) (aC (dTq h1) aN))))))))))))))))))))))))))).le (k_pft h0 h1)
    · exact (CodeSpec.id (go_ok (body_ok tnamed tcalm tmixed _ _ _ _ _ _ lpA_calm) (wr_m32_pff sn x n c q m i cs bs es hcs hbs hes hq hi hx hw0 hw hv0 hv ) (aC dO (aC (inside_of (by omega)) (aC dO (aC ((by omega)) (aC (hw) (aC (inside_of (by omega)) (aC dO (aC ((by omega)) (aC (hv) (aC (dFq h0) (aC (dFq h0) (aC (dFq h0) (aC (inside_of (by omega)) (aC (dFq h0) (aC dO (aC ((by omega)) (aC (hv) (aC (dFq h0) (aC (dFq h0) (aC (dFq h0) (aC (dFq h0) (aC (dFq h0) (aC (dFq h0) (aC (dFq h0) (aC (dFq h1) (aC (inside_of (by omega)) (aC dO (aC ((by omega)) (aC (hv) (aC (congrArg (Value.int _) (Int.fdiv_eq_ediv_of_nonneg _ (by omega))) (aC ((by simp [ByteArray.size_append, ByteArray.size_extract, sz_mk] <;> omega)) (aC dN (aC dO (aC (inside_of (by omega)) (aC dO (aC ((by omega)) (aC (hv) (aC (congrArg (Value.int _) (Int.fdiv_eq_ediv_of_nonneg _ (by omega))) (aC ((by simp [ByteArray.size_append, ByteArray.size_extract, sz_mk] <;> omega)) (aC dN (aC (dTq (by simp [ByteArray.size_append, ByteArray.size_extract, sz_mk] <;> omega)) (aC (inside_of (by omega)) (aC dO (aC ((by omega)) (aC (hv) (aC (congrArg (Value.int _) (Int.fdiv_eq_ediv_of_nonneg _ (by omega))) (aC ((by simp [ByteArray.size_append, ByteArray.size_extract, sz_mk] <;> omega)) (aC dN (aC (dTq (by simp [ByteArray.size_append, ByteArray.size_extract, sz_mk] <;> omega)) (aC (inside_of (by omega)) (aC dO (aC ((by omega)) (aC (hv) (aC (congrArg (Value.int _) (Int.fdiv_eq_ediv_of_nonneg _ (by omega))) (aC ((by simp [ByteArray.size_append, ByteArray.size_extract, sz_mk] <;> omega)) (aC dN (aC (dTq (by simp [ByteArray.size_append, ByteArray.size_extract, sz_mk] <;> omega)) (aC (congrArg (Value.int _) (Go.IntWalk.i64_in _ (by omega))) aN)))))))))))))))))))))))))))))))))))))))))))))))))))))))))))).le (k_pff h0 h1)
end
section
variable (sn : Int) (n c q m : Nat) (cs bs es : List Value) (hes : List.length es = m)
include sn n c q m cs bs es hes
theorem wr_end_p : go (body (Try.prog) (8) (1) (8) (kA) (lpA) (frA sn n c q m (↑m : Int)) ([.own 3 cs, .own 5 bs, .own 3 es])) [(2, .dec false)] = some (Out.mk (Xt.exit 1) (frOf 92 [(0, .int .u8 sn), (1, (zSB 0 n c)), (7, (zSB 1 q q)), (28, (zSB 2 m m)), (29, .int .i64 (↑m : Int)), (30, .int .i64 (↑m : Int))]) [.own 3 cs, .own 5 bs, .own 3 es] [], true, [decide ((↑m : Int) < (↑m : Int)) = false]) := by kernel_rfl
theorem wr_end (R : Out) (k_p : Out.le (Out.mk (Xt.exit 1) (frOf 92 [(0, .int .u8 sn), (1, (zSB 0 n c)), (7, (zSB 1 q q)), (28, (zSB 2 m m)), (29, .int .i64 (↑m : Int)), (30, .int .i64 (↑m : Int))]) [.own 3 cs, .own 5 bs, .own 3 es] []) R) : CodeSpec (Try.prog) (1) (lpA) (frA sn n c q m (↑m : Int)) ([.own 3 cs, .own 5 bs, .own 3 es]) R := by
  exact (CodeSpec.id (go_ok (body_ok tnamed tcalm tmixed _ _ _ _ _ _ lpA_calm) (wr_end_p sn n c q m cs bs es hes ) (aC dN aN))).le (k_p )
end
end Go.Proofs.Ytbolppjlaipfjaa.Ex
end
section
set_option linter.unusedSectionVars false
set_option linter.unusedSimpArgs false
set_option linter.unusedVariables false
namespace Go.Proofs.Ytbolppjlaipfjaa.Ex
open Go
set_option linter.unusedVariables false
def loW (w : Int) : Int := if w < 0 then -(256 ^ wB w / 2) else 0
def hiW (w : Int) : Int := if w < 0 then 256 ^ wB w / 2 - 1 else 256 ^ wB w - 1
def okX (w x : Int) : Prop := loW w ≤ x ∧ x ≤ hiW w
instance (w x : Int) : Decidable (okX w x) := inferInstanceAs (Decidable (loW w ≤ x ∧ x ≤ hiW w))
def byW (w x : Int) : List Int := (List.range (wB w)).map fun j => x / 256 ^ j % 256
def uB (l : List Int) : List Value := l.map fun b => .int .u8 b
theorem uB_len (l : List Int) : (uB l).length = l.length := by unfold uB; rw [List.length_map]
theorem uB_app (a b : List Int) : uB (a ++ b) = uB a ++ uB b := by unfold uB; rw [List.map_append]
def wrF : List Int → List Int → Option (List Int)
  | [], _ => some []
  | _ :: _, [] => none
  | w :: ws, x :: xs => if okX w x then (wrF ws xs).map (byW w x ++ ·) else none
def i64 (x : Int) : Prop := -9223372036854775808 ≤ x ∧ x ≤ 9223372036854775807
theorem wrap8 (n : Int) : IntKind.wrap .u8 n = n % 256 := IntKind.wrap_u8 n
theorem wr_round (sn x w : Int) (n c q m i : Nat) (cs bs es : List Value) (hcs : n ≤ cs.length) (hbs : bs.length = q) (hes : es.length = m) (hq : 1 ≤ q ∧ q ≤ 40) (hi : i < n ∧ i < m ∧ m ≤ 5) (hx : i64 x) (hwk : okW w)
    (hw : List.getD es i undef = .int .i64 w) (hv : List.getD cs i undef = .int .i64 x) :
    (okX w x → CodeSpec Try.prog 1 lpA (frA sn n c q m i) [.own 3 cs, .own 5 bs, .own 3 es] ⟨.normal, frA sn n c (q + wB w) m (i + 1 : Nat), [.own 3 cs, .own 5 (bs ++ uB (byW w x)), .own 3 es], []⟩) ∧
    (¬ okX w x → CodeSpec Try.prog 1 lpA (frA sn n c q m i) [.own 3 cs, .own 5 bs, .own 3 es] ⟨.ret, frOf 92 [(4, .string ⟨#[]⟩), (5, .int .i64 5)], [.own 3 cs], []⟩) := by
  have ei : 0 + Int.toNat (i : Int) * 1 = i := by omega
  have w1 : isInt .i64 (List.getD es (0 + Int.toNat (i : Int) * 1) undef) = true := by rw [ei, hw]; rfl
  have w2 : Value.int .i64 (intOf (List.getD es (0 + Int.toNat (i : Int) * 1) undef)) = .int .i64 w := by rw [ei, hw]; rfl
  have v1 : isInt .i64 (List.getD cs (0 + Int.toNat (i : Int) * 1) undef) = true := by rw [ei, hv]; rfl
  have v2 : Value.int .i64 (intOf (List.getD cs (0 + Int.toNat (i : Int) * 1) undef)) = .int .i64 x := by rw [ei, hv]; rfl
  rcases hwk with rfl | rfl | rfl | rfl
  · have e : okX 8 x ↔ (0 ≤ x ∧ x ≤ 255) := Iff.rfl
    have eb : byW 8 x = [x / 1 % 256] := rfl
    refine ⟨fun h => ?_, fun h => ?_⟩
    · have h := e.1 h
      refine wr_8 sn x n c q m i cs bs es hcs hbs hes hq hi hx w1 w2 v1 v2 _ (fun h0 => absurd h0 (by omega)) (fun _ h1 => absurd h1 (by omega)) (fun _ _ => ⟨rfl, rfl, ?_, fun j hj => hj⟩)
      have e1 : x / 1 % 256 = x / 1 := by omega
      rw [eb, e1]
      rfl
    · exact wr_8 sn x n c q m i cs bs es hcs hbs hes hq hi hx w1 w2 v1 v2 _ (fun _ => out_refl) (fun _ _ => out_refl) (fun h0 h1 => absurd (e.2 ⟨by omega, by omega⟩) h)
  · have e : okX 16 x ↔ (0 ≤ x ∧ x ≤ 65535) := Iff.rfl
    have eb : byW 16 x = [x / 1 % 256, x / 256 % 256] := rfl
    refine ⟨fun h => ?_, fun h => ?_⟩
    · have h := e.1 h
      refine wr_16 sn x n c q m i cs bs es hcs hbs hes hq hi hx w1 w2 v1 v2 _ (fun h0 => absurd h0 (by omega)) (fun _ h1 => absurd h1 (by omega)) (fun _ _ => ⟨rfl, rfl, ?_, fun j hj => hj⟩)
      have e1 : x / 256 % 256 = x / 256 := by omega
      rw [eb, e1]
      show [_, _, _] = [_, _, _]
      rw [wrap8, List.append_assoc]
      rfl
    · exact wr_16 sn x n c q m i cs bs es hcs hbs hes hq hi hx w1 w2 v1 v2 _ (fun _ => out_refl) (fun _ _ => out_refl) (fun h0 h1 => absurd (e.2 ⟨by omega, by omega⟩) h)
  · have e : okX (-16) x ↔ (-32768 ≤ x ∧ x ≤ 32767) := Iff.rfl
    have eb : byW (-16) x = [x / 1 % 256, x / 256 % 256] := rfl
    refine ⟨fun h => ?_, fun h => ?_⟩
    · have h := e.1 h
      refine wr_m16 sn x n c q m i cs bs es hcs hbs hes hq hi hx w1 w2 v1 v2 _ (fun h0 => absurd h0 (by omega)) (fun _ h1 => absurd h1 (by omega)) (fun _ _ => ⟨rfl, rfl, ?_, fun j hj => hj⟩)
      rw [eb]
      show [_, _, _] = [_, _, _]
      rw [wrap8, wrap8, List.append_assoc]
      rfl
    · exact wr_m16 sn x n c q m i cs bs es hcs hbs hes hq hi hx w1 w2 v1 v2 _ (fun _ => out_refl) (fun _ _ => out_refl) (fun h0 h1 => absurd (e.2 ⟨by omega, by omega⟩) h)
  · have e : okX (-32) x ↔ (-2147483648 ≤ x ∧ x ≤ 2147483647) := Iff.rfl
    have eb : byW (-32) x = [x / 1 % 256, x / 256 % 256, x / 65536 % 256, x / 16777216 % 256] := rfl
    refine ⟨fun h => ?_, fun h => ?_⟩
    · have h := e.1 h
      refine wr_m32 sn x n c q m i cs bs es hcs hbs hes hq hi hx w1 w2 v1 v2 _ (fun h0 => absurd h0 (by omega)) (fun _ h1 => absurd h1 (by omega)) (fun _ _ => ⟨rfl, rfl, ?_, fun j hj => hj⟩)
      rw [eb]
      show [_, _, _] = [_, _, _]
      rw [wrap8, wrap8, wrap8, wrap8, List.append_assoc, List.append_assoc, List.append_assoc]
      rfl
    · exact wr_m32 sn x n c q m i cs bs es hcs hbs hes hq hi hx w1 w2 v1 v2 _ (fun _ => out_refl) (fun _ _ => out_refl) (fun h0 h1 => absurd (e.2 ⟨by omega, by omega⟩) h)
theorem iW_getD (a b : List Int) (w : Int) (ex : List Value) : List.getD (iW (a ++ w :: b) ++ ex) a.length undef = .int .i64 w := by
  rw [iW_app, List.getD_eq_getElem?_getD, List.getElem?_append_left (by simp [iW_len, iW]), List.getElem?_append_right (by rw [iW_len]; omega), iW_len]
  simp [iW]
theorem byW_len (w x : Int) : (byW w x).length = wB w := by unfold byW; rw [List.length_map, List.length_range]
theorem wr_loop (sn : Int) (c : Nat) (ex : List Value) : ∀ (ws dw xs dx : List Int) (bs : List Int), dw.length = dx.length → ws.length = xs.length → (dw ++ ws).length ≤ 5 → (∀ w ∈ ws, okW w) → (∀ x ∈ xs, i64 x) → 1 ≤ bs.length → bs.length + sumW ws ≤ 30 →
    LoopSpec Try.prog 1 lpA (frA sn (dx ++ xs).length c bs.length (dw ++ ws).length (dw.length : Nat)) [.own 3 (iW (dx ++ xs) ++ ex), .own 5 (uB bs), .own 3 (iW (dw ++ ws))]
      (match wrF ws xs with
      | none => ⟨.ret, frOf 92 [(4, .string ⟨#[]⟩), (5, .int .i64 5)], [.own 3 (iW (dx ++ xs) ++ ex)], []⟩
      | some l => ⟨.exit 1, frA sn (dx ++ xs).length c (bs ++ l).length (dw ++ ws).length ((dw ++ ws).length : Nat), [.own 3 (iW (dx ++ xs) ++ ex), .own 5 (uB (bs ++ l)), .own 3 (iW (dw ++ ws))], []⟩)
  | [], dw, [], dx, bs, hd, hl, h5, hw, hx, hb, hs => by
    rw [wrF]
    simp only [List.append_nil]
    refine .last (wr_end sn dx.length c bs.length dw.length _ _ _ (iW_len _) _ out_refl) (by intro h; cases h)
  | [], _, _ :: _, _, _, _, hl, _, _, _, _, _ => by simp at hl
  | _ :: _, _, [], _, _, _, hl, _, _, _, _, _ => by simp at hl
  | w :: ws, dw, x :: xs, dx, bs, hd, hl, h5, hw, hx, hb, hs => by
    rw [sumW] at hs
    have hl1 : (dw ++ w :: ws).length = dw.length + 1 + ws.length := by simp; omega
    have hl2 : (dx ++ x :: xs).length = dx.length + 1 + xs.length := by simp; omega
    have hR := wr_round sn x w (dx ++ x :: xs).length c bs.length (dw ++ w :: ws).length dw.length (iW (dx ++ x :: xs) ++ ex) (uB bs) (iW (dw ++ w :: ws)) (by have h1 := iW_len (dx ++ x :: xs); have h2 : (iW (dx ++ x :: xs) ++ ex).length = (iW (dx ++ x :: xs)).length + ex.length := List.length_append; omega) (uB_len _) (iW_len _) ⟨hb, by omega⟩ ⟨by omega, by omega, h5⟩ (hx x (by simp)) (hw w (by simp))
      (by have := iW_getD dw ws w []; rwa [List.append_nil] at this) (by rw [hd]; exact iW_getD dx xs x ex)
    rw [wrF]
    by_cases hk : okX w x
    · rw [if_pos hk]
      have ih := wr_loop sn c ex ws (dw ++ [w]) xs (dx ++ [x]) (bs ++ byW w x) (by simp [hd]) (by simpa using hl) (by simpa using h5) (fun u hu => hw u (by simp [hu])) (fun u hu => hx u (by simp [hu])) (by rw [List.length_append]; omega) (by rw [List.length_append, byW_len]; omega)
      rw [List.append_assoc, List.singleton_append, List.append_assoc, List.singleton_append, uB_app, show (bs ++ byW w x).length = bs.length + wB w by rw [List.length_append, byW_len]] at ih
      have e1 : (((dw ++ [w]).length : Nat) : Int) = ((dw.length + 1 : Nat) : Int) := by simp
      rw [e1] at ih
      refine .more (hR.1 hk) rfl ?_ (fun j hj _ => by cases hj)
      cases hF : wrF ws xs with
      | none => rw [hF] at ih; exact ih
      | some l => rw [hF] at ih; simp only [Option.map_some, ← List.append_assoc]; exact ih
    · rw [if_neg hk]
      exact .last (hR.2 hk) (by intro h; cases h)
end Go.Proofs.Ytbolppjlaipfjaa.Ex
end
section
set_option linter.unusedSectionVars false
set_option linter.unusedSimpArgs false
set_option linter.unusedVariables false
namespace Go.Proofs.Ytbolppjlaipfjaa.Ex
open Go
set_option linter.unusedVariables false
def strB (bs : List Value) : ByteArray := ⟨(bs.map unbyte).toArray⟩
section
variable (sn : Int) (n c : Nat) (cs : List Value) (hW : CallSpec Try.prog 20 [.int .u8 sn] [] (.mk slN [] []))
include sn n c cs hW
theorem wrt_0s_p : go (exec (Try.prog) (8) (15) ([.int .u8 sn, slB 0 n c]) ([.own 3 cs])) [(5, .call (.mk (zSN) [] []))] = some (.mk (.tuple #[.string (ByteArray.mk #[]), .int .i64 6]) [.own 3 cs] [], true, [type_of% hW]) := by kernel_rfl
theorem wrt_0s (R : Res) (k_p : Res.le (.mk (.tuple #[.string (ByteArray.mk #[]), .int .i64 6]) [.own 3 cs] []) R) : CallSpec (Try.prog) (15) ([.int .u8 sn, slB 0 n c]) ([.own 3 cs]) R := by
  exact (CallSpec.id (go_ok (exec_ok tnamed tcalm tmixed _ _ _ _) (wrt_0s_p sn n c cs hW ) (aC (hW) aN))).le (k_p )
end
section
variable (sn : Int) (n c m : Nat) (cs es : List Value) (hm : 1 ≤ m) (hn : ¬m = n) (hW : CallSpec Try.prog 20 [.int .u8 sn] [] (.mk (slB 0 m m) [.own 3 es] []))
include sn n c m cs es hm hn hW
theorem wrt_cs_p : go (exec (Try.prog) (8) (15) ([.int .u8 sn, slB 0 n c]) ([.own 3 cs])) [(5, .call (.mk ((zSB 0 m m)) [.own 3 es] [])), (9, .dec false), (7, .dec true)] = some (.mk (.tuple #[.string (ByteArray.mk #[]), .int .i64 50]) [.own 3 cs] [], true, [type_of% hW, decide ((↑m : Int) = 0) = false, (!decide ((↑m : Int) = (↑n : Int))) = true]) := by kernel_rfl
theorem wrt_cs (R : Res) (k_p : Res.le (.mk (.tuple #[.string (ByteArray.mk #[]), .int .i64 50]) [.own 3 cs] []) R) : CallSpec (Try.prog) (15) ([.int .u8 sn, slB 0 n c]) ([.own 3 cs]) R := by
  exact (CallSpec.id (go_ok (exec_ok tnamed tcalm tmixed _ _ _ _) (wrt_cs_p sn n c m cs es hm hn hW ) (aC (hW) (aC dN (aC (congrArg not dN) aN))))).le (k_p )
end
section
variable (sn : Int) (m c : Nat) (cs es : List Value) (hm : 1 ≤ m) (hW : CallSpec Try.prog 20 [.int .u8 sn] [] (.mk (slB 0 m m) [.own 3 es] [])) (kL : CodeSpec Try.prog 1 lpAC (frA sn m c 1 m 0) [.own 3 cs, .own 5 [.int .u8 sn], .own 3 es] (Out.mk Xt.ret (frOf 92 [(4, .string (ByteArray.mk #[])), (5, .int .i64 5)]) [.own 3 cs] []))
include sn m c cs es hm hW kL
theorem wrt_e_p : go (exec (Try.prog) (8) (15) ([.int .u8 sn, slB 0 m c]) ([.own 3 cs])) [(5, .call (.mk ((zSB 0 m m)) [.own 3 es] [])), (9, .dec false), (7, .dec false), (12, Itm.loop [0, 1, 7, 28, 29, 30] (Out.mk Xt.ret (frOf 92 [(4, .string (ByteArray.mk #[])), (5, .int .i64 5)]) [.own 3 cs] []))] = some (.mk (.tuple #[.string (ByteArray.mk #[]), .int .i64 5]) [.own 3 cs] [], true, [type_of% hW, decide ((↑m : Int) = 0) = false, (!decide ((↑m : Int) = (↑m : Int))) = false, type_of% kL]) := by kernel_rfl
theorem wrt_e (R : Res) (k_p : Res.le (.mk (.tuple #[.string (ByteArray.mk #[]), .int .i64 5]) [.own 3 cs] []) R) : CallSpec (Try.prog) (15) ([.int .u8 sn, slB 0 m c]) ([.own 3 cs]) R := by
  exact (CallSpec.id (go_ok (exec_ok tnamed tcalm tmixed _ _ _ _) (wrt_e_p sn m c cs es hm hW kL ) (aC (hW) (aC dN (aC (congrArg not dO) (aC (kL) aN)))))).le (k_p )
end
section
variable (sn k : Int) (m c q : Nat) (cs es bs : List Value) (hm : 1 ≤ m) (hq : List.length bs = q) (hq2 : q ≤ 40) (hb : List.all (List.take (q * 1) (List.drop 0 bs)) (isInt IntKind.u8) = true) (hS : Value.string (ByteArray.mk (List.toArray (List.map unbyte (List.take (q * 1) (List.drop 0 bs))))) = .string (strB bs)) (hk : 0 ≤ k ∧ k ≤ 65535) (hz : ByteArray.size (strB bs) ≤ 40) (hW : CallSpec Try.prog 20 [.int .u8 sn] [] (.mk (slB 0 m m) [.own 3 es] [])) (kC : CallSpec Try.prog 27 [.string (strB bs)] [] (.mk (Value.int IntKind.u16 k) [] [])) (kL : CodeSpec Try.prog 1 lpAC (frA sn m c 1 m 0) [.own 3 cs, .own 5 [.int .u8 sn], .own 3 es] (Out.mk (Xt.exit 1) (frA sn m c q m (↑m : Int)) [.own 3 cs, .own 5 bs, .own 3 es] []))
include sn k m c q cs es bs hm hq hq2 hb hS hk hz hW kC kL
theorem wrt_o_p : go (exec (Try.prog) (8) (15) ([.int .u8 sn, slB 0 m c]) ([.own 3 cs])) [(5, .call (.mk ((zSB 0 m m)) [.own 3 es] [])), (9, .dec false), (7, .dec false), (12, Itm.loop [0, 1, 7, 28, 29, 30] (Out.mk (Xt.exit 1) (frOf 92 [(0, .int .u8 sn), (1, (zSB 0 m c)), (7, (zSB 1 q q)), (28, (zSB 2 m m)), (29, .int .i64 (↑m : Int)), (30, .int .i64 (↑m : Int))]) [.own 3 cs, .own 5 bs, .own 3 es] [])), (1, Itm.must), (0, Itm.must), (0, Itm.val (.string (strB bs))), (0, .call (.mk (Value.int IntKind.u16 k) [] [])), (5, Itm.must), (0, Itm.must), (0, Itm.val (.string (strB bs))), (0, Itm.must), (5, Itm.val (Value.int IntKind.u16 (k / 256))), (0, Itm.val (.int .u8 (k / 256))), (9, Itm.must)] = some (.mk (.tuple #[.string (ByteArray.mk #[UInt8.ofNat 165] ++ ByteArray.mk (List.toArray (List.map unbyte bs)) ++ ByteArray.mk #[unbyte (.int .u8 (IntKind.wrap IntKind.u8 k)), unbyte (.int .u8 (k / 256))]), .int .i64 0]) [.own 3 cs] [], true, [type_of% hW, decide ((↑m : Int) = 0) = false, (!decide ((↑m : Int) = (↑m : Int))) = false, type_of% kL, decide (0 + q * 1 ≤ List.length bs) = true, List.all (List.take (q * 1) (List.drop 0 bs)) (isInt IntKind.u8) = true, type_of% hS, type_of% kC, decide (0 + q * 1 ≤ List.length bs) = true, List.all (List.take (q * 1) (List.drop 0 bs)) (isInt IntKind.u8) = true, type_of% hS, decide (1 + ByteArray.size (ByteArray.mk (List.toArray (List.map unbyte bs))) ≤ 9223372036854775807) = true, Value.int IntKind.u16 (Int.fdiv k 256) = Value.int IntKind.u16 (k / 256), Value.int .u8 (IntKind.wrap IntKind.u8 (k / 256)) = .int .u8 (k / 256), decide (ByteArray.size (ByteArray.mk #[UInt8.ofNat 165] ++ ByteArray.mk (List.toArray (List.map unbyte bs))) + ByteArray.size (ByteArray.mk #[unbyte (.int .u8 (IntKind.wrap IntKind.u8 k)), unbyte (.int .u8 (k / 256))]) ≤ 9223372036854775807) = true]) := by kernel_rfl
theorem wrt_o (R : Res) (k_p : Res.le (.mk (.tuple #[.string (ByteArray.mk #[UInt8.ofNat 165] ++ ByteArray.mk (List.toArray (List.map unbyte bs)) ++ ByteArray.mk #[unbyte (.int .u8 (IntKind.wrap IntKind.u8 k)), unbyte (.int .u8 (k / 256))]), .int .i64 0]) [.own 3 cs] []) R) : CallSpec (Try.prog) (15) ([.int .u8 sn, slB 0 m c]) ([.own 3 cs]) R := by
  exact (CallSpec.id (go_ok (exec_ok tnamed tcalm tmixed _ _ _ _) (wrt_o_p sn k m c q cs es bs hm hq hq2 hb hS hk hz hW kC kL ) (aC (hW) (aC dN (aC (congrArg not dO) (aC (kL) (aC dO (aC ((by omega)) (aC (hS) (aC (kC) (aC dO (aC ((by omega)) (aC (hS) (aC (dTq (by simp [ByteArray.size_append, ByteArray.size_extract, sz_mk] <;> omega)) (aC (congrArg (Value.int _) (Int.fdiv_eq_ediv_of_nonneg _ (by omega))) (aC (congrArg (Value.int _) (Go.IntWalk.u8_in _ (by omega))) (aC (dTq (by simp [ByteArray.size_append, ByteArray.size_extract, sz_mk] <;> omega)) aN))))))))))))))))).le (k_p )
end
end Go.Proofs.Ytbolppjlaipfjaa.Ex
end
section
set_option linter.unusedSectionVars false
set_option linter.unusedSimpArgs false
set_option linter.unusedVariables false
namespace Go.Proofs.Ytbolppjlaipfjaa.Ex
open Go
set_option linter.unusedVariables false
theorem strB_size (a : List Value) : (strB a).size = a.length := by
  show (List.map unbyte a).toArray.size = _
  simp
def wrS (sn : Int) (l : List Int) : ByteArray := strB (uB (sn :: l))
def wrT (sn : Int) (l : List Int) : ByteArray := a5 ++ wrS sn l ++ strB (uB [F.sum (wrS sn l) % 256, F.sum (wrS sn l) / 256])
def F.write (sn : Int) (xs : List Int) : ByteArray × Int :=
  if wds sn = [] then (⟨#[]⟩, 6) else if (wds sn).length ≠ xs.length then (⟨#[]⟩, 50) else match wrF (wds sn) xs with
    | none => (⟨#[]⟩, 5)
    | some l => (wrT sn l, 0)
def wtR (q : ByteArray × Int) (hp : Hp) : Res := ⟨.tuple #[.string q.1, .int .i64 q.2], hp, []⟩
theorem wrF_len : ∀ (ws xs l : List Int), wrF ws xs = some l → l.length = sumW ws
  | [], xs, l, h => by rw [wrF] at h; cases h; rfl
  | w :: ws, [], l, h => by rw [wrF] at h; cases h
  | w :: ws, x :: xs, l, h => by
    rw [wrF] at h
    split at h
    · cases hF : wrF ws xs with
      | none => rw [hF] at h; cases h
      | some l' =>
        rw [hF] at h
        cases h
        rw [List.length_append, byW_len, wrF_len ws xs l' hF, sumW]
    · cases h
theorem uB_all (l : List Int) : (uB l).all (isInt .u8) = true := by
  unfold uB
  rw [List.all_map]
  exact List.all_eq_true.2 fun _ _ => rfl
theorem write_done {sn : Int} {xs : List Int} {c : Nat} {ex : List Value} (hx : ∀ x ∈ xs, i64 x) : CallSpec Try.prog 15 [.int .u8 sn, slB 0 xs.length c] [.own 3 (iW xs ++ ex)] (wtR (F.write sn xs) [.own 3 (iW xs ++ ex)]) := by
  unfold F.write
  by_cases hw : wds sn = []
  · rw [if_pos hw]; exact wrt_0s sn _ _ _ ((wid_done sn).1 hw) _ res_refl
  have hn : 1 ≤ (wds sn).length := List.length_pos_iff.2 hw
  have kW := (wid_done sn).2 hw
  rw [if_neg hw]
  by_cases hl : (wds sn).length ≠ xs.length
  · rw [if_pos hl]; exact wrt_cs sn _ _ _ _ _ hn hl kW _ res_refl
  have hl' : (wds sn).length = xs.length := Classical.not_not.1 hl
  have h17 := frK_le sn
  have hs : sumW (wds sn) ≤ 16 := by unfold frK at h17; omega
  have kL := (wr_loop sn c ex (wds sn) [] xs [] [sn] rfl hl' (wds_len sn) (wds_ok sn) hx (Nat.le_refl _) (by simp; omega)).code
  rw [if_neg hl]
  simp only [List.nil_append, List.singleton_append] at kL
  cases hF : wrF (wds sn) xs with
  | none =>
    rw [hF] at kL
    rw [← hl'] at kL ⊢
    exact wrt_e sn _ c _ _ hn kW kL _ res_refl
  | some l =>
    rw [hF] at kL
    have hll := wrF_len _ _ _ hF
    have hu := sum_u16 (wrS sn l)
    have hlen : (uB (sn :: l)).length = (sn :: l).length := uB_len _
    have hsz : (wrS sn l).size = (sn :: l).length := (strB_size _).trans hlen
    have h1 : (sn :: l).length ≤ 17 := by simp; omega
    have kC : CallSpec Try.prog 27 [.string (wrS sn l)] [] ⟨.int .u16 (F.sum (wrS sn l)), [], []⟩ := psum_done (by omega)
    have ht : List.take ((sn :: l).length * 1) (List.drop 0 (uB (sn :: l))) = uB (sn :: l) := by rw [Nat.mul_one, List.drop_zero, ← hlen, List.take_length]
    rw [← hl'] at kL ⊢
    refine wrt_o sn (F.sum (wrS sn l)) (wds sn).length c (sn :: l).length _ _ (uB (sn :: l)) hn hlen (by omega) (by rw [ht]; exact uB_all _) (by rw [ht]; rfl) hu (by rw [← wrS, hsz]; omega) kW kC kL _ ⟨?_, rfl, fun j hj => hj⟩
    show Value.tuple #[.string _, _] = .tuple #[.string _, _]
    unfold wrT
    rw [wrap8]
    rfl
end Go.Proofs.Ytbolppjlaipfjaa.Ex
end
section
set_option linter.unusedSectionVars false
set_option linter.unusedSimpArgs false
set_option linter.unusedVariables false
namespace Go.Proofs.Ytbolppjlaipfjaa.Ex
open Go
set_option linter.unusedVariables false
theorem le1 (s : ByteArray) (k : Nat) : leN s k 1 = bt s k := by show 0 + bt s (k + 0) * 1 = _; simp
theorem le2 (s : ByteArray) (k : Nat) : leN s k 2 = bt s k + bt s (k + 1) * 256 := by show leN s k 1 + bt s (k + 1) * 256 = _; rw [le1]
end Go.Proofs.Ytbolppjlaipfjaa.Ex
end
section
set_option linter.unusedSectionVars false
set_option linter.unusedSimpArgs false
set_option linter.unusedVariables false
namespace Go.Proofs.Ytbolppjlaipfjaa.Ex
open Go
set_option linter.unusedVariables false
noncomputable def lpQ : Code := loopAt Try.prog 16 0
theorem lpQ_calm : calmC lpQ = true := loopAt_calm tcalm 16 0
noncomputable def lpQC : Code := .loop lpQ
def frQ (sn : Int) (n c q m : Nat) (i : Int) : Fr := frOf 105 [(0, .int .u8 sn), (1, slB 0 n c), (6, slB 1 m m), (7, slB 2 q q), (8, .int .i64 i)]
def kQ : Xt → List Nat
  | .normal => [0, 1, 6, 7, 8]
  | .exit _ => [0, 1, 6, 7, 8]
  | _ => [4, 5]
section
variable (sn x : Int) (n c q m i : Nat) (cs bs es : List Value) (hcs : n ≤ List.length cs) (hbs : List.length bs = q) (hes : List.length es = m) (hq : 1 ≤ q ∧ q ≤ 40) (hi : i < n ∧ i < m ∧ m ≤ 5) (hx : -9223372036854775808 ≤ x ∧ x ≤ 9223372036854775807) (hw0 : isInt .i64 (List.getD es (0 + Int.toNat (↑i : Int) * 1) undef) = true) (hw : Value.int .i64 (intOf (List.getD es (0 + Int.toNat (↑i : Int) * 1) undef)) = .int .i64 1) (hv0 : isInt .i64 (List.getD cs (0 + Int.toNat (↑i : Int) * 1) undef) = true) (hv : Value.int .i64 (intOf (List.getD cs (0 + Int.toNat (↑i : Int) * 1) undef)) = .int .i64 x)
include sn x n c q m i cs bs es hcs hbs hes hq hi hx hw0 hw hv0 hv
theorem rw_1_pt : go (body (Try.prog) (8) (1) (8) (kQ) (lpQ) (frQ sn n c q m (↑i : Int)) ([.ro 3 cs, .own 3 es, .own 5 bs])) [(5, .dec true), (2, Itm.must), (1, Itm.must), (0, Itm.must), (0, Itm.val (.int .i64 x)), (6, Itm.must), (1, Itm.must), (0, Itm.must), (0, Itm.val (.int .i64 1)), (7, .dec true), (0, .dec true), (0, .dec true), (0, .dec true), (0, .dec true), (0, .dec true), (0, .dec true), (0, .dec true), (0, .dec true), (0, .dec true), (0, .dec true)] = some (Out.mk Xt.ret (frOf 105 [(4, .string (ByteArray.mk #[])), (5, .int .i64 5)]) [.ro 3 cs] [], true, [decide ((↑i : Int) < (↑m : Int)) = true, inside (↑i : Int) n = true, decide (0 + Int.toNat (↑i : Int) * 1 < List.length cs) = true, isInt .i64 (List.getD cs (0 + Int.toNat (↑i : Int) * 1) undef) = true, type_of% hv, inside (↑i : Int) m = true, decide (0 + Int.toNat (↑i : Int) * 1 < List.length es) = true, isInt .i64 (List.getD es (0 + Int.toNat (↑i : Int) * 1) undef) = true, type_of% hw, decide (x < 0) = true, decide (x < 0) = true, decide (x < 0) = true, decide (x < 0) = true, decide (x < 0) = true, decide (x < 0) = true, decide (x < 0) = true, decide (x < 0) = true, decide (x < 0) = true, decide (x < 0) = true, decide (x < 0) = true]) := by kernel_rfl
theorem rw_1_pft : go (body (Try.prog) (8) (1) (8) (kQ) (lpQ) (frQ sn n c q m (↑i : Int)) ([.ro 3 cs, .own 3 es, .own 5 bs])) [(5, .dec true), (2, Itm.must), (1, Itm.must), (0, Itm.must), (0, Itm.val (.int .i64 x)), (6, Itm.must), (1, Itm.must), (0, Itm.must), (0, Itm.val (.int .i64 1)), (7, .dec false), (1, .dec false), (1, .dec false), (1, .dec false), (1, .dec false), (0, Itm.must), (1, .dec false), (0, Itm.must), (0, Itm.must), (0, Itm.val (.int .i64 1)), (0, .dec false), (61, .dec false), (1, .dec false), (1, .dec false), (1, .dec false), (2, .dec true)] = some (Out.mk Xt.ret (frOf 105 [(4, .string (ByteArray.mk #[])), (5, .int .i64 5)]) [.ro 3 cs] [], true, [decide ((↑i : Int) < (↑m : Int)) = true, inside (↑i : Int) n = true, decide (0 + Int.toNat (↑i : Int) * 1 < List.length cs) = true, isInt .i64 (List.getD cs (0 + Int.toNat (↑i : Int) * 1) undef) = true, type_of% hv, inside (↑i : Int) m = true, decide (0 + Int.toNat (↑i : Int) * 1 < List.length es) = true, isInt .i64 (List.getD es (0 + Int.toNat (↑i : Int) * 1) undef) = true, type_of% hw, decide (x < 0) = false, decide (x < 0) = false, decide (x < 0) = false, decide (x < 0) = false, decide (x < 0) = false, inside (↑i : Int) m = true, decide (x < 0) = false, decide (0 + Int.toNat (↑i : Int) * 1 < List.length es) = true, isInt .i64 (List.getD es (0 + Int.toNat (↑i : Int) * 1) undef) = true, type_of% hw, decide (x < 0) = false, decide (x < 0) = false, decide (x < 0) = false, decide (x < 0) = false, decide (x < 0) = false, decide (x > 255) = true]) := by kernel_rfl
theorem rw_1_pff : go (body (Try.prog) (8) (1) (8) (kQ) (lpQ) (frQ sn n c q m (↑i : Int)) ([.ro 3 cs, .own 3 es, .own 5 bs])) [(5, .dec true), (2, Itm.must), (1, Itm.must), (0, Itm.must), (0, Itm.val (.int .i64 x)), (6, Itm.must), (1, Itm.must), (0, Itm.must), (0, Itm.val (.int .i64 1)), (7, .dec false), (1, .dec false), (1, .dec false), (1, .dec false), (1, .dec false), (0, Itm.must), (1, .dec false), (0, Itm.must), (0, Itm.must), (0, Itm.val (.int .i64 1)), (0, .dec false), (61, .dec false), (1, .dec false), (1, .dec false), (1, .dec false), (2, .dec false), (3, .dec false), (6, Itm.must), (1, Itm.must), (0, Itm.must), (0, Itm.val (.int .i64 1)), (20, Itm.val (.int .i64 (x % 256))), (0, Itm.val (.int .u8 (x % 256))), (7, Itm.must), (0, .dec false), (0, Itm.must), (5, Itm.val (.int .i64 (x / 256))), (9, Itm.must), (1, Itm.must), (0, Itm.must), (0, Itm.val (.int .i64 1)), (18, Itm.val (.int .i64 ((↑i : Int) + 1)))] = some (Out.mk Xt.normal (frOf 105 [(0, .int .u8 sn), (1, (zSB 0 n c)), (6, (zSB 1 m m)), (7, (zSB 2 (q + 1) (q + 1))), (8, .int .i64 ((↑i : Int) + 1))]) [.ro 3 cs, .own 3 es, .own 5 (bs ++ [.int .u8 (x % 256)])] [], true, [decide ((↑i : Int) < (↑m : Int)) = true, inside (↑i : Int) n = true, decide (0 + Int.toNat (↑i : Int) * 1 < List.length cs) = true, isInt .i64 (List.getD cs (0 + Int.toNat (↑i : Int) * 1) undef) = true, type_of% hv, inside (↑i : Int) m = true, decide (0 + Int.toNat (↑i : Int) * 1 < List.length es) = true, isInt .i64 (List.getD es (0 + Int.toNat (↑i : Int) * 1) undef) = true, type_of% hw, decide (x < 0) = false, decide (x < 0) = false, decide (x < 0) = false, decide (x < 0) = false, decide (x < 0) = false, inside (↑i : Int) m = true, decide (x < 0) = false, decide (0 + Int.toNat (↑i : Int) * 1 < List.length es) = true, isInt .i64 (List.getD es (0 + Int.toNat (↑i : Int) * 1) undef) = true, type_of% hw, decide (x < 0) = false, decide (x < 0) = false, decide (x < 0) = false, decide (x < 0) = false, decide (x < 0) = false, decide (x > 255) = false, decide (x < 0) = false, inside (↑i : Int) m = true, decide (0 + Int.toNat (↑i : Int) * 1 < List.length es) = true, isInt .i64 (List.getD es (0 + Int.toNat (↑i : Int) * 1) undef) = true, type_of% hw, Value.int .i64 (Int.tmod x 256) = .int .i64 (x % 256), Value.int .u8 (IntKind.wrap IntKind.u8 (x % 256)) = .int .u8 (x % 256), (true && decide ((q + 1) * 1 ≤ 140737488355328) && decide (q + 1 ≤ 140737488355328) && decide (q * 1 ≤ List.length bs)) = true, decide (q + 1 ≤ q) = false, decide (List.length bs = q * 1) = true, Value.int .i64 (IntKind.wrap .i64 (Int.tdiv x 256)) = .int .i64 (x / 256), inside (↑i : Int) m = true, decide (0 + Int.toNat (↑i : Int) * 1 < List.length es) = true, isInt .i64 (List.getD es (0 + Int.toNat (↑i : Int) * 1) undef) = true, type_of% hw, Value.int .i64 (IntKind.wrap .i64 ((↑i : Int) + 1)) = .int .i64 ((↑i : Int) + 1)]) := by kernel_rfl
theorem rw_1 (R : Out) (k_pt : (h0 : x < 0) → Out.le (Out.mk Xt.ret (frOf 105 [(4, .string (ByteArray.mk #[])), (5, .int .i64 5)]) [.ro 3 cs] []) R) (k_pft : (h0 : ¬ (x < 0)) → (h1 : x > 255) → Out.le (Out.mk Xt.ret (frOf 105 [(4, .string (ByteArray.mk #[])), (5, .int .i64 5)]) [.ro 3 cs] []) R) (k_pff : (h0 : ¬ (x < 0)) → (h1 : ¬ (x > 255)) → Out.le (Out.mk Xt.normal (frOf 105 [(0, .int .u8 sn), (1, (zSB 0 n c)), (6, (zSB 1 m m)), (7, (zSB 2 (q + 1) (q + 1))), (8, .int .i64 ((↑i : Int) + 1))]) [.ro 3 cs, .own 3 es, .own 5 (bs ++ [.int .u8 (x % 256)])] []) R) : CodeSpec (Try.prog) (1) (lpQ) (frQ sn n c q m (↑i : Int)) ([.ro 3 cs, .own 3 es, .own 5 bs]) R := by
  by_cases h0 : x < 0
  · exact (CodeSpec.id (go_ok (body_ok tnamed tcalm tmixed _ _ _ _ _ _ lpQ_calm) (rw_1_pt sn x n c q m i cs bs es hcs hbs hes hq hi hx hw0 hw hv0 hv ) (aC dO (aC (inside_of (by omega)) (aC dO (aC ((by omega)) (aC (hv) (aC (inside_of (by omega)) (aC dO (aC ((by omega)) (aC (hw) (aC (dTq h0) (aC (dTq h0) (aC (dTq h0) (aC (dTq h0) (aC (dTq h0) (aC (dTq h0) (aC (dTq h0) (aC (dTq h0) (aC (dTq h0) (aC (dTq h0) (aC (dTq h0) aN)))))))))))))))))))))).le (k_pt h0)
  · by_cases h1 : x > 255
    · exact (CodeSpec.id (go_ok (body_ok tnamed tcalm tmixed _ _ _ _ _ _ lpQ_calm) (rw_1_pft sn x n c q m i cs bs es hcs hbs hes hq hi hx hw0 hw hv0 hv ) (aC dO (aC (inside_of (by omega)) (aC dO (aC ((by omega)) (aC (hv) (aC (inside_of (by omega)) (aC dO (aC ((by omega)) (aC (hw) (aC (dFq h0) (aC (dFq h0) (aC (dFq h0) (aC (dFq h0) (aC (dFq h0) (aC (inside_of (by omega)) (aC (dFq h0) (aC dO (aC ((by omega)) (aC (hw) (aC (dFq h0) (aC (dFq h0) (aC (dFq h0) (aC (dFq h0) (aC (dFq h0) (aC (dTq h1) aN))))))))))))))))))))))))))).le (k_pft h0 h1)
    · exact (CodeSpec.id (go_ok (body_ok tnamed tcalm tmixed _ _ _ _ _ _ lpQ_calm) (rw_1_pff sn x n c q m i cs bs es hcs hbs hes hq hi hx hw0 hw hv0 hv ) (aC dO (aC (inside_of (by omega)) (aC dO (aC ((by omega)) (aC (hv) (aC (inside_of (by omega)) (aC dO (aC ((by omega)) (aC (hw) (aC (dFq h0) (aC (dFq h0) (aC (dFq h0) (aC (dFq h0) (aC (dFq h0) (aC (inside_of (by omega)) (aC (dFq h0) (aC dO (aC ((by omega)) (aC (hw) (aC (dFq h0) (aC (dFq h0) (aC (dFq h0) (aC (dFq h0) (aC (dFq h0) (aC (dFq h1) (aC (dFq h0) (aC (inside_of (by omega)) (aC dO (aC ((by omega)) (aC (hw) (aC (congrArg (Value.int _) (Int.tmod_eq_emod_of_nonneg (by omega))) (aC (congrArg (Value.int _) (Go.IntWalk.u8_in _ (by omega))) (aC ((by simp [ByteArray.size_append, ByteArray.size_extract, sz_mk] <;> omega)) (aC dN (aC dO (aC (congrArg (Value.int _) (quo_in ⟨by omega, by simp [IntKind.max, IntKind.bits, IntKind.signed] <;> omega, by omega⟩)) (aC (inside_of (by omega)) (aC dO (aC ((by omega)) (aC (hw) (aC (congrArg (Value.int _) (Go.IntWalk.i64_in _ (by omega))) aN))))))))))))))))))))))))))))))))))))))))))).le (k_pff h0 h1)
end
section
variable (sn x : Int) (n c q m i : Nat) (cs bs es : List Value) (hcs : n ≤ List.length cs) (hbs : List.length bs = q) (hes : List.length es = m) (hq : 1 ≤ q ∧ q ≤ 40) (hi : i < n ∧ i < m ∧ m ≤ 5) (hx : -9223372036854775808 ≤ x ∧ x ≤ 9223372036854775807) (hw0 : isInt .i64 (List.getD es (0 + Int.toNat (↑i : Int) * 1) undef) = true) (hw : Value.int .i64 (intOf (List.getD es (0 + Int.toNat (↑i : Int) * 1) undef)) = .int .i64 2) (hv0 : isInt .i64 (List.getD cs (0 + Int.toNat (↑i : Int) * 1) undef) = true) (hv : Value.int .i64 (intOf (List.getD cs (0 + Int.toNat (↑i : Int) * 1) undef)) = .int .i64 x)
include sn x n c q m i cs bs es hcs hbs hes hq hi hx hw0 hw hv0 hv
theorem rw_2_pt : go (body (Try.prog) (8) (1) (8) (kQ) (lpQ) (frQ sn n c q m (↑i : Int)) ([.ro 3 cs, .own 3 es, .own 5 bs])) [(5, .dec true), (2, Itm.must), (1, Itm.must), (0, Itm.must), (0, Itm.val (.int .i64 x)), (6, Itm.must), (1, Itm.must), (0, Itm.must), (0, Itm.val (.int .i64 2)), (7, .dec true), (0, .dec true), (0, .dec true), (0, .dec true), (0, .dec true), (0, .dec true), (0, .dec true), (0, .dec true), (0, .dec true), (0, .dec true), (0, .dec true)] = some (Out.mk Xt.ret (frOf 105 [(4, .string (ByteArray.mk #[])), (5, .int .i64 5)]) [.ro 3 cs] [], true, [decide ((↑i : Int) < (↑m : Int)) = true, inside (↑i : Int) n = true, decide (0 + Int.toNat (↑i : Int) * 1 < List.length cs) = true, isInt .i64 (List.getD cs (0 + Int.toNat (↑i : Int) * 1) undef) = true, type_of% hv, inside (↑i : Int) m = true, decide (0 + Int.toNat (↑i : Int) * 1 < List.length es) = true, isInt .i64 (List.getD es (0 + Int.toNat (↑i : Int) * 1) undef) = true, type_of% hw, decide (x < 0) = true, decide (x < 0) = true, decide (x < 0) = true, decide (x < 0) = true, decide (x < 0) = true, decide (x < 0) = true, decide (x < 0) = true, decide (x < 0) = true, decide (x < 0) = true, decide (x < 0) = true, decide (x < 0) = true]) := by kernel_rfl
theorem rw_2_pft : go (body (Try.prog) (8) (1) (8) (kQ) (lpQ) (frQ sn n c q m (↑i : Int)) ([.ro 3 cs, .own 3 es, .own 5 bs])) [(5, .dec true), (2, Itm.must), (1, Itm.must), (0, Itm.must), (0, Itm.val (.int .i64 x)), (6, Itm.must), (1, Itm.must), (0, Itm.must), (0, Itm.val (.int .i64 2)), (7, .dec false), (1, .dec false), (1, .dec false), (1, .dec false), (1, .dec false), (0, Itm.must), (1, .dec false), (0, Itm.must), (0, Itm.must), (0, Itm.val (.int .i64 2)), (0, .dec false), (88, .dec false), (1, .dec false), (1, .dec false), (1, .dec false), (2, .dec true)] = some (Out.mk Xt.ret (frOf 105 [(4, .string (ByteArray.mk #[])), (5, .int .i64 5)]) [.ro 3 cs] [], true, [decide ((↑i : Int) < (↑m : Int)) = true, inside (↑i : Int) n = true, decide (0 + Int.toNat (↑i : Int) * 1 < List.length cs) = true, isInt .i64 (List.getD cs (0 + Int.toNat (↑i : Int) * 1) undef) = true, type_of% hv, inside (↑i : Int) m = true, decide (0 + Int.toNat (↑i : Int) * 1 < List.length es) = true, isInt .i64 (List.getD es (0 + Int.toNat (↑i : Int) * 1) undef) = true, type_of% hw, decide (x < 0) = false, decide (x < 0) = false, decide (x < 0) = false, decide (x < 0) = false, decide (x < 0) = false, inside (↑i : Int) m = true, decide (x < 0) = false, decide (0 + Int.toNat (↑i : Int) * 1 < List.length es) = true, isInt .i64 (List.getD es (0 + Int.toNat (↑i : Int) * 1) undef) = true, type_of% hw, decide (x < 0) = false, decide (x < 0) = false, decide (x < 0) = false, decide (x < 0) = false, decide (x < 0) = false, decide (x > 65535) = true]) := by kernel_rfl
theorem rw_2_pff : go (body (Try.prog) (8) (1) (8) (kQ) (lpQ) (frQ sn n c q m (↑i : Int)) ([.ro 3 cs, .own 3 es, .own 5 bs])) [(5, .dec true), (2, Itm.must), (1, Itm.must), (0, Itm.must), (0, Itm.val (.int .i64 x)), (6, Itm.must), (1, Itm.must), (0, Itm.must), (0, Itm.val (.int .i64 2)), (7, .dec false), (1, .dec false), (1, .dec false), (1, .dec false), (1, .dec false), (0, Itm.must), (1, .dec false), (0, Itm.must), (0, Itm.must), (0, Itm.val (.int .i64 2)), (0, .dec false), (88, .dec false), (1, .dec false), (1, .dec false), (1, .dec false), (2, .dec false), (3, .dec false), (6, Itm.must), (1, Itm.must), (0, Itm.must), (0, Itm.val (.int .i64 2)), (20, Itm.val (.int .i64 (x % 256))), (0, Itm.val (.int .u8 (x % 256))), (7, Itm.must), (0, .dec false), (0, Itm.must), (5, Itm.val (.int .i64 (x / 256))), (9, Itm.must), (1, Itm.must), (0, Itm.must), (0, Itm.val (.int .i64 2)), (20, Itm.val (.int .i64 (x / 256 % 256))), (0, Itm.val (.int .u8 (x / 256 % 256))), (7, Itm.must), (0, .dec false), (0, Itm.must), (5, Itm.val (.int .i64 (x / 256 / 256))), (9, Itm.must), (1, Itm.must), (0, Itm.must), (0, Itm.val (.int .i64 2)), (18, Itm.val (.int .i64 ((↑i : Int) + 1)))] = some (Out.mk Xt.normal (frOf 105 [(0, .int .u8 sn), (1, (zSB 0 n c)), (6, (zSB 1 m m)), (7, (zSB 2 (q + 1 + 1) (q + 1 + 1))), (8, .int .i64 ((↑i : Int) + 1))]) [.ro 3 cs, .own 3 es, .own 5 (bs ++ [.int .u8 (x % 256)] ++ [.int .u8 (x / 256 % 256)])] [], true, [decide ((↑i : Int) < (↑m : Int)) = true, inside (↑i : Int) n = true, decide (0 + Int.toNat (↑i : Int) * 1 < List.length cs) = true, isInt .i64 (List.getD cs (0 + Int.toNat (↑i : Int) * 1) undef) = true, type_of% hv, inside (↑i : Int) m = true, decide (0 + Int.toNat (↑i : Int) * 1 < List.length es) = true, isInt .i64 (List.getD es (0 + Int.toNat (↑i : Int) * 1) undef) = true, type_of% hw, decide (x < 0) = false, decide (x < 0) = false, decide (x < 0) = false, decide (x < 0) = false, decide (x < 0) = false, inside (↑i : Int) m = true, decide (x < 0) = false, decide (0 + Int.toNat (↑i : Int) * 1 < List.length es) = true, isInt .i64 (List.getD es (0 + Int.toNat (↑i : Int) * 1) undef) = true, type_of% hw, decide (x < 0) = false, decide (x < 0) = false, decide (x < 0) = false, decide (x < 0) = false, decide (x < 0) = false, decide (x > 65535) = false, decide (x < 0) = false, inside (↑i : Int) m = true, decide (0 + Int.toNat (↑i : Int) * 1 < List.length es) = true, isInt .i64 (List.getD es (0 + Int.toNat (↑i : Int) * 1) undef) = true, type_of% hw, Value.int .i64 (Int.tmod x 256) = .int .i64 (x % 256), Value.int .u8 (IntKind.wrap IntKind.u8 (x % 256)) = .int .u8 (x % 256), (true && decide ((q + 1) * 1 ≤ 140737488355328) && decide (q + 1 ≤ 140737488355328) && decide (q * 1 ≤ List.length bs)) = true, decide (q + 1 ≤ q) = false, decide (List.length bs = q * 1) = true, Value.int .i64 (IntKind.wrap .i64 (Int.tdiv x 256)) = .int .i64 (x / 256), inside (↑i : Int) m = true, decide (0 + Int.toNat (↑i : Int) * 1 < List.length es) = true, isInt .i64 (List.getD es (0 + Int.toNat (↑i : Int) * 1) undef) = true, type_of% hw, Value.int .i64 (Int.tmod (x / 256) 256) = .int .i64 (x / 256 % 256), Value.int .u8 (IntKind.wrap IntKind.u8 (x / 256 % 256)) = .int .u8 (x / 256 % 256), (true && decide ((q + 1 + 1) * 1 ≤ 140737488355328) && decide (q + 1 + 1 ≤ 140737488355328) && decide ((q + 1) * 1 ≤ List.length (bs ++ [.int .u8 (x % 256)]))) = true, decide (q + 1 + 1 ≤ q + 1) = false, decide (List.length (bs ++ [.int .u8 (x % 256)]) = (q + 1) * 1) = true, Value.int .i64 (IntKind.wrap .i64 (Int.tdiv (x / 256) 256)) = .int .i64 (x / 256 / 256), inside (↑i : Int) m = true, decide (0 + Int.toNat (↑i : Int) * 1 < List.length es) = true, isInt .i64 (List.getD es (0 + Int.toNat (↑i : Int) * 1) undef) = true, type_of% hw, Value.int .i64 (IntKind.wrap .i64 ((↑i : Int) + 1)) = .int .i64 ((↑i : Int) + 1)]) := by kernel_rfl
theorem rw_2 (R : Out) (k_pt : (h0 : x < 0) → Out.le (Out.mk Xt.ret (frOf 105 [(4, .string (ByteArray.mk #[])), (5, .int .i64 5)]) [.ro 3 cs] []) R) (k_pft : (h0 : ¬ (x < 0)) → (h1 : x > 65535) → Out.le (Out.mk Xt.ret (frOf 105 [(4, .string (ByteArray.mk #[])), (5, .int .i64 5)]) [.ro 3 cs] []) R) (k_pff : (h0 : ¬ (x < 0)) → (h1 : ¬ (x > 65535)) → Out.le (Out.mk Xt.normal (frOf 105 [(0, .int .u8 sn), (1, (zSB 0 n c)), (6, (zSB 1 m m)), (7, (zSB 2 (q + 1 + 1) (q + 1 + 1))), (8, .int .i64 ((↑i : Int) + 1))]) [.ro 3 cs, .own 3 es, .own 5 (bs ++ [.int .u8 (x % 256)] ++ [.int .u8 (x / 256 % 256)])] []) R) : CodeSpec (Try.prog) (1) (lpQ) (frQ sn n c q m (↑i : Int)) ([.ro 3 cs, .own 3 es, .own 5 bs]) R := by
  by_cases h0 : x < 0
  · exact (CodeSpec.id (go_ok (body_ok tnamed tcalm tmixed _ _ _ _ _ _ lpQ_calm) (rw_2_pt sn x n c q m i cs bs es hcs hbs hes hq hi hx hw0 hw hv0 hv ) (aC dO (aC (inside_of (by omega)) (aC dO (aC ((by omega)) (aC (hv) (aC (inside_of (by omega)) (aC dO (aC ((by omega)) (aC (hw) (aC (dTq h0) (aC (dTq h0) (aC (dTq h0) (aC (dTq h0) (aC (dTq h0) (aC (dTq h0) (aC (dTq h0) (aC (dTq h0) (aC (dTq h0) (aC (dTq h0) (aC (dTq h0) aN)))))))))))))))))))))).le (k_pt h0)
  · by_cases h1 : x > 65535
    · exact (CodeSpec.id (go_ok (body_ok tnamed tcalm tmixed _ _ _ _ _ _ lpQ_calm) (rw_2_pft sn x n c q m i cs bs es hcs hbs hes hq hi hx hw0 hw hv0 hv ) (aC dO (aC (inside_of (by omega)) (aC dO (aC ((by omega)) (aC (hv) (aC (inside_of (by omega)) (aC dO (aC ((by omega)) (aC (hw) (aC (dFq h0) (aC (dFq h0) (aC (dFq h0) (aC (dFq h0) (aC (dFq h0) (aC (inside_of (by omega)) (aC (dFq h0) (aC dO (aC ((by omega)) (aC (hw) (aC (dFq h0) (aC (dFq h0) (aC (dFq h0) (aC (dFq h0) (aC (dFq h0) (aC (dTq h1) aN))))))))))))))))))))))))))).le (k_pft h0 h1)
    · exact (CodeSpec.id (go_ok (body_ok tnamed tcalm tmixed _ _ _ _ _ _ lpQ_calm) (rw_2_pff sn x n c q m i cs bs es hcs hbs hes hq hi hx hw0 hw hv0 hv ) (aC dO (aC (inside_of (by omega)) (aC dO (aC ((by omega)) (aC (hv) (aC (inside_of (by omega)) (aC dO (aC ((by omega)) (aC (hw) (aC (dFq h0) (aC (dFq h0) (aC (dFq h0) (aC (dFq h0) (aC (dFq h0) (aC (inside_of (by omega)) (aC (dFq h0) (aC dO (aC ((by omega)) (aC (hw) (aC (dFq h0) (aC (dFq h0) (aC (dFq h0) (aC (dFq h0) (aC (dFq h0) (aC (dFq h1) (aC (dFq h0) (aC (inside_of (by omega)) (aC dO (aC ((by omega)) (aC (hw) (aC (congrArg (Value.int _) (Int.tmod_eq_emod_of_nonneg (by omega))) (aC (congrArg (Value.int _) (Go.IntWalk.u8_in _ (by omega))) (aC ((by simp [ByteArray.size_append, ByteArray.size_extract, sz_mk] <;> omega)) (aC dN (aC dO (aC (congrArg (Value.int _) (quo_in ⟨by omega, by simp [IntKind.max, IntKind.bits, IntKind.signed] <;> omega, by omega⟩)) (aC (inside_of (by omega)) (aC dO (aC ((by omega)) (aC (hw) (aC (congrArg (Value.int _) (Int.tmod_eq_emod_of_nonneg (by omega))) (aC (congrArg (Value.int _) (Go.IntWalk.u8_in _ (by omega))) (aC ((by simp [ByteArray.size_append, ByteArray.size_extract, sz_mk] <;> omega)) (aC dN (aC (dTq (by simp [ByteArray.size_append, ByteArray.size_extract, sz_mk] <;> omega)) (aC (congrArg (Value.int _) (quo_in ⟨by omega, by simp [IntKind.max, IntKind.bits, IntKind.signed] <;> omega, by omega⟩)) (aC (inside_of (by omega)) (aC dO (aC ((by omega)) (aC (hw) (aC (congrArg (Value.int _) (Go.IntWalk.i64_in _ (by omega))) aN))))))))))))))))))))))))))))))))))))))))))))))))))))).le (k_pff h0 h1)
end
section
variable (sn x : Int) (n c q m i : Nat) (cs bs es : List Value) (hcs : n ≤ List.length cs) (hbs : List.length bs = q) (hes : List.length es = m) (hq : 1 ≤ q ∧ q ≤ 40) (hi : i < n ∧ i < m ∧ m ≤ 5) (hx : -9223372036854775808 ≤ x ∧ x ≤ 9223372036854775807) (hw0 : isInt .i64 (List.getD es (0 + Int.toNat (↑i : Int) * 1) undef) = true) (hw : Value.int .i64 (intOf (List.getD es (0 + Int.toNat (↑i : Int) * 1) undef)) = .int .i64 (-2)) (hv0 : isInt .i64 (List.getD cs (0 + Int.toNat (↑i : Int) * 1) undef) = true) (hv : Value.int .i64 (intOf (List.getD cs (0 + Int.toNat (↑i : Int) * 1) undef)) = .int .i64 x)
include sn x n c q m i cs bs es hcs hbs hes hq hi hx hw0 hw hv0 hv
theorem rw_m2_pt : go (body (Try.prog) (8) (1) (8) (kQ) (lpQ) (frQ sn n c q m (↑i : Int)) ([.ro 3 cs, .own 3 es, .own 5 bs])) [(5, .dec true), (2, Itm.must), (1, Itm.must), (0, Itm.must), (0, Itm.val (.int .i64 x)), (6, Itm.must), (1, Itm.must), (0, Itm.must), (0, Itm.val (.int .i64 (-2))), (5, Itm.must), (1, Itm.must), (0, Itm.must), (0, Itm.val (.int .i64 (-2))), (100, .dec true), (0, .dec true), (0, .dec true), (0, .dec true), (0, .dec true), (0, .dec true), (0, .dec true), (0, .dec true), (0, .dec true), (0, .dec true), (0, .dec true)] = some (Out.mk Xt.ret (frOf 105 [(4, .string (ByteArray.mk #[])), (5, .int .i64 5)]) [.ro 3 cs] [], true, [decide ((↑i : Int) < (↑m : Int)) = true, inside (↑i : Int) n = true, decide (0 + Int.toNat (↑i : Int) * 1 < List.length cs) = true, isInt .i64 (List.getD cs (0 + Int.toNat (↑i : Int) * 1) undef) = true, type_of% hv, inside (↑i : Int) m = true, decide (0 + Int.toNat (↑i : Int) * 1 < List.length es) = true, isInt .i64 (List.getD es (0 + Int.toNat (↑i : Int) * 1) undef) = true, type_of% hw, inside (↑i : Int) m = true, decide (0 + Int.toNat (↑i : Int) * 1 < List.length es) = true, isInt .i64 (List.getD es (0 + Int.toNat (↑i : Int) * 1) undef) = true, type_of% hw, decide (x < -32768) = true, decide (x < -32768) = true, decide (x < -32768) = true, decide (x < -32768) = true, decide (x < -32768) = true, decide (x < -32768) = true, decide (x < -32768) = true, decide (x < -32768) = true, decide (x < -32768) = true, decide (x < -32768) = true, decide (x < -32768) = true]) := by kernel_rfl
theorem rw_m2_pft : go (body (Try.prog) (8) (1) (8) (kQ) (lpQ) (frQ sn n c q m (↑i : Int)) ([.ro 3 cs, .own 3 es, .own 5 bs])) [(5, .dec true), (2, Itm.must), (1, Itm.must), (0, Itm.must), (0, Itm.val (.int .i64 x)), (6, Itm.must), (1, Itm.must), (0, Itm.must), (0, Itm.val (.int .i64 (-2))), (5, Itm.must), (1, Itm.must), (0, Itm.must), (0, Itm.val (.int .i64 (-2))), (100, .dec false), (1, .dec false), (1, .dec false), (1, .dec false), (1, .dec false), (0, Itm.must), (1, .dec false), (0, Itm.must), (0, Itm.must), (0, Itm.val (.int .i64 (-2))), (0, .dec false), (91, .dec false), (1, .dec false), (1, .dec false), (1, .dec false), (2, .dec true)] = some (Out.mk Xt.ret (frOf 105 [(4, .string (ByteArray.mk #[])), (5, .int .i64 5)]) [.ro 3 cs] [], true, [decide ((↑i : Int) < (↑m : Int)) = true, inside (↑i : Int) n = true, decide (0 + Int.toNat (↑i : Int) * 1 < List.length cs) = true, isInt .i64 (List.getD cs (0 + Int.toNat (↑i : Int) * 1) undef) = true, type_of% hv, inside (↑i : Int) m = true, decide (0 + Int.toNat (↑i : Int) * 1 < List.length es) = true, isInt .i64 (List.getD es (0 + Int.toNat (↑i : Int) * 1) undef) = true, type_of% hw, inside (↑i : Int) m = true, decide (0 + Int.toNat (↑i : Int) * 1 < List.length es) = true, isInt .i64 (List.getD es (0 + Int.toNat (↑i : Int) * 1) undef) = true, type_of% hw, decide (x < -32768) = false, decide (x < -32768) = false, decide (x < -32768) = false, decide (x < -32768) = false, decide (x < -32768) = false, inside (↑i : Int) m = true, decide (x < -32768) = false, decide (0 + Int.toNat (↑i : Int) * 1 < List.length es) = true, isInt .i64 (List.getD es (0 + Int.toNat (↑i : Int) * 1) undef) = true, type_of% hw, decide (x < -32768) = false, decide (x < -32768) = false, decide (x < -32768) = false, decide (x < -32768) = false, decide (x < -32768) = false, decide (x > 32767) = true]) := by kernel_rfl
theorem rw_m2_pfft : go (body (Try.prog) (8) (1) (8) (kQ) (lpQ) (frQ sn n c q m (↑i : Int)) ([.ro 3 cs, .own 3 es, .own 5 bs])) [(5, .dec true), (2, Itm.must), (1, Itm.must), (0, Itm.must), (0, Itm.val (.int .i64 x)), (6, Itm.must), (1, Itm.must), (0, Itm.must), (0, Itm.val (.int .i64 (-2))), (5, Itm.must), (1, Itm.must), (0, Itm.must), (0, Itm.val (.int .i64 (-2))), (100, .dec false), (1, .dec false), (1, .dec false), (1, .dec false), (1, .dec false), (0, Itm.must), (1, .dec false), (0, Itm.must), (0, Itm.must), (0, Itm.val (.int .i64 (-2))), (0, .dec false), (91, .dec false), (1, .dec false), (1, .dec false), (1, .dec false), (2, .dec false), (3, .dec true), (3, Itm.must), (1, Itm.must), (0, Itm.must), (0, Itm.val (.int .i64 (-2))), (91, Itm.val (.int .i64 (x + 65536))), (8, Itm.must), (1, Itm.must), (0, Itm.must), (0, Itm.val (.int .i64 (-2))), (21, Itm.val (.int .i64 ((x + 65536) % 256))), (0, Itm.val (.int .u8 ((x + 65536) % 256))), (7, Itm.must), (0, .dec false), (0, Itm.must), (5, Itm.val (.int .i64 ((x + 65536) / 256))), (9, Itm.must), (1, Itm.must), (0, Itm.must), (0, Itm.val (.int .i64 (-2))), (21, Itm.val (.int .i64 ((x + 65536) / 256 % 256))), (0, Itm.val (.int .u8 ((x + 65536) / 256 % 256))), (7, Itm.must), (0, .dec false), (0, Itm.must), (5, Itm.val (.int .i64 ((x + 65536) / 256 / 256))), (9, Itm.must), (1, Itm.must), (0, Itm.must), (0, Itm.val (.int .i64 (-2))), (19, Itm.val (.int .i64 ((↑i : Int) + 1)))] = some (Out.mk Xt.normal (frOf 105 [(0, .int .u8 sn), (1, (zSB 0 n c)), (6, (zSB 1 m m)), (7, (zSB 2 (q + 1 + 1) (q + 1 + 1))), (8, .int .i64 ((↑i : Int) + 1))]) [.ro 3 cs, .own 3 es, .own 5 (bs ++ [.int .u8 ((x + 65536) % 256)] ++ [.int .u8 ((x + 65536) / 256 % 256)])] [], true, [decide ((↑i : Int) < (↑m : Int)) = true, inside (↑i : Int) n = true, decide (0 + Int.toNat (↑i : Int) * 1 < List.length cs) = true, isInt .i64 (List.getD cs (0 + Int.toNat (↑i : Int) * 1) undef) = true, type_of% hv, inside (↑i : Int) m = true, decide (0 + Int.toNat (↑i : Int) * 1 < List.length es) = true, isInt .i64 (List.getD es (0 + Int.toNat (↑i : Int) * 1) undef) = true, type_of% hw, inside (↑i : Int) m = true, decide (0 + Int.toNat (↑i : Int) * 1 < List.length es) = true, isInt .i64 (List.getD es (0 + Int.toNat (↑i : Int) * 1) undef) = true, type_of% hw, decide (x < -32768) = false, decide (x < -32768) = false, decide (x < -32768) = false, decide (x < -32768) = false, decide (x < -32768) = false, inside (↑i : Int) m = true, decide (x < -32768) = false, decide (0 + Int.toNat (↑i : Int) * 1 < List.length es) = true, isInt .i64 (List.getD es (0 + Int.toNat (↑i : Int) * 1) undef) = true, type_of% hw, decide (x < -32768) = false, decide (x < -32768) = false, decide (x < -32768) = false, decide (x < -32768) = false, decide (x < -32768) = false, decide (x > 32767) = false, decide (x < 0) = true, inside (↑i : Int) m = true, decide (0 + Int.toNat (↑i : Int) * 1 < List.length es) = true, isInt .i64 (List.getD es (0 + Int.toNat (↑i : Int) * 1) undef) = true, type_of% hw, Value.int .i64 (IntKind.wrap .i64 (x + 65536)) = .int .i64 (x + 65536), inside (↑i : Int) m = true, decide (0 + Int.toNat (↑i : Int) * 1 < List.length es) = true, isInt .i64 (List.getD es (0 + Int.toNat (↑i : Int) * 1) undef) = true, type_of% hw, Value.int .i64 (Int.tmod (x + 65536) 256) = .int .i64 ((x + 65536) % 256), Value.int .u8 (IntKind.wrap IntKind.u8 ((x + 65536) % 256)) = .int .u8 ((x + 65536) % 256), (true && decide ((q + 1) * 1 ≤ 140737488355328) && decide (q + 1 ≤ 140737488355328) && decide (q * 1 ≤ List.length bs)) = true, decide (q + 1 ≤ q) = false, decide (List.length bs = q * 1) = true, Value.int .i64 (IntKind.wrap .i64 (Int.tdiv (x + 65536) 256)) = .int .i64 ((x + 65536) / 256), inside (↑i : Int) m = true, decide (0 + Int.toNat (↑i : Int) * 1 < List.length es) = true, isInt .i64 (List.getD es (0 + Int.toNat (↑i : Int) * 1) undef) = true, type_of% hw, Value.int .i64 (Int.tmod ((x + 65536) / 256) 256) = .int .i64 ((x + 65536) / 256 % 256), Value.int .u8 (IntKind.wrap IntKind.u8 ((x + 65536) / 256 % 256)) = .int .u8 ((x + 65536) / 256 % 256), (true && decide ((q + 1 + 1) * 1 ≤ 140737488355328) && decide (q + 1 + 1 ≤ 140737488355328) && decide ((q + 1) * 1 ≤ List.length (bs ++ [.int .u8 ((x + 65536) % 256)]))) = true, decide (q + 1 + 1 ≤ q + 1) = false, decide (List.length (bs ++ [.int .u8 ((x + 65536) % 256)]) = (q + 1) * 1) = true, Value.int .i64 (IntKind.wrap .i64 (Int.tdiv ((x + 65536) / 256) 256)) = .int .i64 ((x + 65536) / 256 / 256), inside (↑i : Int) m = true, decide (0 + Int.toNat (↑i : Int) * 1 < List.length es) = true, isInt .i64 (List.getD es (0 + Int.toNat (↑i : Int) * 1) undef) = true, type_of% hw, Value.int .i64 (IntKind.wrap .i64 ((↑i : Int) + 1)) = .int .i64 ((↑i : Int) + 1)]) := by kernel_rfl
theorem rw_m2_pfff : go (body (Try.prog) (8) (1) (8) (kQ) (lpQ) (frQ sn n c q m (↑i : Int)) ([.ro 3 cs, .own 3 es, .own 5 bs])) [(5, .dec true), (2, Itm.must), (1, Itm.must), (0, Itm.must), (0, Itm.val (.int .i64 x)), (6, Itm.must), (1, Itm.must), (0, Itm.must), (0, Itm.val (.int .i64 (-2))), (5, Itm.must), (1, Itm.must), (0, Itm.must), (0, Itm.val (.int .i64 (-2))), (100, .dec false), (1, .dec false), (1, .dec false), (1, .dec false), (1, .dec false), (0, Itm.must), (1, .dec false), (0, Itm.must), (0, Itm.must), (0, Itm.val (.int .i64 (-2))), (0, .dec false), (91, .dec false), (1, .dec false), (1, .dec false), (1, .dec false), (2, .dec false), (3, .dec false), (6, Itm.must), (1, Itm.must), (0, Itm.must), (0, Itm.val (.int .i64 (-2))), (21, Itm.val (.int .i64 (x % 256))), (0, Itm.val (.int .u8 (x % 256))), (7, Itm.must), (0, .dec false), (0, Itm.must), (5, Itm.val (.int .i64 (x / 256))), (9, Itm.must), (1, Itm.must), (0, Itm.must), (0, Itm.val (.int .i64 (-2))), (21, Itm.val (.int .i64 (x / 256 % 256))), (0, Itm.val (.int .u8 (x / 256 % 256))), (7, Itm.must), (0, .dec false), (0, Itm.must), (5, Itm.val (.int .i64 (x / 256 / 256))), (9, Itm.must), (1, Itm.must), (0, Itm.must), (0, Itm.val (.int .i64 (-2))), (19, Itm.val (.int .i64 ((↑i : Int) + 1)))] = some (Out.mk Xt.normal (frOf 105 [(0, .int .u8 sn), (1, (zSB 0 n c)), (6, (zSB 1 m m)), (7, (zSB 2 (q + 1 + 1) (q + 1 + 1))), (8, .int .i64 ((↑i : Int) + 1))]) [.ro 3 cs, .own 3 es, .own 5 (bs ++ [.int .u8 (x % 256)] ++ [.int .u8 (x / 256 % 256)])] [], true, [decide ((↑i : Int) < (↑m : Int)) = true, inside (↑i : Int) n = true, decide (0 + Int.toNat (↑i : Int) * 1 < List.length cs) = true, isInt .i64 (List.getD cs (0 + Int.toNat (↑i : Int) * 1) undef) = true, type_of% hv, inside (↑i : Int) m = true, decide (0 + Int.toNat (↑i : Int) * 1 < List.length es) = true, isInt .i64 (List.getD es (0 + Int.toNat (↑i : Int) * 1) undef) = true, type_of% hw, inside (↑i : Int) m = true, decide (0 + Int.toNat (↑i : Int) * 1 < List.length es) = true, isInt .i64 (List.getD es (0 + Int.toNat (↑i : Int) * 1) undef) = true, type_of% hw, decide (x < -32768) = false, decide (x < -32768) = false, decide (x < -32768) = false, decide (x < -32768) = false, decide (x < -32768) = false, inside (↑i : Int) m = true, decide (x < -32768) = false, decide (0 + Int.toNat (↑i : Int) * 1 < List.length es) = true, isInt .i64 (List.getD es (0 + Int.toNat (↑i : Int) * 1) undef) = true, type_of% hw, decide (x < -32768) = false, decide (x < -32768) = false, decide (x < -32768) = false, decide (x < -32768) = false, decide (x < -32768) = false, decide (x > 32767) = false, decide (x < 0) = false, inside (↑i : Int) m = true, decide (0 + Int.toNat (↑i : Int) * 1 < List.length es) = true, isInt .i64 (List.getD es (0 + Int.toNat (↑i : Int) * 1) undef) = true, type_of% hw, Value.int .i64 (Int.tmod x 256) = .int .i64 (x % 256), Value.int .u8 (IntKind.wrap IntKind.u8 (x % 256)) = .int .u8 (x % 256), (true && decide ((q + 1) * 1 ≤ 140737488355328) && decide (q + 1 ≤ 140737488355328) && decide (q * 1 ≤ List.length bs)) = true, decide (q + 1 ≤ q) = false, decide (List.length bs = q * 1) = true, Value.int .i64 (IntKind.wrap .i64 (Int.tdiv x 256)) = .int .i64 (x / 256), inside (↑i : Int) m = true, decide (0 + Int.toNat (↑i : Int) * 1 < List.length es) = true, isInt .i64 (List.getD es (0 + Int.toNat (↑i : Int) * 1) undef) = true, type_of% hw, Value.int .i64 (Int.tmod (x / 256) 256) = .int .i64 (x / 256 % 256), Value.int .u8 (IntKind.wrap IntKind.u8 (x / 256 % 256)) = .int .u8 (x / 256 % 256), (true && decide ((q + 1 + 1) * 1 ≤ 140737488355328) && decide (q + 1 + 1 ≤ 140737488355328) && decide ((q + 1) * 1 ≤ List.length (bs ++ [.int .u8 (x % 256)]))) = true, decide (q + 1 + 1 ≤ q + 1) = false, decide (List.length (bs ++ [.int .u8 (x % 256)]) = (q + 1) * 1) = true, Value.int .i64 (IntKind.wrap .i64 (Int.tdiv (x / 256) 256)) = .int .i64 (x / 256 / 256), inside (↑i : Int) m = true, decide (0 + Int.toNat (↑i : Int) * 1 < List.length es) = true, isInt .i64 (List.getD es (0 + Int.toNat (↑i : Int) * 1) undef) = true, type_of% hw, Value.int .i64 (IntKind.wrap .i64 ((↑i : Int) + 1)) = .int .i64 ((↑i : Int) + 1)]) := by kernel_rfl
theorem rw_m2 (R : Out) (k_pt : (h0 : x < -32768) → Out.le (Out.mk Xt.ret (frOf 105 [(4, .string (ByteArray.mk #[])), (5, .int .i64 5)]) [.ro 3 cs] []) R) (k_pft : (h0 : ¬ (x < -32768)) → (h1 : x > 32767) → Out.le (Out.mk Xt.ret (frOf 105 [(4, .string (ByteArray.mk #[])), (5, .int .i64 5)]) [.ro 3 cs] []) R) (k_pfft : (h0 : ¬ (x < -32768)) → (h1 : ¬ (x > 32767)) → (h2 : x < 0) → Out.le (Out.mk Xt.normal (frOf 105 [(0, .int .u8 sn), (1, (zSB 0 n c)), (6, (zSB 1 m m)), (7, (zSB 2 (q + 1 + 1) (q + 1 + 1))), (8, .int .i64 ((↑i : Int) + 1))]) [.ro 3 cs, .own 3 es, .own 5 (bs ++ [.int .u8 ((x + 65536) % 256)] ++ [.int .u8 ((x + 65536) / 256 % 256)])] []) R) (k_pfff : (h0 : ¬ (x < -32768)) → (h1 : ¬ (x > 32767)) → (h2 : ¬ (x < 0)) → Out.le (Out.mk Xt.normal (frOf 105 [(0, .int .u8 sn), (1, (zSB 0 n c)), (6, (zSB 1 m m)), (7, (zSB 2 (q + 1 + 1) (q + 1 + 1))), (8, .int .i64 ((↑i : Int) + 1))]) [.ro 3 cs, .own 3 es, .own 5 (bs ++ [.int .u8 (x % 256)] ++ [.int .u8 (x / 256 % 256)])] []) R) : CodeSpec (Try.prog) (1) (lpQ) (frQ sn n c q m (↑i : Int)) ([.ro 3 cs, .own 3 es, .own 5 bs]) R := by
  by_cases h0 : x < -32768
  · exact (CodeSpec.id (go_ok (body_ok tnamed tcalm tmixed _ _ _ _ _ _ lpQ_calm) (rw_m2_pt sn x n c q m i cs bs es hcs hbs hes hq hi hx hw0 hw hv0 hv ) (aC dO (aC (inside_of (by omega)) (aC dO (aC ((by omega)) (aC (hv) (aC (inside_of (by omega)) (aC dO (aC ((by omega)) (aC (hw) (aC (inside_of (by omega)) (aC dO (aC ((by omega)) (aC (hw) (aC (dTq h0) (aC (dTq h0) (aC (dTq h0) (aC (dTq h0) (aC (dTq h0) (aC (dTq h0) (aC (dTq h0) (aC (dTq h0) (aC (dTq h0) (aC (dTq h0) (aC (dTq h0) aN)))))))))))))))))))))))))).le (k_pt h0)
  · by_cases h1 : x > 32767
    · exact (CodeSpec.id (go_ok (body_ok tnamed tcalm tmixed _ _ _ _ _ _ lpQ_calm) (rw_m2_pft sn x n c q m i cs bs es hcs hbs hes hq hi hx hw0 hw hv0 hv ) (aC dO (aC (inside_of (by omega)) (aC dO (aC ((by omega)) (aC (hv) (aC (inside_of (by omega)) (aC dO (aC ((by omega)) (aC (hw) (aC (inside_of (by omega)) (aC dO (aC ((by omega)) (aC (hw) (aC (dFq h0) (aC (dFq h0) (aC (dFq h0) (aC (dFq h0) (aC (dFq h0) (aC (inside_of (by omega)) (aC (dFq h0) (aC dO (aC ((by omega)) (aC (hw) (aC (dFq h0) (aC (dFq h0) (aC (dFq h0) (aC (dFq h0) (aC (dFq h0) (aC (dTq h1) aN))))))))))))))))))))))))))))))).le (k_pft h0 h1)
    · by_cases h2 : x < 0
      · exact (CodeSpec.id (go_ok (body_ok tnamed tcalm tmixed _ _ _ _ _ _ lpQ_calm) (rw_m2_pfft sn x n c q m i cs bs es hcs hbs hes hq hi hx hw0 hw hv0 hv ) (aC dO (aC (inside_of (by omega)) (aC dO (aC ((by omega)) (aC (hv) (aC (inside_of (by omega)) (aC dO (aC ((by omega)) (aC (hw) (aC (inside_of (by omega)) (aC dO (aC ((by omega)) (aC (hw) (aC (dFq h0) (aC (dFq h0) (aC (dFq h0) (aC (dFq h0) (aC (dFq h0) (aC (inside_of (by omega)) (aC (dFq h0) (aC dO (aC ((by omega)) (aC (hw) (aC (dFq h0) (aC (dFq h0) (aC (dFq h0) (aC (dFq h0) (aC (dFq h0) (aC (dFq h1) (aC (dTq h2) (aC (inside_of (by omega)) (aC dO (aC ((by omega)) (aC (hw) (aC (congrArg (Value.int _) (Go.IntWalk.i64_in _ (by omega))) (aC (inside_of (by omega)) (aC dO (aC ((by omega)) (aC (hw) (aC (congrArg (Value.int _) (Int.tmod_eq_emod_of_nonneg (by omega))) (aC (congrArg (Value.int _) (Go.IntWalk.u8_in _ (by omega))) (aC ((by simp [ByteArray.size_append, ByteArray.size_extract, sz_mk] <;> omega)) (aC dN (aC dO (aC (congrArg (Value.int _) (quo_in ⟨by omega, by simp [IntKind.max, IntKind.bits, IntKind.signed] <;> omega, by omega⟩)) (aC (inside_of (by omega)) (aC dO (aC ((by omega)) (aC (hw) (aC (congrArg (Value.int _) (Int.tmod_eq_emod_of_nonneg (by omega))) (aC (congrArg (Value.int _) (Go.IntWalk.u8_in _ (by omega))) (aC ((by simp [ByteArray.size_append, ByteArray.size_extract, sz_mk] <;> omega)) (aC dN (aC (dTq (by simp [ByteArray.size_append, ByteArray.size_extract, sz_mk] <;> omega)) (aC (congrArg (Value.int _) (quo_in ⟨by omega, by simp [IntKind.max, IntKind.bits, IntKind.signed] <;> omega, by omega⟩)) (aC (inside_of (by omega)) (aC dO (aC ((by omega)) (aC (hw) (aC (congrArg (Value.int _) (Go.IntWalk.i64_in _ (by omega))) aN)))))))))))))))))))))))))))))))))))))))))))))))))))))))))))))).le (k_pfft h0 h1 h2)
      · exact (CodeSpec.id (go_ok (body_ok tnamed tcalm tmixed _ _ _ _ _ _ lpQ_calm) (rw_m2_pfff sn x n c q m i cs bs es hcs hbs hes hq hi hx hw0 hw hv0 hv ) (aC dO (aC (inside_of (by omega)) (aC dO (aC ((by omega)) (aC (hv) (aC (inside_of (by omega)) (aC dO (aC ((by omega)) (aC (hw) (aC (inside_of (by omega)) (aC dO (aC ((by omega)) (aC (hw) (aC (dFq h0) (aC (dFq h0) (aC (dFq h0) (aC (dFq h0) (aC (dFq h0) (aC (inside_of (by omega)) (aC (dFq h0) (aC dO (aC ((by omega)) (aC (hw) (aC (dFq h0) (aC (dFq h0) (aC (dFq h0) (aC (dFq h0) (aC (dFq h0) (aC (dFq h1) (aC (dFq h2) (aC (inside_of (by omega)) (aC dO (aC ((by omega)) (aC (hw) (aC (congrArg (Value.int _) (Int.tmod_eq_emod_of_nonneg (by omega))) (aC (congrArg (Value.int _) (Go.IntWalk.u8_in _ (by omega))) (aC ((by simp [ByteArray.size_append, ByteArray.size_extract, sz_mk] <;> omega)) (aC dN (aC dO (aC (congrArg (Value.int _) (quo_in ⟨by omega, by simp [IntKind.max, IntKind.bits, IntKind.signed] <;> omega, by omega⟩)) (aC (inside_of (by omega)) (aC dO (aC ((by omega)) (aC (hw) (aC (congrArg (Value.int _) (Int.tmod_eq_emod_of_nonneg (by omega))) (aC (congrArg (Value.int _) (Go.IntWalk.u8_in _ (by omega))) (aC ((by simp [ByteArray.size_append, ByteArray.size_extract, sz_mk] <;> omega)) (aC dN (aC (dTq (by simp [ByteArray.size_append, ByteArray.size_extract, sz_mk] <;> omega)) (aC (congrArg (Value.int _) (quo_in ⟨by omega, by simp [IntKind.max, IntKind.bits, IntKind.signed] <;> omega, by omega⟩)) (aC (inside_of (by omega)) (aC dO (aC ((by omega)) (aC (hw) (aC (congrArg (Value.int _) (Go.IntWalk.i64_in _ (by omega))) aN))))))))))))))))))))))))))))))))))))))))))))))))))))))))).le (k_pfff h0 h1 h2)
end
section
variable (sn x : Int) (n c q m i : Nat) (cs bs es : List Value) (hcs : n ≤ List.length cs) (hbs : List.length bs = q) (hes : List.length es = m) (hq : 1 ≤ q ∧ q ≤ 40) (hi : i < n ∧ i < m ∧ m ≤ 5) (hx : -9223372036854775808 ≤ x ∧ x ≤ 9223372036854775807) (hw0 : isInt .i64 (List.getD es (0 + Int.toNat (↑i : Int) * 1) undef) = true) (hw : Value.int .i64 (intOf (List.getD es (0 + Int.toNat (↑i : Int) * 1) undef)) = .int .i64 (-4)) (hv0 : isInt .i64 (List.getD cs (0 + Int.toNat (↑i : Int) * 1) undef) = true) (hv : Value.int .i64 (intOf (List.getD cs (0 + Int.toNat (↑i : Int) * 1) undef)) = .int .i64 x)
include sn x n c q m i cs bs es hcs hbs hes hq hi hx hw0 hw hv0 hv
theorem rw_m4_pt : go (body (Try.prog) (8) (1) (8) (kQ) (lpQ) (frQ sn n c q m (↑i : Int)) ([.ro 3 cs, .own 3 es, .own 5 bs])) [(5, .dec true), (2, Itm.must), (1, Itm.must), (0, Itm.must), (0, Itm.val (.int .i64 x)), (6, Itm.must), (1, Itm.must), (0, Itm.must), (0, Itm.val (.int .i64 (-4))), (5, Itm.must), (1, Itm.must), (0, Itm.must), (0, Itm.val (.int .i64 (-4))), (156, .dec true), (0, .dec true), (0, .dec true), (0, .dec true), (0, .dec true), (0, .dec true), (0, .dec true), (0, .dec true), (0, .dec true), (0, .dec true), (0, .dec true)] = some (Out.mk Xt.ret (frOf 105 [(4, .string (ByteArray.mk #[])), (5, .int .i64 5)]) [.ro 3 cs] [], true, [decide ((↑i : Int) < (↑m : Int)) = true, inside (↑i : Int) n = true, decide (0 + Int.toNat (↑i : Int) * 1 < List.length cs) = true, isInt .i64 (List.getD cs (0 + Int.toNat (↑i : Int) * 1) undef) = true, type_of% hv, inside (↑i : Int) m = true, decide (0 + Int.toNat (↑i : Int) * 1 < List.length es) = true, isInt .i64 (List.getD es (0 + Int.toNat (↑i : Int) * 1) undef) = true, type_of% hw, inside (↑i : Int) m = true, decide (0 + Int.toNat (↑i : Int) * 1 < List.length es) = true, isInt .i64 (List.getD es (0 + Int.toNat (↑i : Int) * 1) undef) = true, type_of% hw, decide (x < -2147483648) = true, decide (x < -2147483648) = true, decide (x < -2147483648) = true, decide (x < -2147483648) = true, decide (x < -2147483648) = true, decide (x < -2147483648) = true, decide (x < -2147483648) = true, decide (x < -2147483648) = true, decide (x < -2147483648) = true, decide (x < -2147483648) = true, decide (x < -2147483648) = true]) := by kernel_rfl
theorem rw_m4_pft : go (body (Try.prog) (8) (1) (8) (kQ) (lpQ) (frQ sn n c q m (↑i : Int)) ([.ro 3 cs, .own 3 es, .own 5 bs])) [(5, .dec true), (2, Itm.must), (1, Itm.must), (0, Itm.must), (0, Itm.val (.int .i64 x)), (6, Itm.must), (1, Itm.must), (0, Itm.must), (0, Itm.val (.int .i64 (-4))), (5, Itm.must), (1, Itm.must), (0, Itm.must), (0, Itm.val (.int .i64 (-4))), (156, .dec false), (1, .dec false), (1, .dec false), (1, .dec false), (1, .dec false), (0, Itm.must), (1, .dec false), (0, Itm.must), (0, Itm.must), (0, Itm.val (.int .i64 (-4))), (0, .dec false), (147, .dec false), (1, .dec false), (1, .dec false), (1, .dec false), (2, .dec true)] = some (Out.mk Xt.ret (frOf 105 [(4, .string (ByteArray.mk #[])), (5, .int .i64 5)]) [.ro 3 cs] [], true, [decide ((↑i : Int) < (↑m : Int)) = true, inside (↑i : Int) n = true, decide (0 + Int.toNat (↑i : Int) * 1 < List.length cs) = true, isInt .i64 (List.getD cs (0 + Int.toNat (↑i : Int) * 1) undef) = true, type_of% hv, inside (↑i : Int) m = true, decide (0 + Int.toNat (↑i : Int) * 1 < List.length es) = true, isInt .i64 (List.getD es (0 + Int.toNat (↑i : Int) * 1) undef) = true, type_of% hw, inside (↑i : Int) m = true, decide (0 + Int.toNat (↑i : Int) * 1 < List.length es) = true, isInt .i64 (List.getD es (0 + Int.toNat (↑i : Int) * 1) undef) = true, type_of% hw, decide (x < -2147483648) = false, decide (x < -2147483648) = false, decide (x < -2147483648) = false, decide (x < -2147483648) = false, decide (x < -2147483648) = false, inside (↑i : Int) m = true, decide (x < -2147483648) = false, decide (0 + Int.toNat (↑i : Int) * 1 < List.length es) = true, isInt .i64 (List.getD es (0 + Int.toNat (↑i : Int) * 1) undef) = true, type_of% hw, decide (x < -2147483648) = false, decide (x < -2147483648) = false, decide (x < -2147483648) = false, decide (x < -2147483648) = false, decide (x < -2147483648) = false, decide (x > 2147483647) = true]) := by kernel_rfl
theorem rw_m4_pfft : go (body (Try.prog) (8) (1) (8) (kQ) (lpQ) (frQ sn n c q m (↑i : Int)) ([.ro 3 cs, .own 3 es, .own 5 bs])) [(5, .dec true), (2, Itm.must), (1, Itm.must), (0, Itm.must), (0, Itm.val (.int .i64 x)), (6, Itm.must), (1, Itm.must), (0, Itm.must), (0, Itm.val (.int .i64 (-4))), (5, Itm.must), (1, Itm.must), (0, Itm.must), (0, Itm.val (.int .i64 (-4))), (156, .dec false), (1, .dec false), (1, .dec false), (1, .dec false), (1, .dec false), (0, Itm.must), (1, .dec false), (0, Itm.must), (0, Itm.must), (0, Itm.val (.int .i64 (-4))), (0, .dec false), (147, .dec false), (1, .dec false), (1, .dec false), (1, .dec false), (2, .dec false), (3, .dec true), (3, Itm.must), (1, Itm.must), (0, Itm.must), (0, Itm.val (.int .i64 (-4))), (147, Itm.val (.int .i64 (x + 4294967296))), (8, Itm.must), (1, Itm.must), (0, Itm.must), (0, Itm.val (.int .i64 (-4))), (21, Itm.val (.int .i64 ((x + 4294967296) % 256))), (0, Itm.val (.int .u8 ((x + 4294967296) % 256))), (7, Itm.must), (0, .dec false), (0, Itm.must), (5, Itm.val (.int .i64 ((x + 4294967296) / 256))), (9, Itm.must), (1, Itm.must), (0, Itm.must), (0, Itm.val (.int .i64 (-4))), (21, Itm.val (.int .i64 ((x + 4294967296) / 256 % 256))), (0, Itm.val (.int .u8 ((x + 4294967296) / 256 % 256))), (7, Itm.must), (0, .dec false), (0, Itm.must), (5, Itm.val (.int .i64 ((x + 4294967296) / 256 / 256))), (9, Itm.must), (1, Itm.must), (0, Itm.must), (0, Itm.val (.int .i64 (-4))), (21, Itm.val (.int .i64 ((x + 4294967296) / 256 / 256 % 256))), (0, Itm.val (.int .u8 ((x + 4294967296) / 256 / 256 % 256))), (7, Itm.must), (0, .dec false), (0, Itm.must), (5, Itm.val (.int .i64 ((x + 4294967296) / 256 / 256 / 256))), (9, Itm.must), (1, Itm.must), (0, Itm.must), (0, Itm.val (.int .i64 (-4))), (21, Itm.val (.int .i64 ((x + 4294967296) / 256 / 256 / 256 % 256))), (0, Itm.val (.int .u8 ((x + 4294967296) / 256 / 256 / 256 % 256))), (7, Itm.must), (0, .dec false), (0, Itm.must), (5, Itm.val (.int .i64 ((x + 4294967296) / 256 / 256 / 256 / 256))), (9, Itm.must), (1, Itm.must), (0, Itm.must), (0, Itm.val (.int .i64 (-4))), (19, Itm.val (.int .i64 ((↑i : Int) + 1)))] = some (Out.mk Xt.normal (frOf 105 [(0, .int .u8 sn), (1, (zSB 0 n c)), (6, (zSB 1 m m)), (7, (zSB 2 (q + 1 + 1 + 1 + 1) (q + 1 + 1 + 1 + 1))), (8, .int .i64 ((↑i : Int) + 1))]) [.ro 3 cs, .own 3 es, .own 5 (bs ++ [.int .u8 ((x + 4294967296) % 256)] ++ [.int .u8 ((x + 4294967296) / 256 % 256)] ++ [.int .u8 ((x + 4294967296) / 256 / 256 % 256)] ++ [.int .u8 ((x + 4294967296) / 256 / 256 / 256 % 256)])] [], true, [decide ((↑i : Int) < (↑m : Int)) = true, inside (↑i : Int) n = true, decide (0 + Int.toNat (↑i : Int) * 1 < List.length cs) = true, isInt .i64 (List.getD cs (0 + Int.toNat (↑i : Int) * 1) undef) = true, type_of% hv, inside (↑i : Int) m = true, decide (0 + Int.toNat (↑i : Int) * 1 < List.length es) = true, isInt .i64 (List.getD es (0 + Int.toNat (↑i : Int) * 1) undef) = true, type_of% hw, inside (↑i : Int) m = true, decide (0 + Int.toNat (↑i : Int) * 1 < List.length es) = true, isInt .i64 (List.getD es (0 + Int.toNat (↑i : Int) * 1) undef) = true, type_of% hw, decide (x < -2147483648) = false, decide (x < -2147483648) = false, decide (x < -2147483648) = false, decide (x < -2147483648) = false, decide (x < -2147483648) = false, inside (↑i : Int) m = true, decide (x < -2147483648) = false, decide (0 + Int.toNat (↑i : Int) * 1 < List.length es) = true, isInt .i64 (List.getD es (0 + Int.toNat (↑i : Int) * 1) undef) = true, type_of% hw, decide (x < -2147483648) = false, decide (x < -2147483648) = false, decide (x < -2147483648) = false, decide (x < -2147483648) = false, decide (x < -2147483648) = false, decide (x > 2147483647) = false, decide (x < 0) = true, inside (↑i : Int) m = true, decide (0 + Int.toNat (↑i : Int) * 1 < List.length es) = true, isInt .i64 (List.getD es (0 + Int.toNat (↑i : Int) * 1) undef) = true, type_of% hw, Value.int .i64 (IntKind.wrap .i64 (x + 4294967296)) = .int .i64 (x + 4294967296), inside (↑i : Int) m = true, decide (0 + Int.toNat (↑i : Int) * 1 < List.length es) = true, isInt .i64 (List.getD es (0 + Int.toNat (↑i : Int) * 1) undef) = true, type_of% hw, Value.int .i64 (Int.tmod (x + 4294967296) 256) = .int .i64 ((x + 4294967296) % 256), Value.int .u8 (IntKind.wrap IntKind.u8 ((x + 4294967296) % 256)) = .int .u8 ((x + 4294967296) % 256), (true && decide ((q + 1) * 1 ≤ 140737488355328) && decide (q + 1 ≤ 140737488355328) && decide (q * 1 ≤ List.length bs)) = true, decide (q + 1 ≤ q) = false, decide (List.length bs = q * 1) = true, Value.int .i64 (IntKind.wrap .i64 (Int.tdiv (x + 4294967296) 256)) = .int .i64 ((x + 4294967296) / 256), inside (↑i : Int) m = true, decide (0 + Int.toNat (↑i : Int) * 1 < List.length es) = true, isInt .i64 (List.getD es (0 + Int.toNat (↑i : Int) * 1) undef) = true, type_of% hw, Value.int .i64 (Int.tmod ((x + 4294967296) / 256) 256) = .int .i64 ((x + 4294967296) / 256 % 256), Value.int .u8 (IntKind.wrap IntKind.u8 ((x + 4294967296) / 256 % 256)) = .int .u8 ((x + 4294967296) / 256 % 256), (true && decide ((q + 1 + 1) * 1 ≤ 140737488355328) && decide (q + 1 + 1 ≤ 140737488355328) && decide ((q + 1) * 1 ≤ List.length (bs ++ [.int .u8 ((x + 4294967296) % 256)]))) = true, decide (q + 1 + 1 ≤ q + 1) = false, decide (List.length (bs ++ [.int .u8 ((x + 4294967296) % 256)]) = (q + 1) * 1) = true, Value.int .i64 (IntKind.wrap .i64 (Int.tdiv ((x + 4294967296) / 256) 256)) = .int .i64 ((x + 4294967296) / 256 / 256), inside (↑i : Int) m = true, decide (0 + Int.toNat (↑i : Int) * 1 < List.length es) = true, isInt .i64 (List.getD es (0 + Int.toNat (↑i : Int) * 1) undef) = true, type_of% hw, Value.int .i64 (Int.tmod ((x + 4294967296) / 256 / 256) 256) = .int .i64 ((x + 4294967296) / 256 / 256 % 256), Value.int .u8 (IntKind.wrap IntKind.u8 ((x + 4294967296) / 256 / 256 % 256)) = .int .u8 ((x + 4294967296) / 256 / 256 % 256), (true && decide ((q + 1 + 1 + 1) * 1 ≤ 140737488355328) && decide (q + 1 + 1 + 1 ≤ 140737488355328) && decide ((q + 1 + 1) * 1 ≤ List.length (bs ++ [.int .u8 ((x + 4294967296) % 256)] ++ [.int .u8 ((x + 4294967296) / 256 % 256)]))) = true, decide (q + 1 + 1 + 1 ≤ q + 1 + 1) = false, decide (List.length (bs ++ [.int .u8 ((x + 4294967296) % 256)] ++ [.int .u8 ((x + 4294967296) / 256 % 256)]) = (q + 1 + 1) * 1) = true, Value.int .i64 (IntKind.wrap .i64 (Int.tdiv ((x + 4294967296) / 256 / 256) 256)) = .int .i64 ((x + 4294967296) / 256 / 256 / 256), inside (↑i : Int) m = true, decide (0 + Int.toNat (↑i : Int) * 1 < List.length es) = true, isInt .i64 (List.getD es (0 + Int.toNat (↑i : Int) * 1) undef) = true, type_of% hw, Value.int .i64 (Int.tmod ((x + 4294967296) / 256 / 256 / 256) 256) = .int .i64 ((x + 4294967296) / 256 / 256 / 256 % 256), Value.int .u8 (IntKind.wrap IntKind.u8 ((x + 4294967296) / 256 / 256 / 256 % 256)) = .int .u8 ((x + 4294967296) / 256 / 256 / 256 % 256), (true && decide ((q + 1 + 1 + 1 + 1) * 1 ≤ 140737488355328) && decide (q + 1 + 1 + 1 + 1 ≤ 140737488355328) && decide ((q + 1 + 1 + 1) * 1 ≤ List.length (bs ++ [.int .u8 ((x + 4294967296) % 256)] ++ [.int .u8 ((x + 4294967296) / 256 % 256)] ++ [.int .u8 ((x + 4294967296) / 256 / 256 % 256)]))) = true, decide (q + 1 + 1 + 1 + 1 ≤ q + 1 + 1 + 1) = false, decide (List.length (bs ++ [.int .u8 ((x + 4294967296) % 256)] ++ [.int .u8 ((x + 4294967296) / 256 % 256)] ++ [.int .u8 ((x + 4294967296) / 256 / 256 % 256)]) = (q + 1 + 1 + 1) * 1) = true, Value.int .i64 (IntKind.wrap .i64 (Int.tdiv ((x + 4294967296) / 256 / 256 / 256) 256)) = .int .i64 ((x + 4294967296) / 256 / 256 / 256 / 256), inside (↑i : Int) m = true, decide (0 + Int.toNat (↑i : Int) * 1 < List.length es) = true, isInt .i64 (List.getD es (0 + Int.toNat (↑i : Int) * 1) undef) = true, type_of% hw, Value.int .i64 (IntKind.wrap .i64 ((↑i : Int) + 1)) = .int .i64 ((↑i : Int) + 1)]) := by kernel_rfl
theorem rw_m4_pfff : go (body (Try.prog) (8) (1) (8) (kQ) (lpQ) (frQ sn n c q m (↑i : Int)) ([.ro 3 cs, .own 3 es, .own 5 bs])) [(5, .dec true), (2, Itm.must), (1, Itm.must), (0, Itm.must), (0, Itm.val (.int .i64 x)), (6, Itm.must), (1, Itm.must), (0, Itm.must), (0, Itm.val (.int .i64 (-4))), (5, Itm.must), (1, Itm.must), (0, Itm.must), (0, Itm.val (.int .i64 (-4))), (156, .dec false), (1, .dec false), (1, .dec false), (1, .dec false), (1, .dec false), (0, Itm.must), (1, .dec false), (0, Itm.must), (0, Itm.must), (0, Itm.val (.int .i64 (-4))), (0, .dec false), (147, .dec false), (1, .dec false), (1, .dec false), (1, .dec false), (2, .dec false), (3, .dec false), (6, Itm.must), (1, Itm.must), (0, Itm.must), (0, Itm.val (.int .i64 (-4))), (21, Itm.val (.int .i64 (x % 256))), (0, Itm.val (.int .u8 (x % 256))), (7, Itm.must), (0, .dec false), (0, Itm.must), (5, Itm.val (.int .i64 (x / 256))), (9, Itm.must), (1, Itm.must), (0, Itm.must), (0, Itm.val (.int .i64 (-4))), (21, Itm.val (.int .i64 (x / 256 % 256))), (0, Itm.val (.int .u8 (x / 256 % 256))), (7, Itm.must), (0, .dec false), (0, Itm.must), (5, Itm.val (.int .i64 (x / 256 / 256))), (9, Itm.must), (1, Itm.must), (0, Itm.must), (0, Itm.val (.int .i64 (-4))), (21, Itm.val (.int .i64 (x / 256 / 256 % 256))), (0, Itm.val (.int .u8 (x / 256 / 256 % 256))), (7, Itm.must), (0, .dec false), (0, Itm.must), (5, Itm.val (.int .i64 (x / 256 / 256 / 256))), (9, Itm.must), (1, Itm.must), (0, Itm.must), (0, Itm.val (.int .i64 (-4))), (21, Itm.val (.int .i64 (x / 256 / 256 / 256 % 256))), (0, Itm.val (.int .u8 (x / 256 / 256 / 256 % 256))), (7, Itm.must), (0, .dec false), (0, Itm.must), (5, Itm.val (.int .i64 (x / 256 / 256 / 256 / 256))), (9, Itm.must), (1, Itm.must), (0, Itm.must), (0, Itm.val (.int .i64 (-4))), (19, Itm.val (.int .i64 ((↑i : Int) + 1)))] = some (Out.mk Xt.normal (frOf 105 [(0, .int .u8 sn), (1, (zSB 0 n c)), (6, (zSB 1 m m)), (7, (zSB 2 (q + 1 + 1 + 1 + 1) (q + 1 + 1 + 1 + 1))), (8, .int .i64 ((↑i : Int) + 1))]) [.ro 3 cs, .own 3 es, .own 5 (bs ++ [.int .u8 (x % 256)] ++ [.int .u8 (x / 256 % 256)] ++ [.int .u8 (x / 256 / 256 % 256)] ++ [.int .u8 (x / 256 / 256 / 256 % 256)])] [], true, [decide ((↑i : Int) < (↑m : Int)) = true, inside (↑i : Int) n = true, decide (0 + Int.toNat (↑i : Int) * 1 < List.length cs) = true, isInt .i64 (List.getD cs (0 + Int.toNat (↑i : Int) * 1) undef) = true, type_of% hv, inside (↑i : Int) m = true, decide (0 + Int.toNat (↑i : Int) * 1 < List.length es) = true, isInt .i64 (List.getD es (0 + Int.toNat (↑i : Int) * 1) undef) = true, type_of% hw, inside (↑i : Int) m = true, decide (0 + Int.toNat (↑i : Int) * 1 < List.length es) = true, isInt .i64 (List.getD es (0 + Int.toNat (↑i : Int) * 1) undef) = true, type_of% hw, decide (x < -2147483648) = false, decide (x < -2147483648) = false, decide (x < -2147483648) = false, decide (x < -2147483648) = false, decide (x < -2147483648) = false, inside (↑i : Int) m = true, decide (x < -2147483648) = false, decide (0 + Int.toNat (↑i : Int) * 1 < List.length es) = true, isInt .i64 (List.getD es (0 + Int.toNat (↑i : Int) * 1) undef) = true, type_of% hw, decide (x < -2147483648) = false, decide (x < -2147483648) = false, decide (x < -2147483648) = false, decide (x < -2147483648) = false, decide (x < -2147483648) = false, decide (x > 2147483647) = false, decide (x < 0) = false, inside (↑i : Int) m = true, decide (0 + Int.toNat (↑i : Int) * 1 < List.length es) = true, isInt .i64 (List.getD es (0 + Int.toNat (↑i : Int) * 1) undef) = true, type_of% hw, Value.int .i64 (Int.tmod x 256) = .int .i64 (x % 256), Value.int .u8 (IntKind.wrap IntKind.u8 (x % 256)) = .int .u8 (x % 256), (true && decide ((q + 1) * 1 ≤ 140737488355328) && decide (q + 1 ≤ 140737488355328) && decide (q * 1 ≤ List.length bs)) = true, decide (q + 1 ≤ q) = false, decide (List.length bs = q * 1) = true, Value.int .i64 (IntKind.wrap .i64 (Int.tdiv x 256)) = .int .i64 (x / 256), inside (↑i : Int) m = true, decide (0 + Int.toNat (↑i : Int) * 1 < List.length es) = true, isInt .i64 (List.getD es (0 + Int.toNat (↑i : Int) * 1) undef) = true, type_of% hw, Value.int .i64 (Int.tmod (x / 256) 256) = .int .i64 (x / 256 % 256), Value.int .u8 (IntKind.wrap IntKind.u8 (x / 256 % 256)) = .int .u8 (x / 256 % 256), (true && decide ((q + 1 + 1) * 1 ≤ 140737488355328) && decide (q + 1 + 1 ≤ 140737488355328) && decide ((q + 1) * 1 ≤ List.length (bs ++ [.int .u8 (x % 256)]))) = true, decide (q + 1 + 1 ≤ q + 1) = false, decide (List.length (bs ++ [.int .u8 (x % 256)]) = (q + 1) * 1) = true, Value.int .i64 (IntKind.wrap .i64 (Int.tdiv (x / 256) 256)) = .int .i64 (x / 256 / 256), inside (↑i : Int) m = true, decide (0 + Int.toNat (↑i : Int) * 1 < List.length es) = true, isInt .i64 (List.getD es (0 + Int.toNat (↑i : Int) * 1) undef) = true, type_of% hw, Value.int .i64 (Int.tmod (x / 256 / 256) 256) = .int .i64 (x / 256 / 256 % 256), Value.int .u8 (IntKind.wrap IntKind.u8 (x / 256 / 256 % 256)) = .int .u8 (x / 256 / 256 % 256), (true && decide ((q + 1 + 1 + 1) * 1 ≤ 140737488355328) && decide (q + 1 + 1 + 1 ≤ 140737488355328) && decide ((q + 1 + 1) * 1 ≤ List.length (bs ++ [.int .u8 (x % 256)] ++ [.int .u8 (x / 256 % 256)]))) = true, decide (q + 1 + 1 + 1 ≤ q + 1 + 1) = false, decide (List.length (bs ++ [.int .u8 (x % 256)] ++ [.int .u8 (x / 256 % 256)]) = (q + 1 + 1) * 1) = true, Value.int .i64 (IntKind.wrap .i64 (Int.tdiv (x / 256 / 256) 256)) = .int .i64 (x / 256 / 256 / 256), inside (↑i : Int) m = true, decide (0 + Int.toNat (↑i : Int) * 1 < List.length es) = true, isInt .i64 (List.getD es (0 + Int.toNat (↑i : Int) * 1) undef) = true, type_of% hw, Value.int .i64 (Int.tmod (x / 256 / 256 / 256) 256) = .int .i64 (x / 256 / 256 / 256 % 256), Value.int .u8 (IntKind.wrap IntKind.u8 (x / 256 / 256 / 256 % 256)) = .int .u8 (x / 256 / 256 / 256 % 256), (true && decide ((q + 1 + 1 + 1 + 1) * 1 ≤ 140737488355328) && decide (q + 1 + 1 + 1 + 1 ≤ 140737488355328) && decide ((q + 1 + 1 + 1) * 1 ≤ List.length (bs ++ [.int .u8 (x % 256)] ++ [.int .u8 (x / 256 % 256)] ++ [.int .u8 (x / 256 / 256 % 256)]))) = true, decide (q + 1 + 1 + 1 + 1 ≤ q + 1 + 1 + 1) = false, decide (List.length (bs ++ [.int .u8 (x % 256)] ++ [.int .u8 (x / 256 % 256)] ++ [.int .u8 (x / 256 / 256 % 256)]) = (q + 1 + 1 + 1) * 1) = true, Value.int .i64 (IntKind.wrap .i64 (Int.tdiv (x / 256 / 256 / 256) 256)) = .int .i64 (x / 256 / 256 / 256 / 256), inside (↑i : Int) m = true, decide (0 + Int.toNat (↑i : Int) * 1 < List.length es) = true, isInt .i64 (List.getD es (0 + Int.toNat (↑i : Int) * 1) undef) = true, type_of% hw, Value.int .i64 (IntKind.wrap .i64 ((↑i : Int) + 1)) = .int .i64 ((↑i : Int) + 1)]) := by kernel_rfl
theorem rw_m4 (R : Out) (k_pt : (h0 : x < -2147483648) → Out.le (Out.mk Xt.ret (frOf 105 [(4, .string (ByteArray.mk #[])), (5, .int .i64 5)]) [.ro 3 cs] []) R) (k_pft : (h0 : ¬ (x < -2147483648)) → (h1 : x > 2147483647) → Out.le (Out.mk Xt.ret (frOf 105 [(4, .string (ByteArray.mk #[])), (5, .int .i64 5)]) [.ro 3 cs] []) R) (k_pfft : (h0 : ¬ (x < -2147483648)) → (h1 : ¬ (x > 2147483647)) → (h2 : x < 0) → Out.le (Out.mk Xt.normal (frOf 105 [(0, .int .u8 sn), (1, (zSB 0 n c)), (6, (zSB 1 m m)), (7, (zSB 2 (q + 1 + 1 + 1 + 1) (q + 1 + 1 + 1 + 1))), (8, .int .i64 ((↑i : Int) + 1))]) [.ro 3 cs, .own 3 es, .own 5 (bs ++ [.int .u8 ((x + 4294967296) % 256)] ++ [.int .u8 ((x + 4294967296) / 256 % 256)] ++ [.int .u8 ((x + 4294967296) / 256 / 256 % 256)] ++ [.int .u8 ((x + 4294967296) / 256 / 256 / 256 % 256)])] []) R) (k_pfff : (h0 : ¬ (x < -2147483648)) → (h1 : ¬ (x > 2147483647)) → (h2 : ¬ (x < 0)) → Out.le (Out.mk Xt.normal (frOf 105 [(0, .int .u8 sn), (1, (zSB 0 n c)), (6, (zSB 1 m m)), (7, (zSB 2 (q + 1 + 1 + 1 + 1) (q + 1 + 1 + 1 + 1))), (8, .int .i64 ((↑i : Int) + 1))]) [.ro 3 cs, .own 3 es, .own 5 (bs ++ [.int .u8 (x % 256)] ++ [.int .u8 (x / 256 % 256)] ++ [.int .u8 (x / 256 / 256 % 256)] ++ [.int .u8 (x / 256 / 256 / 256 % 256)])] []) R) : CodeSpec (Try.prog) (1) (lpQ) (frQ sn n c q m (↑i : Int)) ([.ro 3 cs, .own 3 es, .own 5 bs]) R := by
  by_cases h0 : x < -2147483648
  · exact (CodeSpec.id (go_ok (body_ok tnamed tcalm tmixed _ _ _ _ _ _ lpQ_calm) (rw_m4_pt sn x n c q m i cs bs es hcs hbs hes hq hi hx hw0 hw hv0 hv ) (aC dO (aC (inside_of (by omega)) (aC dO (aC ((by omega)) (aC (hv) (aC (inside_of (by omega)) (aC dO (aC ((by omega)) (aC (hw) (aC (inside_of (by omega)) (aC dO (aC ((by omega)) (aC (hw) (aC (dTq h0) (aC (dTq h0) (aC (dTq h0) (aC (dTq h0) (aC (dTq h0) (aC (dTq h0) (aC (dTq h0) (aC (dTq h0) (aC (dTq h0) (aC (dTq h0) (aC (dTq h0) aN)))))))))))))))))))))))))).le (k_pt h0)
  · by_cases h1 : x > 2147483647
    · exact (CodeSpec.id (go_ok (body_ok tnamed tcalm tmixed _ _ _ _ _ _ lpQ_calm) (rw_m4_pft sn x n c q m i cs bs es hcs hbs hes hq hi hx hw0 hw hv0 hv ) (aC dO (aC (inside_of (by omega)) (aC dO (aC ((by omega)) (aC (hv) (aC (inside_of (by omega)) (aC dO (aC ((by omega)) (aC (hw) (aC (inside_of (by omega)) (aC dO (aC ((by omega)) (aC (hw) (aC (dFq h0) (aC (dFq h0) (aC (dFq h0) (aC (dFq h0) (aC (dFq h0) (aC (inside_of (by omega)) (aC (dFq h0) (aC dO (aC ((by omega)) (aC (hw) (aC (dFq h0) (aC (dFq h0) (aC (dFq h0) (aC (dFq h0) (aC (dFq h0) (aC (dTq h1) aN))))))))))))))))))))))))))))))).le (k_pft h0 h1)
    · by_cases h2 : x < 0
      · exact (CodeSpec.id (go_ok (body_ok tnamed tcalm tmixed _ _ _ _ _ _ lpQ_calm) (rw_m4_pfft sn x n c q m i cs bs es hcs hbs hes hq hi hx hw0 hw hv0 hv ) (aC dO (aC (inside_of (by omega)) (aC dO (aC ((by omega)) (aC (hv) (aC (inside_of (by omega)) (aC dO (aC ((by omega)) (aC (hw) (aC (inside_of (by omega)) (aC dO (aC ((by omega)) (aC (hw) (aC (dFq h0) (aC (dFq h0) (aC (dFq h0) (aC (dFq h0) (aC (dFq h0) (aC (inside_of (by omega)) (aC (dFq h0) (aC dO (aC ((by omega)) (aC (hw) (aC (dFq h0) (aC (dFq h0) (aC (dFq h0) (aC (dFq h0) (aC (dFq h0) (aC (dFq h1) (aC (dTq h2) (aC (inside_of (by omega)) (aC dO (aC ((by omega)) (aC (hw) (aC (congrArg (Value.int _) (Go.IntWalk.i64_in _ (by omega))) (aC (inside_of (by omega)) (aC dO (aC ((by omega)) (aC (hw) (aC (congrArg (Value.int _) (Int.tmod_eq_emod_of_nonneg (by omega))) (aC (congrArg (Value.int _) (Go.IntWalk.u8_in _ (by omega))) (aC ((by simp [ByteArray.size_append, ByteArray.size_extract, sz_mk] <;> omega)) (aC dN (aC dO (aC (congrArg (Value.int _) (quo_in ⟨by omega, by simp [IntKind.max, IntKind.bits, IntKind.signed] <;> omega, by omega⟩)) (aC (inside_of (by omega)) (aC dO (aC ((by omega)) (aC (hw) (aC (congrArg (Value.int _) (Int.tmod_eq_emod_of_nonneg (by omega))) (aC (congrArg (Value.int _) (Go.IntWalk.u8_in _ (by omega))) (aC ((by simp [ByteArray.size_append, ByteArray.size_extract, sz_mk] <;> omega)) (aC dN (aC (dTq (by simp [ByteArray.size_append, ByteArray.size_extract, sz_mk] <;> omega)) (aC (congrArg (Value.int _) (quo_in ⟨by omega, by simp [IntKind.max, IntKind.bits, IntKind.signed] <;> omega, by omega⟩)) (aC (inside_of (by omega)) (aC dO (aC ((by omega)) (aC (hw) (aC (congrArg (Value.int _) (Int.tmod_eq_emod_of_nonneg (by omega))) (aC (congrArg (Value.int _) (Go.IntWalk.u8_in _ (by omega))) (aC ((by simp [ByteArray.size_append, ByteArray.size_extract, sz_mk] <;> omega)) (aC dN (aC (dTq (by simp [ByteArray.size_append, ByteArray.size_extract, sz_mk] <;> omega)) (aC (congrArg (Value.int _) (quo_in ⟨by omega, by simp [IntKind.max, IntKind.bits, IntKind.signed] <;> omega, by omega⟩)) (aC (inside_of (by omega)) (aC dO (aC ((by omega)) (aC (hw) (aC (congrArg (Value.int _) (Int.tmod_eq_emod_of_nonneg (by omega))) (aC (congrArg (Value.int _) (Go.IntWalk.u8_in _ (by omega))) (aC ((by simp [ByteArray.size_append, ByteArray.size_extract, sz_mk] <;> omega)) (aC dN (aC (dTq (by simp [ByteArray.size_append, ByteArray.size_extract, sz_mk] <;> omega)) (aC (congrArg (Value.int _) (quo_in ⟨by omega, by simp [IntKind.max, IntKind.bits, IntKind.signed] <;> omega, by omega⟩)) (aC (inside_of (by omega)) (aC dO (aC ((by omega)) (aC (hw) (aC (congrArg (Value.int _) (Go.IntWalk.i64_in _ (by omega))) aN)))))))))))))))))))))))))))))))))))))))))))))))))))))))))))))))))))))))))))))))))).le (k_pfft h0 h1 h2)
      · exact (CodeSpec.id (go_ok (body_ok tnamed tcalm tmixed _ _ _ _ _ _ lpQ_calm) (rw_m4_pfff sn x n c q m i cs bs es hcs hbs hes hq hi hx hw0 hw hv0 hv ) (aC dO (aC (inside_of (by omega)) (aC dO (aC ((by omega)) (aC (hv) (aC (inside_of (by omega)) (aC dO (aC ((by omega)) (aC (hw) (aC (inside_of (by omega)) (aC dO (aC ((by omega)) (aC (hw) (aC (dFq h0) (aC (dFq h0) (aC (dFq h0) (aC (dFq h0) (aC (dFq h0) (aC (inside_of (by omega)) (aC (dFq h0) (aC dO (aC ((by omega)) (aC (hw) (aC (dFq h0) (aC (dFq h0) (aC (dFq h0) (aC (dFq h0) (aC (dFq h0) (aC (dFq h1) (aC (dFq h2) (aC (inside_of (by omega)) (aC dO (aC ((by omega)) (aC (hw) (aC (congrArg (Value.int _) (Int.tmod_eq_emod_of_nonneg (by omega))) (aC (congrArg (Value.int _) (Go.IntWalk.u8_in _ (by omega))) (aC ((by simp [ByteArray.size_append, ByteArray.size_extract, sz_mk] <;> omega)) (aC dN (aC dO (aC (congrArg (Value.int _) (quo_in ⟨by omega, by simp [IntKind.max, IntKind.bits, IntKind.signed] <;> omega, by omega⟩)) (aC (inside_of (by omega)) (aC dO (aC ((by omega)) (aC (hw) (aC (congrArg (Value.int _) (Int.tmod_eq_emod_of_nonneg (by omega))) (aC (congrArg (Value.int _) (Go.IntWalk.u8_in _ (by omega))) (aC ((by simp [ByteArray.size_append, ByteArray.size_extract, sz_mk] <;> omega)) (aC dN (aC (dTq (by simp [ByteArray.size_append, ByteArray.size_extract, sz_mk] <;> omega)) (aC (congrArg (Value.int _) (quo_in ⟨by omega, by simp [IntKind.max, IntKind.bits, IntKind.signed] <;> omega, by omega⟩)) (aC (inside_of (by omega)) (aC dO (aC ((by omega)) (aC (hw) (aC (congrArg (Value.int _) (Int.tmod_eq_emod_of_nonneg (by omega))) (aC (congrArg (Value.int _) (Go.IntWalk.u8_in _ (by omega))) (aC ((by simp [ByteArray.size_append, ByteArray.size_extract, sz_mk] <;> omega)) (aC dN (aC (dTq (by simp [ByteArray.size_append, ByteArray.size_extract, sz_mk] <;> omega)) (aC (congrArg (Value.int _) (quo_in ⟨by omega, by simp [IntKind.max, IntKind.bits, IntKind.signed] <;> omega, by omega⟩)) (aC (inside_of (by omega)) (aC dO (aC ((by omega)) (aC (hw) (aC (congrArg (Value.int _) (Int.tmod_eq_emod_of_nonneg (by omega))) (aC (congrArg (Value.int _) (Go.IntWalk.u8_in _ (by omega))) (aC ((by simp [ByteArray.size_append, ByteArray.size_extract, sz_mk] <;> omega)) (aC dN (aC (dTq (by simp [ByteArray.size_append, ByteArray.size_extract, sz_mk] <;> omega)) (aC (congrArg (Value.int _) (quo_in ⟨by omega, by simp [IntKind.max, IntKind.bits, IntKind.signed] <;> omega, by omega⟩)) (aC (inside_of (by omega)) (aC dO (aC ((by omega)) (aC (hw) (aC (congrArg (Value.int _) (Go.IntWalk.i64_in _ (by omega))) aN))))))))))))))))))))))))))))))))))))))))))))))))))))))))))))))))))))))))))))).le (k_pfff h0 h1 h2)
end
section
variable (sn : Int) (n c q m : Nat) (cs bs es : List Value) (hes : List.length es = m)
include sn n c q m cs bs es hes
theorem rw_end_p : go (body (Try.prog) (8) (1) (8) (kQ) (lpQ) (frQ sn n c q m (↑m : Int)) ([.ro 3 cs, .own 3 es, .own 5 bs])) [(5, .dec false)] = some (Out.mk (Xt.exit 0) (frOf 105 [(0, .int .u8 sn), (1, (zSB 0 n c)), (6, (zSB 1 m m)), (7, (zSB 2 q q)), (8, .int .i64 (↑m : Int))]) [.ro 3 cs, .own 3 es, .own 5 bs] [], true, [decide ((↑m : Int) < (↑m : Int)) = false]) := by kernel_rfl
theorem rw_end (R : Out) (k_p : Out.le (Out.mk (Xt.exit 0) (frOf 105 [(0, .int .u8 sn), (1, (zSB 0 n c)), (6, (zSB 1 m m)), (7, (zSB 2 q q)), (8, .int .i64 (↑m : Int))]) [.ro 3 cs, .own 3 es, .own 5 bs] []) R) : CodeSpec (Try.prog) (1) (lpQ) (frQ sn n c q m (↑m : Int)) ([.ro 3 cs, .own 3 es, .own 5 bs]) R := by
  exact (CodeSpec.id (go_ok (body_ok tnamed tcalm tmixed _ _ _ _ _ _ lpQ_calm) (rw_end_p sn n c q m cs bs es hes ) (aC dN aN))).le (k_p )
end
section
variable (sn : Int) (hW : CallSpec Try.prog 23 [.int .u8 sn] [] (.mk slN [] []))
include sn hW
theorem rwt_0n_p : go (exec (Try.prog) (8) (16) ([.int .u8 sn, slN]) ([])) [(5, .call (.mk (zSN) [] []))] = some (.mk (.tuple #[.string (ByteArray.mk #[]), .int .i64 6]) [] [], true, [type_of% hW]) := by kernel_rfl
theorem rwt_0n (R : Res) (k_p : Res.le (.mk (.tuple #[.string (ByteArray.mk #[]), .int .i64 6]) [] []) R) : CallSpec (Try.prog) (16) ([.int .u8 sn, slN]) ([]) R := by
  exact (CallSpec.id (go_ok (exec_ok tnamed tcalm tmixed _ _ _ _) (rwt_0n_p sn hW ) (aC (hW) aN))).le (k_p )
end
section
variable (sn : Int) (hW : CallSpec Try.prog 23 [.int .u8 sn] [] (.mk slN [] []))
include sn hW
theorem rwt_0e_p : go (exec (Try.prog) (8) (16) ([.int .u8 sn, slB 0 0 0]) ([.dead])) [(5, .call (.mk (zSN) [] []))] = some (.mk (.tuple #[.string (ByteArray.mk #[]), .int .i64 6]) [.dead] [], true, [type_of% hW]) := by kernel_rfl
theorem rwt_0e (R : Res) (k_p : Res.le (.mk (.tuple #[.string (ByteArray.mk #[]), .int .i64 6]) [.dead] []) R) : CallSpec (Try.prog) (16) ([.int .u8 sn, slB 0 0 0]) ([.dead]) R := by
  exact (CallSpec.id (go_ok (exec_ok tnamed tcalm tmixed _ _ _ _) (rwt_0e_p sn hW ) (aC (hW) aN))).le (k_p )
end
section
variable (sn : Int) (n c : Nat) (cs : List Value) (hW : CallSpec Try.prog 23 [.int .u8 sn] [] (.mk slN [] []))
include sn n c cs hW
theorem rwt_0s_p : go (exec (Try.prog) (8) (16) ([.int .u8 sn, slB 0 n c]) ([.ro 3 cs])) [(5, .call (.mk (zSN) [] []))] = some (.mk (.tuple #[.string (ByteArray.mk #[]), .int .i64 6]) [.ro 3 cs] [], true, [type_of% hW]) := by kernel_rfl
theorem rwt_0s (R : Res) (k_p : Res.le (.mk (.tuple #[.string (ByteArray.mk #[]), .int .i64 6]) [.ro 3 cs] []) R) : CallSpec (Try.prog) (16) ([.int .u8 sn, slB 0 n c]) ([.ro 3 cs]) R := by
  exact (CallSpec.id (go_ok (exec_ok tnamed tcalm tmixed _ _ _ _) (rwt_0s_p sn n c cs hW ) (aC (hW) aN))).le (k_p )
end
section
variable (sn : Int) (m : Nat) (es : List Value) (hm : 1 ≤ m) (hW : CallSpec Try.prog 23 [.int .u8 sn] [] (.mk (slB 0 m m) [.own 3 es] []))
include sn m es hm hW
theorem rwt_cn_p : go (exec (Try.prog) (8) (16) ([.int .u8 sn, slN]) ([])) [(5, .call (.mk ((zSB 0 m m)) [.own 3 es] [])), (8, .dec false), (6, .dec true)] = some (.mk (.tuple #[.string (ByteArray.mk #[]), .int .i64 50]) [] [], true, [type_of% hW, decide ((↑m : Int) = 0) = false, (!decide (0 = (↑m : Int))) = true]) := by kernel_rfl
theorem rwt_cn (R : Res) (k_p : Res.le (.mk (.tuple #[.string (ByteArray.mk #[]), .int .i64 50]) [] []) R) : CallSpec (Try.prog) (16) ([.int .u8 sn, slN]) ([]) R := by
  exact (CallSpec.id (go_ok (exec_ok tnamed tcalm tmixed _ _ _ _) (rwt_cn_p sn m es hm hW ) (aC (hW) (aC dN (aC (congrArg not dN) aN))))).le (k_p )
end
section
variable (sn : Int) (m : Nat) (es : List Value) (hm : 1 ≤ m) (hW : CallSpec Try.prog 23 [.int .u8 sn] [] (.mk (slB 0 m m) [.own 3 es] []))
include sn m es hm hW
theorem rwt_ce_p : go (exec (Try.prog) (8) (16) ([.int .u8 sn, slB 0 0 0]) ([.dead])) [(5, .call (.mk ((zSB 0 m m)) [.own 3 es] [])), (8, .dec false), (6, .dec true)] = some (.mk (.tuple #[.string (ByteArray.mk #[]), .int .i64 50]) [.dead] [], true, [type_of% hW, decide ((↑m : Int) = 0) = false, (!decide (0 = (↑m : Int))) = true]) := by kernel_rfl
theorem rwt_ce (R : Res) (k_p : Res.le (.mk (.tuple #[.string (ByteArray.mk #[]), .int .i64 50]) [.dead] []) R) : CallSpec (Try.prog) (16) ([.int .u8 sn, slB 0 0 0]) ([.dead]) R := by
  exact (CallSpec.id (go_ok (exec_ok tnamed tcalm tmixed _ _ _ _) (rwt_ce_p sn m es hm hW ) (aC (hW) (aC dN (aC (congrArg not dN) aN))))).le (k_p )
end
section
variable (sn : Int) (n c m : Nat) (cs es : List Value) (hm : 1 ≤ m) (hn : ¬n = m) (hW : CallSpec Try.prog 23 [.int .u8 sn] [] (.mk (slB 0 m m) [.own 3 es] []))
include sn n c m cs es hm hn hW
theorem rwt_cs_p : go (exec (Try.prog) (8) (16) ([.int .u8 sn, slB 0 n c]) ([.ro 3 cs])) [(5, .call (.mk ((zSB 0 m m)) [.own 3 es] [])), (8, .dec false), (6, .dec true)] = some (.mk (.tuple #[.string (ByteArray.mk #[]), .int .i64 50]) [.ro 3 cs] [], true, [type_of% hW, decide ((↑m : Int) = 0) = false, (!decide ((↑n : Int) = (↑m : Int))) = true]) := by kernel_rfl
theorem rwt_cs (R : Res) (k_p : Res.le (.mk (.tuple #[.string (ByteArray.mk #[]), .int .i64 50]) [.ro 3 cs] []) R) : CallSpec (Try.prog) (16) ([.int .u8 sn, slB 0 n c]) ([.ro 3 cs]) R := by
  exact (CallSpec.id (go_ok (exec_ok tnamed tcalm tmixed _ _ _ _) (rwt_cs_p sn n c m cs es hm hn hW ) (aC (hW) (aC dN (aC (congrArg not dN) aN))))).le (k_p )
end
section
variable (sn : Int) (m c : Nat) (cs es : List Value) (hm : 1 ≤ m) (hW : CallSpec Try.prog 23 [.int .u8 sn] [] (.mk (slB 0 m m) [.own 3 es] [])) (kL : CodeSpec Try.prog 1 lpQC (frQ sn m c 1 m 0) [.ro 3 cs, .own 3 es, .own 5 [.int .u8 sn]] (Out.mk Xt.ret (frOf 105 [(4, .string (ByteArray.mk #[])), (5, .int .i64 5)]) [.ro 3 cs] []))
include sn m c cs es hm hW kL
theorem rwt_e_p : go (exec (Try.prog) (8) (16) ([.int .u8 sn, slB 0 m c]) ([.ro 3 cs])) [(5, .call (.mk ((zSB 0 m m)) [.own 3 es] [])), (8, .dec false), (6, .dec false), (18, Itm.loop [0, 1, 6, 7, 8] (Out.mk Xt.ret (frOf 105 [(4, .string (ByteArray.mk #[])), (5, .int .i64 5)]) [.ro 3 cs] []))] = some (.mk (.tuple #[.string (ByteArray.mk #[]), .int .i64 5]) [.ro 3 cs] [], true, [type_of% hW, decide ((↑m : Int) = 0) = false, (!decide ((↑m : Int) = (↑m : Int))) = false, type_of% kL]) := by kernel_rfl
theorem rwt_e (R : Res) (k_p : Res.le (.mk (.tuple #[.string (ByteArray.mk #[]), .int .i64 5]) [.ro 3 cs] []) R) : CallSpec (Try.prog) (16) ([.int .u8 sn, slB 0 m c]) ([.ro 3 cs]) R := by
  exact (CallSpec.id (go_ok (exec_ok tnamed tcalm tmixed _ _ _ _) (rwt_e_p sn m c cs es hm hW kL ) (aC (hW) (aC dN (aC (congrArg not dO) (aC (kL) aN)))))).le (k_p )
end
section
variable (sn k : Int) (m c q : Nat) (cs es bs : List Value) (hm : 1 ≤ m) (hq : List.length bs = q) (hq2 : q ≤ 40) (hb : List.all (List.take (q * 1) (List.drop 0 bs)) (isInt IntKind.u8) = true) (hS : Value.string (ByteArray.mk (List.toArray (List.map unbyte (List.take (q * 1) (List.drop 0 bs))))) = .string (strB bs)) (hk : 0 ≤ k ∧ k ≤ 65535) (hz : ByteArray.size (strB bs) ≤ 40) (hW : CallSpec Try.prog 23 [.int .u8 sn] [] (.mk (slB 0 m m) [.own 3 es] [])) (kC : CallSpec Try.prog 25 [.string (strB bs)] [] (.mk (Value.int IntKind.u16 k) [] [])) (kL : CodeSpec Try.prog 1 lpQC (frQ sn m c 1 m 0) [.ro 3 cs, .own 3 es, .own 5 [.int .u8 sn]] (Out.mk (Xt.exit 0) (frQ sn m c q m (↑m : Int)) [.ro 3 cs, .own 3 es, .own 5 bs] []))
include sn k m c q cs es bs hm hq hq2 hb hS hk hz hW kC kL
theorem rwt_o_p : go (exec (Try.prog) (8) (16) ([.int .u8 sn, slB 0 m c]) ([.ro 3 cs])) [(5, .call (.mk ((zSB 0 m m)) [.own 3 es] [])), (8, .dec false), (6, .dec false), (18, Itm.loop [0, 1, 6, 7, 8] (Out.mk (Xt.exit 0) (frOf 105 [(0, .int .u8 sn), (1, (zSB 0 m c)), (6, (zSB 1 m m)), (7, (zSB 2 q q)), (8, .int .i64 (↑m : Int))]) [.ro 3 cs, .own 3 es, .own 5 bs] [])), (1, Itm.must), (0, Itm.must), (0, Itm.val (.string (strB bs))), (0, .call (.mk (Value.int IntKind.u16 k) [] [])), (5, Itm.must), (0, Itm.must), (0, Itm.val (.string (strB bs))), (0, Itm.must), (3, Itm.val (Value.int IntKind.u16 (k % 256))), (0, Itm.val (.int .u8 (k % 256))), (2, Itm.val (Value.int IntKind.u16 (k / 256))), (0, Itm.val (.int .u8 (k / 256))), (9, Itm.must)] = some (.mk (.tuple #[.string (ByteArray.mk #[UInt8.ofNat 165] ++ ByteArray.mk (List.toArray (List.map unbyte bs)) ++ ByteArray.mk #[unbyte (.int .u8 (k % 256)), unbyte (.int .u8 (k / 256))]), .int .i64 0]) [.ro 3 cs] [], true, [type_of% hW, decide ((↑m : Int) = 0) = false, (!decide ((↑m : Int) = (↑m : Int))) = false, type_of% kL, decide (0 + q * 1 ≤ List.length bs) = true, List.all (List.take (q * 1) (List.drop 0 bs)) (isInt IntKind.u8) = true, type_of% hS, type_of% kC, decide (0 + q * 1 ≤ List.length bs) = true, List.all (List.take (q * 1) (List.drop 0 bs)) (isInt IntKind.u8) = true, type_of% hS, decide (1 + ByteArray.size (ByteArray.mk (List.toArray (List.map unbyte bs))) ≤ 9223372036854775807) = true, Value.int IntKind.u16 (Int.tmod k 256) = Value.int IntKind.u16 (k % 256), Value.int .u8 (IntKind.wrap IntKind.u8 (k % 256)) = .int .u8 (k % 256), Value.int IntKind.u16 (IntKind.wrap IntKind.u16 (Int.tdiv k 256)) = Value.int IntKind.u16 (k / 256), Value.int .u8 (IntKind.wrap IntKind.u8 (k / 256)) = .int .u8 (k / 256), decide (ByteArray.size (ByteArray.mk #[UInt8.ofNat 165] ++ ByteArray.mk (List.toArray (List.map unbyte bs))) + ByteArray.size (ByteArray.mk #[unbyte (.int .u8 (k % 256)), unbyte (.int .u8 (k / 256))]) ≤ 9223372036854775807) = true]) := by kernel_rfl
theorem rwt_o (R : Res) (k_p : Res.le (.mk (.tuple #[.string (ByteArray.mk #[UInt8.ofNat 165] ++ ByteArray.mk (List.toArray (List.map unbyte bs)) ++ ByteArray.mk #[unbyte (.int .u8 (k % 256)), unbyte (.int .u8 (k / 256))]), .int .i64 0]) [.ro 3 cs] []) R) : CallSpec (Try.prog) (16) ([.int .u8 sn, slB 0 m c]) ([.ro 3 cs]) R := by
  exact (CallSpec.id (go_ok (exec_ok tnamed tcalm tmixed _ _ _ _) (rwt_o_p sn k m c q cs es bs hm hq hq2 hb hS hk hz hW kC kL ) (aC (hW) (aC dN (aC (congrArg not dO) (aC (kL) (aC dO (aC ((by omega)) (aC (hS) (aC (kC) (aC dO (aC ((by omega)) (aC (hS) (aC (dTq (by simp [ByteArray.size_append, ByteArray.size_extract, sz_mk] <;> omega)) (aC (congrArg (Value.int _) (Int.tmod_eq_emod_of_nonneg (by omega))) (aC (congrArg (Value.int _) (Go.IntWalk.u8_in _ (by omega))) (aC (congrArg (Value.int _) (quo_in ⟨by omega, by simp [IntKind.max, IntKind.bits, IntKind.signed] <;> omega, by omega⟩)) (aC (congrArg (Value.int _) (Go.IntWalk.u8_in _ (by omega))) (aC (dTq (by simp [ByteArray.size_append, ByteArray.size_extract, sz_mk] <;> omega)) aN))))))))))))))))))).le (k_p )
end
end Go.Proofs.Ytbolppjlaipfjaa.Ex
end
section
set_option linter.unusedSectionVars false
set_option linter.unusedSimpArgs false
set_option linter.unusedVariables false
namespace Go.Proofs.Ytbolppjlaipfjaa.Ex
open Go
set_option linter.unusedVariables false
noncomputable def rgL1 : Code := regAt Try.prog 14 1
theorem rgL1_calm : calmC rgL1 = true := by kernel_rfl
theorem rgL1_run (n : Nat) (cs : List Value) : go (body Try.prog 8 1 8 (fun _ => [0, 3]) rgL1 (frOf 23 [(0, slB 0 n n)]) [.ro 3 cs]) [(2, .val (.int .i64 ((n : Int) + 4))), (0, .must)] =
    some (⟨.normal, frOf 23 [(0, slB 0 n n), (3, slB 1 0 (Int.toNat ((n : Int) + 4)))], [.ro 3 cs, .own 3 (zeros [.int .i64 0] (Int.toNat ((n : Int) + 4)))], []⟩, true,
      [Value.int .i64 (IntKind.wrap .i64 ((n : Int) + 4)) = .int .i64 ((n : Int) + 4), (decide ((0 : Int) ≤ 0) && decide ((0 : Int) ≤ (n : Int) + 4) && decide (((n : Int) + 4) * (8 : Nat) ≤ (most : Nat)) && decide ((n : Int) + 4 ≤ (most : Nat)) && (1 : Nat) == 1 && decide ((0 : Nat) < 1) && true) = true]) := by kernel_rfl
theorem rgL1_done {n : Nat} {cs : List Value} (hn : n ≤ 17592186043904) : CodeSpec Try.prog 1 rgL1 (frOf 23 [(0, slB 0 n n)]) [.ro 3 cs] ⟨.normal, frOf 23 [(0, slB 0 n n), (3, slB 1 0 (n + 4))], [.ro 3 cs, .own 3 (zeros [.int .i64 0] (n + 4))], []⟩ := by
  have h := go_ok (body_ok tnamed tcalm tmixed 8 8 _ _ _ _ rgL1_calm) (rgL1_run n cs) (aC (congrArg (Value.int .i64) (Go.IntWalk.i64_in ((n : Int) + 4) (by omega))) (aC (by
    have a1 : decide ((0 : Int) ≤ (n : Int) + 4) = true := dTq (by omega)
    have a2 : decide (((n : Int) + 4) * (8 : Nat) ≤ (most : Nat)) = true := dTq (by unfold most; omega)
    have a3 : decide ((n : Int) + 4 ≤ (most : Nat)) = true := dTq (by unfold most; omega)
    rw [a1, a2, a3]
    rfl) aN))
  rw [show Int.toNat ((n : Int) + 4) = n + 4 by omega] at h
  exact h
def lmarks : List Value := [.int .i64 (-7770777), .int .i64 (-7770777), .int .i64 (-7770777), .int .i64 (-7770777)]
noncomputable def rgL2 : Code := regAt Try.prog 14 2
theorem rgL2_calm : calmC rgL2 = true := by kernel_rfl
noncomputable def lpL : Code := loopAt Try.prog 14 0
theorem lpL_calm : calmC lpL = true := loopAt_calm tcalm 14 0
noncomputable def lpLC : Code := .loop lpL
def frLe (n k : Nat) (i : Int) : Fr := frOf 23 [(0, slB 0 n n), (3, slB 1 k (n + 4)), (4, .int .i64 i)]
section
variable (_x : Nat)
include _x
theorem lent_n_p : go (exec (Try.prog) (8) (14) ([slN]) ([])) [] = some (.mk ((zSB 0 0 4)) [.own 3 [.int .i64 (-7770777), .int .i64 (-7770777), .int .i64 (-7770777), .int .i64 (-7770777)]] [], true, []) := by kernel_rfl
theorem lent_n (R : Res) (k_p : Res.le (.mk ((zSB 0 0 4)) [.own 3 [.int .i64 (-7770777), .int .i64 (-7770777), .int .i64 (-7770777), .int .i64 (-7770777)]] []) R) : CallSpec (Try.prog) (14) ([slN]) ([]) R := by
  exact (CallSpec.id (go_ok (exec_ok tnamed tcalm tmixed _ _ _ _) (lent_n_p _x ) aN)).le (k_p )
end
section
variable (_x : Nat)
include _x
theorem lent_e_p : go (exec (Try.prog) (8) (14) ([slB 0 0 0]) ([.dead])) [] = some (.mk ((zSB 1 0 4)) [.dead, .own 3 [.int .i64 (-7770777), .int .i64 (-7770777), .int .i64 (-7770777), .int .i64 (-7770777)]] [], true, []) := by kernel_rfl
theorem lent_e (R : Res) (k_p : Res.le (.mk ((zSB 1 0 4)) [.dead, .own 3 [.int .i64 (-7770777), .int .i64 (-7770777), .int .i64 (-7770777), .int .i64 (-7770777)]] []) R) : CallSpec (Try.prog) (14) ([slB 0 0 0]) ([.dead]) R := by
  exact (CallSpec.id (go_ok (exec_ok tnamed tcalm tmixed _ _ _ _) (lent_e_p _x ) aN)).le (k_p )
end
section
variable (n : Nat) (cs zs : List Value) (hcs : List.length cs = n) (hn : 1 ≤ n ∧ n ≤ 17592186043904) (hz : List.length zs = n + 4)
include n cs zs hcs hn hz
theorem lr2_p : go (body (Try.prog) (8) (1) (8) (fun x => [0, 3]) (rgL2) (frOf 23 [(0, slB 0 n n), (3, slB 1 0 (n + 4))]) ([.ro 3 cs, .own 3 zs])) [(2, Itm.must), (1, Itm.must), (0, .dec true), (0, Itm.must)] = some (Out.mk Xt.normal (frOf 23 [(0, (zSB 0 n n)), (3, (zSB 1 (0 + n) (n + 4)))]) [.ro 3 cs, .own 3 (put zs 0 (List.take (n * 1) (List.drop 0 cs)))] [], true, [decide (0 + n * 1 ≤ List.length cs) = true, (true && decide ((0 + n) * 8 ≤ 140737488355328) && decide (0 + n ≤ 140737488355328) && decide (0 ≤ List.length zs)) = true, decide (0 + n ≤ n + 4) = true, decide ((n + 4) * 1 ≤ List.length zs) = true]) := by kernel_rfl
theorem lr2 (R : Out) (k_p : Out.le (Out.mk Xt.normal (frOf 23 [(0, (zSB 0 n n)), (3, (zSB 1 (0 + n) (n + 4)))]) [.ro 3 cs, .own 3 (put zs 0 (List.take (n * 1) (List.drop 0 cs)))] []) R) : CodeSpec (Try.prog) (1) (rgL2) (frOf 23 [(0, slB 0 n n), (3, slB 1 0 (n + 4))]) ([.ro 3 cs, .own 3 zs]) R := by
  exact (CodeSpec.id (go_ok (body_ok tnamed tcalm tmixed _ _ _ _ _ _ rgL2_calm) (lr2_p n cs zs hcs hn hz ) (aC dO (aC ((by simp [ByteArray.size_append, ByteArray.size_extract, sz_mk] <;> omega)) (aC dO (aC dO aN)))))).le (k_p )
end
section
variable (n k : Nat) (i : Int) (cs us : List Value) (hn : 1 ≤ n ∧ n ≤ 17592186043904) (hu : List.length us = n + 4) (hk : k < n + 4) (hi : 0 ≤ i ∧ i < 4) (hM : (true && decide ((k + 1) * 8 ≤ 140737488355328) && decide (k + 1 ≤ 140737488355328) && decide (k * 1 ≤ List.length us)) = true)
include n k i cs us hn hu hk hi hM
theorem lrr_p : go (body (Try.prog) (8) (1) (8) (fun x => [0, 3, 4]) (lpL) (frLe n k i) ([.ro 3 cs, .own 3 us])) [(3, .dec true), (8, Itm.must), (0, .dec true), (0, Itm.must), (4, Itm.val (.int .i64 (i + 1)))] = some (Out.mk Xt.normal (frOf 23 [(0, (zSB 0 n n)), (3, (zSB 1 (k + 1) (n + 4))), (4, .int .i64 (i + 1))]) [.ro 3 cs, .own 3 (put us (k * 1) [.int .i64 (-7770777)])] [], true, [decide (i < 4) = true, (true && decide ((k + 1) * 8 ≤ 140737488355328) && decide (k + 1 ≤ 140737488355328) && decide (k * 1 ≤ List.length us)) = true, decide (k + 1 ≤ n + 4) = true, decide ((n + 4) * 1 ≤ List.length us) = true, Value.int .i64 (IntKind.wrap .i64 (i + 1)) = .int .i64 (i + 1)]) := by kernel_rfl
theorem lrr (R : Out) (k_p : Out.le (Out.mk Xt.normal (frOf 23 [(0, (zSB 0 n n)), (3, (zSB 1 (k + 1) (n + 4))), (4, .int .i64 (i + 1))]) [.ro 3 cs, .own 3 (put us (k * 1) [.int .i64 (-7770777)])] []) R) : CodeSpec (Try.prog) (1) (lpL) (frLe n k i) ([.ro 3 cs, .own 3 us]) R := by
  exact (CodeSpec.id (go_ok (body_ok tnamed tcalm tmixed _ _ _ _ _ _ lpL_calm) (lrr_p n k i cs us hn hu hk hi hM ) (aC dO (aC ((by omega)) (aC dO (aC dO (aC (congrArg (Value.int _) (Go.IntWalk.i64_in _ (by omega))) aN))))))).le (k_p )
end
section
variable (n k : Nat) (cs us : List Value)
include n k cs us
theorem lre_p : go (body (Try.prog) (8) (1) (8) (fun x => [0, 3, 4]) (lpL) (frLe n k 4) ([.ro 3 cs, .own 3 us])) [] = some (Out.mk (Xt.exit 0) (frOf 23 [(0, (zSB 0 n n)), (3, (zSB 1 k (n + 4))), (4, .int .i64 4)]) [.ro 3 cs, .own 3 us] [], true, []) := by kernel_rfl
theorem lre (R : Out) (k_p : Out.le (Out.mk (Xt.exit 0) (frOf 23 [(0, (zSB 0 n n)), (3, (zSB 1 k (n + 4))), (4, .int .i64 4)]) [.ro 3 cs, .own 3 us] []) R) : CodeSpec (Try.prog) (1) (lpL) (frLe n k 4) ([.ro 3 cs, .own 3 us]) R := by
  exact (CodeSpec.id (go_ok (body_ok tnamed tcalm tmixed _ _ _ _ _ _ lpL_calm) (lre_p n k cs us ) aN)).le (k_p )
end
end Go.Proofs.Ytbolppjlaipfjaa.Ex
end
section
set_option linter.unusedSectionVars false
set_option linter.unusedSimpArgs false
set_option linter.unusedVariables false
namespace Go.Proofs.Ytbolppjlaipfjaa.Ex
open Go
set_option linter.unusedVariables false
theorem put_mid : ∀ (vs a b c : List Value), vs.length = b.length → put (a ++ b ++ c) a.length vs = a ++ vs ++ c
  | [], a, b, c, h => by
    cases b with
    | nil => rfl
    | cons x b => simp at h
  | v :: vs, a, b, c, h => by
    cases b with
    | nil => simp at h
    | cons x b =>
      rw [put]
      have e : (a ++ x :: b ++ c).set a.length v = (a ++ [v]) ++ b ++ c := by
        rw [List.append_assoc, List.set_append_right _ _ (Nat.le_refl _), Nat.sub_self]
        simp
      rw [e]
      have h2 : vs.length = b.length := by simpa using h
      have := put_mid vs (a ++ [v]) b c h2
      rw [List.length_append, List.length_singleton] at this
      rw [this]
      simp
theorem lent_nil : CallSpec Try.prog 14 [slN] [] ⟨slB 0 0 4, [.own 3 lmarks], []⟩ := lent_n 0 _ res_refl
theorem lent_emp : CallSpec Try.prog 14 [slB 0 0 0] [.dead] ⟨slB 1 0 4, [.dead, .own 3 lmarks], []⟩ := lent_e 0 _ res_refl
theorem zeros_len4 (n : Nat) : (zeros [.int .i64 0] (n + 4)).length = n + 4 := by rw [zeros_len]; simp
theorem lent_round {n : Nat} {cs us : List Value} (k : Nat) (i : Int) (hn : 1 ≤ n ∧ n ≤ 17592186043904) (hu : us.length = n + 4) (hk : k < n + 4) (hi : 0 ≤ i ∧ i < 4) :
    CodeSpec Try.prog 1 lpL (frLe n k i) [.ro 3 cs, .own 3 us] ⟨.normal, frLe n (k + 1) (i + 1), [.ro 3 cs, .own 3 (put us k [.int .i64 (-7770777)])], []⟩ := by
  refine lrr n k i cs us hn hu hk hi ?_ _ ⟨rfl, rfl, ?_, fun j hj => hj⟩
  · rw [decide_eq_true (show (k + 1) * 8 ≤ 140737488355328 by omega), decide_eq_true (show k + 1 ≤ 140737488355328 by omega), decide_eq_true (show k * 1 ≤ us.length by omega)]
    rfl
  · show [_, _] = [_, _]
    rw [Nat.mul_one]
theorem lent_loop {n : Nat} {cs z : List Value} (hcs : cs.length = n) (hn : 1 ≤ n ∧ n ≤ 17592186043904) (hz : z.length = 4) : LoopSpec Try.prog 1 lpL (frLe n n 0) [.ro 3 cs, .own 3 (cs ++ z)] ⟨.exit 0, frLe n (n + 4) 4, [.ro 3 cs, .own 3 (cs ++ lmarks)], []⟩ := by
  match z, hz with
  | [a, b, c, d], _ =>
    let m : Value := .int .i64 (-7770777)
    have p : ∀ (x : List Value) (y : Value) (w : List Value) (k : Nat), k = (cs ++ x).length → put (cs ++ (x ++ y :: w)) k [m] = cs ++ ((x ++ [m]) ++ w) := by
      intro x y w k hk
      have := put_mid [m] (cs ++ x) [y] w rfl
      rw [← hk] at this
      have e1 : cs ++ (x ++ y :: w) = cs ++ x ++ [y] ++ w := by simp
      have e2 : cs ++ ((x ++ [m]) ++ w) = cs ++ x ++ [m] ++ w := by simp
      rw [e1, e2, this]
    have l : ∀ x : List Value, (cs ++ x).length = n + x.length := fun x => by rw [List.length_append, hcs]
    have r0 := lent_round (cs := cs) (us := cs ++ [a, b, c, d]) n 0 hn (l _) (by omega) ⟨by omega, by omega⟩
    rw [show ([a, b, c, d] : List Value) = [] ++ a :: [b, c, d] from rfl, p [] a [b, c, d] n (l []).symm] at r0
    have r1 := lent_round (cs := cs) (us := cs ++ ([m] ++ b :: [c, d])) (n + 1) (0 + 1) hn (l _) (by omega) ⟨by omega, by omega⟩
    rw [p [m] b [c, d] (n + 1) (l [m]).symm] at r1
    have r2 := lent_round (cs := cs) (us := cs ++ ([m, m] ++ c :: [d])) (n + 1 + 1) (0 + 1 + 1) hn (l _) (by omega) ⟨by omega, by omega⟩
    rw [p [m, m] c [d] (n + 1 + 1) (l [m, m]).symm] at r2
    have r3 := lent_round (cs := cs) (us := cs ++ ([m, m, m] ++ d :: [])) (n + 1 + 1 + 1) (0 + 1 + 1 + 1) hn (l _) (by omega) ⟨by omega, by omega⟩
    rw [p [m, m, m] d [] (n + 1 + 1 + 1) (l [m, m, m]).symm] at r3
    exact .more r0 rfl (.more r1 rfl (.more r2 rfl (.more r3 rfl (.last (lre n (n + 4) cs (cs ++ lmarks) _ out_refl) (by intro h; cases h)) (fun j hj _ => hj)) (fun j hj _ => hj)) (fun j hj _ => hj)) (fun j hj _ => hj)
end Go.Proofs.Ytbolppjlaipfjaa.Ex
end
section
set_option linter.unusedSectionVars false
set_option linter.unusedSimpArgs false
set_option linter.unusedVariables false
namespace Go.Proofs.Ytbolppjlaipfjaa.Ex
open Go
set_option linter.unusedVariables false
noncomputable def lpS : Code := loopAt Try.prog 11 0
theorem lpS_calm : calmC lpS = true := loopAt_calm tcalm 11 0
noncomputable def lpSC : Code := .loop lpS
def frS (n c m d : Nat) (i : Int) : Fr := frOf 26 [(0, slB 0 n c), (1, slB 1 m d), (5, .int .i64 i)]
noncomputable def lpK : Code := loopAt Try.prog 17 0
theorem lpK_calm : calmC lpK = true := loopAt_calm tcalm 17 0
noncomputable def lpKC : Code := .loop lpK
def frK' (n c : Nat) (i : Int) : Fr := frOf 29 [(5, slB 0 n c), (6, .int .i64 i)]
section
variable (n : Nat) (cs z : List Value) (hcs : List.length cs = n) (hn : 1 ≤ n ∧ n ≤ 17592186043904) (k1 : CodeSpec Try.prog 1 rgL1 (frOf 23 [(0, slB 0 n n)]) [.ro 3 cs] (Out.mk Xt.normal (frOf 23 [(0, slB 0 n n), (3, slB 1 0 (n + 4))]) [.ro 3 cs, .own 3 z] [])) (k2 : CodeSpec Try.prog 1 rgL2 (frOf 23 [(0, slB 0 n n), (3, slB 1 0 (n + 4))]) [.ro 3 cs, .own 3 z] (Out.mk Xt.normal (frOf 23 [(0, slB 0 n n), (3, slB 1 n (n + 4))]) [.ro 3 cs, .own 3 (cs ++ List.drop n z)] [])) (kL : CodeSpec Try.prog 1 lpLC (frLe n n 0) [.ro 3 cs, .own 3 (cs ++ List.drop n z)] (Out.mk (Xt.exit 0) (frLe n (n + 4) 4) [.ro 3 cs, .own 3 (cs ++ lmarks)] []))
include n cs z hcs hn k1 k2 kL
theorem lent_s_p : go (exec (Try.prog) (8) (14) ([slB 0 n n]) ([.ro 3 cs])) [(3, Itm.loop [0] (Out.mk Xt.normal (frOf 23 [(0, (zSB 0 n n)), (3, (zSB 1 0 (n + 4)))]) [.ro 3 cs, .own 3 z] [])), (0, Itm.loop [0, 3] (Out.mk Xt.normal (frOf 23 [(0, (zSB 0 n n)), (3, (zSB 1 n (n + 4)))]) [.ro 3 cs, .own 3 (cs ++ List.drop n z)] [])), (2, Itm.loop [0, 3, 4] (Out.mk (Xt.exit 0) (frOf 23 [(0, (zSB 0 n n)), (3, (zSB 1 (n + 4) (n + 4))), (4, .int .i64 4)]) [.ro 3 cs, .own 3 (cs ++ [.int .i64 (-7770777), .int .i64 (-7770777), .int .i64 (-7770777), .int .i64 (-7770777)])] [])), (3, Itm.must)] = some (.mk (.slice (some (.mk 1 0 none)) (Int.toNat (↑n : Int) - 0) (n + 4 - 0)) [.ro 3 cs, .own 3 (cs ++ [.int .i64 (-7770777), .int .i64 (-7770777), .int .i64 (-7770777), .int .i64 (-7770777)])] [], true, [type_of% k1, type_of% k2, type_of% kL, upto (↑n : Int) (n + 4) = true]) := by kernel_rfl
theorem lent_s (R : Res) (k_p : Res.le (.mk (.slice (some (.mk 1 0 none)) (Int.toNat (↑n : Int) - 0) (n + 4 - 0)) [.ro 3 cs, .own 3 (cs ++ [.int .i64 (-7770777), .int .i64 (-7770777), .int .i64 (-7770777), .int .i64 (-7770777)])] []) R) : CallSpec (Try.prog) (14) ([slB 0 n n]) ([.ro 3 cs]) R := by
  exact (CallSpec.id (go_ok (exec_ok tnamed tcalm tmixed _ _ _ _) (lent_s_p n cs z hcs hn k1 k2 kL ) (aC (k1) (aC (k2) (aC (kL) (aC (upto_of (by omega)) aN)))))).le (k_p )
end
section
variable (n c m d i : Nat) (x : Int) (us vs : List Value) (hu : n ≤ List.length us) (hv : m ≤ List.length vs) (hi : i < n ∧ i < m ∧ n ≤ 17592186043904) (hx0 : isInt .i64 (List.getD us (0 + Int.toNat (↑i : Int) * 1) undef) = true) (hx : Value.int .i64 (intOf (List.getD us (0 + Int.toNat (↑i : Int) * 1) undef)) = .int .i64 x) (hy0 : isInt .i64 (List.getD vs (0 + Int.toNat (↑i : Int) * 1) undef) = true) (hy : Value.int .i64 (intOf (List.getD vs (0 + Int.toNat (↑i : Int) * 1) undef)) = .int .i64 x)
include n c m d i x us vs hu hv hi hx0 hx hy0 hy
theorem smr_r_p : go (body (Try.prog) (8) (2) (8) (fun x_1 => [0, 1, 5]) (lpS) (frS n c m d (↑i : Int)) ([.own 3 us, .ro 3 vs])) [(5, .dec true), (2, Itm.must), (1, Itm.must), (0, Itm.must), (0, Itm.val (.int .i64 x)), (2, Itm.must), (1, Itm.must), (0, Itm.must), (0, Itm.val (.int .i64 x)), (2, .dec false), (1, Itm.val (.int .i64 ((↑i : Int) + 1)))] = some (Out.mk Xt.normal (frOf 26 [(0, (zSB 0 n c)), (1, (zSB 1 m d)), (5, .int .i64 ((↑i : Int) + 1))]) [.own 3 us, .ro 3 vs] [], true, [decide ((↑i : Int) < (↑n : Int)) = true, inside (↑i : Int) n = true, decide (0 + Int.toNat (↑i : Int) * 1 < List.length us) = true, isInt .i64 (List.getD us (0 + Int.toNat (↑i : Int) * 1) undef) = true, type_of% hx, inside (↑i : Int) m = true, decide (0 + Int.toNat (↑i : Int) * 1 < List.length vs) = true, isInt .i64 (List.getD vs (0 + Int.toNat (↑i : Int) * 1) undef) = true, type_of% hy, (!decide (x = x)) = false, Value.int .i64 (IntKind.wrap .i64 ((↑i : Int) + 1)) = .int .i64 ((↑i : Int) + 1)]) := by kernel_rfl
theorem smr_r (R : Out) (k_p : Out.le (Out.mk Xt.normal (frOf 26 [(0, (zSB 0 n c)), (1, (zSB 1 m d)), (5, .int .i64 ((↑i : Int) + 1))]) [.own 3 us, .ro 3 vs] []) R) : CodeSpec (Try.prog) (2) (lpS) (frS n c m d (↑i : Int)) ([.own 3 us, .ro 3 vs]) R := by
  exact (CodeSpec.id (go_ok (body_ok tnamed tcalm tmixed _ _ _ _ _ _ lpS_calm) (smr_r_p n c m d i x us vs hu hv hi hx0 hx hy0 hy ) (aC dO (aC (inside_of (by omega)) (aC dO (aC ((by omega)) (aC (hx) (aC (inside_of (by omega)) (aC dO (aC ((by omega)) (aC (hy) (aC (congrArg not dO) (aC (congrArg (Value.int _) (Go.IntWalk.i64_in _ (by omega))) aN))))))))))))).le (k_p )
end
section
variable (n c m d : Nat) (us vs : List Value)
include n c m d us vs
theorem smr_e_p : go (body (Try.prog) (8) (2) (8) (fun x => [0, 1, 5]) (lpS) (frS n c m d (↑n : Int)) ([.own 3 us, .ro 3 vs])) [(5, .dec false)] = some (Out.mk (Xt.exit 0) (frOf 26 [(0, (zSB 0 n c)), (1, (zSB 1 m d)), (5, .int .i64 (↑n : Int))]) [.own 3 us, .ro 3 vs] [], true, [decide ((↑n : Int) < (↑n : Int)) = false]) := by kernel_rfl
theorem smr_e (R : Out) (k_p : Out.le (Out.mk (Xt.exit 0) (frOf 26 [(0, (zSB 0 n c)), (1, (zSB 1 m d)), (5, .int .i64 (↑n : Int))]) [.own 3 us, .ro 3 vs] []) R) : CodeSpec (Try.prog) (2) (lpS) (frS n c m d (↑n : Int)) ([.own 3 us, .ro 3 vs]) R := by
  exact (CodeSpec.id (go_ok (body_ok tnamed tcalm tmixed _ _ _ _ _ _ lpS_calm) (smr_e_p n c m d us vs ) (aC dN aN))).le (k_p )
end
section
variable (n c d : Nat) (us vs : List Value) (kL : CodeSpec Try.prog 2 lpSC (frS n c n d 0) [.own 3 us, .ro 3 vs] (Out.mk (Xt.exit 0) (frS n c n d (↑n : Int)) [.own 3 us, .ro 3 vs] []))
include n c d us vs kL
theorem smr_p : go (exec (Try.prog) (8) (11) ([slB 0 n c, slB 1 n d]) ([.own 3 us, .ro 3 vs])) [(9, .dec false), (2, Itm.loop [0, 1, 5] (Out.mk (Xt.exit 0) (frOf 26 [(0, (zSB 0 n c)), (1, (zSB 1 n d)), (5, .int .i64 (↑n : Int))]) [.own 3 us, .ro 3 vs] []))] = some (.mk (.bool true) [.own 3 us, .ro 3 vs] [], true, [(!decide ((↑n : Int) = (↑n : Int))) = false, type_of% kL]) := by kernel_rfl
theorem smr (R : Res) (k_p : Res.le (.mk (.bool true) [.own 3 us, .ro 3 vs] []) R) : CallSpec (Try.prog) (11) ([slB 0 n c, slB 1 n d]) ([.own 3 us, .ro 3 vs]) R := by
  exact (CallSpec.id (go_ok (exec_ok tnamed tcalm tmixed _ _ _ _) (smr_p n c d us vs kL ) (aC (congrArg not dO) (aC (kL) aN)))).le (k_p )
end
section
variable (n c i : Nat) (us vs : List Value) (hu : List.length us = n) (hi : i < n ∧ n ≤ 17592186043908) (hx0 : isInt .i64 (List.getD us (0 + Int.toNat (↑i : Int) * 1) undef) = true) (hx : Value.int .i64 (intOf (List.getD us (0 + Int.toNat (↑i : Int) * 1) undef)) = .int .i64 (-7770777))
include n c i us vs hu hi hx0 hx
theorem kp_r_p : go (body (Try.prog) (8) (2) (8) (fun x => [5, 6]) (lpK) (frK' n c (↑i : Int)) ([.own 3 us, .ro 3 vs])) [(5, .dec true), (2, Itm.must), (1, Itm.must), (0, Itm.must), (0, Itm.val (.int .i64 (-7770777))), (4, Itm.val (.int .i64 ((↑i : Int) + 1)))] = some (Out.mk Xt.normal (frOf 29 [(5, (zSB 0 n c)), (6, .int .i64 ((↑i : Int) + 1))]) [.own 3 us, .ro 3 vs] [], true, [decide ((↑i : Int) < (↑n : Int)) = true, inside (↑i : Int) n = true, decide (0 + Int.toNat (↑i : Int) * 1 < List.length us) = true, isInt .i64 (List.getD us (0 + Int.toNat (↑i : Int) * 1) undef) = true, type_of% hx, Value.int .i64 (IntKind.wrap .i64 ((↑i : Int) + 1)) = .int .i64 ((↑i : Int) + 1)]) := by kernel_rfl
theorem kp_r (R : Out) (k_p : Out.le (Out.mk Xt.normal (frOf 29 [(5, (zSB 0 n c)), (6, .int .i64 ((↑i : Int) + 1))]) [.own 3 us, .ro 3 vs] []) R) : CodeSpec (Try.prog) (2) (lpK) (frK' n c (↑i : Int)) ([.own 3 us, .ro 3 vs]) R := by
  exact (CodeSpec.id (go_ok (body_ok tnamed tcalm tmixed _ _ _ _ _ _ lpK_calm) (kp_r_p n c i us vs hu hi hx0 hx ) (aC dO (aC (inside_of (by omega)) (aC dO (aC ((by omega)) (aC (hx) (aC (congrArg (Value.int _) (Go.IntWalk.i64_in _ (by omega))) aN)))))))).le (k_p )
end
section
variable (n c : Nat) (us vs : List Value)
include n c us vs
theorem kp_e_p : go (body (Try.prog) (8) (2) (8) (fun x => [5, 6]) (lpK) (frK' n c (↑n : Int)) ([.own 3 us, .ro 3 vs])) [(5, .dec false)] = some (Out.mk (Xt.exit 0) (frOf 29 [(5, (zSB 0 n c)), (6, .int .i64 (↑n : Int))]) [.own 3 us, .ro 3 vs] [], true, [decide ((↑n : Int) < (↑n : Int)) = false]) := by kernel_rfl
theorem kp_e (R : Out) (k_p : Out.le (Out.mk (Xt.exit 0) (frOf 29 [(5, (zSB 0 n c)), (6, .int .i64 (↑n : Int))]) [.own 3 us, .ro 3 vs] []) R) : CodeSpec (Try.prog) (2) (lpK) (frK' n c (↑n : Int)) ([.own 3 us, .ro 3 vs]) R := by
  exact (CodeSpec.id (go_ok (body_ok tnamed tcalm tmixed _ _ _ _ _ _ lpK_calm) (kp_e_p n c us vs ) (aC dN aN))).le (k_p )
end
section
variable (n : Nat) (us vs : List Value) (hn : 1 ≤ n ∧ n ≤ 17592186043904) (kS : CallSpec Try.prog 11 [slB 0 n (n + 4), slB 1 n n] [.own 3 us, .ro 3 vs] (.mk (.bool true) [.own 3 us, .ro 3 vs] [])) (kL : CodeSpec Try.prog 2 lpKC (frK' (n + 4) (n + 4) (↑n : Int)) [.own 3 us, .ro 3 vs] (Out.mk (Xt.exit 0) (frOf 29 []) [.own 3 us, .ro 3 vs] []))
include n us vs hn kS kL
theorem kept_s_p : go (exec (Try.prog) (8) (17) ([slB 0 n (n + 4), slB 1 n n]) ([.own 3 us, .ro 3 vs])) [(5, .call (.mk (.bool true) [.own 3 us, .ro 3 vs] [])), (8, Itm.val (.int .i64 ((↑n : Int) + 4))), (0, Itm.must), (8, Itm.loop [5, 6] (Out.mk (Xt.exit 0) (frOf 29 []) [.own 3 us, .ro 3 vs] []))] = some (.mk (.bool true) [.own 3 us, .ro 3 vs] [], true, [type_of% kS, Value.int .i64 (IntKind.wrap .i64 ((↑n : Int) + 4)) = .int .i64 ((↑n : Int) + 4), upto ((↑n : Int) + 4) (n + 4) = true, type_of% kL]) := by kernel_rfl
theorem kept_s (R : Res) (k_p : Res.le (.mk (.bool true) [.own 3 us, .ro 3 vs] []) R) : CallSpec (Try.prog) (17) ([slB 0 n (n + 4), slB 1 n n]) ([.own 3 us, .ro 3 vs]) R := by
  exact (CallSpec.id (go_ok (exec_ok tnamed tcalm tmixed _ _ _ _) (kept_s_p n us vs hn kS kL ) (aC (kS) (aC (congrArg (Value.int _) (Go.IntWalk.i64_in _ (by omega))) (aC (upto_of (by omega)) (aC (kL) aN)))))).le (k_p )
end
section
variable (_x : Nat)
include _x
theorem kept_n_p : go (exec (Try.prog) (8) (17) ([slB 0 0 4, slN]) ([.own 3 lmarks])) [] = some (.mk (.bool true) [.own 3 [.int .i64 (-7770777), .int .i64 (-7770777), .int .i64 (-7770777), .int .i64 (-7770777)]] [], true, []) := by kernel_rfl
theorem kept_n (R : Res) (k_p : Res.le (.mk (.bool true) [.own 3 [.int .i64 (-7770777), .int .i64 (-7770777), .int .i64 (-7770777), .int .i64 (-7770777)]] []) R) : CallSpec (Try.prog) (17) ([slB 0 0 4, slN]) ([.own 3 lmarks]) R := by
  exact (CallSpec.id (go_ok (exec_ok tnamed tcalm tmixed _ _ _ _) (kept_n_p _x ) aN)).le (k_p )
end
section
variable (_x : Nat)
include _x
theorem kept_e_p : go (exec (Try.prog) (8) (17) ([slB 0 0 4, slB 1 0 0]) ([.own 3 lmarks, .dead])) [] = some (.mk (.bool true) [.own 3 [.int .i64 (-7770777), .int .i64 (-7770777), .int .i64 (-7770777), .int .i64 (-7770777)], .dead] [], true, []) := by kernel_rfl
theorem kept_e (R : Res) (k_p : Res.le (.mk (.bool true) [.own 3 [.int .i64 (-7770777), .int .i64 (-7770777), .int .i64 (-7770777), .int .i64 (-7770777)], .dead] []) R) : CallSpec (Try.prog) (17) ([slB 0 0 4, slB 1 0 0]) ([.own 3 lmarks, .dead]) R := by
  exact (CallSpec.id (go_ok (exec_ok tnamed tcalm tmixed _ _ _ _) (kept_e_p _x ) aN)).le (k_p )
end
end Go.Proofs.Ytbolppjlaipfjaa.Ex
end
section
set_option linter.unusedSectionVars false
set_option linter.unusedSimpArgs false
set_option linter.unusedVariables false
namespace Go.Proofs.Ytbolppjlaipfjaa.Ex
open Go
set_option linter.unusedVariables false
theorem lent_some {cs : List Value} (hn : 1 ≤ cs.length ∧ cs.length ≤ 17592186043904) : CallSpec Try.prog 14 [slB 0 cs.length cs.length] [.ro 3 cs] ⟨slB 1 cs.length (cs.length + 4), [.ro 3 cs, .own 3 (cs ++ lmarks)], []⟩ := by
  have hz := zeros_len4 cs.length
  have k2 : CodeSpec Try.prog 1 rgL2 (frOf 23 [(0, slB 0 cs.length cs.length), (3, slB 1 0 (cs.length + 4))]) [.ro 3 cs, .own 3 (zeros [.int .i64 0] (cs.length + 4))] ⟨.normal, frOf 23 [(0, slB 0 cs.length cs.length), (3, slB 1 cs.length (cs.length + 4))], [.ro 3 cs, .own 3 (cs ++ (zeros [.int .i64 0] (cs.length + 4)).drop cs.length)], []⟩ := by
    refine lr2 cs.length cs _ rfl hn hz _ ⟨rfl, ?_, ?_, fun j hj => hj⟩
    · show frOf 23 _ = frOf 23 _
      rw [Nat.zero_add]
    · show [_, _] = [_, _]
      rw [Nat.mul_one, List.drop_zero, List.take_length]
      have h := put_mid cs [] ((zeros [.int .i64 0] (cs.length + 4)).take cs.length) ((zeros [.int .i64 0] (cs.length + 4)).drop cs.length) (by rw [List.length_take]; omega)
      rw [List.nil_append, List.take_append_drop, List.length_nil, List.nil_append] at h
      rw [h]
  refine lent_s cs.length cs _ rfl hn (rgL1_done hn.2) k2 (lent_loop rfl hn (by rw [List.length_drop]; omega)).code _ ⟨?_, rfl, fun j hj => hj⟩
  show Value.slice _ _ _ = .slice _ _ _
  rw [Int.toNat_natCast, Nat.sub_zero, Nat.sub_zero]
theorem iW_get (l : List Int) (ex : List Value) (i : Nat) (h : i < l.length) : List.getD (iW l ++ ex) (0 + Int.toNat ((i : Nat) : Int) * 1) undef = .int .i64 l[i] := by
  rw [show 0 + Int.toNat ((i : Nat) : Int) * 1 = i by omega, List.getD_eq_getElem?_getD, List.getElem?_append_left (by rw [iW_len]; exact h)]
  simp [iW, h]
theorem iW_get' (l : List Int) (i : Nat) (h : i < l.length) : List.getD (iW l) (0 + Int.toNat ((i : Nat) : Int) * 1) undef = .int .i64 l[i] := by
  have := iW_get l [] i h
  rwa [List.append_nil] at this
theorem sm_loopR (l : List Int) (ex : List Value) (c d : Nat) (hl : l.length ≤ 17592186043904) : ∀ k i, i + k = l.length → LoopSpec Try.prog 2 lpS (frS l.length c l.length d (i : Nat)) [.own 3 (iW l ++ ex), .ro 3 (iW l)] ⟨.exit 0, frS l.length c l.length d l.length, [.own 3 (iW l ++ ex), .ro 3 (iW l)], []⟩ := by
  intro k
  induction k with
  | zero =>
    intro i hi
    obtain rfl : i = l.length := by omega
    exact .last (smr_e l.length c l.length d _ _ _ out_refl) (by intro h; cases h)
  | succ k ih =>
    intro i hi
    have h : i < l.length := by omega
    have e1 := iW_get l ex i h
    have e2 := iW_get' l i h
    exact .more (smr_r l.length c l.length d i l[i] (iW l ++ ex) (iW l) (by rw [List.length_append, iW_len]; omega) (by rw [iW_len]; exact Nat.le_refl _) ⟨h, h, hl⟩ (by rw [e1]; rfl) (by rw [e1]; rfl) (by rw [e2]; rfl) (by rw [e2]; rfl) ⟨.normal, frS l.length c l.length d (i + 1 : Nat), [.own 3 (iW l ++ ex), .ro 3 (iW l)], []⟩ ⟨rfl, rfl, rfl, fun j hj => hj⟩) rfl (ih (i + 1) (by omega)) (fun j hj _ => by cases hj)
theorem same_r {l : List Int} {ex : List Value} {c d : Nat} (hl : l.length ≤ 17592186043904) : CallSpec Try.prog 11 [slB 0 l.length c, slB 1 l.length d] [.own 3 (iW l ++ ex), .ro 3 (iW l)] ⟨.bool true, [.own 3 (iW l ++ ex), .ro 3 (iW l)], []⟩ :=
  smr l.length c d _ _ (sm_loopR l ex c d hl l.length 0 (by omega)).code _ res_refl
theorem kp_loop (l : List Int) (c : Nat) (vs : List Value) (hl : l.length ≤ 17592186043904) : ∀ k i, i + k = 4 → LoopSpec Try.prog 2 lpK (frK' (l.length + 4) c (l.length + i : Nat)) [.own 3 (iW l ++ lmarks), .ro 3 vs] ⟨.exit 0, frOf 29 [], [.own 3 (iW l ++ lmarks), .ro 3 vs], []⟩ := by
  have hlen : (iW l ++ lmarks).length = l.length + 4 := by rw [List.length_append, iW_len]; rfl
  intro k
  induction k with
  | zero =>
    intro i hi
    obtain rfl : i = 4 := by omega
    refine .last (CodeSpec.tidy_out (keep := []) (kp_e (l.length + 4) c _ vs _ out_refl) ?_) (by intro h; cases h)
    kernel_rfl
  | succ k ih =>
    intro i hi
    have e : List.getD (iW l ++ lmarks) (0 + Int.toNat ((l.length + i : Nat) : Int) * 1) undef = .int .i64 (-7770777) := by
      rw [show 0 + Int.toNat ((l.length + i : Nat) : Int) * 1 = l.length + i by omega, List.getD_eq_getElem?_getD, List.getElem?_append_right (by rw [iW_len]; omega), iW_len, Nat.add_sub_cancel_left]
      have : i = 0 ∨ i = 1 ∨ i = 2 ∨ i = 3 := by omega
      rcases this with rfl | rfl | rfl | rfl <;> rfl
    exact .more (kp_r (l.length + 4) c (l.length + i) (iW l ++ lmarks) vs hlen ⟨by omega, by omega⟩ (by rw [e]; rfl) (by rw [e]; rfl) ⟨.normal, frK' (l.length + 4) c (l.length + (i + 1) : Nat), [.own 3 (iW l ++ lmarks), .ro 3 vs], []⟩ ⟨rfl, rfl, rfl, fun j hj => hj⟩) rfl (ih (i + 1) (by omega)) (fun j hj _ => by cases hj)
theorem kept_some {l : List Int} (hn : 1 ≤ l.length ∧ l.length ≤ 17592186043904) : CallSpec Try.prog 17 [slB 0 l.length (l.length + 4), slB 1 l.length l.length] [.own 3 (iW l ++ lmarks), .ro 3 (iW l)] ⟨.bool true, [.own 3 (iW l ++ lmarks), .ro 3 (iW l)], []⟩ :=
  kept_s l.length _ _ hn (same_r hn.2) (kp_loop l _ _ hn.2 4 0 rfl).code _ res_refl
theorem kept_nil : CallSpec Try.prog 17 [slB 0 0 4, slN] [.own 3 lmarks] ⟨.bool true, [.own 3 lmarks], []⟩ := kept_n 0 _ res_refl
theorem kept_emp : CallSpec Try.prog 17 [slB 0 0 4, slB 1 0 0] [.own 3 lmarks, .dead] ⟨.bool true, [.own 3 lmarks, .dead], []⟩ := kept_e 0 _ res_refl
end Go.Proofs.Ytbolppjlaipfjaa.Ex
end
section
set_option linter.unusedSectionVars false
set_option linter.unusedSimpArgs false
set_option linter.unusedVariables false
namespace Go.Proofs.Ytbolppjlaipfjaa.Ex
open Go
set_option linter.unusedVariables false
def twin (r w : Int) : Prop := (r = 1 ∧ w = 8) ∨ (r = 2 ∧ w = 16) ∨ (r = -2 ∧ w = -16) ∨ (r = -4 ∧ w = -32)
theorem rw_round (sn x r w : Int) (n c q m i : Nat) (cs bs es : List Value) (hcs : n ≤ cs.length) (hbs : bs.length = q) (hes : es.length = m) (hq : 1 ≤ q ∧ q ≤ 40) (hi : i < n ∧ i < m ∧ m ≤ 5) (hx : i64 x) (hwk : twin r w)
    (hw : List.getD es i undef = .int .i64 r) (hv : List.getD cs i undef = .int .i64 x) :
    (okX w x → CodeSpec Try.prog 1 lpQ (frQ sn n c q m i) [.ro 3 cs, .own 3 es, .own 5 bs] ⟨.normal, frQ sn n c (q + wB w) m (i + 1 : Nat), [.ro 3 cs, .own 3 es, .own 5 (bs ++ uB (byW w x))], []⟩) ∧
    (¬ okX w x → CodeSpec Try.prog 1 lpQ (frQ sn n c q m i) [.ro 3 cs, .own 3 es, .own 5 bs] ⟨.ret, frOf 105 [(4, .string ⟨#[]⟩), (5, .int .i64 5)], [.ro 3 cs], []⟩) := by
  have ei : 0 + Int.toNat (i : Int) * 1 = i := by omega
  have w1 : isInt .i64 (List.getD es (0 + Int.toNat (i : Int) * 1) undef) = true := by rw [ei, hw]; rfl
  have w2 : Value.int .i64 (intOf (List.getD es (0 + Int.toNat (i : Int) * 1) undef)) = .int .i64 r := by rw [ei, hw]; rfl
  have v1 : isInt .i64 (List.getD cs (0 + Int.toNat (i : Int) * 1) undef) = true := by rw [ei, hv]; rfl
  have v2 : Value.int .i64 (intOf (List.getD cs (0 + Int.toNat (i : Int) * 1) undef)) = .int .i64 x := by rw [ei, hv]; rfl
  rcases hwk with ⟨rfl, rfl⟩ | ⟨rfl, rfl⟩ | ⟨rfl, rfl⟩ | ⟨rfl, rfl⟩
  · have e : okX 8 x ↔ (0 ≤ x ∧ x ≤ 255) := Iff.rfl
    have eb : byW 8 x = [x / 1 % 256] := rfl
    refine ⟨fun h => ?_, fun h => ?_⟩
    · have h := e.1 h
      refine rw_1 sn x n c q m i cs bs es hcs hbs hes hq hi hx w1 w2 v1 v2 _ (fun h0 => absurd h0 (by omega)) (fun _ h1 => absurd h1 (by omega)) (fun _ _ => ⟨rfl, rfl, ?_, fun j hj => hj⟩)
      rw [eb, Int.ediv_one]
      rfl
    · exact rw_1 sn x n c q m i cs bs es hcs hbs hes hq hi hx w1 w2 v1 v2 _ (fun _ => out_refl) (fun _ _ => out_refl) (fun h0 h1 => absurd (e.2 ⟨by omega, by omega⟩) h)
  · have e : okX 16 x ↔ (0 ≤ x ∧ x ≤ 65535) := Iff.rfl
    have eb : byW 16 x = [x / 1 % 256, x / 256 % 256] := rfl
    refine ⟨fun h => ?_, fun h => ?_⟩
    · have h := e.1 h
      refine rw_2 sn x n c q m i cs bs es hcs hbs hes hq hi hx w1 w2 v1 v2 _ (fun h0 => absurd h0 (by omega)) (fun _ h1 => absurd h1 (by omega)) (fun _ _ => ⟨rfl, rfl, ?_, fun j hj => hj⟩)
      rw [eb, Int.ediv_one]
      show [_, _, _] = [_, _, _]
      rw [List.append_assoc]
      rfl
    · exact rw_2 sn x n c q m i cs bs es hcs hbs hes hq hi hx w1 w2 v1 v2 _ (fun _ => out_refl) (fun _ _ => out_refl) (fun h0 h1 => absurd (e.2 ⟨by omega, by omega⟩) h)
  · have e : okX (-16) x ↔ (-32768 ≤ x ∧ x ≤ 32767) := Iff.rfl
    have eb : byW (-16) x = [x / 1 % 256, x / 256 % 256] := rfl
    refine ⟨fun h => ?_, fun h => ?_⟩
    · have h := e.1 h
      refine rw_m2 sn x n c q m i cs bs es hcs hbs hes hq hi hx w1 w2 v1 v2 _ (fun h0 => absurd h0 (by omega)) (fun _ h1 => absurd h1 (by omega)) (fun _ _ h2 => ⟨rfl, rfl, ?_, fun j hj => hj⟩) (fun _ _ h2 => ⟨rfl, rfl, ?_, fun j hj => hj⟩)
      · rw [eb, Int.ediv_one]
        show [_, _, _] = [_, _, _]
        rw [List.append_assoc, show (x + 65536) % 256 = x % 256 by omega, show (x + 65536) / 256 % 256 = x / 256 % 256 by omega]
        rfl
      · rw [eb, Int.ediv_one]
        show [_, _, _] = [_, _, _]
        rw [List.append_assoc]
        rfl
    · exact rw_m2 sn x n c q m i cs bs es hcs hbs hes hq hi hx w1 w2 v1 v2 _ (fun _ => out_refl) (fun _ _ => out_refl) (fun h0 h1 _ => absurd (e.2 ⟨by omega, by omega⟩) h) (fun h0 h1 _ => absurd (e.2 ⟨by omega, by omega⟩) h)
  · have e : okX (-32) x ↔ (-2147483648 ≤ x ∧ x ≤ 2147483647) := Iff.rfl
    have eb : byW (-32) x = [x / 1 % 256, x / 256 % 256, x / 65536 % 256, x / 16777216 % 256] := rfl
    refine ⟨fun h => ?_, fun h => ?_⟩
    · have h := e.1 h
      refine rw_m4 sn x n c q m i cs bs es hcs hbs hes hq hi hx w1 w2 v1 v2 _ (fun h0 => absurd h0 (by omega)) (fun _ h1 => absurd h1 (by omega)) (fun _ _ h2 => ⟨rfl, rfl, ?_, fun j hj => hj⟩) (fun _ _ h2 => ⟨rfl, rfl, ?_, fun j hj => hj⟩)
      · rw [eb, Int.ediv_one]
        show [_, _, _] = [_, _, _]
        rw [List.append_assoc, List.append_assoc, List.append_assoc, show (x + 4294967296) % 256 = x % 256 by omega, show (x + 4294967296) / 256 % 256 = x / 256 % 256 by omega, show (x + 4294967296) / 256 / 256 % 256 = x / 65536 % 256 by omega, show (x + 4294967296) / 256 / 256 / 256 % 256 = x / 16777216 % 256 by omega]
        rfl
      · rw [eb, Int.ediv_one]
        show [_, _, _] = [_, _, _]
        rw [List.append_assoc, List.append_assoc, List.append_assoc, show x / 256 / 256 % 256 = x / 65536 % 256 by omega, show x / 256 / 256 / 256 % 256 = x / 16777216 % 256 by omega]
        rfl
    · exact rw_m4 sn x n c q m i cs bs es hcs hbs hes hq hi hx w1 w2 v1 v2 _ (fun _ => out_refl) (fun _ _ => out_refl) (fun h0 h1 _ => absurd (e.2 ⟨by omega, by omega⟩) h) (fun h0 h1 _ => absurd (e.2 ⟨by omega, by omega⟩) h)
theorem rw_loop (sn : Int) (c : Nat) : ∀ (rs dr ws xs dx : List Int) (bs : List Int), L2 twin rs ws → dr.length = dx.length → ws.length = xs.length → (dr ++ rs).length ≤ 5 → (∀ x ∈ xs, i64 x) → 1 ≤ bs.length → bs.length + sumW ws ≤ 30 →
    LoopSpec Try.prog 1 lpQ (frQ sn (dx ++ xs).length c bs.length (dr ++ rs).length (dr.length : Nat)) [.ro 3 (iW (dx ++ xs)), .own 3 (iW (dr ++ rs)), .own 5 (uB bs)]
      (match wrF ws xs with
      | none => ⟨.ret, frOf 105 [(4, .string ⟨#[]⟩), (5, .int .i64 5)], [.ro 3 (iW (dx ++ xs))], []⟩
      | some l => ⟨.exit 0, frQ sn (dx ++ xs).length c (bs ++ l).length (dr ++ rs).length ((dr ++ rs).length : Nat), [.ro 3 (iW (dx ++ xs)), .own 3 (iW (dr ++ rs)), .own 5 (uB (bs ++ l))], []⟩)
  | _, dr, _, [], dx, bs, .nil, hd, hl, h5, hx, hb, hs => by
    rw [wrF]
    simp only [List.append_nil]
    exact .last (rw_end sn dx.length c bs.length dr.length _ _ _ (iW_len _) _ out_refl) (by intro h; cases h)
  | _, _, _, _ :: _, _, _, .nil, _, hl, _, _, _, _ => by simp at hl
  | _, _, _, [], _, _, .cons _ _, _, hl, _, _, _, _ => by simp at hl
  | _, dr, _, x :: xs, dx, bs, .cons (a := r) (b := w) (l := rs) (m := ws) ht hts, hd, hl, h5, hx, hb, hs => by
    rw [sumW] at hs
    have hl1 : (dr ++ r :: rs).length = dr.length + 1 + rs.length := by simp; omega
    have hl2 : (dx ++ x :: xs).length = dx.length + 1 + xs.length := by simp; omega
    have hR := rw_round sn x r w (dx ++ x :: xs).length c bs.length (dr ++ r :: rs).length dr.length (iW (dx ++ x :: xs)) (uB bs) (iW (dr ++ r :: rs)) (Nat.le_of_eq (iW_len _).symm) (uB_len _) (iW_len _) ⟨hb, by omega⟩ ⟨by omega, by omega, h5⟩ (hx x (by simp)) ht
      (by have := iW_getD dr rs r []; rwa [List.append_nil] at this) (by have := iW_getD dx xs x []; rw [List.append_nil] at this; rw [hd]; exact this)
    rw [wrF]
    by_cases hk : okX w x
    · rw [if_pos hk]
      have ih := rw_loop sn c rs (dr ++ [r]) ws xs (dx ++ [x]) (bs ++ byW w x) hts (by simp [hd]) (by simpa using hl) (by simpa using h5) (fun u hu => hx u (by simp [hu])) (by rw [List.length_append]; omega) (by rw [List.length_append, byW_len]; omega)
      rw [List.append_assoc, List.singleton_append, List.append_assoc, List.singleton_append, uB_app, show (bs ++ byW w x).length = bs.length + wB w by rw [List.length_append, byW_len]] at ih
      have e1 : (((dr ++ [r]).length : Nat) : Int) = ((dr.length + 1 : Nat) : Int) := by simp
      rw [e1] at ih
      refine .more (hR.1 hk) rfl ?_ (fun j hj _ => by cases hj)
      cases hF : wrF ws xs with
      | none => rw [hF] at ih; exact ih
      | some l => rw [hF] at ih; simp only [Option.map_some, ← List.append_assoc]; exact ih
    · rw [if_neg hk]
      exact .last (hR.2 hk) (by intro h; cases h)
theorem twins (sn : Int) : L2 twin (rws sn) (wds sn) := by
  have a : twin 1 8 := .inl ⟨rfl, rfl⟩
  have b : twin 2 16 := .inr (.inl ⟨rfl, rfl⟩)
  have c : twin (-2) (-16) := .inr (.inr (.inl ⟨rfl, rfl⟩))
  have d : twin (-4) (-32) := .inr (.inr (.inr ⟨rfl, rfl⟩))
  unfold rws wds
  repeat' split
  · exact .cons b (.cons c (.cons c (.cons c .nil)))
  · exact .cons d (.cons d .nil)
  · exact .cons d (.cons d (.cons d (.cons d .nil)))
  · exact .cons c (.cons c (.cons c (.cons c (.cons a .nil))))
  · exact .cons a (.cons d .nil)
  · exact .nil
theorem rws_nil (sn : Int) : rws sn = [] ↔ wds sn = [] := by
  have h := (ws_same sn).2.2
  constructor
  · intro e; rw [e] at h; exact List.length_eq_zero_iff.1 h.symm
  · intro e; rw [e] at h; exact List.length_eq_zero_iff.1 h
theorem rwrite_nil {sn : Int} : CallSpec Try.prog 16 [.int .u8 sn, slN] [] (wtR (F.write sn []) []) := by
  unfold F.write
  by_cases hw : wds sn = []
  · rw [if_pos hw]; exact rwt_0n sn ((rwid_done sn).1 ((rws_nil sn).2 hw)) _ res_refl
  · have hr : rws sn ≠ [] := fun h => hw ((rws_nil sn).1 h)
    rw [if_neg hw, if_pos (by simp; exact hw)]
    exact rwt_cn sn _ _ (List.length_pos_iff.2 hr) ((rwid_done sn).2 hr) _ res_refl
theorem rwrite_emp {sn : Int} : CallSpec Try.prog 16 [.int .u8 sn, slB 0 0 0] [.dead] (wtR (F.write sn []) [.dead]) := by
  unfold F.write
  by_cases hw : wds sn = []
  · rw [if_pos hw]; exact rwt_0e sn ((rwid_done sn).1 ((rws_nil sn).2 hw)) _ res_refl
  · have hr : rws sn ≠ [] := fun h => hw ((rws_nil sn).1 h)
    rw [if_neg hw, if_pos (by simp; exact hw)]
    exact rwt_ce sn _ _ (List.length_pos_iff.2 hr) ((rwid_done sn).2 hr) _ res_refl
theorem rwrite_done {sn : Int} {xs : List Int} {c : Nat} (hx : ∀ x ∈ xs, i64 x) : CallSpec Try.prog 16 [.int .u8 sn, slB 0 xs.length c] [.ro 3 (iW xs)] (wtR (F.write sn xs) [.ro 3 (iW xs)]) := by
  unfold F.write
  by_cases hw : wds sn = []
  · rw [if_pos hw]; exact rwt_0s sn _ _ _ ((rwid_done sn).1 ((rws_nil sn).2 hw)) _ res_refl
  have hr : rws sn ≠ [] := fun h => hw ((rws_nil sn).1 h)
  have hlen := (ws_same sn).2.2
  have hn : 1 ≤ (rws sn).length := List.length_pos_iff.2 hr
  have kW := (rwid_done sn).2 hr
  rw [if_neg hw]
  by_cases hl : (wds sn).length ≠ xs.length
  · rw [if_pos hl]; exact rwt_cs sn _ _ _ _ _ hn (by omega) kW _ res_refl
  have hl' : (wds sn).length = xs.length := Classical.not_not.1 hl
  have h17 := frK_le sn
  have hs : sumW (wds sn) ≤ 16 := by unfold frK at h17; omega
  have kL := (rw_loop sn c (rws sn) [] (wds sn) xs [] [sn] (twins sn) rfl hl' (by rw [List.nil_append, hlen]; exact wds_len sn) hx (Nat.le_refl _) (by simp; omega)).code
  rw [if_neg hl]
  simp only [List.nil_append, List.singleton_append] at kL
  have hxl : xs.length = (rws sn).length := by omega
  cases hF : wrF (wds sn) xs with
  | none =>
    rw [hF] at kL
    rw [hxl] at kL ⊢
    exact rwt_e sn _ c _ _ hn kW kL _ res_refl
  | some l =>
    rw [hF] at kL
    have hll := wrF_len _ _ _ hF
    have hu := sum_u16 (wrS sn l)
    have hlen2 : (uB (sn :: l)).length = (sn :: l).length := uB_len _
    have hsz : (wrS sn l).size = (sn :: l).length := (strB_size _).trans hlen2
    have h1 : (sn :: l).length ≤ 17 := by simp; omega
    have kC : CallSpec Try.prog 25 [.string (wrS sn l)] [] ⟨.int .u16 (F.sum (wrS sn l)), [], []⟩ := rsum_done (by omega)
    have ht : List.take ((sn :: l).length * 1) (List.drop 0 (uB (sn :: l))) = uB (sn :: l) := by rw [Nat.mul_one, List.drop_zero, ← hlen2, List.take_length]
    rw [hxl] at kL ⊢
    refine rwt_o sn (F.sum (wrS sn l)) (rws sn).length c (sn :: l).length _ _ (uB (sn :: l)) hn hlen2 (by omega) (by rw [ht]; exact uB_all _) (by rw [ht]; rfl) hu (by rw [← wrS, hsz]; omega) kW kC kL _ ⟨?_, rfl, fun j hj => hj⟩
    show Value.tuple #[.string _, _] = .tuple #[.string _, _]
    unfold wrT
    rfl
end Go.Proofs.Ytbolppjlaipfjaa.Ex
end
section
set_option linter.unusedSectionVars false
set_option linter.unusedSimpArgs false
set_option linter.unusedVariables false
namespace Go.Proofs.Ytbolppjlaipfjaa.Ex
open Go
set_option linter.unusedVariables false
section
variable (sn e : Int) (t : ByteArray) (ht : (ByteArray.toList t == ByteArray.toList t) = true) (kW : CallSpec Try.prog 15 [.int .u8 sn, slB 0 0 4] [.own 3 lmarks] (.mk (.tuple #[.string t, .int .i64 e]) [.own 3 lmarks] [])) (kR : CallSpec Try.prog 16 [.int .u8 sn, slN] [] (.mk (.tuple #[.string t, .int .i64 e]) [] []))
include sn e t ht kW kR
theorem sw_n_p : go (exec (Try.prog) (8) (4) ([.int .u8 sn, slN]) ([])) [(4, .call (.mk ((zSB 0 0 4)) [.own 3 [.int .i64 (-7770777), .int .i64 (-7770777), .int .i64 (-7770777), .int .i64 (-7770777)]] [])), (6, .call (.mk (.tuple #[.string t, .int .i64 e]) [.own 3 [.int .i64 (-7770777), .int .i64 (-7770777), .int .i64 (-7770777), .int .i64 (-7770777)]] [])), (10, .call (.mk (.tuple #[.string t, .int .i64 e]) [] [])), (8, .call (.mk (.bool true) [] [])), (12, .dec true), (1, .dec true), (1, .dec true), (1, .dec true), (2, .dec true), (1, .dec true), (1, .dec true), (0, .call (.mk (.bool true) [.own 3 [.int .i64 (-7770777), .int .i64 (-7770777), .int .i64 (-7770777), .int .i64 (-7770777)]] [])), (2, .dec true)] = some (.mk (.bool true) [] [], true, [CallSpec Try.prog 14 [zSN] [] (.mk ((zSB 0 0 4)) [.own 3 [.int .i64 (-7770777), .int .i64 (-7770777), .int .i64 (-7770777), .int .i64 (-7770777)]] []), type_of% kW, type_of% kR, CallSpec Try.prog 12 [] [] (.mk (.bool true) [] []), (ByteArray.toList t == ByteArray.toList t) = true, (ByteArray.toList t == ByteArray.toList t) = true, (ByteArray.toList t == ByteArray.toList t) = true, (ByteArray.toList t == ByteArray.toList t) = true, decide (e = e) = true, decide (e = e) = true, decide (e = e) = true, CallSpec Try.prog 17 [(zSB 0 0 4), zSN] [.own 3 [.int .i64 (-7770777), .int .i64 (-7770777), .int .i64 (-7770777), .int .i64 (-7770777)]] (.mk (.bool true) [.own 3 [.int .i64 (-7770777), .int .i64 (-7770777), .int .i64 (-7770777), .int .i64 (-7770777)]] []), decide (e = e) = true]) := by kernel_rfl
theorem sw_n (R : Res) (k_p : Res.le (.mk (.bool true) [] []) R) : CallSpec (Try.prog) (4) ([.int .u8 sn, slN]) ([]) R := by
  exact (CallSpec.id (go_ok (exec_ok tnamed tcalm tmixed _ _ _ _) (sw_n_p sn e t ht kW kR ) (aC (lent_nil) (aC (kW) (aC (kR) (aC (awake_done) (aC ((by omega)) (aC ((by omega)) (aC ((by omega)) (aC ((by omega)) (aC dO (aC dO (aC dO (aC (kept_nil) (aC dO aN))))))))))))))).le (k_p )
end
section
variable (sn e : Int) (t : ByteArray) (ht : (ByteArray.toList t == ByteArray.toList t) = true) (kW : CallSpec Try.prog 15 [.int .u8 sn, slB 0 0 4] [.own 3 lmarks] (.mk (.tuple #[.string t, .int .i64 e]) [.own 3 lmarks] [])) (kR : CallSpec Try.prog 16 [.int .u8 sn, slB 0 0 0] [.dead] (.mk (.tuple #[.string t, .int .i64 e]) [.dead] []))
include sn e t ht kW kR
theorem sw_e_p : go (exec (Try.prog) (8) (4) ([.int .u8 sn, slB 0 0 0]) ([.dead])) [(4, .call (.mk ((zSB 1 0 4)) [.dead, .own 3 [.int .i64 (-7770777), .int .i64 (-7770777), .int .i64 (-7770777), .int .i64 (-7770777)]] [])), (6, .call (.mk (.tuple #[.string t, .int .i64 e]) [.own 3 [.int .i64 (-7770777), .int .i64 (-7770777), .int .i64 (-7770777), .int .i64 (-7770777)]] [])), (10, .call (.mk (.tuple #[.string t, .int .i64 e]) [.dead] [])), (8, .call (.mk (.bool true) [] [])), (12, .dec true), (1, .dec true), (1, .dec true), (1, .dec true), (2, .dec true), (1, .dec true), (1, .dec true), (0, .call (.mk (.bool true) [.own 3 [.int .i64 (-7770777), .int .i64 (-7770777), .int .i64 (-7770777), .int .i64 (-7770777)], .dead] [])), (2, .dec true)] = some (.mk (.bool true) [.dead] [], true, [CallSpec Try.prog 14 [(zSB 0 0 0)] [.dead] (.mk ((zSB 1 0 4)) [.dead, .own 3 [.int .i64 (-7770777), .int .i64 (-7770777), .int .i64 (-7770777), .int .i64 (-7770777)]] []), type_of% kW, type_of% kR, CallSpec Try.prog 12 [] [] (.mk (.bool true) [] []), (ByteArray.toList t == ByteArray.toList t) = true, (ByteArray.toList t == ByteArray.toList t) = true, (ByteArray.toList t == ByteArray.toList t) = true, (ByteArray.toList t == ByteArray.toList t) = true, decide (e = e) = true, decide (e = e) = true, decide (e = e) = true, CallSpec Try.prog 17 [(zSB 0 0 4), (zSB 1 0 0)] [.own 3 [.int .i64 (-7770777), .int .i64 (-7770777), .int .i64 (-7770777), .int .i64 (-7770777)], .dead] (.mk (.bool true) [.own 3 [.int .i64 (-7770777), .int .i64 (-7770777), .int .i64 (-7770777), .int .i64 (-7770777)], .dead] []), decide (e = e) = true]) := by kernel_rfl
theorem sw_e (R : Res) (k_p : Res.le (.mk (.bool true) [.dead] []) R) : CallSpec (Try.prog) (4) ([.int .u8 sn, slB 0 0 0]) ([.dead]) R := by
  exact (CallSpec.id (go_ok (exec_ok tnamed tcalm tmixed _ _ _ _) (sw_e_p sn e t ht kW kR ) (aC (lent_emp) (aC (kW) (aC (kR) (aC (awake_done) (aC ((by omega)) (aC ((by omega)) (aC ((by omega)) (aC ((by omega)) (aC dO (aC dO (aC dO (aC (kept_emp) (aC dO aN))))))))))))))).le (k_p )
end
section
variable (sn e : Int) (t : ByteArray) (n : Nat) (cs us : List Value) (ht : (ByteArray.toList t == ByteArray.toList t) = true) (kL : CallSpec Try.prog 14 [slB 0 n n] [.ro 3 cs] (.mk (slB 1 n (n + 4)) [.ro 3 cs, .own 3 us] [])) (kW : CallSpec Try.prog 15 [.int .u8 sn, slB 0 n (n + 4)] [.own 3 us] (.mk (.tuple #[.string t, .int .i64 e]) [.own 3 us] [])) (kR : CallSpec Try.prog 16 [.int .u8 sn, slB 0 n n] [.ro 3 cs] (.mk (.tuple #[.string t, .int .i64 e]) [.ro 3 cs] [])) (kK : CallSpec Try.prog 17 [slB 0 n (n + 4), slB 1 n n] [.own 3 us, .ro 3 cs] (.mk (.bool true) [.own 3 us, .ro 3 cs] []))
include sn e t n cs us ht kL kW kR kK
theorem sw_s_p : go (exec (Try.prog) (8) (4) ([.int .u8 sn, slB 0 n n]) ([.ro 3 cs])) [(4, .call (.mk ((zSB 1 n (n + 4))) [.ro 3 cs, .own 3 us] [])), (6, .call (.mk (.tuple #[.string t, .int .i64 e]) [.own 3 us] [])), (10, .call (.mk (.tuple #[.string t, .int .i64 e]) [.ro 3 cs] [])), (8, .call (.mk (.bool true) [] [])), (12, .dec true), (1, .dec true), (1, .dec true), (1, .dec true), (2, .dec true), (1, .dec true), (1, .dec true), (0, .call (.mk (.bool true) [.own 3 us, .ro 3 cs] [])), (2, .dec true)] = some (.mk (.bool true) [.ro 3 cs] [], true, [type_of% kL, type_of% kW, type_of% kR, CallSpec Try.prog 12 [] [] (.mk (.bool true) [] []), (ByteArray.toList t == ByteArray.toList t) = true, (ByteArray.toList t == ByteArray.toList t) = true, (ByteArray.toList t == ByteArray.toList t) = true, (ByteArray.toList t == ByteArray.toList t) = true, decide (e = e) = true, decide (e = e) = true, decide (e = e) = true, type_of% kK, decide (e = e) = true]) := by kernel_rfl
theorem sw_s (R : Res) (k_p : Res.le (.mk (.bool true) [.ro 3 cs] []) R) : CallSpec (Try.prog) (4) ([.int .u8 sn, slB 0 n n]) ([.ro 3 cs]) R := by
  exact (CallSpec.id (go_ok (exec_ok tnamed tcalm tmixed _ _ _ _) (sw_s_p sn e t n cs us ht kL kW kR kK ) (aC (kL) (aC (kW) (aC (kR) (aC (awake_done) (aC ((by omega)) (aC ((by omega)) (aC ((by omega)) (aC ((by omega)) (aC dO (aC dO (aC dO (aC (kK) (aC dO aN))))))))))))))).le (k_p )
end
end Go.Proofs.Ytbolppjlaipfjaa.Ex
end
section
set_option linter.unusedSectionVars false
set_option linter.unusedSimpArgs false
set_option linter.unusedVariables false
namespace Go.Proofs.Ytbolppjlaipfjaa.Ex
open Go
set_option linter.unusedVariables false
theorem writes_nil (sn : Int) : CallSpec Try.prog 4 [.int .u8 sn, slN] [] ⟨.bool true, [], []⟩ :=
  sw_n sn (F.write sn []).2 (F.write sn []).1 (beq_self_eq_true _) (write_done (sn := sn) (xs := []) (c := 4) (ex := lmarks) (fun x hx => by cases hx)) rwrite_nil _ res_refl
theorem writes_emp (sn : Int) : CallSpec Try.prog 4 [.int .u8 sn, slB 0 0 0] [.dead] ⟨.bool true, [.dead], []⟩ :=
  sw_e sn (F.write sn []).2 (F.write sn []).1 (beq_self_eq_true _) (write_done (sn := sn) (xs := []) (c := 4) (ex := lmarks) (fun x hx => by cases hx)) rwrite_emp _ res_refl
theorem writes_some (sn : Int) (l : List Int) (hx : ∀ x ∈ l, i64 x) (hn : 1 ≤ l.length ∧ l.length ≤ 17592186043904) : CallSpec Try.prog 4 [.int .u8 sn, slB 0 l.length l.length] [.ro 3 (iW l)] ⟨.bool true, [.ro 3 (iW l)], []⟩ := by
  have kL := lent_some (cs := iW l) (by rw [iW_len]; exact hn)
  rw [iW_len] at kL
  exact sw_s sn (F.write sn l).2 (F.write sn l).1 l.length (iW l) (iW l ++ lmarks) (beq_self_eq_true _) kL (write_done hx) (rwrite_done hx) (kept_some hn) _ res_refl
theorem i64_of {x : Int} (h : (Lit.int .i64 x).wf = true) : i64 x := by
  unfold Lit.wf at h
  unfold i64
  simp [IntKind.min, IntKind.max, IntKind.signed, IntKind.bits] at h
  omega
theorem iW_flat (l : List Int) : l.flatMap (fun a => [Value.int .i64 a]) = iW l := by
  unfold iW
  induction l with
  | nil => rfl
  | cons a l ih => rw [List.flatMap_cons, ih]; rfl
theorem row_fields {f : FuncId} (W : World) {v : Value} (a : Int) (h : v = .slice none 0 0 ∨ (∃ ν, VR ν (.slice (some ⟨0, 0, none⟩) 0 0) v ∧ Rep Try.prog ν [.dead] W) ∨
      ∃ (l : List Int) (ν : Nu), 0 < l.length ∧ l.length * 8 ≤ 140737488351232 ∧ (∀ x ∈ l, (Lit.int .i64 x).wf = true ∧ ([Value.int .i64 x] : List Value).length = 1) ∧ VR ν (.slice (some ⟨0, 0, none⟩) l.length l.length) v ∧ Rep Try.prog ν [.ro 3 (l.flatMap fun x => [Value.int .i64 x])] W)
    (pre post : List Value) (hf : pre.all flat = true) (hg : post.all flat = true)
    (k0 : CallSpec Try.prog f (pre ++ slN :: post) [] ⟨.bool true, [], []⟩) (k1 : CallSpec Try.prog f (pre ++ slB 0 0 0 :: post) [.dead] ⟨.bool true, [.dead], []⟩)
    (k2 : ∀ l : List Int, (∀ x ∈ l, i64 x) → (1 ≤ l.length ∧ l.length ≤ 17592186043904) → CallSpec Try.prog f (pre ++ slB 0 l.length l.length :: post) [.ro 3 (iW l)] ⟨.bool true, [.ro 3 (iW l)], []⟩) :
    ∃ (args' : List Value) (hp hp' : Hp) (ν : Nu) (args0 : List Value), (pre ++ v :: post).toArray = args'.toArray ∧ L2 (VR ν) args0 args' ∧ Rep Try.prog ν hp W ∧ CallSpec Try.prog f args0 hp ⟨.bool true, hp', []⟩ := by
  have fl : ∀ (ν : Nu) {l : List Value}, l.all flat = true → L2 (VR ν) l l := fun ν l => by
    induction l with
    | nil => intro _; exact .nil
    | cons x l ih => intro h; simp only [List.all_cons, Bool.and_eq_true] at h; exact .cons ((flat_VR h.1 _).2 rfl) (ih h.2)
  rcases h with rfl | ⟨ν, h1, h2⟩ | ⟨l, ν, h0, h8, hg', h1, h2⟩
  · exact ⟨_, [], _, fun _ => none, _, rfl, (fl _ hf).append (.cons ((flat_VR rfl _).2 rfl) (fl _ hg)), rep_none W, k0⟩
  · exact ⟨_, _, _, ν, _, rfl, (fl _ hf).append (.cons h1 (fl _ hg)), h2, k1⟩
  · rw [iW_flat] at h2
    exact ⟨_, _, _, ν, _, rfl, (fl _ hf).append (.cons h1 (fl _ hg)), h2, k2 l (fun x hx => i64_of (hg' x hx).1) ⟨h0, by omega⟩⟩
end Go.Proofs.Ytbolppjlaipfjaa.Ex
end
