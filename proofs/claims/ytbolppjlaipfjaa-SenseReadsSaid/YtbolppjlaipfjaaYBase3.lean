import Derived.Test.YtbolppjlaipfjaaYBase2
import Derived.Below
import Derived.Deep.Draws
import Derived.Deep.AppendLies
import Derived.Maps.AppendAt
import Derived.OwnWalk
import Derived.Laws.BytesArg
import Derived.Laws.MakeOwn
import Derived.Laws.OwnMore
import Derived.Deep.OwnRows
import Derived.Tactics
import Derived.Lib.ConvBytes
import Derived.Laws.Slices
import Derived.WalkKit
import Derived.KernelRfl
import Derived.RowKit3
import Derived.Deep.LoopGhost
import Derived.Deep.QuietTactic
import Derived.BigQuiet
import Derived.WideLaws
import Derived.Deep.DeepCutAuto
import Derived.Deep.CutBlock
import Derived.Deep.RegionHeld3
import Derived.Laws.Rows
import Derived.Lib.AppendStr
import Derived.ArgAppend
import Derived.Laws.IdiomCopy
import Derived.RowKit
import Derived.OrdersHeld
import Derived.Laws.BitsLemmas
section
set_option linter.unusedSectionVars false
set_option linter.unusedSimpArgs false
set_option linter.unusedVariables false
namespace Go.Proofs.Ytbolppjlaipfjaa.Ex
open Go
set_option linter.unusedVariables false
noncomputable def lpR : Code := loopAt Try.prog 9 0
theorem lpR_calm : calmC lpR = true := loopAt_calm tcalm 9 0
noncomputable def lpRC : Code := .loop lpR
def frL (sn : Int) (s : ByteArray) (last : Value) (bad : Int) : Fr := frOf 43 [(0, .int .u8 sn), (1, .string s), (7, last), (8, .int .i64 bad)]
def rG (n : Nat) (z : Int) (vs : List Value) : Res := ⟨.tuple #[slB 0 n n, .int .i64 z, .bool true], [.own 3 vs], []⟩
def kR : Xt → List Nat
  | .normal => [0, 1, 7, 8]
  | _ => [4, 5, 6]
section
variable (sn bad i : Int) (s : ByteArray) (hs : ByteArray.size s ≤ 140737488351232) (hi : i < 0) (kI : CallSpec Try.prog 21 [.string s, .string a5] [] (.mk (.int .i64 i) [] []))
include sn bad i s hs hi kI
theorem rd_e0_p : go (body (Try.prog) (8) (0) (8) (kR) (lpR) (frL sn s slN bad) ([])) [(1, .call (.mk (.int .i64 i) [] [])), (7, .dec true)] = some (Out.mk Xt.ret (frOf 43 [(4, zSN), (5, .bool false), (6, .int .i64 bad)]) [] [], true, [type_of% kI, decide (i < 0) = true]) := by kernel_rfl
theorem rd_e0 (R : Out) (k_p : Out.le (Out.mk Xt.ret (frOf 43 [(4, zSN), (5, .bool false), (6, .int .i64 bad)]) [] []) R) : CodeSpec (Try.prog) (0) (lpR) (frL sn s slN bad) ([]) R := by
  exact (CodeSpec.id (go_ok (body_ok tnamed tcalm tmixed _ _ _ _ _ _ lpR_calm) (rd_e0_p sn bad i s hs hi kI ) (aC (kI) (aC dO aN)))).le (k_p )
end
section
variable (sn bad i : Int) (n : Nat) (vs : List Value) (s : ByteArray) (hs : ByteArray.size s ≤ 140737488351232) (hi : i < 0) (kI : CallSpec Try.prog 21 [.string s, .string a5] [] (.mk (.int .i64 i) [] []))
include sn bad i n vs s hs hi kI
theorem rd_e1_p : go (body (Try.prog) (8) (0) (8) (kR) (lpR) (frL sn s (slB 0 n n) bad) ([.own 3 vs])) [(1, .call (.mk (.int .i64 i) [] [])), (7, .dec true)] = some (Out.mk Xt.ret (frOf 43 [(4, (zSB 0 n n)), (5, .bool true), (6, .int .i64 bad)]) [.own 3 vs] [], true, [type_of% kI, decide (i < 0) = true]) := by kernel_rfl
theorem rd_e1 (R : Out) (k_p : Out.le (Out.mk Xt.ret (frOf 43 [(4, (zSB 0 n n)), (5, .bool true), (6, .int .i64 bad)]) [.own 3 vs] []) R) : CodeSpec (Try.prog) (0) (lpR) (frL sn s (slB 0 n n) bad) ([.own 3 vs]) R := by
  exact (CodeSpec.id (go_ok (body_ok tnamed tcalm tmixed _ _ _ _ _ _ lpR_calm) (rd_e1_p sn bad i n vs s hs hi kI ) (aC (kI) (aC dO aN)))).le (k_p )
end
section
variable (sn bad i z : Int) (n : Nat) (vs : List Value) (s : ByteArray) (hs : ByteArray.size s ≤ 140737488351232) (hi : 0 ≤ i ∧ i < (↑(ByteArray.size s) : Int)) (kI : CallSpec Try.prog 21 [.string s, .string a5] [] (.mk (.int .i64 i) [] [])) (kF : CallSpec Try.prog 22 [.int .u8 sn, .string (ByteArray.extract s (Int.toNat (i + 1)) (ByteArray.size s))] [] (rG n z vs)) (hz : 0 ≤ z ∧ z ≤ (↑(ByteArray.size (ByteArray.extract s (Int.toNat (i + 1)) (ByteArray.size s))) : Int))
include sn bad i z n vs s hs hi kI kF hz
theorem rd_g0_p : go (body (Try.prog) (8) (0) (8) (kR) (lpR) (frL sn s slN bad) ([])) [(1, .call (.mk (.int .i64 i) [] [])), (7, .dec false), (2, Itm.val (.int .i64 (i + 1))), (0, Itm.must), (5, .call (.mk (.tuple #[(zSB 0 n n), .int .i64 z, .bool true]) [.own 3 vs] [])), (18, Itm.must)] = some (Out.mk Xt.normal (frOf 43 [(0, .int .u8 sn), (1, .string (ByteArray.extract (ByteArray.extract s (Int.toNat (i + 1)) (ByteArray.size s)) (Int.toNat z) (ByteArray.size (ByteArray.extract s (Int.toNat (i + 1)) (ByteArray.size s))))), (7, (zSB 0 n n)), (8, .int .i64 bad)]) [.own 3 vs] [], true, [type_of% kI, decide (i < 0) = false, Value.int .i64 (IntKind.wrap .i64 (i + 1)) = .int .i64 (i + 1), upto (i + 1) (ByteArray.size s) = true, type_of% kF, upto z (ByteArray.size (ByteArray.extract s (Int.toNat (i + 1)) (ByteArray.size s))) = true]) := by kernel_rfl
theorem rd_g0 (R : Out) (k_p : Out.le (Out.mk Xt.normal (frOf 43 [(0, .int .u8 sn), (1, .string (ByteArray.extract (ByteArray.extract s (Int.toNat (i + 1)) (ByteArray.size s)) (Int.toNat z) (ByteArray.size (ByteArray.extract s (Int.toNat (i + 1)) (ByteArray.size s))))), (7, (zSB 0 n n)), (8, .int .i64 bad)]) [.own 3 vs] []) R) : CodeSpec (Try.prog) (0) (lpR) (frL sn s slN bad) ([]) R := by
  exact (CodeSpec.id (go_ok (body_ok tnamed tcalm tmixed _ _ _ _ _ _ lpR_calm) (rd_g0_p sn bad i z n vs s hs hi kI kF hz ) (aC (kI) (aC dN (aC (congrArg (Value.int _) (Go.IntWalk.i64_in _ (by omega))) (aC (upto_of (by omega)) (aC (kF) (aC (upto_of (by omega)) aN)))))))).le (k_p )
end
section
variable (sn bad i z : Int) (m n : Nat) (us vs : List Value) (s : ByteArray) (hs : ByteArray.size s ≤ 140737488351232) (hi : 0 ≤ i ∧ i < (↑(ByteArray.size s) : Int)) (kI : CallSpec Try.prog 21 [.string s, .string a5] [] (.mk (.int .i64 i) [] [])) (kF : CallSpec Try.prog 22 [.int .u8 sn, .string (ByteArray.extract s (Int.toNat (i + 1)) (ByteArray.size s))] [] (rG n z vs)) (hz : 0 ≤ z ∧ z ≤ (↑(ByteArray.size (ByteArray.extract s (Int.toNat (i + 1)) (ByteArray.size s))) : Int))
include sn bad i z m n us vs s hs hi kI kF hz
theorem rd_g1_p : go (body (Try.prog) (8) (0) (8) (kR) (lpR) (frL sn s (slB 0 m m) bad) ([.own 3 us])) [(1, .call (.mk (.int .i64 i) [] [])), (7, .dec false), (2, Itm.val (.int .i64 (i + 1))), (0, Itm.must), (5, .call (.mk (.tuple #[(zSB 0 n n), .int .i64 z, .bool true]) [.own 3 vs] [])), (18, Itm.must)] = some (Out.mk Xt.normal (frOf 43 [(0, .int .u8 sn), (1, .string (ByteArray.extract (ByteArray.extract s (Int.toNat (i + 1)) (ByteArray.size s)) (Int.toNat z) (ByteArray.size (ByteArray.extract s (Int.toNat (i + 1)) (ByteArray.size s))))), (7, (zSB 0 n n)), (8, .int .i64 bad)]) [.own 3 vs] [], true, [type_of% kI, decide (i < 0) = false, Value.int .i64 (IntKind.wrap .i64 (i + 1)) = .int .i64 (i + 1), upto (i + 1) (ByteArray.size s) = true, type_of% kF, upto z (ByteArray.size (ByteArray.extract s (Int.toNat (i + 1)) (ByteArray.size s))) = true]) := by kernel_rfl
theorem rd_g1 (R : Out) (k_p : Out.le (Out.mk Xt.normal (frOf 43 [(0, .int .u8 sn), (1, .string (ByteArray.extract (ByteArray.extract s (Int.toNat (i + 1)) (ByteArray.size s)) (Int.toNat z) (ByteArray.size (ByteArray.extract s (Int.toNat (i + 1)) (ByteArray.size s))))), (7, (zSB 0 n n)), (8, .int .i64 bad)]) [.own 3 vs] []) R) : CodeSpec (Try.prog) (0) (lpR) (frL sn s (slB 0 m m) bad) ([.own 3 us]) R := by
  exact (CodeSpec.id (go_ok (body_ok tnamed tcalm tmixed _ _ _ _ _ _ lpR_calm) (rd_g1_p sn bad i z m n us vs s hs hi kI kF hz ) (aC (kI) (aC dN (aC (congrArg (Value.int _) (Go.IntWalk.i64_in _ (by omega))) (aC (upto_of (by omega)) (aC (kF) (aC (upto_of (by omega)) aN)))))))).le (k_p )
end
section
variable (sn bad i : Int) (s : ByteArray) (hs : ByteArray.size s ≤ 140737488351232) (hb : 0 ≤ bad ∧ bad ≤ 281474976710656) (hi : 0 ≤ i ∧ i < (↑(ByteArray.size s) : Int)) (kI : CallSpec Try.prog 21 [.string s, .string a5] [] (.mk (.int .i64 i) [] [])) (kF : CallSpec Try.prog 22 [.int .u8 sn, .string (ByteArray.extract s (Int.toNat (i + 1)) (ByteArray.size s))] [] badR)
include sn bad i s hs hb hi kI kF
theorem rd_b0_p : go (body (Try.prog) (8) (0) (8) (kR) (lpR) (frL sn s slN bad) ([])) [(1, .call (.mk (.int .i64 i) [] [])), (7, .dec false), (2, Itm.val (.int .i64 (i + 1))), (0, Itm.must), (5, .call (.mk (.tuple #[zSN, .int .i64 0, .bool false]) [] [])), (14, Itm.val (.int .i64 (bad + 1)))] = some (Out.mk Xt.normal (frOf 43 [(0, .int .u8 sn), (1, .string (ByteArray.extract s (Int.toNat (i + 1)) (ByteArray.size s))), (7, zSN), (8, .int .i64 (bad + 1))]) [] [], true, [type_of% kI, decide (i < 0) = false, Value.int .i64 (IntKind.wrap .i64 (i + 1)) = .int .i64 (i + 1), upto (i + 1) (ByteArray.size s) = true, type_of% kF, Value.int .i64 (IntKind.wrap .i64 (bad + 1)) = .int .i64 (bad + 1)]) := by kernel_rfl
theorem rd_b0 (R : Out) (k_p : Out.le (Out.mk Xt.normal (frOf 43 [(0, .int .u8 sn), (1, .string (ByteArray.extract s (Int.toNat (i + 1)) (ByteArray.size s))), (7, zSN), (8, .int .i64 (bad + 1))]) [] []) R) : CodeSpec (Try.prog) (0) (lpR) (frL sn s slN bad) ([]) R := by
  exact (CodeSpec.id (go_ok (body_ok tnamed tcalm tmixed _ _ _ _ _ _ lpR_calm) (rd_b0_p sn bad i s hs hb hi kI kF ) (aC (kI) (aC dN (aC (congrArg (Value.int _) (Go.IntWalk.i64_in _ (by omega))) (aC (upto_of (by omega)) (aC (kF) (aC (congrArg (Value.int _) (Go.IntWalk.i64_in _ (by omega))) aN)))))))).le (k_p )
end
section
variable (sn bad i : Int) (m : Nat) (us : List Value) (s : ByteArray) (hs : ByteArray.size s ≤ 140737488351232) (hb : 0 ≤ bad ∧ bad ≤ 281474976710656) (hi : 0 ≤ i ∧ i < (↑(ByteArray.size s) : Int)) (kI : CallSpec Try.prog 21 [.string s, .string a5] [] (.mk (.int .i64 i) [] [])) (kF : CallSpec Try.prog 22 [.int .u8 sn, .string (ByteArray.extract s (Int.toNat (i + 1)) (ByteArray.size s))] [] badR)
include sn bad i m us s hs hb hi kI kF
theorem rd_b1_p : go (body (Try.prog) (8) (0) (8) (kR) (lpR) (frL sn s (slB 0 m m) bad) ([.own 3 us])) [(1, .call (.mk (.int .i64 i) [] [])), (7, .dec false), (2, Itm.val (.int .i64 (i + 1))), (0, Itm.must), (5, .call (.mk (.tuple #[zSN, .int .i64 0, .bool false]) [] [])), (14, Itm.val (.int .i64 (bad + 1)))] = some (Out.mk Xt.normal (frOf 43 [(0, .int .u8 sn), (1, .string (ByteArray.extract s (Int.toNat (i + 1)) (ByteArray.size s))), (7, (zSB 0 m m)), (8, .int .i64 (bad + 1))]) [.own 3 us] [], true, [type_of% kI, decide (i < 0) = false, Value.int .i64 (IntKind.wrap .i64 (i + 1)) = .int .i64 (i + 1), upto (i + 1) (ByteArray.size s) = true, type_of% kF, Value.int .i64 (IntKind.wrap .i64 (bad + 1)) = .int .i64 (bad + 1)]) := by kernel_rfl
theorem rd_b1 (R : Out) (k_p : Out.le (Out.mk Xt.normal (frOf 43 [(0, .int .u8 sn), (1, .string (ByteArray.extract s (Int.toNat (i + 1)) (ByteArray.size s))), (7, (zSB 0 m m)), (8, .int .i64 (bad + 1))]) [.own 3 us] []) R) : CodeSpec (Try.prog) (0) (lpR) (frL sn s (slB 0 m m) bad) ([.own 3 us]) R := by
  exact (CodeSpec.id (go_ok (body_ok tnamed tcalm tmixed _ _ _ _ _ _ lpR_calm) (rd_b1_p sn bad i m us s hs hb hi kI kF ) (aC (kI) (aC dN (aC (congrArg (Value.int _) (Go.IntWalk.i64_in _ (by omega))) (aC (upto_of (by omega)) (aC (kF) (aC (congrArg (Value.int _) (Go.IntWalk.i64_in _ (by omega))) aN)))))))).le (k_p )
end
end Go.Proofs.Ytbolppjlaipfjaa.Ex
end
section
set_option linter.unusedSectionVars false
set_option linter.unusedSimpArgs false
set_option linter.unusedVariables false
namespace Go.Proofs.Ytbolppjlaipfjaa.Ex
open Go
set_option linter.unusedVariables false
def aft (s : ByteArray) : ByteArray := s.extract (Int.toNat (F.find s 165 + 1)) s.size
def cutB (s : ByteArray) (n : Nat) : ByteArray := s.extract n s.size
theorem cutB_size (s : ByteArray) (n : Nat) : (cutB s n).size = s.size - n := by unfold cutB; rw [ByteArray.size_extract]; omega
def rdS (sn : Int) : Nat → ByteArray → List Int → Nat → List Int × Nat
  | 0, s, l, b => (l, b)
  | f + 1, s, l, b => if F.find s 165 < 0 then (l, b) else
      if frG sn (aft s) then rdS sn f (cutB (aft s) (frK sn + 2)) (rdW (wds sn) (aft s) 1) b else rdS sn f (aft s) l (b + 1)
def rdL (sn : Int) (s : ByteArray) (l : List Int) (b : Nat) : Fr := frL sn s (if l = [] then slN else slB 0 l.length l.length) b
def rdH (l : List Int) : Hp := if l = [] then [] else [.own 3 (iW l)]
def rdO (l : List Int) (b : Nat) : Out := if l = [] then ⟨.ret, frOf 43 [(4, slN), (5, .bool false), (6, .int .i64 b)], [], []⟩ else ⟨.ret, frOf 43 [(4, slB 0 l.length l.length), (5, .bool true), (6, .int .i64 b)], [.own 3 (iW l)], []⟩
theorem rdO_ret (l : List Int) (b : Nat) : (rdO l b).ex ≠ .normal := by unfold rdO; split <;> (intro h; cases h)
theorem rdW_ne {sn : Int} (h : wds sn ≠ []) (s : ByteArray) (k : Nat) : rdW (wds sn) s k ≠ [] := by
  cases e : wds sn with
  | nil => exact absurd e h
  | cons w ws => rw [rdW]; simp
theorem aft_size {s : ByteArray} (h : 0 ≤ F.find s 165) : (aft s).size < s.size := by
  have := find_le s
  unfold aft
  rw [ByteArray.size_extract]
  omega
theorem rd_loop {sn : Int} (hw : wds sn ≠ []) : ∀ (f : Nat) (s : ByteArray) (l : List Int) (b : Nat), s.size < f → s.size + b ≤ 140737488351232 →
    LoopSpec Try.prog 0 lpR (rdL sn s l b) (rdH l) (rdO (rdS sn f s l b).1 (rdS sn f s l b).2)
  | 0, s, l, b, hf, hb => absurd hf (Nat.not_lt_zero _)
  | f + 1, s, l, b, hf, hb => by
    have hs : s.size ≤ 140737488351232 := by omega
    have kI := idx_done hs
    have hle := find_le s
    rw [rdS]
    by_cases h0 : F.find s 165 < 0
    · rw [if_pos h0]
      refine .last ?_ (rdO_ret _ _)
      by_cases hl : l = []
      · subst hl
        exact rd_e0 sn b _ s hs h0 kI _ out_refl
      · unfold rdL rdH rdO
        rw [if_neg hl, if_neg hl, if_neg hl]
        exact rd_e1 sn b _ l.length (iW l) s hs h0 kI _ out_refl
    rw [if_neg h0]
    have ha := aft_size (s := s) (by omega)
    have kF := frame_done (sn := sn) (s := aft s) hw (by omega)
    by_cases hg : frG sn (aft s)
    · rw [if_pos hg] at kF ⊢
      have hz : frK sn + 2 ≤ (aft s).size := hg.1
      have hc := cutB_size (aft s) (frK sn + 2)
      have ih := rd_loop hw f (cutB (aft s) (frK sn + 2)) (rdW (wds sn) (aft s) 1) b (by omega) (by omega)
      have hne := rdW_ne hw (aft s) 1
      have hlen := rdW_len (wds sn) (aft s) 1
      have e1 : rdL sn (cutB (aft s) (frK sn + 2)) (rdW (wds sn) (aft s) 1) b = frL sn (cutB (aft s) (frK sn + 2)) (slB 0 (wds sn).length (wds sn).length) b := by unfold rdL; rw [if_neg hne, hlen]
      have e2 : rdH (rdW (wds sn) (aft s) 1) = [.own 3 (iW (rdW (wds sn) (aft s) 1))] := by unfold rdH; rw [if_neg hne]
      refine .more (o1 := ⟨.normal, rdL sn (cutB (aft s) (frK sn + 2)) (rdW (wds sn) (aft s) 1) b, rdH (rdW (wds sn) (aft s) 1), []⟩) ?_ rfl ih (fun j hj _ => by cases hj)
      rw [e1, e2]
      by_cases hl : l = []
      · subst hl
        exact rd_g0 sn b _ (frK sn + 2 : Nat) (wds sn).length _ s hs ⟨by omega, hle.2⟩ kI kF ⟨by omega, by unfold aft at hz; omega⟩ _ out_refl
      · unfold rdL rdH
        rw [if_neg hl, if_neg hl]
        exact rd_g1 sn b _ (frK sn + 2 : Nat) l.length (wds sn).length (iW l) _ s hs ⟨by omega, hle.2⟩ kI kF ⟨by omega, by unfold aft at hz; omega⟩ _ out_refl
    · rw [if_neg hg] at kF ⊢
      have ih := rd_loop hw f (aft s) l (b + 1) (by omega) (by omega)
      refine .more (o1 := ⟨.normal, rdL sn (aft s) l (b + 1), rdH l, []⟩) ?_ rfl ih (fun j hj _ => by cases hj)
      by_cases hl : l = []
      · subst hl
        exact rd_b0 sn b _ s hs ⟨by omega, by omega⟩ ⟨by omega, hle.2⟩ kI kF _ out_refl
      · unfold rdL rdH
        rw [if_neg hl, if_neg hl]
        exact rd_b1 sn b _ l.length (iW l) s hs ⟨by omega, by omega⟩ ⟨by omega, hle.2⟩ kI kF _ out_refl
end Go.Proofs.Ytbolppjlaipfjaa.Ex
end
section
set_option linter.unusedSectionVars false
set_option linter.unusedSimpArgs false
set_option linter.unusedVariables false
namespace Go.Proofs.Ytbolppjlaipfjaa.Ex
open Go
set_option linter.unusedVariables false
section
variable (sn : Int) (s : ByteArray) (hW : CallSpec Try.prog 20 [.int .u8 sn] [] (.mk slN [] []))
include sn s hW
theorem read_0_p : go (exec (Try.prog) (8) (9) ([.int .u8 sn, .string s]) ([])) [(6, .call (.mk (zSN) [] []))] = some (.mk (.tuple #[zSN, .bool false, .int .i64 0]) [] [], true, [type_of% hW]) := by kernel_rfl
theorem read_0 (R : Res) (k_p : Res.le (.mk (.tuple #[zSN, .bool false, .int .i64 0]) [] []) R) : CallSpec (Try.prog) (9) ([.int .u8 sn, .string s]) ([]) R := by
  exact (CallSpec.id (go_ok (exec_ok tnamed tcalm tmixed _ _ _ _) (read_0_p sn s hW ) (aC (hW) aN))).le (k_p )
end
section
variable (sn b : Int) (s : ByteArray) (n : Nat) (cs : List Value) (hn : 1 ≤ n) (hW : CallSpec Try.prog 20 [.int .u8 sn] [] (.mk (slB 0 n n) [.own 3 cs] [])) (kL : CodeSpec Try.prog 0 lpRC (frL sn s slN 0) [] (Out.mk Xt.ret (frOf 43 [(4, slN), (5, .bool false), (6, .int .i64 b)]) [] []))
include sn b s n cs hn hW kL
theorem read_n_p : go (exec (Try.prog) (8) (9) ([.int .u8 sn, .string s]) ([])) [(6, .call (.mk ((zSB 0 n n)) [.own 3 cs] [])), (5, .dec false), (4, Itm.loop [0, 1, 7, 8] (Out.mk Xt.ret (frOf 43 [(4, zSN), (5, .bool false), (6, .int .i64 b)]) [] []))] = some (.mk (.tuple #[zSN, .bool false, .int .i64 b]) [] [], true, [type_of% hW, decide ((↑n : Int) = 0) = false, type_of% kL]) := by kernel_rfl
theorem read_n (R : Res) (k_p : Res.le (.mk (.tuple #[zSN, .bool false, .int .i64 b]) [] []) R) : CallSpec (Try.prog) (9) ([.int .u8 sn, .string s]) ([]) R := by
  exact (CallSpec.id (go_ok (exec_ok tnamed tcalm tmixed _ _ _ _) (read_n_p sn b s n cs hn hW kL ) (aC (hW) (aC dN (aC (kL) aN))))).le (k_p )
end
section
variable (sn b : Int) (s : ByteArray) (n m : Nat) (cs vs : List Value) (hn : 1 ≤ n) (hW : CallSpec Try.prog 20 [.int .u8 sn] [] (.mk (slB 0 n n) [.own 3 cs] [])) (kL : CodeSpec Try.prog 0 lpRC (frL sn s slN 0) [] (Out.mk Xt.ret (frOf 43 [(4, slB 0 m m), (5, .bool true), (6, .int .i64 b)]) [.own 3 vs] []))
include sn b s n m cs vs hn hW kL
theorem read_s_p : go (exec (Try.prog) (8) (9) ([.int .u8 sn, .string s]) ([])) [(6, .call (.mk ((zSB 0 n n)) [.own 3 cs] [])), (5, .dec false), (4, Itm.loop [0, 1, 7, 8] (Out.mk Xt.ret (frOf 43 [(4, (zSB 0 m m)), (5, .bool true), (6, .int .i64 b)]) [.own 3 vs] []))] = some (.mk (.tuple #[(zSB 0 m m), .bool true, .int .i64 b]) [.own 3 vs] [], true, [type_of% hW, decide ((↑n : Int) = 0) = false, type_of% kL]) := by kernel_rfl
theorem read_s (R : Res) (k_p : Res.le (.mk (.tuple #[(zSB 0 m m), .bool true, .int .i64 b]) [.own 3 vs] []) R) : CallSpec (Try.prog) (9) ([.int .u8 sn, .string s]) ([]) R := by
  exact (CallSpec.id (go_ok (exec_ok tnamed tcalm tmixed _ _ _ _) (read_s_p sn b s n m cs vs hn hW kL ) (aC (hW) (aC dN (aC (kL) aN))))).le (k_p )
end
end Go.Proofs.Ytbolppjlaipfjaa.Ex
end
section
set_option linter.unusedSectionVars false
set_option linter.unusedSimpArgs false
set_option linter.unusedVariables false
namespace Go.Proofs.Ytbolppjlaipfjaa.Ex
open Go
set_option linter.unusedVariables false
def F.read (sn : Int) (s : ByteArray) : List Int × Nat := if wds sn = [] then ([], 0) else rdS sn (s.size + 1) s [] 0
def rdR (q : List Int × Nat) : Res := if q.1 = [] then ⟨.tuple #[slN, .bool false, .int .i64 q.2], [], []⟩ else ⟨.tuple #[slB 0 q.1.length q.1.length, .bool true, .int .i64 q.2], [.own 3 (iW q.1)], []⟩
theorem read_done {sn : Int} {s : ByteArray} (hs : s.size ≤ 140737488351232) : CallSpec Try.prog 9 [.int .u8 sn, .string s] [] (rdR (F.read sn s)) := by
  unfold F.read
  by_cases hw : wds sn = []
  · rw [if_pos hw]
    exact read_0 sn s ((wid_done sn).1 hw) _ res_refl
  · rw [if_neg hw]
    have kW := (wid_done sn).2 hw
    have hn : 1 ≤ (wds sn).length := List.length_pos_iff.2 hw
    have kL := (rd_loop hw (s.size + 1) s [] 0 (by omega) (by omega)).code
    generalize rdS sn (s.size + 1) s [] 0 = q at kL
    obtain ⟨l, b⟩ := q
    unfold rdO at kL
    unfold rdR
    by_cases hl : l = []
    · rw [if_pos hl] at kL ⊢
      exact read_n sn b s _ _ hn kW kL _ res_refl
    · rw [if_neg hl] at kL ⊢
      exact read_s sn b s _ _ _ _ hn kW kL _ res_refl
end Go.Proofs.Ytbolppjlaipfjaa.Ex
end
section
set_option linter.unusedSectionVars false
set_option linter.unusedSimpArgs false
set_option linter.unusedVariables false
namespace Go.Proofs.Ytbolppjlaipfjaa.Ex
open Go
set_option linter.unusedVariables false
noncomputable def lpFO : Code := loopAt Try.prog 26 0
theorem lpFO_calm : calmC lpFO = true := loopAt_calm tcalm 26 0
noncomputable def lpFOC : Code := .loop lpFO
noncomputable def lpFI : Code := loopAt Try.prog 26 1
theorem lpFI_calm : calmC lpFI = true := loopAt_calm tcalm 26 1
noncomputable def lpFIC : Code := .loop lpFI
def frI (m : Nat) (s : ByteArray) (out : Value) (at0 i n u k : Int) : Fr := frOf 57 [(0, slB 0 m m), (1, .string s), (5, out), (6, .int .i64 at0), (7, .int .i64 i), (8, .int .i64 n), (9, .int .i64 u), (10, .int .i64 k)]
def frO (m : Nat) (s : ByteArray) (out : Value) (at0 i : Int) : Fr := frOf 57 [(0, slB 0 m m), (1, .string s), (5, out), (6, .int .i64 at0), (7, .int .i64 i)]
def kI : List Nat := [0, 1, 5, 6, 7, 8, 9, 10]
def kO : List Nat := [0, 1, 5, 6, 7]
section
variable (m i : Nat) (s : ByteArray) (at0 n u k w : Int) (cs : List Value) (hcs : List.length cs = m) (hv0 : isInt .i64 (List.getD cs (0 + Int.toNat (↑i : Int) * 1) undef) = true) (hv : Value.int .i64 (intOf (List.getD cs (0 + Int.toNat (↑i : Int) * 1) undef)) = .int .i64 w) (hw : -4 ≤ w ∧ w ≤ 4) (hi : i < m ∧ m ≤ 5) (hk : 0 ≤ k ∧ (k < w ∨ k < -w)) (hs : ByteArray.size s ≤ 140737488351232) (ha : 0 ≤ at0 ∧ at0 < (↑(ByteArray.size s) : Int)) (hn : 0 ≤ n ∧ n ≤ 4294967296 ∧ 0 ≤ u ∧ u ≤ 16777216) (hub : 0 ≤ u * (↑(UInt8.toNat (List.getD (Array.toList (ByteArray.data s)) (Int.toNat at0) 0)) : Int) ∧ u * (↑(UInt8.toNat (List.getD (Array.toList (ByteArray.data s)) (Int.toNat at0) 0)) : Int) ≤ 4294967296)
include m i s at0 n u k w cs hcs hv0 hv hw hi hk hs ha hn hub
theorem i0_ok_pt : go (body (Try.prog) (8) (1) (8) (fun x => kI) (lpFI) (frI m s slN at0 (↑i : Int) n u k) ([.own 3 cs])) [(3, Itm.must), (1, Itm.must), (0, Itm.must), (0, Itm.val (.int .i64 w)), (7, .dec true), (1, Itm.val (.int .i64 (0 - w))), (7, .dec true), (4, Itm.must), (7, Itm.val (.int .i64 (u * 256))), (3, Itm.val (.int .i64 (at0 + 1))), (3, Itm.val (.int .i64 (k + 1)))] = some (Out.mk Xt.normal (frOf 57 [(0, (zSB 0 m m)), (1, .string s), (5, zSN), (6, .int .i64 (at0 + 1)), (7, .int .i64 (↑i : Int)), (8, .int .i64 (IntKind.wrap .i64 (n + IntKind.wrap .i64 (u * IntKind.wrap .i64 (↑(UInt8.toNat (List.getD (Array.toList (ByteArray.data s)) (Int.toNat at0) 0)) : Int))))), (9, .int .i64 (u * 256)), (10, .int .i64 (k + 1))]) [.own 3 cs] [], true, [inside (↑i : Int) m = true, decide (0 + Int.toNat (↑i : Int) * 1 < List.length cs) = true, isInt .i64 (List.getD cs (0 + Int.toNat (↑i : Int) * 1) undef) = true, type_of% hv, decide (w < 0) = true, Value.int .i64 (IntKind.wrap .i64 (0 - w)) = .int .i64 (0 - w), decide (k < 0 - w) = true, inside at0 (ByteArray.size s) = true, Value.int .i64 (IntKind.wrap .i64 (u * 256)) = .int .i64 (u * 256), Value.int .i64 (IntKind.wrap .i64 (at0 + 1)) = .int .i64 (at0 + 1), Value.int .i64 (IntKind.wrap .i64 (k + 1)) = .int .i64 (k + 1)]) := by kernel_rfl
theorem i0_ok_pf : go (body (Try.prog) (8) (1) (8) (fun x => kI) (lpFI) (frI m s slN at0 (↑i : Int) n u k) ([.own 3 cs])) [(3, Itm.must), (1, Itm.must), (0, Itm.must), (0, Itm.val (.int .i64 w)), (7, .dec false), (8, .dec true), (4, Itm.must), (7, Itm.val (.int .i64 (u * 256))), (3, Itm.val (.int .i64 (at0 + 1))), (3, Itm.val (.int .i64 (k + 1)))] = some (Out.mk Xt.normal (frOf 57 [(0, (zSB 0 m m)), (1, .string s), (5, zSN), (6, .int .i64 (at0 + 1)), (7, .int .i64 (↑i : Int)), (8, .int .i64 (IntKind.wrap .i64 (n + IntKind.wrap .i64 (u * IntKind.wrap .i64 (↑(UInt8.toNat (List.getD (Array.toList (ByteArray.data s)) (Int.toNat at0) 0)) : Int))))), (9, .int .i64 (u * 256)), (10, .int .i64 (k + 1))]) [.own 3 cs] [], true, [inside (↑i : Int) m = true, decide (0 + Int.toNat (↑i : Int) * 1 < List.length cs) = true, isInt .i64 (List.getD cs (0 + Int.toNat (↑i : Int) * 1) undef) = true, type_of% hv, decide (w < 0) = false, decide (k < w) = true, inside at0 (ByteArray.size s) = true, Value.int .i64 (IntKind.wrap .i64 (u * 256)) = .int .i64 (u * 256), Value.int .i64 (IntKind.wrap .i64 (at0 + 1)) = .int .i64 (at0 + 1), Value.int .i64 (IntKind.wrap .i64 (k + 1)) = .int .i64 (k + 1)]) := by kernel_rfl
theorem i0_ok (R : Out) (k_pt : (h0 : w < 0) → Out.le (Out.mk Xt.normal (frOf 57 [(0, (zSB 0 m m)), (1, .string s), (5, zSN), (6, .int .i64 (at0 + 1)), (7, .int .i64 (↑i : Int)), (8, .int .i64 (IntKind.wrap .i64 (n + IntKind.wrap .i64 (u * IntKind.wrap .i64 (↑(UInt8.toNat (List.getD (Array.toList (ByteArray.data s)) (Int.toNat at0) 0)) : Int))))), (9, .int .i64 (u * 256)), (10, .int .i64 (k + 1))]) [.own 3 cs] []) R) (k_pf : (h0 : ¬ (w < 0)) → Out.le (Out.mk Xt.normal (frOf 57 [(0, (zSB 0 m m)), (1, .string s), (5, zSN), (6, .int .i64 (at0 + 1)), (7, .int .i64 (↑i : Int)), (8, .int .i64 (IntKind.wrap .i64 (n + IntKind.wrap .i64 (u * IntKind.wrap .i64 (↑(UInt8.toNat (List.getD (Array.toList (ByteArray.data s)) (Int.toNat at0) 0)) : Int))))), (9, .int .i64 (u * 256)), (10, .int .i64 (k + 1))]) [.own 3 cs] []) R) : CodeSpec (Try.prog) (1) (lpFI) (frI m s slN at0 (↑i : Int) n u k) ([.own 3 cs]) R := by
  by_cases h0 : w < 0
  · exact (CodeSpec.id (go_ok (body_ok tnamed tcalm tmixed _ _ _ _ _ _ lpFI_calm) (i0_ok_pt m i s at0 n u k w cs hcs hv0 hv hw hi hk hs ha hn hub ) (aC (inside_of (by omega)) (aC dO (aC ((by omega)) (aC (hv) (aC (dTq h0) (aC (congrArg (Value.int _) (Go.IntWalk.i64_in _ (by omega))) (aC dO (aC (inside_of (by omega)) (aC (congrArg (Value.int _) (Go.IntWalk.i64_in _ (by omega))) (aC (congrArg (Value.int _) (Go.IntWalk.i64_in _ (by omega))) (aC (congrArg (Value.int _) (Go.IntWalk.i64_in _ (by omega))) aN))))))))))))).le (k_pt h0)
  · exact (CodeSpec.id (go_ok (body_ok tnamed tcalm tmixed _ _ _ _ _ _ lpFI_calm) (i0_ok_pf m i s at0 n u k w cs hcs hv0 hv hw hi hk hs ha hn hub ) (aC (inside_of (by omega)) (aC dO (aC ((by omega)) (aC (hv) (aC (dFq h0) (aC dO (aC (inside_of (by omega)) (aC (congrArg (Value.int _) (Go.IntWalk.i64_in _ (by omega))) (aC (congrArg (Value.int _) (Go.IntWalk.i64_in _ (by omega))) (aC (congrArg (Value.int _) (Go.IntWalk.i64_in _ (by omega))) aN)))))))))))).le (k_pf h0)
end
section
variable (m i : Nat) (s : ByteArray) (at0 n u k w : Int) (cs : List Value) (hcs : List.length cs = m) (hv0 : isInt .i64 (List.getD cs (0 + Int.toNat (↑i : Int) * 1) undef) = true) (hv : Value.int .i64 (intOf (List.getD cs (0 + Int.toNat (↑i : Int) * 1) undef)) = .int .i64 w) (hw : -4 ≤ w ∧ w ≤ 4) (hi : i < m ∧ m ≤ 5) (hk : w ≤ k ∧ -w ≤ k)
include m i s at0 n u k w cs hcs hv0 hv hw hi hk
theorem i0_end_pt : go (body (Try.prog) (8) (1) (8) (fun x => kI) (lpFI) (frI m s slN at0 (↑i : Int) n u k) ([.own 3 cs])) [(3, Itm.must), (1, Itm.must), (0, Itm.must), (0, Itm.val (.int .i64 w)), (7, .dec true), (1, Itm.val (.int .i64 (0 - w))), (7, .dec false)] = some (Out.mk (Xt.exit 2) (frOf 57 [(0, (zSB 0 m m)), (1, .string s), (5, zSN), (6, .int .i64 at0), (7, .int .i64 (↑i : Int)), (8, .int .i64 n), (9, .int .i64 u), (10, .int .i64 k)]) [.own 3 cs] [], true, [inside (↑i : Int) m = true, decide (0 + Int.toNat (↑i : Int) * 1 < List.length cs) = true, isInt .i64 (List.getD cs (0 + Int.toNat (↑i : Int) * 1) undef) = true, type_of% hv, decide (w < 0) = true, Value.int .i64 (IntKind.wrap .i64 (0 - w)) = .int .i64 (0 - w), decide (k < 0 - w) = false]) := by kernel_rfl
theorem i0_end_pf : go (body (Try.prog) (8) (1) (8) (fun x => kI) (lpFI) (frI m s slN at0 (↑i : Int) n u k) ([.own 3 cs])) [(3, Itm.must), (1, Itm.must), (0, Itm.must), (0, Itm.val (.int .i64 w)), (7, .dec false), (8, .dec false)] = some (Out.mk (Xt.exit 2) (frOf 57 [(0, (zSB 0 m m)), (1, .string s), (5, zSN), (6, .int .i64 at0), (7, .int .i64 (↑i : Int)), (8, .int .i64 n), (9, .int .i64 u), (10, .int .i64 k)]) [.own 3 cs] [], true, [inside (↑i : Int) m = true, decide (0 + Int.toNat (↑i : Int) * 1 < List.length cs) = true, isInt .i64 (List.getD cs (0 + Int.toNat (↑i : Int) * 1) undef) = true, type_of% hv, decide (w < 0) = false, decide (k < w) = false]) := by kernel_rfl
theorem i0_end (R : Out) (k_pt : (h0 : w < 0) → Out.le (Out.mk (Xt.exit 2) (frOf 57 [(0, (zSB 0 m m)), (1, .string s), (5, zSN), (6, .int .i64 at0), (7, .int .i64 (↑i : Int)), (8, .int .i64 n), (9, .int .i64 u), (10, .int .i64 k)]) [.own 3 cs] []) R) (k_pf : (h0 : ¬ (w < 0)) → Out.le (Out.mk (Xt.exit 2) (frOf 57 [(0, (zSB 0 m m)), (1, .string s), (5, zSN), (6, .int .i64 at0), (7, .int .i64 (↑i : Int)), (8, .int .i64 n), (9, .int .i64 u), (10, .int .i64 k)]) [.own 3 cs] []) R) : CodeSpec (Try.prog) (1) (lpFI) (frI m s slN at0 (↑i : Int) n u k) ([.own 3 cs]) R := by
  by_cases h0 : w < 0
  · exact (CodeSpec.id (go_ok (body_ok tnamed tcalm tmixed _ _ _ _ _ _ lpFI_calm) (i0_end_pt m i s at0 n u k w cs hcs hv0 hv hw hi hk ) (aC (inside_of (by omega)) (aC dO (aC ((by omega)) (aC (hv) (aC (dTq h0) (aC (congrArg (Value.int _) (Go.IntWalk.i64_in _ (by omega))) (aC dN aN))))))))).le (k_pt h0)
  · exact (CodeSpec.id (go_ok (body_ok tnamed tcalm tmixed _ _ _ _ _ _ lpFI_calm) (i0_end_pf m i s at0 n u k w cs hcs hv0 hv hw hi hk ) (aC (inside_of (by omega)) (aC dO (aC ((by omega)) (aC (hv) (aC (dFq h0) (aC dN aN)))))))).le (k_pf h0)
end
section
variable (m i : Nat) (s : ByteArray) (at0 a n u k w : Int) (cs : List Value) (hcs : List.length cs = m) (hv0 : isInt .i64 (List.getD cs (0 + Int.toNat (↑i : Int) * 1) undef) = true) (hv : Value.int .i64 (intOf (List.getD cs (0 + Int.toNat (↑i : Int) * 1) undef)) = .int .i64 w) (hw : -4 ≤ w ∧ w ≤ 4) (hi : i < m ∧ m ≤ 5) (hn : 0 ≤ n ∧ n ≤ 4294967296 ∧ 0 ≤ u ∧ u ≤ 4294967296) (kL : CodeSpec Try.prog 1 lpFIC (frI m s slN at0 (↑i : Int) 0 1 0) [.own 3 cs] (Out.mk (Xt.exit 2) (frI m s slN a (↑i : Int) n u k) [.own 3 cs] []))
include m i s at0 a n u k w cs hcs hv0 hv hw hi hn kL
theorem o0_ok_ptt : go (body (Try.prog) (8) (1) (8) (fun x => kO) (lpFO) (frO m s slN at0 (↑i : Int)) ([.own 3 cs])) [(5, .dec true), (6, Itm.loop [0, 1, 5, 6, 7, 8, 9, 10] (Out.mk (Xt.exit 2) (frOf 57 [(0, (zSB 0 m m)), (1, .string s), (5, zSN), (6, .int .i64 a), (7, .int .i64 (↑i : Int)), (8, .int .i64 n), (9, .int .i64 u), (10, .int .i64 k)]) [.own 3 cs] [])), (2, Itm.must), (1, Itm.must), (0, Itm.must), (0, Itm.val (.int .i64 w)), (2, .dec true), (1, .dec true), (1, .dec true), (1, Itm.val (.int .i64 (u / 2))), (0, .dec true), (1, .dec true), (2, .dec true), (2, Itm.val (.int .i64 (n - u))), (17, Itm.val (.int .i64 ((↑i : Int) + 1)))] = some (Out.mk Xt.normal (frOf 57 [(0, (zSB 0 m m)), (1, .string s), (5, (zSB 1 1 1)), (6, .int .i64 a), (7, .int .i64 ((↑i : Int) + 1))]) [.own 3 cs, .own 3 [.int .i64 (n - u)]] [], true, [decide ((↑i : Int) < (↑m : Int)) = true, type_of% kL, inside (↑i : Int) m = true, decide (0 + Int.toNat (↑i : Int) * 1 < List.length cs) = true, isInt .i64 (List.getD cs (0 + Int.toNat (↑i : Int) * 1) undef) = true, type_of% hv, decide (w < 0) = true, decide (w < 0) = true, decide (w < 0) = true, Value.int .i64 (IntKind.wrap .i64 (Int.tdiv u 2)) = .int .i64 (u / 2), decide (w < 0) = true, decide (w < 0) = true, decide (n ≥ u / 2) = true, Value.int .i64 (IntKind.wrap .i64 (n - u)) = .int .i64 (n - u), Value.int .i64 (IntKind.wrap .i64 ((↑i : Int) + 1)) = .int .i64 ((↑i : Int) + 1)]) := by kernel_rfl
theorem o0_ok_ptf : go (body (Try.prog) (8) (1) (8) (fun x => kO) (lpFO) (frO m s slN at0 (↑i : Int)) ([.own 3 cs])) [(5, .dec true), (6, Itm.loop [0, 1, 5, 6, 7, 8, 9, 10] (Out.mk (Xt.exit 2) (frOf 57 [(0, (zSB 0 m m)), (1, .string s), (5, zSN), (6, .int .i64 a), (7, .int .i64 (↑i : Int)), (8, .int .i64 n), (9, .int .i64 u), (10, .int .i64 k)]) [.own 3 cs] [])), (2, Itm.must), (1, Itm.must), (0, Itm.must), (0, Itm.val (.int .i64 w)), (2, .dec true), (1, .dec true), (1, .dec true), (1, Itm.val (.int .i64 (u / 2))), (0, .dec true), (1, .dec true), (2, .dec false), (15, Itm.val (.int .i64 ((↑i : Int) + 1)))] = some (Out.mk Xt.normal (frOf 57 [(0, (zSB 0 m m)), (1, .string s), (5, (zSB 1 1 1)), (6, .int .i64 a), (7, .int .i64 ((↑i : Int) + 1))]) [.own 3 cs, .own 3 [.int .i64 n]] [], true, [decide ((↑i : Int) < (↑m : Int)) = true, type_of% kL, inside (↑i : Int) m = true, decide (0 + Int.toNat (↑i : Int) * 1 < List.length cs) = true, isInt .i64 (List.getD cs (0 + Int.toNat (↑i : Int) * 1) undef) = true, type_of% hv, decide (w < 0) = true, decide (w < 0) = true, decide (w < 0) = true, Value.int .i64 (IntKind.wrap .i64 (Int.tdiv u 2)) = .int .i64 (u / 2), decide (w < 0) = true, decide (w < 0) = true, decide (n ≥ u / 2) = false, Value.int .i64 (IntKind.wrap .i64 ((↑i : Int) + 1)) = .int .i64 ((↑i : Int) + 1)]) := by kernel_rfl
theorem o0_ok_pf : go (body (Try.prog) (8) (1) (8) (fun x => kO) (lpFO) (frO m s slN at0 (↑i : Int)) ([.own 3 cs])) [(5, .dec true), (6, Itm.loop [0, 1, 5, 6, 7, 8, 9, 10] (Out.mk (Xt.exit 2) (frOf 57 [(0, (zSB 0 m m)), (1, .string s), (5, zSN), (6, .int .i64 a), (7, .int .i64 (↑i : Int)), (8, .int .i64 n), (9, .int .i64 u), (10, .int .i64 k)]) [.own 3 cs] [])), (2, Itm.must), (1, Itm.must), (0, Itm.must), (0, Itm.val (.int .i64 w)), (2, .dec false), (0, .dec false), (0, .dec false), (0, .dec false), (0, .dec false), (18, Itm.val (.int .i64 ((↑i : Int) + 1)))] = some (Out.mk Xt.normal (frOf 57 [(0, (zSB 0 m m)), (1, .string s), (5, (zSB 1 1 1)), (6, .int .i64 a), (7, .int .i64 ((↑i : Int) + 1))]) [.own 3 cs, .own 3 [.int .i64 n]] [], true, [decide ((↑i : Int) < (↑m : Int)) = true, type_of% kL, inside (↑i : Int) m = true, decide (0 + Int.toNat (↑i : Int) * 1 < List.length cs) = true, isInt .i64 (List.getD cs (0 + Int.toNat (↑i : Int) * 1) undef) = true, type_of% hv, decide (w < 0) = false, decide (w < 0) = false, decide (w < 0) = false, decide (w < 0) = false, decide (w < 0) = false, Value.int .i64 (IntKind.wrap .i64 ((↑i : Int) + 1)) = .int .i64 ((↑i : Int) + 1)]) := by kernel_rfl
theorem o0_ok (R : Out) (k_ptt : (h0 : w < 0) → (h1 : n ≥ u / 2) → Out.le (Out.mk Xt.normal (frOf 57 [(0, (zSB 0 m m)), (1, .string s), (5, (zSB 1 1 1)), (6, .int .i64 a), (7, .int .i64 ((↑i : Int) + 1))]) [.own 3 cs, .own 3 [.int .i64 (n - u)]] []) R) (k_ptf : (h0 : w < 0) → (h1 : ¬ (n ≥ u / 2)) → Out.le (Out.mk Xt.normal (frOf 57 [(0, (zSB 0 m m)), (1, .string s), (5, (zSB 1 1 1)), (6, .int .i64 a), (7, .int .i64 ((↑i : Int) + 1))]) [.own 3 cs, .own 3 [.int .i64 n]] []) R) (k_pf : (h0 : ¬ (w < 0)) → Out.le (Out.mk Xt.normal (frOf 57 [(0, (zSB 0 m m)), (1, .string s), (5, (zSB 1 1 1)), (6, .int .i64 a), (7, .int .i64 ((↑i : Int) + 1))]) [.own 3 cs, .own 3 [.int .i64 n]] []) R) : CodeSpec (Try.prog) (1) (lpFO) (frO m s slN at0 (↑i : Int)) ([.own 3 cs]) R := by
  by_cases h0 : w < 0
  · by_cases h1 : n ≥ u / 2
    · exact (CodeSpec.id (go_ok (body_ok tnamed tcalm tmixed _ _ _ _ _ _ lpFO_calm) (o0_ok_ptt m i s at0 a n u k w cs hcs hv0 hv hw hi hn kL ) (aC dO (aC (kL) (aC (inside_of (by omega)) (aC dO (aC ((by omega)) (aC (hv) (aC (dTq h0) (aC (dTq h0) (aC (dTq h0) (aC (congrArg (Value.int _) (quo_in ⟨by omega, by simp [IntKind.max, IntKind.bits, IntKind.signed] <;> omega, by omega⟩)) (aC (dTq h0) (aC (dTq h0) (aC (dTq h1) (aC (congrArg (Value.int _) (Go.IntWalk.i64_in _ (by omega))) (aC (congrArg (Value.int _) (Go.IntWalk.i64_in _ (by omega))) aN))))))))))))))))).le (k_ptt h0 h1)
    · exact (CodeSpec.id (go_ok (body_ok tnamed tcalm tmixed _ _ _ _ _ _ lpFO_calm) (o0_ok_ptf m i s at0 a n u k w cs hcs hv0 hv hw hi hn kL ) (aC dO (aC (kL) (aC (inside_of (by omega)) (aC dO (aC ((by omega)) (aC (hv) (aC (dTq h0) (aC (dTq h0) (aC (dTq h0) (aC (congrArg (Value.int _) (quo_in ⟨by omega, by simp [IntKind.max, IntKind.bits, IntKind.signed] <;> omega, by omega⟩)) (aC (dTq h0) (aC (dTq h0) (aC (dFq h1) (aC (congrArg (Value.int _) (Go.IntWalk.i64_in _ (by omega))) aN)))))))))))))))).le (k_ptf h0 h1)
  · exact (CodeSpec.id (go_ok (body_ok tnamed tcalm tmixed _ _ _ _ _ _ lpFO_calm) (o0_ok_pf m i s at0 a n u k w cs hcs hv0 hv hw hi hn kL ) (aC dO (aC (kL) (aC (inside_of (by omega)) (aC dO (aC ((by omega)) (aC (hv) (aC (dFq h0) (aC (dFq h0) (aC (dFq h0) (aC (dFq h0) (aC (dFq h0) (aC (congrArg (Value.int _) (Go.IntWalk.i64_in _ (by omega))) aN)))))))))))))).le (k_pf h0)
end
section
variable (m i : Nat) (s : ByteArray) (at0 n u k w : Int) (cs : List Value) (hcs : List.length cs = m) (hv0 : isInt .i64 (List.getD cs (0 + Int.toNat (↑i : Int) * 1) undef) = true) (hv : Value.int .i64 (intOf (List.getD cs (0 + Int.toNat (↑i : Int) * 1) undef)) = .int .i64 w) (j : Nat) (vs : List Value) (hvs : List.length vs = j) (hj : 1 ≤ j ∧ j ≤ 5) (hw : -4 ≤ w ∧ w ≤ 4) (hi : i < m ∧ m ≤ 5) (hk : 0 ≤ k ∧ (k < w ∨ k < -w)) (hs : ByteArray.size s ≤ 140737488351232) (ha : 0 ≤ at0 ∧ at0 < (↑(ByteArray.size s) : Int)) (hn : 0 ≤ n ∧ n ≤ 4294967296 ∧ 0 ≤ u ∧ u ≤ 16777216) (hub : 0 ≤ u * (↑(UInt8.toNat (List.getD (Array.toList (ByteArray.data s)) (Int.toNat at0) 0)) : Int) ∧ u * (↑(UInt8.toNat (List.getD (Array.toList (ByteArray.data s)) (Int.toNat at0) 0)) : Int) ≤ 4294967296)
include m i s at0 n u k w cs hcs hv0 hv j vs hvs hj hw hi hk hs ha hn hub
theorem i1_ok_pt : go (body (Try.prog) (8) (1) (8) (fun x => kI) (lpFI) (frI m s (slB 1 j j) at0 (↑i : Int) n u k) ([.own 3 cs, .own 3 vs])) [(3, Itm.must), (1, Itm.must), (0, Itm.must), (0, Itm.val (.int .i64 w)), (7, .dec true), (1, Itm.val (.int .i64 (0 - w))), (7, .dec true), (4, Itm.must), (7, Itm.val (.int .i64 (u * 256))), (3, Itm.val (.int .i64 (at0 + 1))), (3, Itm.val (.int .i64 (k + 1)))] = some (Out.mk Xt.normal (frOf 57 [(0, (zSB 0 m m)), (1, .string s), (5, (zSB 1 j j)), (6, .int .i64 (at0 + 1)), (7, .int .i64 (↑i : Int)), (8, .int .i64 (IntKind.wrap .i64 (n + IntKind.wrap .i64 (u * IntKind.wrap .i64 (↑(UInt8.toNat (List.getD (Array.toList (ByteArray.data s)) (Int.toNat at0) 0)) : Int))))), (9, .int .i64 (u * 256)), (10, .int .i64 (k + 1))]) [.own 3 cs, .own 3 vs] [], true, [inside (↑i : Int) m = true, decide (0 + Int.toNat (↑i : Int) * 1 < List.length cs) = true, isInt .i64 (List.getD cs (0 + Int.toNat (↑i : Int) * 1) undef) = true, type_of% hv, decide (w < 0) = true, Value.int .i64 (IntKind.wrap .i64 (0 - w)) = .int .i64 (0 - w), decide (k < 0 - w) = true, inside at0 (ByteArray.size s) = true, Value.int .i64 (IntKind.wrap .i64 (u * 256)) = .int .i64 (u * 256), Value.int .i64 (IntKind.wrap .i64 (at0 + 1)) = .int .i64 (at0 + 1), Value.int .i64 (IntKind.wrap .i64 (k + 1)) = .int .i64 (k + 1)]) := by kernel_rfl
theorem i1_ok_pf : go (body (Try.prog) (8) (1) (8) (fun x => kI) (lpFI) (frI m s (slB 1 j j) at0 (↑i : Int) n u k) ([.own 3 cs, .own 3 vs])) [(3, Itm.must), (1, Itm.must), (0, Itm.must), (0, Itm.val (.int .i64 w)), (7, .dec false), (8, .dec true), (4, Itm.must), (7, Itm.val (.int .i64 (u * 256))), (3, Itm.val (.int .i64 (at0 + 1))), (3, Itm.val (.int .i64 (k + 1)))] = some (Out.mk Xt.normal (frOf 57 [(0, (zSB 0 m m)), (1, .string s), (5, (zSB 1 j j)), (6, .int .i64 (at0 + 1)), (7, .int .i64 (↑i : Int)), (8, .int .i64 (IntKind.wrap .i64 (n + IntKind.wrap .i64 (u * IntKind.wrap .i64 (↑(UInt8.toNat (List.getD (Array.toList (ByteArray.data s)) (Int.toNat at0) 0)) : Int))))), (9, .int .i64 (u * 256)), (10, .int .i64 (k + 1))]) [.own 3 cs, .own 3 vs] [], true, [inside (↑i : Int) m = true, decide (0 + Int.toNat (↑i : Int) * 1 < List.length cs) = true, isInt .i64 (List.getD cs (0 + Int.toNat (↑i : Int) * 1) undef) = true, type_of% hv, decide (w < 0) = false, decide (k < w) = true, inside at0 (ByteArray.size s) = true, Value.int .i64 (IntKind.wrap .i64 (u * 256)) = .int .i64 (u * 256), Value.int .i64 (IntKind.wrap .i64 (at0 + 1)) = .int .i64 (at0 + 1), Value.int .i64 (IntKind.wrap .i64 (k + 1)) = .int .i64 (k + 1)]) := by kernel_rfl
theorem i1_ok (R : Out) (k_pt : (h0 : w < 0) → Out.le (Out.mk Xt.normal (frOf 57 [(0, (zSB 0 m m)), (1, .string s), (5, (zSB 1 j j)), (6, .int .i64 (at0 + 1)), (7, .int .i64 (↑i : Int)), (8, .int .i64 (IntKind.wrap .i64 (n + IntKind.wrap .i64 (u * IntKind.wrap .i64 (↑(UInt8.toNat (List.getD (Array.toList (ByteArray.data s)) (Int.toNat at0) 0)) : Int))))), (9, .int .i64 (u * 256)), (10, .int .i64 (k + 1))]) [.own 3 cs, .own 3 vs] []) R) (k_pf : (h0 : ¬ (w < 0)) → Out.le (Out.mk Xt.normal (frOf 57 [(0, (zSB 0 m m)), (1, .string s), (5, (zSB 1 j j)), (6, .int .i64 (at0 + 1)), (7, .int .i64 (↑i : Int)), (8, .int .i64 (IntKind.wrap .i64 (n + IntKind.wrap .i64 (u * IntKind.wrap .i64 (↑(UInt8.toNat (List.getD (Array.toList (ByteArray.data s)) (Int.toNat at0) 0)) : Int))))), (9, .int .i64 (u * 256)), (10, .int .i64 (k + 1))]) [.own 3 cs, .own 3 vs] []) R) : CodeSpec (Try.prog) (1) (lpFI) (frI m s (slB 1 j j) at0 (↑i : Int) n u k) ([.own 3 cs, .own 3 vs]) R := by
  by_cases h0 : w < 0
  · exact (CodeSpec.id (go_ok (body_ok tnamed tcalm tmixed _ _ _ _ _ _ lpFI_calm) (i1_ok_pt m i s at0 n u k w cs hcs hv0 hv j vs hvs hj hw hi hk hs ha hn hub ) (aC (inside_of (by omega)) (aC dO (aC ((by omega)) (aC (hv) (aC (dTq h0) (aC (congrArg (Value.int _) (Go.IntWalk.i64_in _ (by omega))) (aC dO (aC (inside_of (by omega)) (aC (congrArg (Value.int _) (Go.IntWalk.i64_in _ (by omega))) (aC (congrArg (Value.int _) (Go.IntWalk.i64_in _ (by omega))) (aC (congrArg (Value.int _) (Go.IntWalk.i64_in _ (by omega))) aN))))))))))))).le (k_pt h0)
  · exact (CodeSpec.id (go_ok (body_ok tnamed tcalm tmixed _ _ _ _ _ _ lpFI_calm) (i1_ok_pf m i s at0 n u k w cs hcs hv0 hv j vs hvs hj hw hi hk hs ha hn hub ) (aC (inside_of (by omega)) (aC dO (aC ((by omega)) (aC (hv) (aC (dFq h0) (aC dO (aC (inside_of (by omega)) (aC (congrArg (Value.int _) (Go.IntWalk.i64_in _ (by omega))) (aC (congrArg (Value.int _) (Go.IntWalk.i64_in _ (by omega))) (aC (congrArg (Value.int _) (Go.IntWalk.i64_in _ (by omega))) aN)))))))))))).le (k_pf h0)
end
section
variable (m i : Nat) (s : ByteArray) (at0 n u k w : Int) (cs : List Value) (hcs : List.length cs = m) (hv0 : isInt .i64 (List.getD cs (0 + Int.toNat (↑i : Int) * 1) undef) = true) (hv : Value.int .i64 (intOf (List.getD cs (0 + Int.toNat (↑i : Int) * 1) undef)) = .int .i64 w) (j : Nat) (vs : List Value) (hvs : List.length vs = j) (hj : 1 ≤ j ∧ j ≤ 5) (hw : -4 ≤ w ∧ w ≤ 4) (hi : i < m ∧ m ≤ 5) (hk : w ≤ k ∧ -w ≤ k)
include m i s at0 n u k w cs hcs hv0 hv j vs hvs hj hw hi hk
theorem i1_end_pt : go (body (Try.prog) (8) (1) (8) (fun x => kI) (lpFI) (frI m s (slB 1 j j) at0 (↑i : Int) n u k) ([.own 3 cs, .own 3 vs])) [(3, Itm.must), (1, Itm.must), (0, Itm.must), (0, Itm.val (.int .i64 w)), (7, .dec true), (1, Itm.val (.int .i64 (0 - w))), (7, .dec false)] = some (Out.mk (Xt.exit 2) (frOf 57 [(0, (zSB 0 m m)), (1, .string s), (5, (zSB 1 j j)), (6, .int .i64 at0), (7, .int .i64 (↑i : Int)), (8, .int .i64 n), (9, .int .i64 u), (10, .int .i64 k)]) [.own 3 cs, .own 3 vs] [], true, [inside (↑i : Int) m = true, decide (0 + Int.toNat (↑i : Int) * 1 < List.length cs) = true, isInt .i64 (List.getD cs (0 + Int.toNat (↑i : Int) * 1) undef) = true, type_of% hv, decide (w < 0) = true, Value.int .i64 (IntKind.wrap .i64 (0 - w)) = .int .i64 (0 - w), decide (k < 0 - w) = false]) := by kernel_rfl
theorem i1_end_pf : go (body (Try.prog) (8) (1) (8) (fun x => kI) (lpFI) (frI m s (slB 1 j j) at0 (↑i : Int) n u k) ([.own 3 cs, .own 3 vs])) [(3, Itm.must), (1, Itm.must), (0, Itm.must), (0, Itm.val (.int .i64 w)), (7, .dec false), (8, .dec false)] = some (Out.mk (Xt.exit 2) (frOf 57 [(0, (zSB 0 m m)), (1, .string s), (5, (zSB 1 j j)), (6, .int .i64 at0), (7, .int .i64 (↑i : Int)), (8, .int .i64 n), (9, .int .i64 u), (10, .int .i64 k)]) [.own 3 cs, .own 3 vs] [], true, [inside (↑i : Int) m = true, decide (0 + Int.toNat (↑i : Int) * 1 < List.length cs) = true, isInt .i64 (List.getD cs (0 + Int.toNat (↑i : Int) * 1) undef) = true, type_of% hv, decide (w < 0) = false, decide (k < w) = false]) := by kernel_rfl
theorem i1_end (R : Out) (k_pt : (h0 : w < 0) → Out.le (Out.mk (Xt.exit 2) (frOf 57 [(0, (zSB 0 m m)), (1, .string s), (5, (zSB 1 j j)), (6, .int .i64 at0), (7, .int .i64 (↑i : Int)), (8, .int .i64 n), (9, .int .i64 u), (10, .int .i64 k)]) [.own 3 cs, .own 3 vs] []) R) (k_pf : (h0 : ¬ (w < 0)) → Out.le (Out.mk (Xt.exit 2) (frOf 57 [(0, (zSB 0 m m)), (1, .string s), (5, (zSB 1 j j)), (6, .int .i64 at0), (7, .int .i64 (↑i : Int)), (8, .int .i64 n), (9, .int .i64 u), (10, .int .i64 k)]) [.own 3 cs, .own 3 vs] []) R) : CodeSpec (Try.prog) (1) (lpFI) (frI m s (slB 1 j j) at0 (↑i : Int) n u k) ([.own 3 cs, .own 3 vs]) R := by
  by_cases h0 : w < 0
  · exact (CodeSpec.id (go_ok (body_ok tnamed tcalm tmixed _ _ _ _ _ _ lpFI_calm) (i1_end_pt m i s at0 n u k w cs hcs hv0 hv j vs hvs hj hw hi hk ) (aC (inside_of (by omega)) (aC dO (aC ((by omega)) (aC (hv) (aC (dTq h0) (aC (congrArg (Value.int _) (Go.IntWalk.i64_in _ (by omega))) (aC dN aN))))))))).le (k_pt h0)
  · exact (CodeSpec.id (go_ok (body_ok tnamed tcalm tmixed _ _ _ _ _ _ lpFI_calm) (i1_end_pf m i s at0 n u k w cs hcs hv0 hv j vs hvs hj hw hi hk ) (aC (inside_of (by omega)) (aC dO (aC ((by omega)) (aC (hv) (aC (dFq h0) (aC dN aN)))))))).le (k_pf h0)
end
section
variable (m i : Nat) (s : ByteArray) (at0 a n u k w : Int) (cs : List Value) (hcs : List.length cs = m) (hv0 : isInt .i64 (List.getD cs (0 + Int.toNat (↑i : Int) * 1) undef) = true) (hv : Value.int .i64 (intOf (List.getD cs (0 + Int.toNat (↑i : Int) * 1) undef)) = .int .i64 w) (j : Nat) (vs : List Value) (hvs : List.length vs = j) (hj : 1 ≤ j ∧ j ≤ 5) (hw : -4 ≤ w ∧ w ≤ 4) (hi : i < m ∧ m ≤ 5) (hn : 0 ≤ n ∧ n ≤ 4294967296 ∧ 0 ≤ u ∧ u ≤ 4294967296) (kL : CodeSpec Try.prog 1 lpFIC (frI m s (slB 1 j j) at0 (↑i : Int) 0 1 0) [.own 3 cs, .own 3 vs] (Out.mk (Xt.exit 2) (frI m s (slB 1 j j) a (↑i : Int) n u k) [.own 3 cs, .own 3 vs] []))
include m i s at0 a n u k w cs hcs hv0 hv j vs hvs hj hw hi hn kL
theorem o1_ok_ptt : go (body (Try.prog) (8) (1) (8) (fun x => kO) (lpFO) (frO m s (slB 1 j j) at0 (↑i : Int)) ([.own 3 cs, .own 3 vs])) [(5, .dec true), (6, Itm.loop [0, 1, 5, 6, 7, 8, 9, 10] (Out.mk (Xt.exit 2) (frOf 57 [(0, (zSB 0 m m)), (1, .string s), (5, (zSB 1 j j)), (6, .int .i64 a), (7, .int .i64 (↑i : Int)), (8, .int .i64 n), (9, .int .i64 u), (10, .int .i64 k)]) [.own 3 cs, .own 3 vs] [])), (2, Itm.must), (1, Itm.must), (0, Itm.must), (0, Itm.val (.int .i64 w)), (2, .dec true), (1, .dec true), (1, .dec true), (1, Itm.val (.int .i64 (u / 2))), (0, .dec true), (1, .dec true), (2, .dec true), (2, Itm.val (.int .i64 (n - u))), (11, Itm.must), (0, .dec false), (0, Itm.must), (4, Itm.val (.int .i64 ((↑i : Int) + 1)))] = some (Out.mk Xt.normal (frOf 57 [(0, (zSB 0 m m)), (1, .string s), (5, (zSB 1 (j + 1) (j + 1))), (6, .int .i64 a), (7, .int .i64 ((↑i : Int) + 1))]) [.own 3 cs, .own 3 (vs ++ [.int .i64 (n - u)])] [], true, [decide ((↑i : Int) < (↑m : Int)) = true, type_of% kL, inside (↑i : Int) m = true, decide (0 + Int.toNat (↑i : Int) * 1 < List.length cs) = true, isInt .i64 (List.getD cs (0 + Int.toNat (↑i : Int) * 1) undef) = true, type_of% hv, decide (w < 0) = true, decide (w < 0) = true, decide (w < 0) = true, Value.int .i64 (IntKind.wrap .i64 (Int.tdiv u 2)) = .int .i64 (u / 2), decide (w < 0) = true, decide (w < 0) = true, decide (n ≥ u / 2) = true, Value.int .i64 (IntKind.wrap .i64 (n - u)) = .int .i64 (n - u), (true && decide ((j + 1) * 8 ≤ 140737488355328) && decide (j + 1 ≤ 140737488355328) && decide (j * 1 ≤ List.length vs)) = true, decide (j + 1 ≤ j) = false, decide (List.length vs = j * 1) = true, Value.int .i64 (IntKind.wrap .i64 ((↑i : Int) + 1)) = .int .i64 ((↑i : Int) + 1)]) := by kernel_rfl
theorem o1_ok_ptf : go (body (Try.prog) (8) (1) (8) (fun x => kO) (lpFO) (frO m s (slB 1 j j) at0 (↑i : Int)) ([.own 3 cs, .own 3 vs])) [(5, .dec true), (6, Itm.loop [0, 1, 5, 6, 7, 8, 9, 10] (Out.mk (Xt.exit 2) (frOf 57 [(0, (zSB 0 m m)), (1, .string s), (5, (zSB 1 j j)), (6, .int .i64 a), (7, .int .i64 (↑i : Int)), (8, .int .i64 n), (9, .int .i64 u), (10, .int .i64 k)]) [.own 3 cs, .own 3 vs] [])), (2, Itm.must), (1, Itm.must), (0, Itm.must), (0, Itm.val (.int .i64 w)), (2, .dec true), (1, .dec true), (1, .dec true), (1, Itm.val (.int .i64 (u / 2))), (0, .dec true), (1, .dec true), (2, .dec false), (9, Itm.must), (0, .dec false), (0, Itm.must), (4, Itm.val (.int .i64 ((↑i : Int) + 1)))] = some (Out.mk Xt.normal (frOf 57 [(0, (zSB 0 m m)), (1, .string s), (5, (zSB 1 (j + 1) (j + 1))), (6, .int .i64 a), (7, .int .i64 ((↑i : Int) + 1))]) [.own 3 cs, .own 3 (vs ++ [.int .i64 n])] [], true, [decide ((↑i : Int) < (↑m : Int)) = true, type_of% kL, inside (↑i : Int) m = true, decide (0 + Int.toNat (↑i : Int) * 1 < List.length cs) = true, isInt .i64 (List.getD cs (0 + Int.toNat (↑i : Int) * 1) undef) = true, type_of% hv, decide (w < 0) = true, decide (w < 0) = true, decide (w < 0) = true, Value.int .i64 (IntKind.wrap .i64 (Int.tdiv u 2)) = .int .i64 (u / 2), decide (w < 0) = true, decide (w < 0) = true, decide (n ≥ u / 2) = false, (true && decide ((j + 1) * 8 ≤ 140737488355328) && decide (j + 1 ≤ 140737488355328) && decide (j * 1 ≤ List.length vs)) = true, decide (j + 1 ≤ j) = false, decide (List.length vs = j * 1) = true, Value.int .i64 (IntKind.wrap .i64 ((↑i : Int) + 1)) = .int .i64 ((↑i : Int) + 1)]) := by kernel_rfl
theorem o1_ok_pf : go (body (Try.prog) (8) (1) (8) (fun x => kO) (lpFO) (frO m s (slB 1 j j) at0 (↑i : Int)) ([.own 3 cs, .own 3 vs])) [(5, .dec true), (6, Itm.loop [0, 1, 5, 6, 7, 8, 9, 10] (Out.mk (Xt.exit 2) (frOf 57 [(0, (zSB 0 m m)), (1, .string s), (5, (zSB 1 j j)), (6, .int .i64 a), (7, .int .i64 (↑i : Int)), (8, .int .i64 n), (9, .int .i64 u), (10, .int .i64 k)]) [.own 3 cs, .own 3 vs] [])), (2, Itm.must), (1, Itm.must), (0, Itm.must), (0, Itm.val (.int .i64 w)), (2, .dec false), (0, .dec false), (0, .dec false), (0, .dec false), (0, .dec false), (12, Itm.must), (0, .dec false), (0, Itm.must), (4, Itm.val (.int .i64 ((↑i : Int) + 1)))] = some (Out.mk Xt.normal (frOf 57 [(0, (zSB 0 m m)), (1, .string s), (5, (zSB 1 (j + 1) (j + 1))), (6, .int .i64 a), (7, .int .i64 ((↑i : Int) + 1))]) [.own 3 cs, .own 3 (vs ++ [.int .i64 n])] [], true, [decide ((↑i : Int) < (↑m : Int)) = true, type_of% kL, inside (↑i : Int) m = true, decide (0 + Int.toNat (↑i : Int) * 1 < List.length cs) = true, isInt .i64 (List.getD cs (0 + Int.toNat (↑i : Int) * 1) undef) = true, type_of% hv, decide (w < 0) = false, decide (w < 0) = false, decide (w < 0) = false, decide (w < 0) = false, decide (w < 0) = false, (true && decide ((j + 1) * 8 ≤ 140737488355328) && decide (j + 1 ≤ 140737488355328) && decide (j * 1 ≤ List.length vs)) = true, decide (j + 1 ≤ j) = false, decide (List.length vs = j * 1) = true, Value.int .i64 (IntKind.wrap .i64 ((↑i : Int) + 1)) = .int .i64 ((↑i : Int) + 1)]) := by kernel_rfl
theorem o1_ok (R : Out) (k_ptt : (h0 : w < 0) → (h1 : n ≥ u / 2) → Out.le (Out.mk Xt.normal (frOf 57 [(0, (zSB 0 m m)), (1, .string s), (5, (zSB 1 (j + 1) (j + 1))), (6, .int .i64 a), (7, .int .i64 ((↑i : Int) + 1))]) [.own 3 cs, .own 3 (vs ++ [.int .i64 (n - u)])] []) R) (k_ptf : (h0 : w < 0) → (h1 : ¬ (n ≥ u / 2)) → Out.le (Out.mk Xt.normal (frOf 57 [(0, (zSB 0 m m)), (1, .string s), (5, (zSB 1 (j + 1) (j + 1))), (6, .int .i64 a), (7, .int .i64 ((↑i : Int) + 1))]) [.own 3 cs, .own 3 (vs ++ [.int .i64 n])] []) R) (k_pf : (h0 : ¬ (w < 0)) → Out.le (Out.mk Xt.normal (frOf 57 [(0, (zSB 0 m m)), (1, .string s), (5, (zSB 1 (j + 1) (j + 1))), (6, .int .i64 a), (7, .int .i64 ((↑i : Int) + 1))]) [.own 3 cs, .own 3 (vs ++ [.int .i64 n])] []) R) : CodeSpec (Try.prog) (1) (lpFO) (frO m s (slB 1 j j) at0 (↑i : Int)) ([.own 3 cs, .own 3 vs]) R := by
  by_cases h0 : w < 0
  · by_cases h1 : n ≥ u / 2
    · exact (CodeSpec.id (go_ok (body_ok tnamed tcalm tmixed _ _ _ _ _ _ lpFO_calm) (o1_ok_ptt m i s at0 a n u k w cs hcs hv0 hv j vs hvs hj hw hi hn kL ) (aC dO (aC (kL) (aC (inside_of (by omega)) (aC dO (aC ((by omega)) (aC (hv) (aC (dTq h0) (aC (dTq h0) (aC (dTq h0) (aC (congrArg (Value.int _) (quo_in ⟨by omega, by simp [IntKind.max, IntKind.bits, IntKind.signed] <;> omega, by omega⟩)) (aC (dTq h0) (aC (dTq h0) (aC (dTq h1) (aC (congrArg (Value.int _) (Go.IntWalk.i64_in _ (by omega))) (aC ((by simp [ByteArray.size_append, ByteArray.size_extract, sz_mk] <;> omega)) (aC dN (aC dO (aC (congrArg (Value.int _) (Go.IntWalk.i64_in _ (by omega))) aN)))))))))))))))))))).le (k_ptt h0 h1)
    · exact (CodeSpec.id (go_ok (body_ok tnamed tcalm tmixed _ _ _ _ _ _ lpFO_calm) (o1_ok_ptf m i s at0 a n u k w cs hcs hv0 hv j vs hvs hj hw hi hn kL ) (aC dO (aC (kL) (aC (inside_of (by omega)) (aC dO (aC ((by omega)) (aC (hv) (aC (dTq h0) (aC (dTq h0) (aC (dTq h0) (aC (congrArg (Value.int _) (quo_in ⟨by omega, by simp [IntKind.max, IntKind.bits, IntKind.signed] <;> omega, by omega⟩)) (aC (dTq h0) (aC (dTq h0) (aC (dFq h1) (aC ((by simp [ByteArray.size_append, ByteArray.size_extract, sz_mk] <;> omega)) (aC dN (aC dO (aC (congrArg (Value.int _) (Go.IntWalk.i64_in _ (by omega))) aN))))))))))))))))))).le (k_ptf h0 h1)
  · exact (CodeSpec.id (go_ok (body_ok tnamed tcalm tmixed _ _ _ _ _ _ lpFO_calm) (o1_ok_pf m i s at0 a n u k w cs hcs hv0 hv j vs hvs hj hw hi hn kL ) (aC dO (aC (kL) (aC (inside_of (by omega)) (aC dO (aC ((by omega)) (aC (hv) (aC (dFq h0) (aC (dFq h0) (aC (dFq h0) (aC (dFq h0) (aC (dFq h0) (aC ((by simp [ByteArray.size_append, ByteArray.size_extract, sz_mk] <;> omega)) (aC dN (aC dO (aC (congrArg (Value.int _) (Go.IntWalk.i64_in _ (by omega))) aN))))))))))))))))).le (k_pf h0)
end
section
variable (m : Nat) (s : ByteArray) (at0 : Int) (cs : List Value) (hcs : List.length cs = m) (j : Nat) (vs : List Value) (hvs : List.length vs = j) (hj : 1 ≤ j ∧ j ≤ 5)
include m s at0 cs hcs j vs hvs hj
theorem o1_end_p : go (body (Try.prog) (8) (1) (8) (fun x => kO) (lpFO) (frO m s (slB 1 j j) at0 (↑m : Int)) ([.own 3 cs, .own 3 vs])) [(5, .dec false)] = some (Out.mk (Xt.exit 0) (frOf 57 [(0, (zSB 0 m m)), (1, .string s), (5, (zSB 1 j j)), (6, .int .i64 at0), (7, .int .i64 (↑m : Int))]) [.own 3 cs, .own 3 vs] [], true, [decide ((↑m : Int) < (↑m : Int)) = false]) := by kernel_rfl
theorem o1_end (R : Out) (k_p : Out.le (Out.mk (Xt.exit 0) (frOf 57 [(0, (zSB 0 m m)), (1, .string s), (5, (zSB 1 j j)), (6, .int .i64 at0), (7, .int .i64 (↑m : Int))]) [.own 3 cs, .own 3 vs] []) R) : CodeSpec (Try.prog) (1) (lpFO) (frO m s (slB 1 j j) at0 (↑m : Int)) ([.own 3 cs, .own 3 vs]) R := by
  exact (CodeSpec.id (go_ok (body_ok tnamed tcalm tmixed _ _ _ _ _ _ lpFO_calm) (o1_end_p m s at0 cs hcs j vs hvs hj ) (aC dN aN))).le (k_p )
end
end Go.Proofs.Ytbolppjlaipfjaa.Ex
end
section
set_option linter.unusedSectionVars false
set_option linter.unusedSimpArgs false
set_option linter.unusedVariables false
namespace Go.Proofs.Ytbolppjlaipfjaa.Ex
open Go
set_option linter.unusedVariables false
def okR (r : Int) : Prop := -4 ≤ r ∧ r ≤ 4
def rfV (r : Int) (s : ByteArray) (a : Nat) : Int := if r < 0 ∧ 256 ^ r.natAbs ≤ 2 * leN s a r.natAbs then (leN s a r.natAbs : Int) - 256 ^ r.natAbs else leN s a r.natAbs
def rfL : List Int → ByteArray → Nat → List Int
  | [], _, _ => []
  | r :: rs, s, a => rfV r s a :: rfL rs s (a + r.natAbs)
def sumR : List Int → Nat
  | [] => 0
  | r :: rs => r.natAbs + sumR rs
theorem rfL_len : ∀ (ws : List Int) (s : ByteArray) (k : Nat), (rfL ws s k).length = ws.length
  | [], _, _ => rfl
  | w :: ws, s, k => by rw [rfL, List.length_cons, List.length_cons, rfL_len ws]
theorem le_mul (s : ByteArray) (a j : Nat) (hj : j ≤ 3) : IntKind.wrap .i64 ((leN s a j : Nat) + IntKind.wrap .i64 ((256 ^ j : Nat) * IntKind.wrap .i64 ((bt s (a + j) : Nat) : Int))) = ((leN s a (j + 1) : Nat) : Int) ∧
    0 ≤ ((256 ^ j : Nat) : Int) * ((bt s (a + j) : Nat) : Int) ∧ ((256 ^ j : Nat) : Int) * ((bt s (a + j) : Nat) : Int) ≤ 4294967296 ∧ (leN s a j : Int) ≤ 4294967296 ∧ (256 ^ j : Nat) ≤ 16777216 := by
  have h1 := leN_lt s a j
  have h2 := bt_lt s (a + j)
  have hb : (256 : Nat) ^ j ≤ 256 ^ 3 := Nat.pow_le_pow_right (by omega) (by omega)
  have hm : 256 ^ j * bt s (a + j) ≤ 256 ^ 3 * 255 := Nat.mul_le_mul hb (by omega)
  have e : ((256 ^ j : Nat) : Int) * ((bt s (a + j) : Nat) : Int) = ((256 ^ j * bt s (a + j) : Nat) : Int) := (Int.natCast_mul _ _).symm
  rw [Go.IntWalk.i64_in ((bt s (a + j) : Nat) : Int) (by omega), e, Go.IntWalk.i64_in ((256 ^ j * bt s (a + j) : Nat) : Int) (by omega), Go.IntWalk.i64_in _ (by omega), leN]
  rw [Nat.mul_comm (bt s (a + j))]
  generalize 256 ^ j * bt s (a + j) = x at hm
  refine ⟨by omega, by omega, by omega, by omega, by omega⟩
theorem fi_loop0 (s : ByteArray) (hs : s.size ≤ 140737488351232) (done ws todo : List Int) (r : Int) (hws : ws = done ++ r :: todo) (h5 : ws.length ≤ 5) (hr : okR r) (a : Nat) (ha : a + r.natAbs ≤ s.size) : ∀ d q, q + d = r.natAbs →
    LoopSpec Try.prog 1 lpFI (frI ws.length s slN (a + q : Nat) (done.length : Nat) (leN s a q : Nat) (256 ^ q : Nat) (q : Nat)) [.own 3 (iW ws)] ⟨.exit 2, frI ws.length s slN (a + r.natAbs : Nat) (done.length : Nat) (leN s a r.natAbs : Nat) (256 ^ r.natAbs : Nat) (r.natAbs : Nat), [.own 3 (iW ws)], []⟩ := by
  have g : List.getD (iW ws) (0 + Int.toNat ((done.length : Nat) : Int) * 1) undef = .int .i64 r := by rw [hws]; exact iW_at _ _ _
  have hl : done.length < ws.length := by rw [hws]; simp
  have g1 := (congrArg (isInt .i64) g).trans rfl
  have g2 := congrArg (fun v => Value.int .i64 (intOf v)) g
  intro d
  induction d with
  | zero =>
    intro q hq
    obtain rfl : q = r.natAbs := by omega
    exact .last (i0_end ws.length done.length s _ _ _ _ r (iW ws) (iW_len _) g1 g2 hr ⟨hl, h5⟩ (by omega) _ (fun _ => out_refl) (fun _ => out_refl)) (by intro h; cases h)
  | succ d ih =>
    intro q hq
    have hq3 : q ≤ 3 := by have := hr.1; have := hr.2; omega
    obtain ⟨m1, m2, m3, m4, m5⟩ := le_mul s a q hq3
    have hb : ∀ R, _ → _ → CodeSpec Try.prog 1 lpFI (frI ws.length s slN (a + q : Nat) (done.length : Nat) (leN s a q : Nat) (256 ^ q : Nat) (q : Nat)) [.own 3 (iW ws)] R :=
      i0_ok ws.length done.length s (a + q : Nat) (leN s a q : Nat) (256 ^ q : Nat) (q : Nat) r (iW ws) (iW_len _) g1 g2 hr ⟨hl, h5⟩ ⟨by omega, by omega⟩ hs ⟨by omega, by omega⟩ ⟨Int.natCast_nonneg _, m4, Int.natCast_nonneg _, Int.ofNat_le.2 m5⟩ ⟨by rw [Int.toNat_natCast]; exact m2, by rw [Int.toNat_natCast]; exact m3⟩
    refine .more (o1 := ⟨.normal, frI ws.length s slN (a + (q + 1) : Nat) (done.length : Nat) (leN s a (q + 1) : Nat) (256 ^ (q + 1) : Nat) (q + 1 : Nat), [.own 3 (iW ws)], []⟩) ?_ rfl (ih (q + 1) (by omega)) (fun j hj _ => by cases hj)
    have fin : Out.le (Out.mk Xt.normal (frOf 57 [(0, Value.slice (some (Addr.mk 0 0 none)) ws.length ws.length), (1, Value.string s), (5, slN), (6, Value.int IntKind.i64 (((a + q : Nat) : Int) + 1)), (7, Value.int IntKind.i64 ((done.length : Nat) : Int)), (8, Value.int IntKind.i64 (IntKind.wrap IntKind.i64 ((leN s a q : Nat) + IntKind.wrap IntKind.i64 ((256 ^ q : Nat) * IntKind.wrap IntKind.i64 (↑(UInt8.toNat (List.getD (Array.toList (ByteArray.data s)) (Int.toNat ((a + q : Nat) : Int)) 0)) : Int))))), (9, Value.int IntKind.i64 ((256 ^ q : Nat) * 256)), (10, Value.int IntKind.i64 ((q : Nat) + 1))]) [.own 3 (iW ws)] []) ⟨.normal, frI ws.length s slN (a + (q + 1) : Nat) (done.length : Nat) (leN s a (q + 1) : Nat) (256 ^ (q + 1) : Nat) (q + 1 : Nat), [.own 3 (iW ws)], []⟩ := by
      rw [Int.toNat_natCast]
      unfold bt at m1
      rw [m1]
      refine ⟨rfl, ?_, rfl, fun j hj => hj⟩
      show frOf 57 _ = frOf 57 _
      rw [show (((a + q : Nat) : Int) + 1) = ((a + (q + 1) : Nat) : Int) by omega, show (((256 ^ q : Nat) : Int) * 256) = ((256 ^ (q + 1) : Nat) : Int) by rw [Nat.pow_succ, Int.natCast_mul]; rfl]
      rfl
    exact hb _ (fun _ => fin) (fun _ => fin)
theorem fo_round0 (s : ByteArray) (hs : s.size ≤ 140737488351232) (done ws todo : List Int) (r : Int) (hws : ws = done ++ r :: todo) (h5 : ws.length ≤ 5) (hr : okR r) (a : Nat) (ha : a + r.natAbs ≤ s.size) :
    CodeSpec Try.prog 1 lpFO (frO ws.length s slN (a : Nat) (done.length : Nat)) [.own 3 (iW ws)] ⟨.normal, frO ws.length s (slB 1 1 1) (a + r.natAbs : Nat) (done.length + 1 : Nat), [.own 3 (iW ws), .own 3 [.int .i64 (rfV r s a)]], []⟩ := by
  have g : List.getD (iW ws) (0 + Int.toNat ((done.length : Nat) : Int) * 1) undef = .int .i64 r := by rw [hws]; exact iW_at _ _ _
  have hl : done.length < ws.length := by rw [hws]; simp
  have g1 := (congrArg (isInt .i64) g).trans rfl
  have g2 := congrArg (fun v => Value.int .i64 (intOf v)) g
  have kL := (fi_loop0 s hs done ws todo r hws h5 hr a ha r.natAbs 0 (by omega)).code
  have h4 : r.natAbs ≤ 4 := by have := hr.1; have := hr.2; omega
  have h1 := leN_lt s a r.natAbs
  have hp : (256 : Nat) ^ r.natAbs ≤ 256 ^ 4 := Nat.pow_le_pow_right (by omega) h4
  refine o0_ok ws.length done.length s (a : Nat) (a + r.natAbs : Nat) (leN s a r.natAbs : Nat) (256 ^ r.natAbs : Nat) (r.natAbs : Nat) r (iW ws) (iW_len _) g1 g2 hr ⟨hl, h5⟩ ⟨by omega, by omega, by omega, by omega⟩ kL _ (fun h0 h2 => ?_) (fun h0 h2 => ?_) (fun h0 => ?_)
  · have e : rfV r s a = (leN s a r.natAbs : Int) - (256 ^ r.natAbs : Nat) := by
      have hc : 256 ^ r.natAbs ≤ 2 * leN s a r.natAbs := by
        have hz : r.natAbs ≠ 0 := by omega
        obtain ⟨q, hq⟩ := Nat.exists_eq_succ_of_ne_zero hz
        rw [hq, Nat.pow_succ] at h2 ⊢
        omega
      unfold rfV
      rw [if_pos ⟨h0, hc⟩, Int.natCast_pow]
      rfl
    rw [e]
    exact ⟨rfl, rfl, rfl, fun j hj => hj⟩
  · have e : rfV r s a = (leN s a r.natAbs : Int) := by
      unfold rfV
      rw [if_neg ?_]
      intro h
      have h3 := h.2
      have : r.natAbs ≠ 0 := by omega
      obtain ⟨q, hq⟩ := Nat.exists_eq_succ_of_ne_zero this
      rw [hq, Nat.pow_succ] at h2 h3
      omega
    rw [e]
    exact ⟨rfl, rfl, rfl, fun j hj => hj⟩
  · have e : rfV r s a = (leN s a r.natAbs : Int) := by unfold rfV; rw [if_neg (fun h => h0 h.1)]
    rw [e]
    exact ⟨rfl, rfl, rfl, fun j hj => hj⟩
theorem fi_loop1 (s : ByteArray) (hs : s.size ≤ 140737488351232) (done ws todo : List Int) (r : Int) (hws : ws = done ++ r :: todo) (h5 : ws.length ≤ 5) (hr : okR r) (j : Nat) (vs : List Value) (hvs : vs.length = j) (hj : 1 ≤ j ∧ j ≤ 5) (a : Nat) (ha : a + r.natAbs ≤ s.size) : ∀ d q, q + d = r.natAbs →
    LoopSpec Try.prog 1 lpFI (frI ws.length s (slB 1 j j) (a + q : Nat) (done.length : Nat) (leN s a q : Nat) (256 ^ q : Nat) (q : Nat)) [.own 3 (iW ws), .own 3 vs] ⟨.exit 2, frI ws.length s (slB 1 j j) (a + r.natAbs : Nat) (done.length : Nat) (leN s a r.natAbs : Nat) (256 ^ r.natAbs : Nat) (r.natAbs : Nat), [.own 3 (iW ws), .own 3 vs], []⟩ := by
  have g : List.getD (iW ws) (0 + Int.toNat ((done.length : Nat) : Int) * 1) undef = .int .i64 r := by rw [hws]; exact iW_at _ _ _
  have hl : done.length < ws.length := by rw [hws]; simp
  have g1 := (congrArg (isInt .i64) g).trans rfl
  have g2 := congrArg (fun v => Value.int .i64 (intOf v)) g
  intro d
  induction d with
  | zero =>
    intro q hq
    obtain rfl : q = r.natAbs := by omega
    exact .last (i1_end ws.length done.length s _ _ _ _ r (iW ws) (iW_len _) g1 g2 j vs hvs hj hr ⟨hl, h5⟩ (by omega) _ (fun _ => out_refl) (fun _ => out_refl)) (by intro h; cases h)
  | succ d ih =>
    intro q hq
    have hq3 : q ≤ 3 := by have := hr.1; have := hr.2; omega
    obtain ⟨m1, m2, m3, m4, m5⟩ := le_mul s a q hq3
    have hb : ∀ R, _ → _ → CodeSpec Try.prog 1 lpFI (frI ws.length s (slB 1 j j) (a + q : Nat) (done.length : Nat) (leN s a q : Nat) (256 ^ q : Nat) (q : Nat)) [.own 3 (iW ws), .own 3 vs] R :=
      i1_ok ws.length done.length s (a + q : Nat) (leN s a q : Nat) (256 ^ q : Nat) (q : Nat) r (iW ws) (iW_len _) g1 g2 j vs hvs hj hr ⟨hl, h5⟩ ⟨by omega, by omega⟩ hs ⟨by omega, by omega⟩ ⟨Int.natCast_nonneg _, m4, Int.natCast_nonneg _, Int.ofNat_le.2 m5⟩ ⟨by rw [Int.toNat_natCast]; exact m2, by rw [Int.toNat_natCast]; exact m3⟩
    refine .more (o1 := ⟨.normal, frI ws.length s (slB 1 j j) (a + (q + 1) : Nat) (done.length : Nat) (leN s a (q + 1) : Nat) (256 ^ (q + 1) : Nat) (q + 1 : Nat), [.own 3 (iW ws), .own 3 vs], []⟩) ?_ rfl (ih (q + 1) (by omega)) (fun j hj _ => by cases hj)
    have fin : Out.le (Out.mk Xt.normal (frOf 57 [(0, Value.slice (some (Addr.mk 0 0 none)) ws.length ws.length), (1, Value.string s), (5, (slB 1 j j)), (6, Value.int IntKind.i64 (((a + q : Nat) : Int) + 1)), (7, Value.int IntKind.i64 ((done.length : Nat) : Int)), (8, Value.int IntKind.i64 (IntKind.wrap IntKind.i64 ((leN s a q : Nat) + IntKind.wrap IntKind.i64 ((256 ^ q : Nat) * IntKind.wrap IntKind.i64 (↑(UInt8.toNat (List.getD (Array.toList (ByteArray.data s)) (Int.toNat ((a + q : Nat) : Int)) 0)) : Int))))), (9, Value.int IntKind.i64 ((256 ^ q : Nat) * 256)), (10, Value.int IntKind.i64 ((q : Nat) + 1))]) [.own 3 (iW ws), .own 3 vs] []) ⟨.normal, frI ws.length s (slB 1 j j) (a + (q + 1) : Nat) (done.length : Nat) (leN s a (q + 1) : Nat) (256 ^ (q + 1) : Nat) (q + 1 : Nat), [.own 3 (iW ws), .own 3 vs], []⟩ := by
      rw [Int.toNat_natCast]
      unfold bt at m1
      rw [m1]
      refine ⟨rfl, ?_, rfl, fun j hj => hj⟩
      show frOf 57 _ = frOf 57 _
      rw [show (((a + q : Nat) : Int) + 1) = ((a + (q + 1) : Nat) : Int) by omega, show (((256 ^ q : Nat) : Int) * 256) = ((256 ^ (q + 1) : Nat) : Int) by rw [Nat.pow_succ, Int.natCast_mul]; rfl]
      rfl
    exact hb _ (fun _ => fin) (fun _ => fin)
theorem fo_round1 (s : ByteArray) (hs : s.size ≤ 140737488351232) (done ws todo : List Int) (r : Int) (hws : ws = done ++ r :: todo) (h5 : ws.length ≤ 5) (hr : okR r) (j : Nat) (vs : List Value) (hvs : vs.length = j) (hj : 1 ≤ j ∧ j ≤ 5) (a : Nat) (ha : a + r.natAbs ≤ s.size) :
    CodeSpec Try.prog 1 lpFO (frO ws.length s (slB 1 j j) (a : Nat) (done.length : Nat)) [.own 3 (iW ws), .own 3 vs] ⟨.normal, frO ws.length s (slB 1 (j + 1) (j + 1)) (a + r.natAbs : Nat) (done.length + 1 : Nat), [.own 3 (iW ws), .own 3 (vs ++ [.int .i64 (rfV r s a)])], []⟩ := by
  have g : List.getD (iW ws) (0 + Int.toNat ((done.length : Nat) : Int) * 1) undef = .int .i64 r := by rw [hws]; exact iW_at _ _ _
  have hl : done.length < ws.length := by rw [hws]; simp
  have g1 := (congrArg (isInt .i64) g).trans rfl
  have g2 := congrArg (fun v => Value.int .i64 (intOf v)) g
  have kL := (fi_loop1 s hs done ws todo r hws h5 hr j vs hvs hj a ha r.natAbs 0 (by omega)).code
  have h4 : r.natAbs ≤ 4 := by have := hr.1; have := hr.2; omega
  have h1 := leN_lt s a r.natAbs
  have hp : (256 : Nat) ^ r.natAbs ≤ 256 ^ 4 := Nat.pow_le_pow_right (by omega) h4
  refine o1_ok ws.length done.length s (a : Nat) (a + r.natAbs : Nat) (leN s a r.natAbs : Nat) (256 ^ r.natAbs : Nat) (r.natAbs : Nat) r (iW ws) (iW_len _) g1 g2 j vs hvs hj hr ⟨hl, h5⟩ ⟨by omega, by omega, by omega, by omega⟩ kL _ (fun h0 h2 => ?_) (fun h0 h2 => ?_) (fun h0 => ?_)
  · have e : rfV r s a = (leN s a r.natAbs : Int) - (256 ^ r.natAbs : Nat) := by
      have hc : 256 ^ r.natAbs ≤ 2 * leN s a r.natAbs := by
        have hz : r.natAbs ≠ 0 := by omega
        obtain ⟨q, hq⟩ := Nat.exists_eq_succ_of_ne_zero hz
        rw [hq, Nat.pow_succ] at h2 ⊢
        omega
      unfold rfV
      rw [if_pos ⟨h0, hc⟩, Int.natCast_pow]
      rfl
    rw [e]
    exact ⟨rfl, rfl, rfl, fun j hj => hj⟩
  · have e : rfV r s a = (leN s a r.natAbs : Int) := by
      unfold rfV
      rw [if_neg ?_]
      intro h
      have h3 := h.2
      have : r.natAbs ≠ 0 := by omega
      obtain ⟨q, hq⟩ := Nat.exists_eq_succ_of_ne_zero this
      rw [hq, Nat.pow_succ] at h2 h3
      omega
    rw [e]
    exact ⟨rfl, rfl, rfl, fun j hj => hj⟩
  · have e : rfV r s a = (leN s a r.natAbs : Int) := by unfold rfV; rw [if_neg (fun h => h0 h.1)]
    rw [e]
    exact ⟨rfl, rfl, rfl, fun j hj => hj⟩
theorem fo_loop1 (s : ByteArray) (hs : s.size ≤ 140737488351232) : ∀ (todo done acc : List Int) (a : Nat), 1 ≤ acc.length → acc.length = done.length → (done ++ todo).length ≤ 5 → (∀ r ∈ todo, okR r) → a + sumR todo ≤ s.size →
    LoopSpec Try.prog 1 lpFO (frO (done ++ todo).length s (slB 1 acc.length acc.length) (a : Nat) (done.length : Nat)) [.own 3 (iW (done ++ todo)), .own 3 (iW acc)]
      ⟨.exit 0, frO (done ++ todo).length s (slB 1 (acc ++ rfL todo s a).length (acc ++ rfL todo s a).length) (a + sumR todo : Nat) ((done ++ todo).length : Nat), [.own 3 (iW (done ++ todo)), .own 3 (iW (acc ++ rfL todo s a))], []⟩
  | [], done, acc, a, h1, ha, h5, hw, hk => by
    rw [rfL, sumR, List.append_nil, List.append_nil]
    exact .last (o1_end done.length s (a : Nat) (iW done) (iW_len _) acc.length (iW acc) (iW_len _) ⟨h1, by simp at h5; omega⟩ _ ⟨rfl, rfl, rfl, fun j hj => by cases hj⟩) (by intro h; cases h)
  | r :: rs, done, acc, a, h1, ha, h5, hw, hk => by
    rw [sumR] at hk
    have hl : (done ++ r :: rs).length = done.length + 1 + rs.length := by simp; omega
    have ih := fo_loop1 s hs rs (done ++ [r]) (acc ++ [rfV r s a]) (a + r.natAbs) (by simp) (by simp [ha]) (by simpa using h5) (fun u hu => hw u (by simp [hu])) (by omega)
    rw [List.append_assoc, List.singleton_append, List.append_assoc, List.singleton_append] at ih
    rw [rfL, sumR, show a + (r.natAbs + sumR rs) = a + r.natAbs + sumR rs by omega]
    refine .more (fo_round1 s hs done (done ++ r :: rs) rs r rfl h5 (hw r (by simp)) acc.length (iW acc) (iW_len _) ⟨h1, by omega⟩ a (by omega)) rfl ?_ (fun j hj _ => by cases hj)
    have ea : iW acc ++ [Value.int .i64 (rfV r s a)] = iW (acc ++ [rfV r s a]) := by rw [iW_app]; rfl
    rw [ea]
    have e1 : (acc ++ [rfV r s a]).length = acc.length + 1 := by simp
    have e2 : (done ++ [r]).length = done.length + 1 := by simp
    rw [e1, e2] at ih
    exact ih
theorem fo_loop0 (s : ByteArray) (hs : s.size ≤ 140737488351232) (r : Int) (rs : List Int) (a : Nat) (h5 : (r :: rs).length ≤ 5) (hw : ∀ u ∈ r :: rs, okR u) (hk : a + sumR (r :: rs) ≤ s.size) :
    LoopSpec Try.prog 1 lpFO (frO (r :: rs).length s slN (a : Nat) 0) [.own 3 (iW (r :: rs))]
      ⟨.exit 0, frO (r :: rs).length s (slB 1 (rfL (r :: rs) s a).length (rfL (r :: rs) s a).length) (a + sumR (r :: rs) : Nat) ((r :: rs).length : Nat), [.own 3 (iW (r :: rs)), .own 3 (iW (rfL (r :: rs) s a))], []⟩ := by
  rw [sumR] at hk
  have ih := fo_loop1 s hs rs [r] [rfV r s a] (a + r.natAbs) (Nat.le_refl _) rfl (by simpa using h5) (fun u hu => hw u (by simp [hu])) (by omega)
  rw [rfL, sumR, show a + (r.natAbs + sumR rs) = a + r.natAbs + sumR rs by omega]
  exact .more (fo_round0 s hs [] (r :: rs) rs r rfl h5 (hw r (by simp)) a (by omega)) rfl ih (fun j hj _ => by cases hj)
end Go.Proofs.Ytbolppjlaipfjaa.Ex
end
section
set_option linter.unusedSectionVars false
set_option linter.unusedSimpArgs false
set_option linter.unusedVariables false
namespace Go.Proofs.Ytbolppjlaipfjaa.Ex
open Go
set_option linter.unusedVariables false
noncomputable def lpZ : Code := loopAt Try.prog 10 0
theorem lpZ_calm : calmC lpZ = true := loopAt_calm tcalm 10 0
noncomputable def lpZC : Code := .loop lpZ
noncomputable def lpM : Code := loopAt Try.prog 10 1
theorem lpM_calm : calmC lpM = true := loopAt_calm tcalm 10 1
noncomputable def lpMC : Code := .loop lpM
def frZ (sn : Int) (s : ByteArray) (n : Nat) (z i : Int) : Fr := frOf 108 [(0, .int .u8 sn), (1, .string s), (7, slB 0 n n), (8, .int .i64 z), (9, .int .i64 i)]
def frM (sn : Int) (s : ByteArray) (n : Nat) (z : Int) (out : Value) (is : Bool) (bad at0 : Int) : Fr := frOf 108 [(0, .int .u8 sn), (1, .string s), (7, slB 0 n n), (8, .int .i64 z), (10, out), (11, .bool is), (12, .int .i64 bad), (13, .int .i64 at0)]
def kM : Xt → List Nat
  | .normal => [0, 1, 7, 8, 10, 11, 12, 13]
  | _ => [10, 11, 12]
section
variable (sn : Int)
include sn
theorem rwid_ok_pt : go (exec (Try.prog) (8) (23) ([.int .u8 sn]) ([])) [(8, .dec true)] = some (.mk ((zSB 0 4 4)) [.own 3 [.int .i64 2, .int .i64 (-2), .int .i64 (-2), .int .i64 (-2)]] [], true, [decide (sn = 1) = true]) := by kernel_rfl
theorem rwid_ok_pft : go (exec (Try.prog) (8) (23) ([.int .u8 sn]) ([])) [(8, .dec false), (3, .dec true)] = some (.mk ((zSB 0 2 2)) [.own 3 [.int .i64 (-4), .int .i64 (-4)]] [], true, [decide (sn = 1) = false, decide (sn = 2) = true]) := by kernel_rfl
theorem rwid_ok_pfft : go (exec (Try.prog) (8) (23) ([.int .u8 sn]) ([])) [(8, .dec false), (3, .dec false), (3, .dec true)] = some (.mk ((zSB 0 4 4)) [.own 3 [.int .i64 (-4), .int .i64 (-4), .int .i64 (-4), .int .i64 (-4)]] [], true, [decide (sn = 1) = false, decide (sn = 2) = false, decide (sn = 3) = true]) := by kernel_rfl
theorem rwid_ok_pffft : go (exec (Try.prog) (8) (23) ([.int .u8 sn]) ([])) [(8, .dec false), (3, .dec false), (3, .dec false), (3, .dec true)] = some (.mk ((zSB 0 5 5)) [.own 3 [.int .i64 (-2), .int .i64 (-2), .int .i64 (-2), .int .i64 (-2), .int .i64 1]] [], true, [decide (sn = 1) = false, decide (sn = 2) = false, decide (sn = 3) = false, decide (sn = 4) = true]) := by kernel_rfl
theorem rwid_ok_pfffft : go (exec (Try.prog) (8) (23) ([.int .u8 sn]) ([])) [(8, .dec false), (3, .dec false), (3, .dec false), (3, .dec false), (3, .dec true)] = some (.mk ((zSB 0 2 2)) [.own 3 [.int .i64 1, .int .i64 (-4)]] [], true, [decide (sn = 1) = false, decide (sn = 2) = false, decide (sn = 3) = false, decide (sn = 4) = false, decide (sn = 5) = true]) := by kernel_rfl
theorem rwid_ok_pfffff : go (exec (Try.prog) (8) (23) ([.int .u8 sn]) ([])) [(8, .dec false), (3, .dec false), (3, .dec false), (3, .dec false), (3, .dec false)] = some (.mk (zSN) [] [], true, [decide (sn = 1) = false, decide (sn = 2) = false, decide (sn = 3) = false, decide (sn = 4) = false, decide (sn = 5) = false]) := by kernel_rfl
theorem rwid_ok (R : Res) (k_pt : (h0 : sn = 1) → Res.le (.mk ((zSB 0 4 4)) [.own 3 [.int .i64 2, .int .i64 (-2), .int .i64 (-2), .int .i64 (-2)]] []) R) (k_pft : (h0 : ¬ (sn = 1)) → (h1 : sn = 2) → Res.le (.mk ((zSB 0 2 2)) [.own 3 [.int .i64 (-4), .int .i64 (-4)]] []) R) (k_pfft : (h0 : ¬ (sn = 1)) → (h1 : ¬ (sn = 2)) → (h2 : sn = 3) → Res.le (.mk ((zSB 0 4 4)) [.own 3 [.int .i64 (-4), .int .i64 (-4), .int .i64 (-4), .int .i64 (-4)]] []) R) (k_pffft : (h0 : ¬ (sn = 1)) → (h1 : ¬ (sn = 2)) → (h2 : ¬ (sn = 3)) → (h3 : sn = 4) → Res.le (.mk ((zSB 0 5 5)) [.own 3 [.int .i64 (-2), .int .i64 (-2), .int .i64 (-2), .int .i64 (-2), .int .i64 1]] []) R) (k_pfffft : (h0 : ¬ (sn = 1)) → (h1 : ¬ (sn = 2)) → (h2 : ¬ (sn = 3)) → (h3 : ¬ (sn = 4)) → (h4 : sn = 5) → Res.le (.mk ((zSB 0 2 2)) [.own 3 [.int .i64 1, .int .i64 (-4)]] []) R) (k_pfffff : (h0 : ¬ (sn = 1)) → (h1 : ¬ (sn = 2)) → (h2 : ¬ (sn = 3)) → (h3 : ¬ (sn = 4)) → (h4 : ¬ (sn = 5)) → Res.le (.mk (zSN) [] []) R) : CallSpec (Try.prog) (23) ([.int .u8 sn]) ([]) R := by
  by_cases h0 : sn = 1
  · exact (CallSpec.id (go_ok (exec_ok tnamed tcalm tmixed _ _ _ _) (rwid_ok_pt sn ) (aC (dTq h0) aN))).le (k_pt h0)
  · by_cases h1 : sn = 2
    · exact (CallSpec.id (go_ok (exec_ok tnamed tcalm tmixed _ _ _ _) (rwid_ok_pft sn ) (aC (dFq h0) (aC (dTq h1) aN)))).le (k_pft h0 h1)
    · by_cases h2 : sn = 3
      · exact (CallSpec.id (go_ok (exec_ok tnamed tcalm tmixed _ _ _ _) (rwid_ok_pfft sn ) (aC (dFq h0) (aC (dFq h1) (aC (dTq h2) aN))))).le (k_pfft h0 h1 h2)
      · by_cases h3 : sn = 4
        · exact (CallSpec.id (go_ok (exec_ok tnamed tcalm tmixed _ _ _ _) (rwid_ok_pffft sn ) (aC (dFq h0) (aC (dFq h1) (aC (dFq h2) (aC (dTq h3) aN)))))).le (k_pffft h0 h1 h2 h3)
        · by_cases h4 : sn = 5
          · exact (CallSpec.id (go_ok (exec_ok tnamed tcalm tmixed _ _ _ _) (rwid_ok_pfffft sn ) (aC (dFq h0) (aC (dFq h1) (aC (dFq h2) (aC (dFq h3) (aC (dTq h4) aN))))))).le (k_pfffft h0 h1 h2 h3 h4)
          · exact (CallSpec.id (go_ok (exec_ok tnamed tcalm tmixed _ _ _ _) (rwid_ok_pfffff sn ) (aC (dFq h0) (aC (dFq h1) (aC (dFq h2) (aC (dFq h3) (aC (dFq h4) aN))))))).le (k_pfffff h0 h1 h2 h3 h4)
end
section
variable (s : ByteArray) (n k : Nat) (a : Int) (cs vs : List Value) (kL : CodeSpec Try.prog 1 lpFOC (frO n s slN 0 0) [.own 3 cs] (Out.mk (Xt.exit 0) (frO n s (slB 1 k k) a (↑n : Int)) [.own 3 cs, .own 3 vs] []))
include s n k a cs vs kL
theorem flds_ok_p : go (exec (Try.prog) (8) (26) ([slB 0 n n, .string s]) ([.own 3 cs])) [(9, Itm.loop [0, 1, 5, 6, 7] (Out.mk (Xt.exit 0) (frOf 57 [(0, (zSB 0 n n)), (1, .string s), (5, (zSB 1 k k)), (6, .int .i64 a), (7, .int .i64 (↑n : Int))]) [.own 3 cs, .own 3 vs] []))] = some (.mk ((zSB 1 k k)) [.own 3 cs, .own 3 vs] [], true, [type_of% kL]) := by kernel_rfl
theorem flds_ok (R : Res) (k_p : Res.le (.mk ((zSB 1 k k)) [.own 3 cs, .own 3 vs] []) R) : CallSpec (Try.prog) (26) ([slB 0 n n, .string s]) ([.own 3 cs]) R := by
  exact (CallSpec.id (go_ok (exec_ok tnamed tcalm tmixed _ _ _ _) (flds_ok_p s n k a cs vs kL ) (aC (kL) aN))).le (k_p )
end
section
variable (sn z w : Int) (s : ByteArray) (n i : Nat) (cs : List Value) (hcs : List.length cs = n) (hv0 : isInt .i64 (List.getD cs (0 + Int.toNat (↑i : Int) * 1) undef) = true) (hv : Value.int .i64 (intOf (List.getD cs (0 + Int.toNat (↑i : Int) * 1) undef)) = .int .i64 w) (hw : -4 ≤ w ∧ w ≤ 4) (hi : i < n ∧ n ≤ 5) (hz : 0 ≤ z ∧ z ≤ 1000)
include sn z w s n i cs hcs hv0 hv hw hi hz
theorem z_ok_pt : go (body (Try.prog) (8) (0) (8) (fun x => [0, 1, 7, 8, 9]) (lpZ) (frZ sn s n z (↑i : Int)) ([.own 3 cs])) [(5, .dec true), (3, Itm.must), (1, Itm.must), (0, Itm.must), (0, Itm.val (.int .i64 w)), (7, .dec true), (1, Itm.val (.int .i64 (0 - w))), (5, Itm.val (.int .i64 (z + (0 - w)))), (3, Itm.val (.int .i64 ((↑i : Int) + 1)))] = some (Out.mk Xt.normal (frOf 108 [(0, .int .u8 sn), (1, .string s), (7, (zSB 0 n n)), (8, .int .i64 (z + (0 - w))), (9, .int .i64 ((↑i : Int) + 1))]) [.own 3 cs] [], true, [decide ((↑i : Int) < (↑n : Int)) = true, inside (↑i : Int) n = true, decide (0 + Int.toNat (↑i : Int) * 1 < List.length cs) = true, isInt .i64 (List.getD cs (0 + Int.toNat (↑i : Int) * 1) undef) = true, type_of% hv, decide (w < 0) = true, Value.int .i64 (IntKind.wrap .i64 (0 - w)) = .int .i64 (0 - w), Value.int .i64 (IntKind.wrap .i64 (z + (0 - w))) = .int .i64 (z + (0 - w)), Value.int .i64 (IntKind.wrap .i64 ((↑i : Int) + 1)) = .int .i64 ((↑i : Int) + 1)]) := by kernel_rfl
theorem z_ok_pf : go (body (Try.prog) (8) (0) (8) (fun x => [0, 1, 7, 8, 9]) (lpZ) (frZ sn s n z (↑i : Int)) ([.own 3 cs])) [(5, .dec true), (3, Itm.must), (1, Itm.must), (0, Itm.must), (0, Itm.val (.int .i64 w)), (7, .dec false), (6, Itm.val (.int .i64 (z + w))), (3, Itm.val (.int .i64 ((↑i : Int) + 1)))] = some (Out.mk Xt.normal (frOf 108 [(0, .int .u8 sn), (1, .string s), (7, (zSB 0 n n)), (8, .int .i64 (z + w)), (9, .int .i64 ((↑i : Int) + 1))]) [.own 3 cs] [], true, [decide ((↑i : Int) < (↑n : Int)) = true, inside (↑i : Int) n = true, decide (0 + Int.toNat (↑i : Int) * 1 < List.length cs) = true, isInt .i64 (List.getD cs (0 + Int.toNat (↑i : Int) * 1) undef) = true, type_of% hv, decide (w < 0) = false, Value.int .i64 (IntKind.wrap .i64 (z + w)) = .int .i64 (z + w), Value.int .i64 (IntKind.wrap .i64 ((↑i : Int) + 1)) = .int .i64 ((↑i : Int) + 1)]) := by kernel_rfl
theorem z_ok (R : Out) (k_pt : (h0 : w < 0) → Out.le (Out.mk Xt.normal (frOf 108 [(0, .int .u8 sn), (1, .string s), (7, (zSB 0 n n)), (8, .int .i64 (z + (0 - w))), (9, .int .i64 ((↑i : Int) + 1))]) [.own 3 cs] []) R) (k_pf : (h0 : ¬ (w < 0)) → Out.le (Out.mk Xt.normal (frOf 108 [(0, .int .u8 sn), (1, .string s), (7, (zSB 0 n n)), (8, .int .i64 (z + w)), (9, .int .i64 ((↑i : Int) + 1))]) [.own 3 cs] []) R) : CodeSpec (Try.prog) (0) (lpZ) (frZ sn s n z (↑i : Int)) ([.own 3 cs]) R := by
  by_cases h0 : w < 0
  · exact (CodeSpec.id (go_ok (body_ok tnamed tcalm tmixed _ _ _ _ _ _ lpZ_calm) (z_ok_pt sn z w s n i cs hcs hv0 hv hw hi hz ) (aC dO (aC (inside_of (by omega)) (aC dO (aC ((by omega)) (aC (hv) (aC (dTq h0) (aC (congrArg (Value.int _) (Go.IntWalk.i64_in _ (by omega))) (aC (congrArg (Value.int _) (Go.IntWalk.i64_in _ (by omega))) (aC (congrArg (Value.int _) (Go.IntWalk.i64_in _ (by omega))) aN))))))))))).le (k_pt h0)
  · exact (CodeSpec.id (go_ok (body_ok tnamed tcalm tmixed _ _ _ _ _ _ lpZ_calm) (z_ok_pf sn z w s n i cs hcs hv0 hv hw hi hz ) (aC dO (aC (inside_of (by omega)) (aC dO (aC ((by omega)) (aC (hv) (aC (dFq h0) (aC (congrArg (Value.int _) (Go.IntWalk.i64_in _ (by omega))) (aC (congrArg (Value.int _) (Go.IntWalk.i64_in _ (by omega))) aN)))))))))).le (k_pf h0)
end
section
variable (sn z : Int) (s : ByteArray) (n : Nat) (cs : List Value) (hcs : List.length cs = n)
include sn z s n cs hcs
theorem z_end_p : go (body (Try.prog) (8) (0) (8) (fun x => [0, 1, 7, 8, 9]) (lpZ) (frZ sn s n z (↑n : Int)) ([.own 3 cs])) [(5, .dec false)] = some (Out.mk (Xt.exit 0) (frOf 108 [(0, .int .u8 sn), (1, .string s), (7, (zSB 0 n n)), (8, .int .i64 z), (9, .int .i64 (↑n : Int))]) [.own 3 cs] [], true, [decide ((↑n : Int) < (↑n : Int)) = false]) := by kernel_rfl
theorem z_end (R : Out) (k_p : Out.le (Out.mk (Xt.exit 0) (frOf 108 [(0, .int .u8 sn), (1, .string s), (7, (zSB 0 n n)), (8, .int .i64 z), (9, .int .i64 (↑n : Int))]) [.own 3 cs] []) R) : CodeSpec (Try.prog) (0) (lpZ) (frZ sn s n z (↑n : Int)) ([.own 3 cs]) R := by
  exact (CodeSpec.id (go_ok (body_ok tnamed tcalm tmixed _ _ _ _ _ _ lpZ_calm) (z_end_p sn z s n cs hcs ) (aC dN aN))).le (k_p )
end
section
variable (sn z c at0 bad : Int) (is : Bool) (s : ByteArray) (n k : Nat) (cs vs : List Value) (hs : ByteArray.size s ≤ 140737488351232) (hz : 4 ≤ z ∧ z ≤ 100) (ha : 0 ≤ at0 ∧ at0 ≤ (↑(ByteArray.size s) : Int)) (hc : 0 ≤ c ∧ c ≤ 65535) (hb : 0 ≤ bad ∧ bad ≤ 281474976710656) (kC : CallSpec Try.prog 25 [.string (ByteArray.extract s (Int.toNat (at0 + 1)) (Int.toNat (at0 + z - 2)))] [] (.mk (Value.int IntKind.u16 c) [] [])) (kF : at0 + z ≤ (↑(ByteArray.size s) : Int) → CallSpec Try.prog 26 [slB 0 n n, .string (ByteArray.extract s (Int.toNat (at0 + 2)) (ByteArray.size s))] [.own 3 cs] (.mk (slB 1 k k) [.own 3 cs, .own 3 vs] []))
include sn z c at0 bad is s n k cs vs hs hz ha hc hb kC kF
theorem m0_ok_ptt : go (body (Try.prog) (8) (0) (8) (kM) (lpM) (frM sn s n z slN is bad at0) ([.own 3 cs])) [(5, .dec true), (2, Itm.must), (3, .dec true), (1, Itm.val (.int .i64 (at0 + 1)))] = some (Out.mk Xt.normal (frOf 108 [(0, .int .u8 sn), (1, .string s), (7, (zSB 0 n n)), (8, .int .i64 z), (10, zSN), (11, .bool is), (12, .int .i64 bad), (13, .int .i64 (at0 + 1))]) [.own 3 cs] [], true, [decide (at0 < (↑(ByteArray.size s) : Int)) = true, inside at0 (ByteArray.size s) = true, (!decide ((↑(UInt8.toNat (List.getD (Array.toList (ByteArray.data s)) (Int.toNat at0) 0)) : Int) = 165)) = true, Value.int .i64 (IntKind.wrap .i64 (at0 + 1)) = .int .i64 (at0 + 1)]) := by kernel_rfl
theorem m0_ok_ptftttt : go (body (Try.prog) (8) (0) (8) (kM) (lpM) (frM sn s n z slN is bad at0) ([.own 3 cs])) [(5, .dec true), (2, Itm.must), (3, .dec false), (2, Itm.val (.int .i64 (at0 + z))), (4, .dec true), (1, .dec true), (1, .dec true), (0, Itm.val (.int .i64 (at0 + 1))), (0, .dec true), (0, Itm.must), (1, .dec true), (1, .dec true), (1, .dec true), (5, .dec true), (2, Itm.val (.int .i64 (at0 + 1))), (2, Itm.val (.int .i64 (at0 + z))), (0, Itm.val (.int .i64 (at0 + z - 2))), (0, Itm.must), (0, Itm.must), (1, .call (.mk (Value.int IntKind.u16 c) [] [])), (7, Itm.val (.int .i64 (at0 + z))), (0, Itm.val (.int .i64 (at0 + z - 2))), (0, Itm.must), (3, Itm.val (Value.int IntKind.u16 (c % 256))), (0, Itm.val (.int .u8 (c % 256))), (2, .dec true), (1, .dec true), (1, .dec true), (1, .dec true), (0, Itm.val (.int .i64 (at0 + z))), (0, .dec true), (0, Itm.val (.int .i64 (at0 + z - 1))), (0, .dec true), (0, Itm.must), (1, .dec true), (1, .dec true), (1, Itm.val (Value.int IntKind.u16 (c / 256))), (0, .dec true), (0, Itm.val (.int .u8 (c / 256))), (0, .dec true), (1, .dec true), (6, .dec true), (1, Itm.val (.int .i64 (bad + 1))), (3, Itm.val (.int .i64 (at0 + 1)))] = some (Out.mk Xt.normal (frOf 108 [(0, .int .u8 sn), (1, .string s), (7, (zSB 0 n n)), (8, .int .i64 z), (10, zSN), (11, .bool is), (12, .int .i64 (bad + 1)), (13, .int .i64 (at0 + 1))]) [.own 3 cs] [], true, [decide (at0 < (↑(ByteArray.size s) : Int)) = true, inside at0 (ByteArray.size s) = true, (!decide ((↑(UInt8.toNat (List.getD (Array.toList (ByteArray.data s)) (Int.toNat at0) 0)) : Int) = 165)) = false, Value.int .i64 (IntKind.wrap .i64 (at0 + z)) = .int .i64 (at0 + z), decide (at0 + z ≤ (↑(ByteArray.size s) : Int)) = true, decide (at0 + z ≤ (↑(ByteArray.size s) : Int)) = true, decide (at0 + z ≤ (↑(ByteArray.size s) : Int)) = true, Value.int .i64 (IntKind.wrap .i64 (at0 + 1)) = .int .i64 (at0 + 1), decide (at0 + z ≤ (↑(ByteArray.size s) : Int)) = true, inside (at0 + 1) (ByteArray.size s) = true, decide (at0 + z ≤ (↑(ByteArray.size s) : Int)) = true, decide (at0 + z ≤ (↑(ByteArray.size s) : Int)) = true, decide (at0 + z ≤ (↑(ByteArray.size s) : Int)) = true, decide ((↑(UInt8.toNat (List.getD (Array.toList (ByteArray.data s)) (Int.toNat (at0 + 1)) 0)) : Int) = sn) = true, Value.int .i64 (IntKind.wrap .i64 (at0 + 1)) = .int .i64 (at0 + 1), Value.int .i64 (IntKind.wrap .i64 (at0 + z)) = .int .i64 (at0 + z), Value.int .i64 (IntKind.wrap .i64 (at0 + z - 2)) = .int .i64 (at0 + z - 2), upto (at0 + z - 2) (ByteArray.size s) = true, upto (at0 + 1) (Int.toNat (at0 + z - 2)) = true, type_of% kC, Value.int .i64 (IntKind.wrap .i64 (at0 + z)) = .int .i64 (at0 + z), Value.int .i64 (IntKind.wrap .i64 (at0 + z - 2)) = .int .i64 (at0 + z - 2), inside (at0 + z - 2) (ByteArray.size s) = true, Value.int IntKind.u16 (Int.tmod c 256) = Value.int IntKind.u16 (c % 256), Value.int .u8 (IntKind.wrap IntKind.u8 (c % 256)) = .int .u8 (c % 256), decide ((↑(UInt8.toNat (List.getD (Array.toList (ByteArray.data s)) (Int.toNat (at0 + z - 2)) 0)) : Int) = c % 256) = true, decide ((↑(UInt8.toNat (List.getD (Array.toList (ByteArray.data s)) (Int.toNat (at0 + z - 2)) 0)) : Int) = c % 256) = true, decide ((↑(UInt8.toNat (List.getD (Array.toList (ByteArray.data s)) (Int.toNat (at0 + z - 2)) 0)) : Int) = c % 256) = true, decide ((↑(UInt8.toNat (List.getD (Array.toList (ByteArray.data s)) (Int.toNat (at0 + z - 2)) 0)) : Int) = c % 256) = true, Value.int .i64 (IntKind.wrap .i64 (at0 + z)) = .int .i64 (at0 + z), decide ((↑(UInt8.toNat (List.getD (Array.toList (ByteArray.data s)) (Int.toNat (at0 + z - 2)) 0)) : Int) = c % 256) = true, Value.int .i64 (IntKind.wrap .i64 (at0 + z - 1)) = .int .i64 (at0 + z - 1), decide ((↑(UInt8.toNat (List.getD (Array.toList (ByteArray.data s)) (Int.toNat (at0 + z - 2)) 0)) : Int) = c % 256) = true, inside (at0 + z - 1) (ByteArray.size s) = true, decide ((↑(UInt8.toNat (List.getD (Array.toList (ByteArray.data s)) (Int.toNat (at0 + z - 2)) 0)) : Int) = c % 256) = true, decide ((↑(UInt8.toNat (List.getD (Array.toList (ByteArray.data s)) (Int.toNat (at0 + z - 2)) 0)) : Int) = c % 256) = true, Value.int IntKind.u16 (IntKind.wrap IntKind.u16 (Int.tdiv c 256)) = Value.int IntKind.u16 (c / 256), decide ((↑(UInt8.toNat (List.getD (Array.toList (ByteArray.data s)) (Int.toNat (at0 + z - 2)) 0)) : Int) = c % 256) = true, Value.int .u8 (IntKind.wrap IntKind.u8 (c / 256)) = .int .u8 (c / 256), decide ((↑(UInt8.toNat (List.getD (Array.toList (ByteArray.data s)) (Int.toNat (at0 + z - 2)) 0)) : Int) = c % 256) = true, decide ((↑(UInt8.toNat (List.getD (Array.toList (ByteArray.data s)) (Int.toNat (at0 + z - 2)) 0)) : Int) = c % 256) = true, (!decide ((↑(UInt8.toNat (List.getD (Array.toList (ByteArray.data s)) (Int.toNat (at0 + z - 1)) 0)) : Int) = c / 256)) = true, Value.int .i64 (IntKind.wrap .i64 (bad + 1)) = .int .i64 (bad + 1), Value.int .i64 (IntKind.wrap .i64 (at0 + 1)) = .int .i64 (at0 + 1)]) := by kernel_rfl
theorem m0_ok_ptftttf : go (body (Try.prog) (8) (0) (8) (kM) (lpM) (frM sn s n z slN is bad at0) ([.own 3 cs])) [(5, .dec true), (2, Itm.must), (3, .dec false), (2, Itm.val (.int .i64 (at0 + z))), (4, .dec true), (1, .dec true), (1, .dec true), (0, Itm.val (.int .i64 (at0 + 1))), (0, .dec true), (0, Itm.must), (1, .dec true), (1, .dec true), (1, .dec true), (5, .dec true), (2, Itm.val (.int .i64 (at0 + 1))), (2, Itm.val (.int .i64 (at0 + z))), (0, Itm.val (.int .i64 (at0 + z - 2))), (0, Itm.must), (0, Itm.must), (1, .call (.mk (Value.int IntKind.u16 c) [] [])), (7, Itm.val (.int .i64 (at0 + z))), (0, Itm.val (.int .i64 (at0 + z - 2))), (0, Itm.must), (3, Itm.val (Value.int IntKind.u16 (c % 256))), (0, Itm.val (.int .u8 (c % 256))), (2, .dec true), (1, .dec true), (1, .dec true), (1, .dec true), (0, Itm.val (.int .i64 (at0 + z))), (0, .dec true), (0, Itm.val (.int .i64 (at0 + z - 1))), (0, .dec true), (0, Itm.must), (1, .dec true), (1, .dec true), (1, Itm.val (Value.int IntKind.u16 (c / 256))), (0, .dec true), (0, Itm.val (.int .u8 (c / 256))), (0, .dec true), (1, .dec true), (6, .dec false), (3, Itm.val (.int .i64 (at0 + 2))), (0, Itm.must), (1, .call (.mk ((zSB 1 k k)) [.own 3 cs, .own 3 vs] [])), (8, Itm.val (.int .i64 (at0 + z)))] = some (Out.mk Xt.normal (frOf 108 [(0, .int .u8 sn), (1, .string s), (7, (zSB 0 n n)), (8, .int .i64 z), (10, (zSB 1 k k)), (11, .bool true), (12, .int .i64 bad), (13, .int .i64 (at0 + z))]) [.own 3 cs, .own 3 vs] [], true, [decide (at0 < (↑(ByteArray.size s) : Int)) = true, inside at0 (ByteArray.size s) = true, (!decide ((↑(UInt8.toNat (List.getD (Array.toList (ByteArray.data s)) (Int.toNat at0) 0)) : Int) = 165)) = false, Value.int .i64 (IntKind.wrap .i64 (at0 + z)) = .int .i64 (at0 + z), decide (at0 + z ≤ (↑(ByteArray.size s) : Int)) = true, decide (at0 + z ≤ (↑(ByteArray.size s) : Int)) = true, decide (at0 + z ≤ (↑(ByteArray.size s) : Int)) = true, Value.int .i64 (IntKind.wrap .i64 (at0 + 1)) = .int .i64 (at0 + 1), decide (at0 + z ≤ (↑(ByteArray.size s) : Int)) = true, inside (at0 + 1) (ByteArray.size s) = true, decide (at0 + z ≤ (↑(ByteArray.size s) : Int)) = true, decide (at0 + z ≤ (↑(ByteArray.size s) : Int)) = true, decide (at0 + z ≤ (↑(ByteArray.size s) : Int)) = true, decide ((↑(UInt8.toNat (List.getD (Array.toList (ByteArray.data s)) (Int.toNat (at0 + 1)) 0)) : Int) = sn) = true, Value.int .i64 (IntKind.wrap .i64 (at0 + 1)) = .int .i64 (at0 + 1), Value.int .i64 (IntKind.wrap .i64 (at0 + z)) = .int .i64 (at0 + z), Value.int .i64 (IntKind.wrap .i64 (at0 + z - 2)) = .int .i64 (at0 + z - 2), upto (at0 + z - 2) (ByteArray.size s) = true, upto (at0 + 1) (Int.toNat (at0 + z - 2)) = true, type_of% kC, Value.int .i64 (IntKind.wrap .i64 (at0 + z)) = .int .i64 (at0 + z), Value.int .i64 (IntKind.wrap .i64 (at0 + z - 2)) = .int .i64 (at0 + z - 2), inside (at0 + z - 2) (ByteArray.size s) = true, Value.int IntKind.u16 (Int.tmod c 256) = Value.int IntKind.u16 (c % 256), Value.int .u8 (IntKind.wrap IntKind.u8 (c % 256)) = .int .u8 (c % 256), decide ((↑(UInt8.toNat (List.getD (Array.toList (ByteArray.data s)) (Int.toNat (at0 + z - 2)) 0)) : Int) = c % 256) = true, decide ((↑(UInt8.toNat (List.getD (Array.toList (ByteArray.data s)) (Int.toNat (at0 + z - 2)) 0)) : Int) = c % 256) = true, decide ((↑(UInt8.toNat (List.getD (Array.toList (ByteArray.data s)) (Int.toNat (at0 + z - 2)) 0)) : Int) = c % 256) = true, decide ((↑(UInt8.toNat (List.getD (Array.toList (ByteArray.data s)) (Int.toNat (at0 + z - 2)) 0)) : Int) = c % 256) = true, Value.int .i64 (IntKind.wrap .i64 (at0 + z)) = .int .i64 (at0 + z), decide ((↑(UInt8.toNat (List.getD (Array.toList (ByteArray.data s)) (Int.toNat (at0 + z - 2)) 0)) : Int) = c % 256) = true, Value.int .i64 (IntKind.wrap .i64 (at0 + z - 1)) = .int .i64 (at0 + z - 1), decide ((↑(UInt8.toNat (List.getD (Array.toList (ByteArray.data s)) (Int.toNat (at0 + z - 2)) 0)) : Int) = c % 256) = true, inside (at0 + z - 1) (ByteArray.size s) = true, decide ((↑(UInt8.toNat (List.getD (Array.toList (ByteArray.data s)) (Int.toNat (at0 + z - 2)) 0)) : Int) = c % 256) = true, decide ((↑(UInt8.toNat (List.getD (Array.toList (ByteArray.data s)) (Int.toNat (at0 + z - 2)) 0)) : Int) = c % 256) = true, Value.int IntKind.u16 (IntKind.wrap IntKind.u16 (Int.tdiv c 256)) = Value.int IntKind.u16 (c / 256), decide ((↑(UInt8.toNat (List.getD (Array.toList (ByteArray.data s)) (Int.toNat (at0 + z - 2)) 0)) : Int) = c % 256) = true, Value.int .u8 (IntKind.wrap IntKind.u8 (c / 256)) = .int .u8 (c / 256), decide ((↑(UInt8.toNat (List.getD (Array.toList (ByteArray.data s)) (Int.toNat (at0 + z - 2)) 0)) : Int) = c % 256) = true, decide ((↑(UInt8.toNat (List.getD (Array.toList (ByteArray.data s)) (Int.toNat (at0 + z - 2)) 0)) : Int) = c % 256) = true, (!decide ((↑(UInt8.toNat (List.getD (Array.toList (ByteArray.data s)) (Int.toNat (at0 + z - 1)) 0)) : Int) = c / 256)) = false, Value.int .i64 (IntKind.wrap .i64 (at0 + 2)) = .int .i64 (at0 + 2), upto (at0 + 2) (ByteArray.size s) = true, CallSpec Try.prog 26 [(zSB 0 n n), .string (ByteArray.extract s (Int.toNat (at0 + 2)) (ByteArray.size s))] [.own 3 cs] (.mk ((zSB 1 k k)) [.own 3 cs, .own 3 vs] []), Value.int .i64 (IntKind.wrap .i64 (at0 + z)) = .int .i64 (at0 + z)]) := by kernel_rfl
theorem m0_ok_ptfttf : go (body (Try.prog) (8) (0) (8) (kM) (lpM) (frM sn s n z slN is bad at0) ([.own 3 cs])) [(5, .dec true), (2, Itm.must), (3, .dec false), (2, Itm.val (.int .i64 (at0 + z))), (4, .dec true), (1, .dec true), (1, .dec true), (0, Itm.val (.int .i64 (at0 + 1))), (0, .dec true), (0, Itm.must), (1, .dec true), (1, .dec true), (1, .dec true), (5, .dec true), (2, Itm.val (.int .i64 (at0 + 1))), (2, Itm.val (.int .i64 (at0 + z))), (0, Itm.val (.int .i64 (at0 + z - 2))), (0, Itm.must), (0, Itm.must), (1, .call (.mk (Value.int IntKind.u16 c) [] [])), (7, Itm.val (.int .i64 (at0 + z))), (0, Itm.val (.int .i64 (at0 + z - 2))), (0, Itm.must), (3, Itm.val (Value.int IntKind.u16 (c % 256))), (0, Itm.val (.int .u8 (c % 256))), (2, .dec false), (0, .dec false), (0, .dec false), (0, .dec false), (0, .dec false), (0, .dec false), (0, .dec false), (0, .dec false), (0, .dec false), (0, .dec false), (0, .dec false), (8, Itm.val (.int .i64 (bad + 1))), (3, Itm.val (.int .i64 (at0 + 1)))] = some (Out.mk Xt.normal (frOf 108 [(0, .int .u8 sn), (1, .string s), (7, (zSB 0 n n)), (8, .int .i64 z), (10, zSN), (11, .bool is), (12, .int .i64 (bad + 1)), (13, .int .i64 (at0 + 1))]) [.own 3 cs] [], true, [decide (at0 < (↑(ByteArray.size s) : Int)) = true, inside at0 (ByteArray.size s) = true, (!decide ((↑(UInt8.toNat (List.getD (Array.toList (ByteArray.data s)) (Int.toNat at0) 0)) : Int) = 165)) = false, Value.int .i64 (IntKind.wrap .i64 (at0 + z)) = .int .i64 (at0 + z), decide (at0 + z ≤ (↑(ByteArray.size s) : Int)) = true, decide (at0 + z ≤ (↑(ByteArray.size s) : Int)) = true, decide (at0 + z ≤ (↑(ByteArray.size s) : Int)) = true, Value.int .i64 (IntKind.wrap .i64 (at0 + 1)) = .int .i64 (at0 + 1), decide (at0 + z ≤ (↑(ByteArray.size s) : Int)) = true, inside (at0 + 1) (ByteArray.size s) = true, decide (at0 + z ≤ (↑(ByteArray.size s) : Int)) = true, decide (at0 + z ≤ (↑(ByteArray.size s) : Int)) = true, decide (at0 + z ≤ (↑(ByteArray.size s) : Int)) = true, decide ((↑(UInt8.toNat (List.getD (Array.toList (ByteArray.data s)) (Int.toNat (at0 + 1)) 0)) : Int) = sn) = true, Value.int .i64 (IntKind.wrap .i64 (at0 + 1)) = .int .i64 (at0 + 1), Value.int .i64 (IntKind.wrap .i64 (at0 + z)) = .int .i64 (at0 + z), Value.int .i64 (IntKind.wrap .i64 (at0 + z - 2)) = .int .i64 (at0 + z - 2), upto (at0 + z - 2) (ByteArray.size s) = true, upto (at0 + 1) (Int.toNat (at0 + z - 2)) = true, type_of% kC, Value.int .i64 (IntKind.wrap .i64 (at0 + z)) = .int .i64 (at0 + z), Value.int .i64 (IntKind.wrap .i64 (at0 + z - 2)) = .int .i64 (at0 + z - 2), inside (at0 + z - 2) (ByteArray.size s) = true, Value.int IntKind.u16 (Int.tmod c 256) = Value.int IntKind.u16 (c % 256), Value.int .u8 (IntKind.wrap IntKind.u8 (c % 256)) = .int .u8 (c % 256), decide ((↑(UInt8.toNat (List.getD (Array.toList (ByteArray.data s)) (Int.toNat (at0 + z - 2)) 0)) : Int) = c % 256) = false, decide ((↑(UInt8.toNat (List.getD (Array.toList (ByteArray.data s)) (Int.toNat (at0 + z - 2)) 0)) : Int) = c % 256) = false, decide ((↑(UInt8.toNat (List.getD (Array.toList (ByteArray.data s)) (Int.toNat (at0 + z - 2)) 0)) : Int) = c % 256) = false, decide ((↑(UInt8.toNat (List.getD (Array.toList (ByteArray.data s)) (Int.toNat (at0 + z - 2)) 0)) : Int) = c % 256) = false, decide ((↑(UInt8.toNat (List.getD (Array.toList (ByteArray.data s)) (Int.toNat (at0 + z - 2)) 0)) : Int) = c % 256) = false, decide ((↑(UInt8.toNat (List.getD (Array.toList (ByteArray.data s)) (Int.toNat (at0 + z - 2)) 0)) : Int) = c % 256) = false, decide ((↑(UInt8.toNat (List.getD (Array.toList (ByteArray.data s)) (Int.toNat (at0 + z - 2)) 0)) : Int) = c % 256) = false, decide ((↑(UInt8.toNat (List.getD (Array.toList (ByteArray.data s)) (Int.toNat (at0 + z - 2)) 0)) : Int) = c % 256) = false, decide ((↑(UInt8.toNat (List.getD (Array.toList (ByteArray.data s)) (Int.toNat (at0 + z - 2)) 0)) : Int) = c % 256) = false, decide ((↑(UInt8.toNat (List.getD (Array.toList (ByteArray.data s)) (Int.toNat (at0 + z - 2)) 0)) : Int) = c % 256) = false, decide ((↑(UInt8.toNat (List.getD (Array.toList (ByteArray.data s)) (Int.toNat (at0 + z - 2)) 0)) : Int) = c % 256) = false, Value.int .i64 (IntKind.wrap .i64 (bad + 1)) = .int .i64 (bad + 1), Value.int .i64 (IntKind.wrap .i64 (at0 + 1)) = .int .i64 (at0 + 1)]) := by kernel_rfl
theorem m0_ok_ptftf : go (body (Try.prog) (8) (0) (8) (kM) (lpM) (frM sn s n z slN is bad at0) ([.own 3 cs])) [(5, .dec true), (2, Itm.must), (3, .dec false), (2, Itm.val (.int .i64 (at0 + z))), (4, .dec true), (1, .dec true), (1, .dec true), (0, Itm.val (.int .i64 (at0 + 1))), (0, .dec true), (0, Itm.must), (1, .dec true), (1, .dec true), (1, .dec true), (5, .dec false), (3, .dec true), (1, Itm.val (.int .i64 (bad + 1))), (3, Itm.val (.int .i64 (at0 + 1)))] = some (Out.mk Xt.normal (frOf 108 [(0, .int .u8 sn), (1, .string s), (7, (zSB 0 n n)), (8, .int .i64 z), (10, zSN), (11, .bool is), (12, .int .i64 (bad + 1)), (13, .int .i64 (at0 + 1))]) [.own 3 cs] [], true, [decide (at0 < (↑(ByteArray.size s) : Int)) = true, inside at0 (ByteArray.size s) = true, (!decide ((↑(UInt8.toNat (List.getD (Array.toList (ByteArray.data s)) (Int.toNat at0) 0)) : Int) = 165)) = false, Value.int .i64 (IntKind.wrap .i64 (at0 + z)) = .int .i64 (at0 + z), decide (at0 + z ≤ (↑(ByteArray.size s) : Int)) = true, decide (at0 + z ≤ (↑(ByteArray.size s) : Int)) = true, decide (at0 + z ≤ (↑(ByteArray.size s) : Int)) = true, Value.int .i64 (IntKind.wrap .i64 (at0 + 1)) = .int .i64 (at0 + 1), decide (at0 + z ≤ (↑(ByteArray.size s) : Int)) = true, inside (at0 + 1) (ByteArray.size s) = true, decide (at0 + z ≤ (↑(ByteArray.size s) : Int)) = true, decide (at0 + z ≤ (↑(ByteArray.size s) : Int)) = true, decide (at0 + z ≤ (↑(ByteArray.size s) : Int)) = true, decide ((↑(UInt8.toNat (List.getD (Array.toList (ByteArray.data s)) (Int.toNat (at0 + 1)) 0)) : Int) = sn) = false, (!decide ((↑(UInt8.toNat (List.getD (Array.toList (ByteArray.data s)) (Int.toNat (at0 + 1)) 0)) : Int) = sn)) = true, Value.int .i64 (IntKind.wrap .i64 (bad + 1)) = .int .i64 (bad + 1), Value.int .i64 (IntKind.wrap .i64 (at0 + 1)) = .int .i64 (at0 + 1)]) := by kernel_rfl
theorem m0_ok_ptff : go (body (Try.prog) (8) (0) (8) (kM) (lpM) (frM sn s n z slN is bad at0) ([.own 3 cs])) [(5, .dec true), (2, Itm.must), (3, .dec false), (2, Itm.val (.int .i64 (at0 + z))), (4, .dec false), (0, .dec false), (0, .dec false), (0, .dec false), (0, .dec false), (0, .dec false), (0, .dec false), (11, Itm.val (.int .i64 (bad + 1))), (3, Itm.val (.int .i64 (at0 + 1)))] = some (Out.mk Xt.normal (frOf 108 [(0, .int .u8 sn), (1, .string s), (7, (zSB 0 n n)), (8, .int .i64 z), (10, zSN), (11, .bool is), (12, .int .i64 (bad + 1)), (13, .int .i64 (at0 + 1))]) [.own 3 cs] [], true, [decide (at0 < (↑(ByteArray.size s) : Int)) = true, inside at0 (ByteArray.size s) = true, (!decide ((↑(UInt8.toNat (List.getD (Array.toList (ByteArray.data s)) (Int.toNat at0) 0)) : Int) = 165)) = false, Value.int .i64 (IntKind.wrap .i64 (at0 + z)) = .int .i64 (at0 + z), decide (at0 + z ≤ (↑(ByteArray.size s) : Int)) = false, decide (at0 + z ≤ (↑(ByteArray.size s) : Int)) = false, decide (at0 + z ≤ (↑(ByteArray.size s) : Int)) = false, decide (at0 + z ≤ (↑(ByteArray.size s) : Int)) = false, decide (at0 + z ≤ (↑(ByteArray.size s) : Int)) = false, decide (at0 + z ≤ (↑(ByteArray.size s) : Int)) = false, decide (at0 + z ≤ (↑(ByteArray.size s) : Int)) = false, Value.int .i64 (IntKind.wrap .i64 (bad + 1)) = .int .i64 (bad + 1), Value.int .i64 (IntKind.wrap .i64 (at0 + 1)) = .int .i64 (at0 + 1)]) := by kernel_rfl
theorem m0_ok_pf : go (body (Try.prog) (8) (0) (8) (kM) (lpM) (frM sn s n z slN is bad at0) ([.own 3 cs])) [(5, .dec false)] = some (Out.mk (Xt.exit 2) (frOf 108 [(10, zSN), (11, .bool is), (12, .int .i64 bad)]) [] [], true, [decide (at0 < (↑(ByteArray.size s) : Int)) = false]) := by kernel_rfl
theorem m0_ok (R : Out) (k_ptt : (h0 : at0 < (↑(ByteArray.size s) : Int)) → (h1 : ¬(↑(UInt8.toNat (List.getD (Array.toList (ByteArray.data s)) (Int.toNat at0) 0)) : Int) = 165) → Out.le (Out.mk Xt.normal (frOf 108 [(0, .int .u8 sn), (1, .string s), (7, (zSB 0 n n)), (8, .int .i64 z), (10, zSN), (11, .bool is), (12, .int .i64 bad), (13, .int .i64 (at0 + 1))]) [.own 3 cs] []) R) (k_ptftttt : (h0 : at0 < (↑(ByteArray.size s) : Int)) → (h1 : ¬ (¬(↑(UInt8.toNat (List.getD (Array.toList (ByteArray.data s)) (Int.toNat at0) 0)) : Int) = 165)) → (h2 : at0 + z ≤ (↑(ByteArray.size s) : Int)) → (h3 : (↑(UInt8.toNat (List.getD (Array.toList (ByteArray.data s)) (Int.toNat (at0 + 1)) 0)) : Int) = sn) → (h4 : (↑(UInt8.toNat (List.getD (Array.toList (ByteArray.data s)) (Int.toNat (at0 + z - 2)) 0)) : Int) = c % 256) → (h5 : ¬(↑(UInt8.toNat (List.getD (Array.toList (ByteArray.data s)) (Int.toNat (at0 + z - 1)) 0)) : Int) = c / 256) → Out.le (Out.mk Xt.normal (frOf 108 [(0, .int .u8 sn), (1, .string s), (7, (zSB 0 n n)), (8, .int .i64 z), (10, zSN), (11, .bool is), (12, .int .i64 (bad + 1)), (13, .int .i64 (at0 + 1))]) [.own 3 cs] []) R) (k_ptftttf : (h0 : at0 < (↑(ByteArray.size s) : Int)) → (h1 : ¬ (¬(↑(UInt8.toNat (List.getD (Array.toList (ByteArray.data s)) (Int.toNat at0) 0)) : Int) = 165)) → (h2 : at0 + z ≤ (↑(ByteArray.size s) : Int)) → (h3 : (↑(UInt8.toNat (List.getD (Array.toList (ByteArray.data s)) (Int.toNat (at0 + 1)) 0)) : Int) = sn) → (h4 : (↑(UInt8.toNat (List.getD (Array.toList (ByteArray.data s)) (Int.toNat (at0 + z - 2)) 0)) : Int) = c % 256) → (h5 : ¬ (¬(↑(UInt8.toNat (List.getD (Array.toList (ByteArray.data s)) (Int.toNat (at0 + z - 1)) 0)) : Int) = c / 256)) → Out.le (Out.mk Xt.normal (frOf 108 [(0, .int .u8 sn), (1, .string s), (7, (zSB 0 n n)), (8, .int .i64 z), (10, (zSB 1 k k)), (11, .bool true), (12, .int .i64 bad), (13, .int .i64 (at0 + z))]) [.own 3 cs, .own 3 vs] []) R) (k_ptfttf : (h0 : at0 < (↑(ByteArray.size s) : Int)) → (h1 : ¬ (¬(↑(UInt8.toNat (List.getD (Array.toList (ByteArray.data s)) (Int.toNat at0) 0)) : Int) = 165)) → (h2 : at0 + z ≤ (↑(ByteArray.size s) : Int)) → (h3 : (↑(UInt8.toNat (List.getD (Array.toList (ByteArray.data s)) (Int.toNat (at0 + 1)) 0)) : Int) = sn) → (h4 : ¬ ((↑(UInt8.toNat (List.getD (Array.toList (ByteArray.data s)) (Int.toNat (at0 + z - 2)) 0)) : Int) = c % 256)) → Out.le (Out.mk Xt.normal (frOf 108 [(0, .int .u8 sn), (1, .string s), (7, (zSB 0 n n)), (8, .int .i64 z), (10, zSN), (11, .bool is), (12, .int .i64 (bad + 1)), (13, .int .i64 (at0 + 1))]) [.own 3 cs] []) R) (k_ptftf : (h0 : at0 < (↑(ByteArray.size s) : Int)) → (h1 : ¬ (¬(↑(UInt8.toNat (List.getD (Array.toList (ByteArray.data s)) (Int.toNat at0) 0)) : Int) = 165)) → (h2 : at0 + z ≤ (↑(ByteArray.size s) : Int)) → (h3 : ¬ ((↑(UInt8.toNat (List.getD (Array.toList (ByteArray.data s)) (Int.toNat (at0 + 1)) 0)) : Int) = sn)) → Out.le (Out.mk Xt.normal (frOf 108 [(0, .int .u8 sn), (1, .string s), (7, (zSB 0 n n)), (8, .int .i64 z), (10, zSN), (11, .bool is), (12, .int .i64 (bad + 1)), (13, .int .i64 (at0 + 1))]) [.own 3 cs] []) R) (k_ptff : (h0 : at0 < (↑(ByteArray.size s) : Int)) → (h1 : ¬ (¬(↑(UInt8.toNat (List.getD (Array.toList (ByteArray.data s)) (Int.toNat at0) 0)) : Int) = 165)) → (h2 : ¬ (at0 + z ≤ (↑(ByteArray.size s) : Int))) → Out.le (Out.mk Xt.normal (frOf 108 [(0, .int .u8 sn), (1, .string s), (7, (zSB 0 n n)), (8, .int .i64 z), (10, zSN), (11, .bool is), (12, .int .i64 (bad + 1)), (13, .int .i64 (at0 + 1))]) [.own 3 cs] []) R) (k_pf : (h0 : ¬ (at0 < (↑(ByteArray.size s) : Int))) → Out.le (Out.mk (Xt.exit 2) (frOf 108 [(10, zSN), (11, .bool is), (12, .int .i64 bad)]) [] []) R) : CodeSpec (Try.prog) (0) (lpM) (frM sn s n z slN is bad at0) ([.own 3 cs]) R := by
  by_cases h0 : at0 < (↑(ByteArray.size s) : Int)
  · by_cases h1 : ¬(↑(UInt8.toNat (List.getD (Array.toList (ByteArray.data s)) (Int.toNat at0) 0)) : Int) = 165
    · exact (CodeSpec.id (go_ok (body_ok tnamed tcalm tmixed _ _ _ _ _ _ lpM_calm) (m0_ok_ptt sn z c at0 bad is s n k cs vs hs hz ha hc hb kC kF ) (aC (dTq h0) (aC (inside_of (by omega)) (aC ((by simpa using h1)) (aC (congrArg (Value.int _) (Go.IntWalk.i64_in _ (by omega))) aN)))))).le (k_ptt h0 h1)
    · by_cases h2 : at0 + z ≤ (↑(ByteArray.size s) : Int)
      · by_cases h3 : (↑(UInt8.toNat (List.getD (Array.toList (ByteArray.data s)) (Int.toNat (at0 + 1)) 0)) : Int) = sn
        · by_cases h4 : (↑(UInt8.toNat (List.getD (Array.toList (ByteArray.data s)) (Int.toNat (at0 + z - 2)) 0)) : Int) = c % 256
          · by_cases h5 : ¬(↑(UInt8.toNat (List.getD (Array.toList (ByteArray.data s)) (Int.toNat (at0 + z - 1)) 0)) : Int) = c / 256
            · exact (CodeSpec.id (go_ok (body_ok tnamed tcalm tmixed _ _ _ _ _ _ lpM_calm) (m0_ok_ptftttt sn z c at0 bad is s n k cs vs hs hz ha hc hb kC kF ) (aC (dTq h0) (aC (inside_of (by omega)) (aC ((by simpa using h1)) (aC (congrArg (Value.int _) (Go.IntWalk.i64_in _ (by omega))) (aC (dTq h2) (aC (dTq h2) (aC (dTq h2) (aC (congrArg (Value.int _) (Go.IntWalk.i64_in _ (by omega))) (aC (dTq h2) (aC (inside_of (by omega)) (aC (dTq h2) (aC (dTq h2) (aC (dTq h2) (aC (dTq h3) (aC (congrArg (Value.int _) (Go.IntWalk.i64_in _ (by omega))) (aC (congrArg (Value.int _) (Go.IntWalk.i64_in _ (by omega))) (aC (congrArg (Value.int _) (Go.IntWalk.i64_in _ (by omega))) (aC (upto_of (by omega)) (aC (upto_of (by omega)) (aC (kC) (aC (congrArg (Value.int _) (Go.IntWalk.i64_in _ (by omega))) (aC (congrArg (Value.int _) (Go.IntWalk.i64_in _ (by omega))) (aC (inside_of (by omega)) (aC (congrArg (Value.int _) (Int.tmod_eq_emod_of_nonneg (by omega))) (aC (congrArg (Value.int _) (Go.IntWalk.u8_in _ (by omega))) (aC (dTq h4) (aC (dTq h4) (aC (dTq h4) (aC (dTq h4) (aC (congrArg (Value.int _) (Go.IntWalk.i64_in _ (by omega))) (aC (dTq h4) (aC (congrArg (Value.int _) (Go.IntWalk.i64_in _ (by omega))) (aC (dTq h4) (aC (inside_of (by omega)) (aC (dTq h4) (aC (dTq h4) (aC (congrArg (Value.int _) (quo_in ⟨by omega, by simp [IntKind.max, IntKind.bits, IntKind.signed] <;> omega, by omega⟩)) (aC (dTq h4) (aC (congrArg (Value.int _) (Go.IntWalk.u8_in _ (by omega))) (aC (dTq h4) (aC (dTq h4) (aC ((by simpa using h5)) (aC (congrArg (Value.int _) (Go.IntWalk.i64_in _ (by omega))) (aC (congrArg (Value.int _) (Go.IntWalk.i64_in _ (by omega))) aN)))))))))))))))))))))))))))))))))))))))))))))).le (k_ptftttt h0 h1 h2 h3 h4 h5)
            · exact (CodeSpec.id (go_ok (body_ok tnamed tcalm tmixed _ _ _ _ _ _ lpM_calm) (m0_ok_ptftttf sn z c at0 bad is s n k cs vs hs hz ha hc hb kC kF ) (aC (dTq h0) (aC (inside_of (by omega)) (aC ((by simpa using h1)) (aC (congrArg (Value.int _) (Go.IntWalk.i64_in _ (by omega))) (aC (dTq h2) (aC (dTq h2) (aC (dTq h2) (aC (congrArg (Value.int _) (Go.IntWalk.i64_in _ (by omega))) (aC (dTq h2) (aC (inside_of (by omega)) (aC (dTq h2) (aC (dTq h2) (aC (dTq h2) (aC (dTq h3) (aC (congrArg (Value.int _) (Go.IntWalk.i64_in _ (by omega))) (aC (congrArg (Value.int _) (Go.IntWalk.i64_in _ (by omega))) (aC (congrArg (Value.int _) (Go.IntWalk.i64_in _ (by omega))) (aC (upto_of (by omega)) (aC (upto_of (by omega)) (aC (kC) (aC (congrArg (Value.int _) (Go.IntWalk.i64_in _ (by omega))) (aC (congrArg (Value.int _) (Go.IntWalk.i64_in _ (by omega))) (aC (inside_of (by omega)) (aC (congrArg (Value.int _) (Int.tmod_eq_emod_of_nonneg (by omega))) (aC (congrArg (Value.int _) (Go.IntWalk.u8_in _ (by omega))) (aC (dTq h4) (aC (dTq h4) (aC (dTq h4) (aC (dTq h4) (aC (congrArg (Value.int _) (Go.IntWalk.i64_in _ (by omega))) (aC (dTq h4) (aC (congrArg (Value.int _) (Go.IntWalk.i64_in _ (by omega))) (aC (dTq h4) (aC (inside_of (by omega)) (aC (dTq h4) (aC (dTq h4) (aC (congrArg (Value.int _) (quo_in ⟨by omega, by simp [IntKind.max, IntKind.bits, IntKind.signed] <;> omega, by omega⟩)) (aC (dTq h4) (aC (congrArg (Value.int _) (Go.IntWalk.u8_in _ (by omega))) (aC (dTq h4) (aC (dTq h4) (aC ((by simpa using h5)) (aC (congrArg (Value.int _) (Go.IntWalk.i64_in _ (by omega))) (aC (upto_of (by omega)) (aC ((kF (by assumption))) (aC (congrArg (Value.int _) (Go.IntWalk.i64_in _ (by omega))) aN)))))))))))))))))))))))))))))))))))))))))))))))).le (k_ptftttf h0 h1 h2 h3 h4 h5)
          · exact (CodeSpec.id (go_ok (body_ok tnamed tcalm tmixed _ _ _ _ _ _ lpM_calm) (m0_ok_ptfttf sn z c at0 bad is s n k cs vs hs hz ha hc hb kC kF ) (aC (dTq h0) (aC (inside_of (by omega)) (aC ((by simpa using h1)) (aC (congrArg (Value.int _) (Go.IntWalk.i64_in _ (by omega))) (aC (dTq h2) (aC (dTq h2) (aC (dTq h2) (aC (congrArg (Value.int _) (Go.IntWalk.i64_in _ (by omega))) (aC (dTq h2) (aC (inside_of (by omega)) (aC (dTq h2) (aC (dTq h2) (aC (dTq h2) (aC (dTq h3) (aC (congrArg (Value.int _) (Go.IntWalk.i64_in _ (by omega))) (aC (congrArg (Value.int _) (Go.IntWalk.i64_in _ (by omega))) (aC (congrArg (Value.int _) (Go.IntWalk.i64_in _ (by omega))) (aC (upto_of (by omega)) (aC (upto_of (by omega)) (aC (kC) (aC (congrArg (Value.int _) (Go.IntWalk.i64_in _ (by omega))) (aC (congrArg (Value.int _) (Go.IntWalk.i64_in _ (by omega))) (aC (inside_of (by omega)) (aC (congrArg (Value.int _) (Int.tmod_eq_emod_of_nonneg (by omega))) (aC (congrArg (Value.int _) (Go.IntWalk.u8_in _ (by omega))) (aC (dFq h4) (aC (dFq h4) (aC (dFq h4) (aC (dFq h4) (aC (dFq h4) (aC (dFq h4) (aC (dFq h4) (aC (dFq h4) (aC (dFq h4) (aC (dFq h4) (aC (dFq h4) (aC (congrArg (Value.int _) (Go.IntWalk.i64_in _ (by omega))) (aC (congrArg (Value.int _) (Go.IntWalk.i64_in _ (by omega))) aN)))))))))))))))))))))))))))))))))))))))).le (k_ptfttf h0 h1 h2 h3 h4)
        · exact (CodeSpec.id (go_ok (body_ok tnamed tcalm tmixed _ _ _ _ _ _ lpM_calm) (m0_ok_ptftf sn z c at0 bad is s n k cs vs hs hz ha hc hb kC kF ) (aC (dTq h0) (aC (inside_of (by omega)) (aC ((by simpa using h1)) (aC (congrArg (Value.int _) (Go.IntWalk.i64_in _ (by omega))) (aC (dTq h2) (aC (dTq h2) (aC (dTq h2) (aC (congrArg (Value.int _) (Go.IntWalk.i64_in _ (by omega))) (aC (dTq h2) (aC (inside_of (by omega)) (aC (dTq h2) (aC (dTq h2) (aC (dTq h2) (aC (dFq h3) (aC (congrArg not dN) (aC (congrArg (Value.int _) (Go.IntWalk.i64_in _ (by omega))) (aC (congrArg (Value.int _) (Go.IntWalk.i64_in _ (by omega))) aN))))))))))))))))))).le (k_ptftf h0 h1 h2 h3)
      · exact (CodeSpec.id (go_ok (body_ok tnamed tcalm tmixed _ _ _ _ _ _ lpM_calm) (m0_ok_ptff sn z c at0 bad is s n k cs vs hs hz ha hc hb kC kF ) (aC (dTq h0) (aC (inside_of (by omega)) (aC ((by simpa using h1)) (aC (congrArg (Value.int _) (Go.IntWalk.i64_in _ (by omega))) (aC (dFq h2) (aC (dFq h2) (aC (dFq h2) (aC (dFq h2) (aC (dFq h2) (aC (dFq h2) (aC (dFq h2) (aC (congrArg (Value.int _) (Go.IntWalk.i64_in _ (by omega))) (aC (congrArg (Value.int _) (Go.IntWalk.i64_in _ (by omega))) aN))))))))))))))).le (k_ptff h0 h1 h2)
  · exact (CodeSpec.id (go_ok (body_ok tnamed tcalm tmixed _ _ _ _ _ _ lpM_calm) (m0_ok_pf sn z c at0 bad is s n k cs vs hs hz ha hc hb kC kF ) (aC (dFq h0) aN))).le (k_pf h0)
end
section
variable (sn z c at0 bad : Int) (is : Bool) (s : ByteArray) (n k j : Nat) (cs vs us : List Value) (hs : ByteArray.size s ≤ 140737488351232) (hz : 4 ≤ z ∧ z ≤ 100) (ha : 0 ≤ at0 ∧ at0 ≤ (↑(ByteArray.size s) : Int)) (hc : 0 ≤ c ∧ c ≤ 65535) (hb : 0 ≤ bad ∧ bad ≤ 281474976710656) (kC : CallSpec Try.prog 25 [.string (ByteArray.extract s (Int.toNat (at0 + 1)) (Int.toNat (at0 + z - 2)))] [] (.mk (Value.int IntKind.u16 c) [] [])) (kF : at0 + z ≤ (↑(ByteArray.size s) : Int) → CallSpec Try.prog 26 [slB 0 n n, .string (ByteArray.extract s (Int.toNat (at0 + 2)) (ByteArray.size s))] [.own 3 cs] (.mk (slB 1 k k) [.own 3 cs, .own 3 vs] []))
include sn z c at0 bad is s n k j cs vs us hs hz ha hc hb kC kF
theorem m1_ok_ptt : go (body (Try.prog) (8) (0) (8) (kM) (lpM) (frM sn s n z (slB 1 j j) is bad at0) ([.own 3 cs, .own 3 us])) [(5, .dec true), (2, Itm.must), (3, .dec true), (1, Itm.val (.int .i64 (at0 + 1)))] = some (Out.mk Xt.normal (frOf 108 [(0, .int .u8 sn), (1, .string s), (7, (zSB 0 n n)), (8, .int .i64 z), (10, (zSB 1 j j)), (11, .bool is), (12, .int .i64 bad), (13, .int .i64 (at0 + 1))]) [.own 3 cs, .own 3 us] [], true, [decide (at0 < (↑(ByteArray.size s) : Int)) = true, inside at0 (ByteArray.size s) = true, (!decide ((↑(UInt8.toNat (List.getD (Array.toList (ByteArray.data s)) (Int.toNat at0) 0)) : Int) = 165)) = true, Value.int .i64 (IntKind.wrap .i64 (at0 + 1)) = .int .i64 (at0 + 1)]) := by kernel_rfl
theorem m1_ok_ptftttt : go (body (Try.prog) (8) (0) (8) (kM) (lpM) (frM sn s n z (slB 1 j j) is bad at0) ([.own 3 cs, .own 3 us])) [(5, .dec true), (2, Itm.must), (3, .dec false), (2, Itm.val (.int .i64 (at0 + z))), (4, .dec true), (1, .dec true), (1, .dec true), (0, Itm.val (.int .i64 (at0 + 1))), (0, .dec true), (0, Itm.must), (1, .dec true), (1, .dec true), (1, .dec true), (5, .dec true), (2, Itm.val (.int .i64 (at0 + 1))), (2, Itm.val (.int .i64 (at0 + z))), (0, Itm.val (.int .i64 (at0 + z - 2))), (0, Itm.must), (0, Itm.must), (1, .call (.mk (Value.int IntKind.u16 c) [] [])), (7, Itm.val (.int .i64 (at0 + z))), (0, Itm.val (.int .i64 (at0 + z - 2))), (0, Itm.must), (3, Itm.val (Value.int IntKind.u16 (c % 256))), (0, Itm.val (.int .u8 (c % 256))), (2, .dec true), (1, .dec true), (1, .dec true), (1, .dec true), (0, Itm.val (.int .i64 (at0 + z))), (0, .dec true), (0, Itm.val (.int .i64 (at0 + z - 1))), (0, .dec true), (0, Itm.must), (1, .dec true), (1, .dec true), (1, Itm.val (Value.int IntKind.u16 (c / 256))), (0, .dec true), (0, Itm.val (.int .u8 (c / 256))), (0, .dec true), (1, .dec true), (6, .dec true), (1, Itm.val (.int .i64 (bad + 1))), (3, Itm.val (.int .i64 (at0 + 1)))] = some (Out.mk Xt.normal (frOf 108 [(0, .int .u8 sn), (1, .string s), (7, (zSB 0 n n)), (8, .int .i64 z), (10, (zSB 1 j j)), (11, .bool is), (12, .int .i64 (bad + 1)), (13, .int .i64 (at0 + 1))]) [.own 3 cs, .own 3 us] [], true, [decide (at0 < (↑(ByteArray.size s) : Int)) = true, inside at0 (ByteArray.size s) = true, (!decide ((↑(UInt8.toNat (List.getD (Array.toList (ByteArray.data s)) (Int.toNat at0) 0)) : Int) = 165)) = false, Value.int .i64 (IntKind.wrap .i64 (at0 + z)) = .int .i64 (at0 + z), decide (at0 + z ≤ (↑(ByteArray.size s) : Int)) = true, decide (at0 + z ≤ (↑(ByteArray.size s) : Int)) = true, decide (at0 + z ≤ (↑(ByteArray.size s) : Int)) = true, Value.int .i64 (IntKind.wrap .i64 (at0 + 1)) = .int .i64 (at0 + 1), decide (at0 + z ≤ (↑(ByteArray.size s) : Int)) = true, inside (at0 + 1) (ByteArray.size s) = true, decide (at0 + z ≤ (↑(ByteArray.size s) : Int)) = true, decide (at0 + z ≤ (↑(ByteArray.size s) : Int)) = true, decide (at0 + z ≤ (↑(ByteArray.size s) : Int)) = true, decide ((↑(UInt8.toNat (List.getD (Array.toList (ByteArray.data s)) (Int.toNat (at0 + 1)) 0)) : Int) = sn) = true, Value.int .i64 (IntKind.wrap .i64 (at0 + 1)) = .int .i64 (at0 + 1), Value.int .i64 (IntKind.wrap .i64 (at0 + z)) = .int .i64 (at0 + z), Value.int .i64 (IntKind.wrap .i64 (at0 + z - 2)) = .int .i64 (at0 + z - 2), upto (at0 + z - 2) (ByteArray.size s) = true, upto (at0 + 1) (Int.toNat (at0 + z - 2)) = true, type_of% kC, Value.int .i64 (IntKind.wrap .i64 (at0 + z)) = .int .i64 (at0 + z), Value.int .i64 (IntKind.wrap .i64 (at0 + z - 2)) = .int .i64 (at0 + z - 2), inside (at0 + z - 2) (ByteArray.size s) = true, Value.int IntKind.u16 (Int.tmod c 256) = Value.int IntKind.u16 (c % 256), Value.int .u8 (IntKind.wrap IntKind.u8 (c % 256)) = .int .u8 (c % 256), decide ((↑(UInt8.toNat (List.getD (Array.toList (ByteArray.data s)) (Int.toNat (at0 + z - 2)) 0)) : Int) = c % 256) = true, decide ((↑(UInt8.toNat (List.getD (Array.toList (ByteArray.data s)) (Int.toNat (at0 + z - 2)) 0)) : Int) = c % 256) = true, decide ((↑(UInt8.toNat (List.getD (Array.toList (ByteArray.data s)) (Int.toNat (at0 + z - 2)) 0)) : Int) = c % 256) = true, decide ((↑(UInt8.toNat (List.getD (Array.toList (ByteArray.data s)) (Int.toNat (at0 + z - 2)) 0)) : Int) = c % 256) = true, Value.int .i64 (IntKind.wrap .i64 (at0 + z)) = .int .i64 (at0 + z), decide ((↑(UInt8.toNat (List.getD (Array.toList (ByteArray.data s)) (Int.toNat (at0 + z - 2)) 0)) : Int) = c % 256) = true, Value.int .i64 (IntKind.wrap .i64 (at0 + z - 1)) = .int .i64 (at0 + z - 1), decide ((↑(UInt8.toNat (List.getD (Array.toList (ByteArray.data s)) (Int.toNat (at0 + z - 2)) 0)) : Int) = c % 256) = true, inside (at0 + z - 1) (ByteArray.size s) = true, decide ((↑(UInt8.toNat (List.getD (Array.toList (ByteArray.data s)) (Int.toNat (at0 + z - 2)) 0)) : Int) = c % 256) = true, decide ((↑(UInt8.toNat (List.getD (Array.toList (ByteArray.data s)) (Int.toNat (at0 + z - 2)) 0)) : Int) = c % 256) = true, Value.int IntKind.u16 (IntKind.wrap IntKind.u16 (Int.tdiv c 256)) = Value.int IntKind.u16 (c / 256), decide ((↑(UInt8.toNat (List.getD (Array.toList (ByteArray.data s)) (Int.toNat (at0 + z - 2)) 0)) : Int) = c % 256) = true, Value.int .u8 (IntKind.wrap IntKind.u8 (c / 256)) = .int .u8 (c / 256), decide ((↑(UInt8.toNat (List.getD (Array.toList (ByteArray.data s)) (Int.toNat (at0 + z - 2)) 0)) : Int) = c % 256) = true, decide ((↑(UInt8.toNat (List.getD (Array.toList (ByteArray.data s)) (Int.toNat (at0 + z - 2)) 0)) : Int) = c % 256) = true, (!decide ((↑(UInt8.toNat (List.getD (Array.toList (ByteArray.data s)) (Int.toNat (at0 + z - 1)) 0)) : Int) = c / 256)) = true, Value.int .i64 (IntKind.wrap .i64 (bad + 1)) = .int .i64 (bad + 1), Value.int .i64 (IntKind.wrap .i64 (at0 + 1)) = .int .i64 (at0 + 1)]) := by kernel_rfl
theorem m1_ok_ptftttf : go (body (Try.prog) (8) (0) (8) (kM) (lpM) (frM sn s n z (slB 1 j j) is bad at0) ([.own 3 cs, .own 3 us])) [(5, .dec true), (2, Itm.must), (3, .dec false), (2, Itm.val (.int .i64 (at0 + z))), (4, .dec true), (1, .dec true), (1, .dec true), (0, Itm.val (.int .i64 (at0 + 1))), (0, .dec true), (0, Itm.must), (1, .dec true), (1, .dec true), (1, .dec true), (5, .dec true), (2, Itm.val (.int .i64 (at0 + 1))), (2, Itm.val (.int .i64 (at0 + z))), (0, Itm.val (.int .i64 (at0 + z - 2))), (0, Itm.must), (0, Itm.must), (1, .call (.mk (Value.int IntKind.u16 c) [] [])), (7, Itm.val (.int .i64 (at0 + z))), (0, Itm.val (.int .i64 (at0 + z - 2))), (0, Itm.must), (3, Itm.val (Value.int IntKind.u16 (c % 256))), (0, Itm.val (.int .u8 (c % 256))), (2, .dec true), (1, .dec true), (1, .dec true), (1, .dec true), (0, Itm.val (.int .i64 (at0 + z))), (0, .dec true), (0, Itm.val (.int .i64 (at0 + z - 1))), (0, .dec true), (0, Itm.must), (1, .dec true), (1, .dec true), (1, Itm.val (Value.int IntKind.u16 (c / 256))), (0, .dec true), (0, Itm.val (.int .u8 (c / 256))), (0, .dec true), (1, .dec true), (6, .dec false), (3, Itm.val (.int .i64 (at0 + 2))), (0, Itm.must), (1, .call (.mk ((zSB 1 k k)) [.own 3 cs, .own 3 vs] [])), (8, Itm.val (.int .i64 (at0 + z)))] = some (Out.mk Xt.normal (frOf 108 [(0, .int .u8 sn), (1, .string s), (7, (zSB 0 n n)), (8, .int .i64 z), (10, (zSB 1 k k)), (11, .bool true), (12, .int .i64 bad), (13, .int .i64 (at0 + z))]) [.own 3 cs, .own 3 vs] [], true, [decide (at0 < (↑(ByteArray.size s) : Int)) = true, inside at0 (ByteArray.size s) = true, (!decide ((↑(UInt8.toNat (List.getD (Array.toList (ByteArray.data s)) (Int.toNat at0) 0)) : Int) = 165)) = false, Value.int .i64 (IntKind.wrap .i64 (at0 + z)) = .int .i64 (at0 + z), decide (at0 + z ≤ (↑(ByteArray.size s) : Int)) = true, decide (at0 + z ≤ (↑(ByteArray.size s) : Int)) = true, decide (at0 + z ≤ (↑(ByteArray.size s) : Int)) = true, Value.int .i64 (IntKind.wrap .i64 (at0 + 1)) = .int .i64 (at0 + 1), decide (at0 + z ≤ (↑(ByteArray.size s) : Int)) = true, inside (at0 + 1) (ByteArray.size s) = true, decide (at0 + z ≤ (↑(ByteArray.size s) : Int)) = true, decide (at0 + z ≤ (↑(ByteArray.size s) : Int)) = true, decide (at0 + z ≤ (↑(ByteArray.size s) : Int)) = true, decide ((↑(UInt8.toNat (List.getD (Array.toList (ByteArray.data s)) (Int.toNat (at0 + 1)) 0)) : Int) = sn) = true, Value.int .i64 (IntKind.wrap .i64 (at0 + 1)) = .int .i64 (at0 + 1), Value.int .i64 (IntKind.wrap .i64 (at0 + z)) = .int .i64 (at0 + z), Value.int .i64 (IntKind.wrap .i64 (at0 + z - 2)) = .int .i64 (at0 + z - 2), upto (at0 + z - 2) (ByteArray.size s) = true, upto (at0 + 1) (Int.toNat (at0 + z - 2)) = true, type_of% kC, Value.int .i64 (IntKind.wrap .i64 (at0 + z)) = .int .i64 (at0 + z), Value.int .i64 (IntKind.wrap .i64 (at0 + z - 2)) = .int .i64 (at0 + z - 2), inside (at0 + z - 2) (ByteArray.size s) = true, Value.int IntKind.u16 (Int.tmod c 256) = Value.int IntKind.u16 (c % 256), Value.int .u8 (IntKind.wrap IntKind.u8 (c % 256)) = .int .u8 (c % 256), decide ((↑(UInt8.toNat (List.getD (Array.toList (ByteArray.data s)) (Int.toNat (at0 + z - 2)) 0)) : Int) = c % 256) = true, decide ((↑(UInt8.toNat (List.getD (Array.toList (ByteArray.data s)) (Int.toNat (at0 + z - 2)) 0)) : Int) = c % 256) = true, decide ((↑(UInt8.toNat (List.getD (Array.toList (ByteArray.data s)) (Int.toNat (at0 + z - 2)) 0)) : Int) = c % 256) = true, decide ((↑(UInt8.toNat (List.getD (Array.toList (ByteArray.data s)) (Int.toNat (at0 + z - 2)) 0)) : Int) = c % 256) = true, Value.int .i64 (IntKind.wrap .i64 (at0 + z)) = .int .i64 (at0 + z), decide ((↑(UInt8.toNat (List.getD (Array.toList (ByteArray.data s)) (Int.toNat (at0 + z - 2)) 0)) : Int) = c % 256) = true, Value.int .i64 (IntKind.wrap .i64 (at0 + z - 1)) = .int .i64 (at0 + z - 1), decide ((↑(UInt8.toNat (List.getD (Array.toList (ByteArray.data s)) (Int.toNat (at0 + z - 2)) 0)) : Int) = c % 256) = true, inside (at0 + z - 1) (ByteArray.size s) = true, decide ((↑(UInt8.toNat (List.getD (Array.toList (ByteArray.data s)) (Int.toNat (at0 + z - 2)) 0)) : Int) = c % 256) = true, decide ((↑(UInt8.toNat (List.getD (Array.toList (ByteArray.data s)) (Int.toNat (at0 + z - 2)) 0)) : Int) = c % 256) = true, Value.int IntKind.u16 (IntKind.wrap IntKind.u16 (Int.tdiv c 256)) = Value.int IntKind.u16 (c / 256), decide ((↑(UInt8.toNat (List.getD (Array.toList (ByteArray.data s)) (Int.toNat (at0 + z - 2)) 0)) : Int) = c % 256) = true, Value.int .u8 (IntKind.wrap IntKind.u8 (c / 256)) = .int .u8 (c / 256), decide ((↑(UInt8.toNat (List.getD (Array.toList (ByteArray.data s)) (Int.toNat (at0 + z - 2)) 0)) : Int) = c % 256) = true, decide ((↑(UInt8.toNat (List.getD (Array.toList (ByteArray.data s)) (Int.toNat (at0 + z - 2)) 0)) : Int) = c % 256) = true, (!decide ((↑(UInt8.toNat (List.getD (Array.toList (ByteArray.data s)) (Int.toNat (at0 + z - 1)) 0)) : Int) = c / 256)) = false, Value.int .i64 (IntKind.wrap .i64 (at0 + 2)) = .int .i64 (at0 + 2), upto (at0 + 2) (ByteArray.size s) = true, CallSpec Try.prog 26 [(zSB 0 n n), .string (ByteArray.extract s (Int.toNat (at0 + 2)) (ByteArray.size s))] [.own 3 cs] (.mk ((zSB 1 k k)) [.own 3 cs, .own 3 vs] []), Value.int .i64 (IntKind.wrap .i64 (at0 + z)) = .int .i64 (at0 + z)]) := by kernel_rfl
theorem m1_ok_ptfttf : go (body (Try.prog) (8) (0) (8) (kM) (lpM) (frM sn s n z (slB 1 j j) is bad at0) ([.own 3 cs, .own 3 us])) [(5, .dec true), (2, Itm.must), (3, .dec false), (2, Itm.val (.int .i64 (at0 + z))), (4, .dec true), (1, .dec true), (1, .dec true), (0, Itm.val (.int .i64 (at0 + 1))), (0, .dec true), (0, Itm.must), (1, .dec true), (1, .dec true), (1, .dec true), (5, .dec true), (2, Itm.val (.int .i64 (at0 + 1))), (2, Itm.val (.int .i64 (at0 + z))), (0, Itm.val (.int .i64 (at0 + z - 2))), (0, Itm.must), (0, Itm.must), (1, .call (.mk (Value.int IntKind.u16 c) [] [])), (7, Itm.val (.int .i64 (at0 + z))), (0, Itm.val (.int .i64 (at0 + z - 2))), (0, Itm.must), (3, Itm.val (Value.int IntKind.u16 (c % 256))), (0, Itm.val (.int .u8 (c % 256))), (2, .dec false), (0, .dec false), (0, .dec false), (0, .dec false), (0, .dec false), (0, .dec false), (0, .dec false), (0, .dec false), (0, .dec false), (0, .dec false), (0, .dec false), (8, Itm.val (.int .i64 (bad + 1))), (3, Itm.val (.int .i64 (at0 + 1)))] = some (Out.mk Xt.normal (frOf 108 [(0, .int .u8 sn), (1, .string s), (7, (zSB 0 n n)), (8, .int .i64 z), (10, (zSB 1 j j)), (11, .bool is), (12, .int .i64 (bad + 1)), (13, .int .i64 (at0 + 1))]) [.own 3 cs, .own 3 us] [], true, [decide (at0 < (↑(ByteArray.size s) : Int)) = true, inside at0 (ByteArray.size s) = true, (!decide ((↑(UInt8.toNat (List.getD (Array.toList (ByteArray.data s)) (Int.toNat at0) 0)) : Int) = 165)) = false, Value.int .i64 (IntKind.wrap .i64 (at0 + z)) = .int .i64 (at0 + z), decide (at0 + z ≤ (↑(ByteArray.size s) : Int)) = true, decide (at0 + z ≤ (↑(ByteArray.size s) : Int)) = true, decide (at0 + z ≤ (↑(ByteArray.size s) : Int)) = true, Value.int .i64 (IntKind.wrap .i64 (at0 + 1)) = .int .i64 (at0 + 1), decide (at0 + z ≤ (↑(ByteArray.size s) : Int)) = true, inside (at0 + 1) (ByteArray.size s) = true, decide (at0 + z ≤ (↑(ByteArray.size s) : Int)) = true, decide (at0 + z ≤ (↑(ByteArray.size s) : Int)) = true, decide (at0 + z ≤ (↑(ByteArray.size s) : Int)) = true, decide ((↑(UInt8.toNat (List.getD (Array.toList (ByteArray.data s)) (Int.toNat (at0 + 1)) 0)) : Int) = sn) = true, Value.int .i64 (IntKind.wrap .i64 (at0 + 1)) = .int .i64 (at0 + 1), Value.int .i64 (IntKind.wrap .i64 (at0 + z)) = .int .i64 (at0 + z), Value.int .i64 (IntKind.wrap .i64 (at0 + z - 2)) = .int .i64 (at0 + z - 2), upto (at0 + z - 2) (ByteArray.size s) = true, upto (at0 + 1) (Int.toNat (at0 + z - 2)) = true, type_of% kC, Value.int .i64 (IntKind.wrap .i64 (at0 + z)) = .int .i64 (at0 + z), Value.int .i64 (IntKind.wrap .i64 (at0 + z - 2)) = .int .i64 (at0 + z - 2), inside (at0 + z - 2) (ByteArray.size s) = true, Value.int IntKind.u16 (Int.tmod c 256) = Value.int IntKind.u16 (c % 256), Value.int .u8 (IntKind.wrap IntKind.u8 (c % 256)) = .int .u8 (c % 256), decide ((↑(UInt8.toNat (List.getD (Array.toList (ByteArray.data s)) (Int.toNat (at0 + z - 2)) 0)) : Int) = c % 256) = false, decide ((↑(UInt8.toNat (List.getD (Array.toList (ByteArray.data s)) (Int.toNat (at0 + z - 2)) 0)) : Int) = c % 256) = false, decide ((↑(UInt8.toNat (List.getD (Array.toList (ByteArray.data s)) (Int.toNat (at0 + z - 2)) 0)) : Int) = c % 256) = false, decide ((↑(UInt8.toNat (List.getD (Array.toList (ByteArray.data s)) (Int.toNat (at0 + z - 2)) 0)) : Int) = c % 256) = false, decide ((↑(UInt8.toNat (List.getD (Array.toList (ByteArray.data s)) (Int.toNat (at0 + z - 2)) 0)) : Int) = c % 256) = false, decide ((↑(UInt8.toNat (List.getD (Array.toList (ByteArray.data s)) (Int.toNat (at0 + z - 2)) 0)) : Int) = c % 256) = false, decide ((↑(UInt8.toNat (List.getD (Array.toList (ByteArray.data s)) (Int.toNat (at0 + z - 2)) 0)) : Int) = c % 256) = false, decide ((↑(UInt8.toNat (List.getD (Array.toList (ByteArray.data s)) (Int.toNat (at0 + z - 2)) 0)) : Int) = c % 256) = false, decide ((↑(UInt8.toNat (List.getD (Array.toList (ByteArray.data s)) (Int.toNat (at0 + z - 2)) 0)) : Int) = c % 256) = false, decide ((↑(UInt8.toNat (List.getD (Array.toList (ByteArray.data s)) (Int.toNat (at0 + z - 2)) 0)) : Int) = c % 256) = false, decide ((↑(UInt8.toNat (List.getD (Array.toList (ByteArray.data s)) (Int.toNat (at0 + z - 2)) 0)) : Int) = c % 256) = false, Value.int .i64 (IntKind.wrap .i64 (bad + 1)) = .int .i64 (bad + 1), Value.int .i64 (IntKind.wrap .i64 (at0 + 1)) = .int .i64 (at0 + 1)]) := by kernel_rfl
theorem m1_ok_ptftf : go (body (Try.prog) (8) (0) (8) (kM) (lpM) (frM sn s n z (slB 1 j j) is bad at0) ([.own 3 cs, .own 3 us])) [(5, .dec true), (2, Itm.must), (3, .dec false), (2, Itm.val (.int .i64 (at0 + z))), (4, .dec true), (1, .dec true), (1, .dec true), (0, Itm.val (.int .i64 (at0 + 1))), (0, .dec true), (0, Itm.must), (1, .dec true), (1, .dec true), (1, .dec true), (5, .dec false), (3, .dec true), (1, Itm.val (.int .i64 (bad + 1))), (3, Itm.val (.int .i64 (at0 + 1)))] = some (Out.mk Xt.normal (frOf 108 [(0, .int .u8 sn), (1, .string s), (7, (zSB 0 n n)), (8, .int .i64 z), (10, (zSB 1 j j)), (11, .bool is), (12, .int .i64 (bad + 1)), (13, .int .i64 (at0 + 1))]) [.own 3 cs, .own 3 us] [], true, [decide (at0 < (↑(ByteArray.size s) : Int)) = true, inside at0 (ByteArray.size s) = true, (!decide ((↑(UInt8.toNat (List.getD (Array.toList (ByteArray.data s)) (Int.toNat at0) 0)) : Int) = 165)) = false, Value.int .i64 (IntKind.wrap .i64 (at0 + z)) = .int .i64 (at0 + z), decide (at0 + z ≤ (↑(ByteArray.size s) : Int)) = true, decide (at0 + z ≤ (↑(ByteArray.size s) : Int)) = true, decide (at0 + z ≤ (↑(ByteArray.size s) : Int)) = true, Value.int .i64 (IntKind.wrap .i64 (at0 + 1)) = .int .i64 (at0 + 1), decide (at0 + z ≤ (↑(ByteArray.size s) : Int)) = true, inside (at0 + 1) (ByteArray.size s) = true, decide (at0 + z ≤ (↑(ByteArray.size s) : Int)) = true, decide (at0 + z ≤ (↑(ByteArray.size s) : Int)) = true, decide (at0 + z ≤ (↑(ByteArray.size s) : Int)) = true, decide ((↑(UInt8.toNat (List.getD (Array.toList (ByteArray.data s)) (Int.toNat (at0 + 1)) 0)) : Int) = sn) = false, (!decide ((↑(UInt8.toNat (List.getD (Array.toList (ByteArray.data s)) (Int.toNat (at0 + 1)) 0)) : Int) = sn)) = true, Value.int .i64 (IntKind.wrap .i64 (bad + 1)) = .int .i64 (bad + 1), Value.int .i64 (IntKind.wrap .i64 (at0 + 1)) = .int .i64 (at0 + 1)]) := by kernel_rfl
theorem m1_ok_ptff : go (body (Try.prog) (8) (0) (8) (kM) (lpM) (frM sn s n z (slB 1 j j) is bad at0) ([.own 3 cs, .own 3 us])) [(5, .dec true), (2, Itm.must), (3, .dec false), (2, Itm.val (.int .i64 (at0 + z))), (4, .dec false), (0, .dec false), (0, .dec false), (0, .dec false), (0, .dec false), (0, .dec false), (0, .dec false), (11, Itm.val (.int .i64 (bad + 1))), (3, Itm.val (.int .i64 (at0 + 1)))] = some (Out.mk Xt.normal (frOf 108 [(0, .int .u8 sn), (1, .string s), (7, (zSB 0 n n)), (8, .int .i64 z), (10, (zSB 1 j j)), (11, .bool is), (12, .int .i64 (bad + 1)), (13, .int .i64 (at0 + 1))]) [.own 3 cs, .own 3 us] [], true, [decide (at0 < (↑(ByteArray.size s) : Int)) = true, inside at0 (ByteArray.size s) = true, (!decide ((↑(UInt8.toNat (List.getD (Array.toList (ByteArray.data s)) (Int.toNat at0) 0)) : Int) = 165)) = false, Value.int .i64 (IntKind.wrap .i64 (at0 + z)) = .int .i64 (at0 + z), decide (at0 + z ≤ (↑(ByteArray.size s) : Int)) = false, decide (at0 + z ≤ (↑(ByteArray.size s) : Int)) = false, decide (at0 + z ≤ (↑(ByteArray.size s) : Int)) = false, decide (at0 + z ≤ (↑(ByteArray.size s) : Int)) = false, decide (at0 + z ≤ (↑(ByteArray.size s) : Int)) = false, decide (at0 + z ≤ (↑(ByteArray.size s) : Int)) = false, decide (at0 + z ≤ (↑(ByteArray.size s) : Int)) = false, Value.int .i64 (IntKind.wrap .i64 (bad + 1)) = .int .i64 (bad + 1), Value.int .i64 (IntKind.wrap .i64 (at0 + 1)) = .int .i64 (at0 + 1)]) := by kernel_rfl
theorem m1_ok_pf : go (body (Try.prog) (8) (0) (8) (kM) (lpM) (frM sn s n z (slB 1 j j) is bad at0) ([.own 3 cs, .own 3 us])) [(5, .dec false)] = some (Out.mk (Xt.exit 2) (frOf 108 [(10, (zSB 0 j j)), (11, .bool is), (12, .int .i64 bad)]) [.own 3 us] [], true, [decide (at0 < (↑(ByteArray.size s) : Int)) = false]) := by kernel_rfl
theorem m1_ok (R : Out) (k_ptt : (h0 : at0 < (↑(ByteArray.size s) : Int)) → (h1 : ¬(↑(UInt8.toNat (List.getD (Array.toList (ByteArray.data s)) (Int.toNat at0) 0)) : Int) = 165) → Out.le (Out.mk Xt.normal (frOf 108 [(0, .int .u8 sn), (1, .string s), (7, (zSB 0 n n)), (8, .int .i64 z), (10, (zSB 1 j j)), (11, .bool is), (12, .int .i64 bad), (13, .int .i64 (at0 + 1))]) [.own 3 cs, .own 3 us] []) R) (k_ptftttt : (h0 : at0 < (↑(ByteArray.size s) : Int)) → (h1 : ¬ (¬(↑(UInt8.toNat (List.getD (Array.toList (ByteArray.data s)) (Int.toNat at0) 0)) : Int) = 165)) → (h2 : at0 + z ≤ (↑(ByteArray.size s) : Int)) → (h3 : (↑(UInt8.toNat (List.getD (Array.toList (ByteArray.data s)) (Int.toNat (at0 + 1)) 0)) : Int) = sn) → (h4 : (↑(UInt8.toNat (List.getD (Array.toList (ByteArray.data s)) (Int.toNat (at0 + z - 2)) 0)) : Int) = c % 256) → (h5 : ¬(↑(UInt8.toNat (List.getD (Array.toList (ByteArray.data s)) (Int.toNat (at0 + z - 1)) 0)) : Int) = c / 256) → Out.le (Out.mk Xt.normal (frOf 108 [(0, .int .u8 sn), (1, .string s), (7, (zSB 0 n n)), (8, .int .i64 z), (10, (zSB 1 j j)), (11, .bool is), (12, .int .i64 (bad + 1)), (13, .int .i64 (at0 + 1))]) [.own 3 cs, .own 3 us] []) R) (k_ptftttf : (h0 : at0 < (↑(ByteArray.size s) : Int)) → (h1 : ¬ (¬(↑(UInt8.toNat (List.getD (Array.toList (ByteArray.data s)) (Int.toNat at0) 0)) : Int) = 165)) → (h2 : at0 + z ≤ (↑(ByteArray.size s) : Int)) → (h3 : (↑(UInt8.toNat (List.getD (Array.toList (ByteArray.data s)) (Int.toNat (at0 + 1)) 0)) : Int) = sn) → (h4 : (↑(UInt8.toNat (List.getD (Array.toList (ByteArray.data s)) (Int.toNat (at0 + z - 2)) 0)) : Int) = c % 256) → (h5 : ¬ (¬(↑(UInt8.toNat (List.getD (Array.toList (ByteArray.data s)) (Int.toNat (at0 + z - 1)) 0)) : Int) = c / 256)) → Out.le (Out.mk Xt.normal (frOf 108 [(0, .int .u8 sn), (1, .string s), (7, (zSB 0 n n)), (8, .int .i64 z), (10, (zSB 1 k k)), (11, .bool true), (12, .int .i64 bad), (13, .int .i64 (at0 + z))]) [.own 3 cs, .own 3 vs] []) R) (k_ptfttf : (h0 : at0 < (↑(ByteArray.size s) : Int)) → (h1 : ¬ (¬(↑(UInt8.toNat (List.getD (Array.toList (ByteArray.data s)) (Int.toNat at0) 0)) : Int) = 165)) → (h2 : at0 + z ≤ (↑(ByteArray.size s) : Int)) → (h3 : (↑(UInt8.toNat (List.getD (Array.toList (ByteArray.data s)) (Int.toNat (at0 + 1)) 0)) : Int) = sn) → (h4 : ¬ ((↑(UInt8.toNat (List.getD (Array.toList (ByteArray.data s)) (Int.toNat (at0 + z - 2)) 0)) : Int) = c % 256)) → Out.le (Out.mk Xt.normal (frOf 108 [(0, .int .u8 sn), (1, .string s), (7, (zSB 0 n n)), (8, .int .i64 z), (10, (zSB 1 j j)), (11, .bool is), (12, .int .i64 (bad + 1)), (13, .int .i64 (at0 + 1))]) [.own 3 cs, .own 3 us] []) R) (k_ptftf : (h0 : at0 < (↑(ByteArray.size s) : Int)) → (h1 : ¬ (¬(↑(UInt8.toNat (List.getD (Array.toList (ByteArray.data s)) (Int.toNat at0) 0)) : Int) = 165)) → (h2 : at0 + z ≤ (↑(ByteArray.size s) : Int)) → (h3 : ¬ ((↑(UInt8.toNat (List.getD (Array.toList (ByteArray.data s)) (Int.toNat (at0 + 1)) 0)) : Int) = sn)) → Out.le (Out.mk Xt.normal (frOf 108 [(0, .int .u8 sn), (1, .string s), (7, (zSB 0 n n)), (8, .int .i64 z), (10, (zSB 1 j j)), (11, .bool is), (12, .int .i64 (bad + 1)), (13, .int .i64 (at0 + 1))]) [.own 3 cs, .own 3 us] []) R) (k_ptff : (h0 : at0 < (↑(ByteArray.size s) : Int)) → (h1 : ¬ (¬(↑(UInt8.toNat (List.getD (Array.toList (ByteArray.data s)) (Int.toNat at0) 0)) : Int) = 165)) → (h2 : ¬ (at0 + z ≤ (↑(ByteArray.size s) : Int))) → Out.le (Out.mk Xt.normal (frOf 108 [(0, .int .u8 sn), (1, .string s), (7, (zSB 0 n n)), (8, .int .i64 z), (10, (zSB 1 j j)), (11, .bool is), (12, .int .i64 (bad + 1)), (13, .int .i64 (at0 + 1))]) [.own 3 cs, .own 3 us] []) R) (k_pf : (h0 : ¬ (at0 < (↑(ByteArray.size s) : Int))) → Out.le (Out.mk (Xt.exit 2) (frOf 108 [(10, (zSB 0 j j)), (11, .bool is), (12, .int .i64 bad)]) [.own 3 us] []) R) : CodeSpec (Try.prog) (0) (lpM) (frM sn s n z (slB 1 j j) is bad at0) ([.own 3 cs, .own 3 us]) R := by
  by_cases h0 : at0 < (↑(ByteArray.size s) : Int)
  · by_cases h1 : ¬(↑(UInt8.toNat (List.getD (Array.toList (ByteArray.data s)) (Int.toNat at0) 0)) : Int) = 165
    · exact (CodeSpec.id (go_ok (body_ok tnamed tcalm tmixed _ _ _ _ _ _ lpM_calm) (m1_ok_ptt sn z c at0 bad is s n k j cs vs us hs hz ha hc hb kC kF ) (aC (dTq h0) (aC (inside_of (by omega)) (aC ((by simpa using h1)) (aC (congrArg (Value.int _) (Go.IntWalk.i64_in _ (by omega))) aN)))))).le (k_ptt h0 h1)
    · by_cases h2 : at0 + z ≤ (↑(ByteArray.size s) : Int)
      · by_cases h3 : (↑(UInt8.toNat (List.getD (Array.toList (ByteArray.data s)) (Int.toNat (at0 + 1)) 0)) : Int) = sn
        · by_cases h4 : (↑(UInt8.toNat (List.getD (Array.toList (ByteArray.data s)) (Int.toNat (at0 + z - 2)) 0)) : Int) = c % 256
          · by_cases h5 : ¬(↑(UInt8.toNat (List.getD (Array.toList (ByteArray.data s)) (Int.toNat (at0 + z - 1)) 0)) : Int) = c / 256
            · exact (CodeSpec.id (go_ok (body_ok tnamed tcalm tmixed _ _ _ _ _ _ lpM_calm) (m1_ok_ptftttt sn z c at0 bad is s n k j cs vs us hs hz ha hc hb kC kF ) (aC (dTq h0) (aC (inside_of (by omega)) (aC ((by simpa using h1)) (aC (congrArg (Value.int _) (Go.IntWalk.i64_in _ (by omega))) (aC (dTq h2) (aC (dTq h2) (aC (dTq h2) (aC (congrArg (Value.int _) (Go.IntWalk.i64_in _ (by omega))) (aC (dTq h2) (aC (inside_of (by omega)) (aC (dTq h2) (aC (dTq h2) (aC (dTq h2) (aC (dTq h3) (aC (congrArg (Value.int _) (Go.IntWalk.i64_in _ (by omega))) (aC (congrArg (Value.int _) (Go.IntWalk.i64_in _ (by omega))) (aC (congrArg (Value.int _) (Go.IntWalk.i64_in _ (by omega))) (aC (upto_of (by omega)) (aC (upto_of (by omega)) (aC (kC) (aC (congrArg (Value.int _) (Go.IntWalk.i64_in _ (by omega))) (aC (congrArg (Value.int _) (Go.IntWalk.i64_in _ (by omega))) (aC (inside_of (by omega)) (aC (congrArg (Value.int _) (Int.tmod_eq_emod_of_nonneg (by omega))) (aC (congrArg (Value.int _) (Go.IntWalk.u8_in _ (by omega))) (aC (dTq h4) (aC (dTq h4) (aC (dTq h4) (aC (dTq h4) (aC (congrArg (Value.int _) (Go.IntWalk.i64_in _ (by omega))) (aC (dTq h4) (aC (congrArg (Value.int _) (Go.IntWalk.i64_in _ (by omega))) (aC (dTq h4) (aC (inside_of (by omega)) (aC (dTq h4) (aC (dTq h4) (aC (congrArg (Value.int _) (quo_in ⟨by omega, by simp [IntKind.max, IntKind.bits, IntKind.signed] <;> omega, by omega⟩)) (aC (dTq h4) (aC (congrArg (Value.int _) (Go.IntWalk.u8_in _ (by omega))) (aC (dTq h4) (aC (dTq h4) (aC ((by simpa using h5)) (aC (congrArg (Value.int _) (Go.IntWalk.i64_in _ (by omega))) (aC (congrArg (Value.int _) (Go.IntWalk.i64_in _ (by omega))) aN)))))))))))))))))))))))))))))))))))))))))))))).le (k_ptftttt h0 h1 h2 h3 h4 h5)
            · exact (CodeSpec.id (go_ok (body_ok tnamed tcalm tmixed _ _ _ _ _ _ lpM_calm) (m1_ok_ptftttf sn z c at0 bad is s n k j cs vs us hs hz ha hc hb kC kF ) (aC (dTq h0) (aC (inside_of (by omega)) (aC ((by simpa using h1)) (aC (congrArg (Value.int _) (Go.IntWalk.i64_in _ (by omega))) (aC (dTq h2) (aC (dTq h2) (aC (dTq h2) (aC (congrArg (Value.int _) (Go.IntWalk.i64_in _ (by omega))) (aC (dTq h2) (aC (inside_of (by omega)) (aC (dTq h2) (aC (dTq h2) (aC (dTq h2) (aC (dTq h3) (aC (congrArg (Value.int _) (Go.IntWalk.i64_in _ (by omega))) (aC (congrArg (Value.int _) (Go.IntWalk.i64_in _ (by omega))) (aC (congrArg (Value.int _) (Go.IntWalk.i64_in _ (by omega))) (aC (upto_of (by omega)) (aC (upto_of (by omega)) (aC (kC) (aC (congrArg (Value.int _) (Go.IntWalk.i64_in _ (by omega))) (aC (congrArg (Value.int _) (Go.IntWalk.i64_in _ (by omega))) (aC (inside_of (by omega)) (aC (congrArg (Value.int _) (Int.tmod_eq_emod_of_nonneg (by omega))) (aC (congrArg (Value.int _) (Go.IntWalk.u8_in _ (by omega))) (aC (dTq h4) (aC (dTq h4) (aC (dTq h4) (aC (dTq h4) (aC (congrArg (Value.int _) (Go.IntWalk.i64_in _ (by omega))) (aC (dTq h4) (aC (congrArg (Value.int _) (Go.IntWalk.i64_in _ (by omega))) (aC (dTq h4) (aC (inside_of (by omega)) (aC (dTq h4) (aC (dTq h4) (aC (congrArg (Value.int _) (quo_in ⟨by omega, by simp [IntKind.max, IntKind.bits, IntKind.signed] <;> omega, by omega⟩)) (aC (dTq h4) (aC (congrArg (Value.int _) (Go.IntWalk.u8_in _ (by omega))) (aC (dTq h4) (aC (dTq h4) (aC ((by simpa using h5)) (aC (congrArg (Value.int _) (Go.IntWalk.i64_in _ (by omega))) (aC (upto_of (by omega)) (aC ((kF (by assumption))) (aC (congrArg (Value.int _) (Go.IntWalk.i64_in _ (by omega))) aN)))))))))))))))))))))))))))))))))))))))))))))))).le (k_ptftttf h0 h1 h2 h3 h4 h5)
          · exact (CodeSpec.id (go_ok (body_ok tnamed tcalm tmixed _ _ _ _ _ _ lpM_calm) (m1_ok_ptfttf sn z c at0 bad is s n k j cs vs us hs hz ha hc hb kC kF ) (aC (dTq h0) (aC (inside_of (by omega)) (aC ((by simpa using h1)) (aC (congrArg (Value.int _) (Go.IntWalk.i64_in _ (by omega))) (aC (dTq h2) (aC (dTq h2) (aC (dTq h2) (aC (congrArg (Value.int _) (Go.IntWalk.i64_in _ (by omega))) (aC (dTq h2) (aC (inside_of (by omega)) (aC (dTq h2) (aC (dTq h2) (aC (dTq h2) (aC (dTq h3) (aC (congrArg (Value.int _) (Go.IntWalk.i64_in _ (by omega))) (aC (congrArg (Value.int _) (Go.IntWalk.i64_in _ (by omega))) (aC (congrArg (Value.int _) (Go.IntWalk.i64_in _ (by omega))) (aC (upto_of (by omega)) (aC (upto_of (by omega)) (aC (kC) (aC (congrArg (Value.int _) (Go.IntWalk.i64_in _ (by omega))) (aC (congrArg (Value.int _) (Go.IntWalk.i64_in _ (by omega))) (aC (inside_of (by omega)) (aC (congrArg (Value.int _) (Int.tmod_eq_emod_of_nonneg (by omega))) (aC (congrArg (Value.int _) (Go.IntWalk.u8_in _ (by omega))) (aC (dFq h4) (aC (dFq h4) (aC (dFq h4) (aC (dFq h4) (aC (dFq h4) (aC (dFq h4) (aC (dFq h4) (aC (dFq h4) (aC (dFq h4) (aC (dFq h4) (aC (dFq h4) (aC (congrArg (Value.int _) (Go.IntWalk.i64_in _ (by omega))) (aC (congrArg (Value.int _) (Go.IntWalk.i64_in _ (by omega))) aN)))))))))))))))))))))))))))))))))))))))).le (k_ptfttf h0 h1 h2 h3 h4)
        · exact (CodeSpec.id (go_ok (body_ok tnamed tcalm tmixed _ _ _ _ _ _ lpM_calm) (m1_ok_ptftf sn z c at0 bad is s n k j cs vs us hs hz ha hc hb kC kF ) (aC (dTq h0) (aC (inside_of (by omega)) (aC ((by simpa using h1)) (aC (congrArg (Value.int _) (Go.IntWalk.i64_in _ (by omega))) (aC (dTq h2) (aC (dTq h2) (aC (dTq h2) (aC (congrArg (Value.int _) (Go.IntWalk.i64_in _ (by omega))) (aC (dTq h2) (aC (inside_of (by omega)) (aC (dTq h2) (aC (dTq h2) (aC (dTq h2) (aC (dFq h3) (aC (congrArg not dN) (aC (congrArg (Value.int _) (Go.IntWalk.i64_in _ (by omega))) (aC (congrArg (Value.int _) (Go.IntWalk.i64_in _ (by omega))) aN))))))))))))))))))).le (k_ptftf h0 h1 h2 h3)
      · exact (CodeSpec.id (go_ok (body_ok tnamed tcalm tmixed _ _ _ _ _ _ lpM_calm) (m1_ok_ptff sn z c at0 bad is s n k j cs vs us hs hz ha hc hb kC kF ) (aC (dTq h0) (aC (inside_of (by omega)) (aC ((by simpa using h1)) (aC (congrArg (Value.int _) (Go.IntWalk.i64_in _ (by omega))) (aC (dFq h2) (aC (dFq h2) (aC (dFq h2) (aC (dFq h2) (aC (dFq h2) (aC (dFq h2) (aC (dFq h2) (aC (congrArg (Value.int _) (Go.IntWalk.i64_in _ (by omega))) (aC (congrArg (Value.int _) (Go.IntWalk.i64_in _ (by omega))) aN))))))))))))))).le (k_ptff h0 h1 h2)
  · exact (CodeSpec.id (go_ok (body_ok tnamed tcalm tmixed _ _ _ _ _ _ lpM_calm) (m1_ok_pf sn z c at0 bad is s n k j cs vs us hs hz ha hc hb kC kF ) (aC (dFq h0) aN))).le (k_pf h0)
end
end Go.Proofs.Ytbolppjlaipfjaa.Ex
end
section
set_option linter.unusedSectionVars false
set_option linter.unusedSimpArgs false
set_option linter.unusedVariables false
namespace Go.Proofs.Ytbolppjlaipfjaa.Ex
open Go
set_option linter.unusedVariables false
def rws (sn : Int) : List Int := if sn = 1 then [2, -2, -2, -2] else if sn = 2 then [-4, -4] else if sn = 3 then [-4, -4, -4, -4] else if sn = 4 then [-2, -2, -2, -2, 1] else if sn = 5 then [1, -4] else []
theorem rws_ok (sn : Int) : ∀ w ∈ rws sn, okR w := by
  intro w hw
  unfold rws at hw
  unfold okR
  repeat' (split at hw)
  all_goals simp at hw
  all_goals omega
theorem ws_same (sn : Int) : (rws sn).map Int.natAbs = (wds sn).map wB ∧ (rws sn).map (fun r => decide (r < 0)) = (wds sn).map (fun r => decide (r < 0)) ∧ (rws sn).length = (wds sn).length := by
  unfold rws wds
  repeat' split
  all_goals decide
theorem rwid_done (sn : Int) : (rws sn = [] → CallSpec Try.prog 23 [.int .u8 sn] [] ⟨slN, [], []⟩) ∧ (rws sn ≠ [] → CallSpec Try.prog 23 [.int .u8 sn] [] ⟨slB 0 (rws sn).length (rws sn).length, [.own 3 (iW (rws sn))], []⟩) := by
  refine ⟨fun h => ?_, fun h => ?_⟩
  · unfold rws at h
    refine rwid_ok sn _ (fun h0 => ?_) (fun h0 h1 => ?_) (fun h0 h1 h2 => ?_) (fun h0 h1 h2 h3 => ?_) (fun h0 h1 h2 h3 h4 => ?_) (fun h0 h1 h2 h3 h4 => res_refl)
    · simp [h0] at h
    · simp [h1] at h
    · simp [h2] at h
    · simp [h3] at h
    · simp [h4] at h
  · refine rwid_ok sn _ (fun h0 => ?_) (fun h0 h1 => ?_) (fun h0 h1 h2 => ?_) (fun h0 h1 h2 h3 => ?_) (fun h0 h1 h2 h3 h4 => ?_) (fun h0 h1 h2 h3 h4 => ?_)
    · subst h0; exact res_refl
    · subst h1; exact res_refl
    · subst h2; exact res_refl
    · subst h3; exact res_refl
    · subst h4; exact res_refl
    · exact absurd (by unfold rws; simp [h0, h1, h2, h3, h4]) h
theorem sum_same (sn : Int) : sumR (rws sn) = sumW (wds sn) := by
  unfold rws wds
  repeat' split
  all_goals decide
theorem bt_cut (d : ByteArray) (p k : Nat) : bt (cutB d p) k = bt d (p + k) := by
  unfold bt cutB
  rw [ByteArray.data_extract, Array.toList_extract, List.extract_eq_take_drop, List.getD_eq_getElem?_getD, List.getD_eq_getElem?_getD, List.getElem?_take]
  split
  · rw [List.getElem?_drop]
  · rename_i h
    rw [List.getElem?_eq_none]
    have : d.data.toList.length = d.size := rfl
    omega
theorem leN_cut (d : ByteArray) (p a : Nat) : ∀ j, leN (cutB d p) a j = leN d (p + a) j
  | 0 => rfl
  | j + 1 => by rw [leN, leN, leN_cut d p a j, bt_cut, Nat.add_assoc]
theorem val_same {w r : Int} (hB : r.natAbs = wB w) (hs : decide (r < 0) = decide (w < 0)) (d : ByteArray) (p q a b : Nat) (h : p + a = q + b) : rfV r (cutB d p) a = fV w (cutB d q) b := by
  unfold rfV fV
  rw [hB, leN_cut, leN_cut, h]
  have : (r < 0) ↔ (w < 0) := by simpa using hs
  simp only [this]
theorem vals_same : ∀ (rs ws : List Int), rs.map Int.natAbs = ws.map wB → rs.map (fun r => decide (r < 0)) = ws.map (fun r => decide (r < 0)) → ∀ (d : ByteArray) (p q a b : Nat), p + a = q + b → rfL rs (cutB d p) a = rdW ws (cutB d q) b
  | [], [], _, _, d, p, q, a, b, _ => rfl
  | [], _ :: _, h, _, _, _, _, _, _, _ => by simp at h
  | _ :: _, [], h, _, _, _, _, _, _, _ => by simp at h
  | r :: rs, w :: ws, h1, h2, d, p, q, a, b, h => by
    simp only [List.map_cons, List.cons.injEq] at h1 h2
    rw [rfL, rdW, val_same h1.1 h2.1 d p q a b h, vals_same rs ws h1.2 h2.2 d p q (a + r.natAbs) (b + wB w) (by omega)]
theorem flds_done {sn : Int} {s : ByteArray} (hw : rws sn ≠ []) (hs : s.size ≤ 140737488351232) (hk : sumR (rws sn) ≤ s.size) :
    CallSpec Try.prog 26 [slB 0 (rws sn).length (rws sn).length, .string s] [.own 3 (iW (rws sn))] ⟨slB 1 (rws sn).length (rws sn).length, [.own 3 (iW (rws sn)), .own 3 (iW (rfL (rws sn) s 0))], []⟩ := by
  obtain ⟨w, ws, hws⟩ : ∃ w ws, rws sn = w :: ws := by cases e : rws sn with | nil => exact absurd e hw | cons w ws => exact ⟨w, ws, rfl⟩
  have h5 : (rws sn).length ≤ 5 := by rw [(ws_same sn).2.2]; exact wds_len sn
  have hok := rws_ok sn
  rw [hws] at hk h5 hok ⊢
  have kL := (fo_loop0 s hs w ws 0 h5 hok (by omega)).code
  rw [rfL_len] at kL
  exact flds_ok s _ _ _ _ _ kL _ res_refl
theorem z_loop (sn : Int) (s : ByteArray) : ∀ (todo done : List Int) (z : Nat), (done ++ todo).length ≤ 5 → (∀ r ∈ todo, okR r) → z + sumR todo ≤ 900 →
    LoopSpec Try.prog 0 lpZ (frZ sn s (done ++ todo).length z (done.length : Nat)) [.own 3 (iW (done ++ todo))] ⟨.exit 0, frZ sn s (done ++ todo).length (z + sumR todo : Nat) ((done ++ todo).length : Nat), [.own 3 (iW (done ++ todo))], []⟩
  | [], done, z, h5, hw, hz => by
    rw [sumR, List.append_nil]
    exact .last (z_end sn z s done.length (iW done) (iW_len _) _ out_refl) (by intro h; cases h)
  | r :: rs, done, z, h5, hw, hz => by
    rw [sumR] at hz
    have hl : (done ++ r :: rs).length = done.length + 1 + rs.length := by simp; omega
    have ih := z_loop sn s rs (done ++ [r]) (z + r.natAbs) (by simpa using h5) (fun u hu => hw u (by simp [hu])) (by omega)
    rw [List.append_assoc, List.singleton_append] at ih
    have hr := hw r (by simp)
    unfold okR at hr
    rw [sumR, show z + (r.natAbs + sumR rs) = z + r.natAbs + sumR rs by omega]
    have e1 : (((done ++ [r]).length : Nat) : Int) = (done.length : Int) + 1 := by simp
    rw [e1] at ih
    refine .more (o1 := ⟨.normal, frZ sn s (done ++ r :: rs).length (z + r.natAbs : Nat) ((done.length : Int) + 1), [.own 3 (iW (done ++ r :: rs))], []⟩) ?_ rfl ih (fun j hj _ => by cases hj)
    refine z_ok sn z r s _ done.length (iW (done ++ r :: rs)) (iW_len _) ((congrArg (isInt .i64) (iW_at _ _ _)).trans rfl) (congrArg (fun v => Value.int .i64 (intOf v)) (iW_at _ _ _)) hr ⟨by omega, by omega⟩ ⟨by omega, by omega⟩ _ (fun h0 => ?_) (fun h0 => ?_)
    · refine ⟨rfl, ?_, rfl, fun j hj => hj⟩
      show frOf 108 _ = frOf 108 _
      rw [show (z : Int) + (0 - r) = ((z + r.natAbs : Nat) : Int) by omega]
    · refine ⟨rfl, ?_, rfl, fun j hj => hj⟩
      show frOf 108 _ = frOf 108 _
      rw [show (z : Int) + r = ((z + r.natAbs : Nat) : Int) by omega]
def rfS (sn : Int) (d : ByteArray) : Nat → Nat → List Int → Nat → List Int × Nat
  | 0, _, l, b => (l, b)
  | f + 1, p, l, b => if d.size ≤ p then (l, b) else if bt d p ≠ 165 then rfS sn d f (p + 1) l b else
      if frG sn (cutB d (p + 1)) then rfS sn d f (p + frK sn + 3) (rdW (wds sn) (cutB d (p + 1)) 1) b else rfS sn d f (p + 1) l (b + 1)
end Go.Proofs.Ytbolppjlaipfjaa.Ex
end
section
set_option linter.unusedSectionVars false
set_option linter.unusedSimpArgs false
set_option linter.unusedVariables false
namespace Go.Proofs.Ytbolppjlaipfjaa.Ex
open Go
set_option linter.unusedVariables false
theorem bt_i (s : ByteArray) (i : Int) : (↑(UInt8.toNat (List.getD (Array.toList (ByteArray.data s)) (Int.toNat i) 0)) : Int) = (bt s i.toNat : Int) := rfl
def mF (sn : Int) (d : ByteArray) (l : List Int) (b p : Nat) : Fr := frM sn d (rws sn).length (frK sn + 3 : Nat) (if l = [] then slN else slB 1 l.length l.length) (decide (l ≠ [])) b p
def mH (sn : Int) (l : List Int) : Hp := if l = [] then [.own 3 (iW (rws sn))] else [.own 3 (iW (rws sn)), .own 3 (iW l)]
def mO (l : List Int) (b : Nat) : Out := if l = [] then ⟨.exit 2, frOf 108 [(10, slN), (11, .bool false), (12, .int .i64 b)], [], []⟩ else ⟨.exit 2, frOf 108 [(10, slB 0 l.length l.length), (11, .bool true), (12, .int .i64 b)], [.own 3 (iW l)], []⟩
theorem mO_ex (l : List Int) (b : Nat) : (mO l b).ex ≠ .normal := by unfold mO; split <;> (intro h; cases h)
theorem frK_le (sn : Int) : frK sn ≤ 17 := by
  unfold frK wds
  repeat' split
  all_goals decide
theorem frG_at (sn : Int) (d : ByteArray) (p : Nat) : frG sn (cutB d (p + 1)) ↔ (p + (frK sn + 3) ≤ d.size ∧ (bt d (p + 1) : Int) = sn ∧ (bt d (p + 1 + frK sn) : Int) = IntKind.wrap .u8 (F.sum (d.extract (p + 1) (p + 1 + frK sn))) ∧ (bt d (p + 1 + frK sn + 1) : Int) = F.sum (d.extract (p + 1) (p + 1 + frK sn)) / 256) := by
  unfold frG
  rw [bt_cut, bt_cut, bt_cut, cutB_size]
  constructor
  · rintro ⟨h1, h2, h3, h4⟩
    have e : frC sn (cutB d (p + 1)) = F.sum (d.extract (p + 1) (p + 1 + frK sn)) := by
      unfold frC cutB
      rw [ByteArray.extract_extract]
      congr 2
      omega
    rw [e] at h3 h4
    exact ⟨by omega, h2, h3, h4⟩
  · rintro ⟨h1, h2, h3, h4⟩
    have e : frC sn (cutB d (p + 1)) = F.sum (d.extract (p + 1) (p + 1 + frK sn)) := by
      unfold frC cutB
      rw [ByteArray.extract_extract]
      congr 2
      omega
    rw [e]
    exact ⟨by omega, h2, h3, h4⟩
theorem m_loop {sn : Int} (hw : rws sn ≠ []) (d : ByteArray) (hs : d.size ≤ 140737488351232) : ∀ (f p : Nat) (l : List Int) (b : Nat), d.size < f + p → p ≤ d.size → b ≤ p →
    LoopSpec Try.prog 0 lpM (mF sn d l b p) (mH sn l) (mO (rfS sn d f p l b).1 (rfS sn d f p l b).2)
  | 0, p, l, b, hf, hp, hb => by omega
  | f + 1, p, l, b, hf, hp, hb => by
    have h17 := frK_le sn
    have h1K : 1 ≤ frK sn := by unfold frK; omega
    have hu := sum_u16 (d.extract (p + 1) (p + 1 + frK sn))
    have e1 : Int.toNat ((p : Int) + 1) = p + 1 := by omega
    have e2 : Int.toNat ((p : Int) + ((frK sn + 3 : Nat) : Int) - 2) = p + 1 + frK sn := by omega
    have e3 : Int.toNat ((p : Int) + ((frK sn + 3 : Nat) : Int) - 1) = p + 1 + frK sn + 1 := by omega
    have e4 : Int.toNat ((p : Int) + 2) = p + 2 := by omega
    have kC : CallSpec Try.prog 25 [.string (d.extract (Int.toNat ((p : Int) + 1)) (Int.toNat ((p : Int) + ((frK sn + 3 : Nat) : Int) - 2)))] [] ⟨.int .u16 (F.sum (d.extract (p + 1) (p + 1 + frK sn))), [], []⟩ := by
      rw [e1, e2]
      exact rsum_done (by rw [ByteArray.size_extract]; omega)
    have hvals : rfL (rws sn) (d.extract (p + 2) d.size) 0 = rdW (wds sn) (cutB d (p + 1)) 1 := vals_same _ _ (ws_same sn).1 (ws_same sn).2.1 d (p + 2) (p + 1) 0 1 (by omega)
    have kF : (p : Int) + ((frK sn + 3 : Nat) : Int) ≤ d.size → CallSpec Try.prog 26 [slB 0 (rws sn).length (rws sn).length, .string (d.extract (Int.toNat ((p : Int) + 2)) d.size)] [.own 3 (iW (rws sn))] ⟨slB 1 (rws sn).length (rws sn).length, [.own 3 (iW (rws sn)), .own 3 (iW (rdW (wds sn) (cutB d (p + 1)) 1))], []⟩ := by
      intro h
      rw [e4, ← hvals]
      have hsz : (d.extract (p + 2) d.size).size = d.size - (p + 2) := by rw [ByteArray.size_extract]; omega
      refine flds_done hw (by omega) ?_
      have := sum_same sn
      unfold frK at h
      omega
    have hwn : wds sn ≠ [] := fun h => hw (by have := (ws_same sn).2.2; rw [h] at this; exact List.length_eq_zero_iff.1 this)
    have hne := rdW_ne hwn (cutB d (p + 1)) 1
    have hrl : (rdW (wds sn) (cutB d (p + 1)) 1).length = (rws sn).length := by rw [rdW_len, (ws_same sn).2.2]
    have hG := frG_at sn d p
    have r1 : (↑(UInt8.toNat (List.getD (Array.toList (ByteArray.data d)) (Int.toNat ((p : Int) + 1)) 0)) : Int) = (bt d (p + 1) : Int) := by rw [bt_i, e1]
    have r2 : (↑(UInt8.toNat (List.getD (Array.toList (ByteArray.data d)) (Int.toNat ((p : Int) + ((frK sn + 3 : Nat) : Int) - 2)) 0)) : Int) = (bt d (p + 1 + frK sn) : Int) := by rw [bt_i, e2]
    have r3 : (↑(UInt8.toNat (List.getD (Array.toList (ByteArray.data d)) (Int.toNat ((p : Int) + ((frK sn + 3 : Nat) : Int) - 1)) 0)) : Int) = (bt d (p + 1 + frK sn + 1) : Int) := by rw [bt_i, e3]
    have wr8 : ∀ c : Int, 0 ≤ c ∧ c ≤ 65535 → IntKind.wrap .u8 c = c % 256 := fun c hc => by rw [IntKind.wrap_u8]
    rw [wr8 _ hu] at hG
    rw [rfS]
    by_cases h0 : d.size ≤ p
    · rw [if_pos h0]
      refine .last ?_ (mO_ex _ _)
      by_cases hl : l = []
      · subst hl
        refine m0_ok sn (frK sn + 3 : Nat) _ p b false d _ _ (iW (rws sn)) _ hs ⟨by omega, by omega⟩ ⟨by omega, by omega⟩ hu ⟨by omega, by omega⟩ kC kF _ (fun h => absurd h (by omega)) (fun h => absurd h (by omega)) (fun h => absurd h (by omega)) (fun h => absurd h (by omega)) (fun h => absurd h (by omega)) (fun h => absurd h (by omega)) (fun _ => out_refl)
      · unfold mF mH mO
        rw [if_neg hl, if_neg hl, if_neg hl, decide_eq_true (p := l ≠ []) hl]
        exact m1_ok sn (frK sn + 3 : Nat) _ p b true d _ _ l.length (iW (rws sn)) _ (iW l) hs ⟨by omega, by omega⟩ ⟨by omega, by omega⟩ hu ⟨by omega, by omega⟩ kC kF _ (fun h => absurd h (by omega)) (fun h => absurd h (by omega)) (fun h => absurd h (by omega)) (fun h => absurd h (by omega)) (fun h => absurd h (by omega)) (fun h => absurd h (by omega)) (fun _ => out_refl)
    rw [if_neg h0]
    have hlt : (p : Int) < d.size := by omega
    by_cases h5 : bt d p ≠ 165
    · rw [if_pos h5]
      have ih := m_loop hw d hs f (p + 1) l b (by omega) (by omega) (by omega)
      have h5' : ¬ ((↑(UInt8.toNat (List.getD (Array.toList (ByteArray.data d)) (Int.toNat (p : Int)) 0)) : Int) = 165) := by
        rw [bt_i, Int.toNat_natCast]; omega
      refine .more (o1 := ⟨.normal, mF sn d l b (p + 1), mH sn l, []⟩) ?_ rfl ih (fun j hj _ => by cases hj)
      by_cases hl : l = []
      · subst hl
        exact m0_ok sn (frK sn + 3 : Nat) _ p b false d _ _ (iW (rws sn)) _ hs ⟨by omega, by omega⟩ ⟨by omega, by omega⟩ hu ⟨by omega, by omega⟩ kC kF _ (fun _ _ => out_refl) (fun _ h => absurd h5' h) (fun _ h => absurd h5' h) (fun _ h => absurd h5' h) (fun _ h => absurd h5' h) (fun _ h => absurd h5' h) (fun h => absurd hlt h)
      · unfold mF mH
        rw [if_neg hl, if_neg hl, decide_eq_true (p := l ≠ []) hl]
        exact m1_ok sn (frK sn + 3 : Nat) _ p b true d _ _ l.length (iW (rws sn)) _ (iW l) hs ⟨by omega, by omega⟩ ⟨by omega, by omega⟩ hu ⟨by omega, by omega⟩ kC kF _ (fun _ _ => out_refl) (fun _ h => absurd h5' h) (fun _ h => absurd h5' h) (fun _ h => absurd h5' h) (fun _ h => absurd h5' h) (fun _ h => absurd h5' h) (fun h => absurd hlt h)
    rw [if_neg h5]
    have h5' : ((↑(UInt8.toNat (List.getD (Array.toList (ByteArray.data d)) (Int.toNat (p : Int)) 0)) : Int) = 165) := by
      rw [bt_i, Int.toNat_natCast]; omega
    by_cases hg : frG sn (cutB d (p + 1))
    · rw [if_pos hg]
      obtain ⟨g1, g2, g3, g4⟩ := hG.1 hg
      have ih := m_loop hw d hs f (p + frK sn + 3) (rdW (wds sn) (cutB d (p + 1)) 1) b (by omega) (by omega) (by omega)
      refine .more (o1 := ⟨.normal, mF sn d (rdW (wds sn) (cutB d (p + 1)) 1) b (p + frK sn + 3), mH sn (rdW (wds sn) (cutB d (p + 1)) 1), []⟩) ?_ rfl ih (fun j hj _ => by cases hj)
      have e5 : mF sn d (rdW (wds sn) (cutB d (p + 1)) 1) b (p + frK sn + 3) = frM sn d (rws sn).length (frK sn + 3 : Nat) (slB 1 (rws sn).length (rws sn).length) true b ((p : Int) + ((frK sn + 3 : Nat) : Int)) := by
        unfold mF
        rw [if_neg hne, decide_eq_true (p := rdW (wds sn) (cutB d (p + 1)) 1 ≠ []) hne, hrl, show ((p + frK sn + 3 : Nat) : Int) = (p : Int) + ((frK sn + 3 : Nat) : Int) by omega]
      have e6 : mH sn (rdW (wds sn) (cutB d (p + 1)) 1) = [.own 3 (iW (rws sn)), .own 3 (iW (rdW (wds sn) (cutB d (p + 1)) 1))] := by unfold mH; rw [if_neg hne]
      rw [e5, e6]
      by_cases hl : l = []
      · subst hl
        exact m0_ok sn (frK sn + 3 : Nat) _ p b false d _ _ (iW (rws sn)) _ hs ⟨by omega, by omega⟩ ⟨by omega, by omega⟩ hu ⟨by omega, by omega⟩ kC kF _ (fun _ h => absurd h5' h) (fun _ _ _ _ _ h => absurd (r3.trans g4) h) (fun _ _ _ _ _ _ => out_refl) (fun _ _ _ _ h => absurd (r2.trans g3) h) (fun _ _ _ h => absurd (r1.trans g2) h) (fun _ _ h => absurd (by omega) h) (fun h => absurd hlt h)
      · unfold mF mH
        rw [if_neg hl, if_neg hl, decide_eq_true (p := l ≠ []) hl]
        exact m1_ok sn (frK sn + 3 : Nat) _ p b true d _ _ l.length (iW (rws sn)) _ (iW l) hs ⟨by omega, by omega⟩ ⟨by omega, by omega⟩ hu ⟨by omega, by omega⟩ kC kF _ (fun _ h => absurd h5' h) (fun _ _ _ _ _ h => absurd (r3.trans g4) h) (fun _ _ _ _ _ _ => out_refl) (fun _ _ _ _ h => absurd (r2.trans g3) h) (fun _ _ _ h => absurd (r1.trans g2) h) (fun _ _ h => absurd (by omega) h) (fun h => absurd hlt h)
    · rw [if_neg hg]
      have ih := m_loop hw d hs f (p + 1) l (b + 1) (by omega) (by omega) (by omega)
      refine .more (o1 := ⟨.normal, mF sn d l (b + 1) (p + 1), mH sn l, []⟩) ?_ rfl ih (fun j hj _ => by cases hj)
      have no : ∀ {C : Prop}, (p : Int) + ((frK sn + 3 : Nat) : Int) ≤ d.size → (↑(UInt8.toNat (List.getD (Array.toList (ByteArray.data d)) (Int.toNat ((p : Int) + 1)) 0)) : Int) = sn → (↑(UInt8.toNat (List.getD (Array.toList (ByteArray.data d)) (Int.toNat ((p : Int) + ((frK sn + 3 : Nat) : Int) - 2)) 0)) : Int) = F.sum (d.extract (p + 1) (p + 1 + frK sn)) % 256 → ¬ (¬ (↑(UInt8.toNat (List.getD (Array.toList (ByteArray.data d)) (Int.toNat ((p : Int) + ((frK sn + 3 : Nat) : Int) - 1)) 0)) : Int) = F.sum (d.extract (p + 1) (p + 1 + frK sn)) / 256) → C := fun q1 q2 q3 q4 =>
        absurd (hG.2 ⟨by omega, r1.symm.trans q2, r2.symm.trans q3, r3.symm.trans (Classical.not_not.1 q4)⟩) hg
      by_cases hl : l = []
      · subst hl
        exact m0_ok sn (frK sn + 3 : Nat) _ p b false d _ _ (iW (rws sn)) _ hs ⟨by omega, by omega⟩ ⟨by omega, by omega⟩ hu ⟨by omega, by omega⟩ kC kF _ (fun _ h => absurd h5' h) (fun _ _ _ _ _ _ => out_refl) (fun _ _ q1 q2 q3 q4 => no q1 q2 q3 q4) (fun _ _ _ _ _ => out_refl) (fun _ _ _ _ => out_refl) (fun _ _ _ => out_refl) (fun h => absurd hlt h)
      · unfold mF mH
        rw [if_neg hl, if_neg hl, decide_eq_true (p := l ≠ []) hl]
        exact m1_ok sn (frK sn + 3 : Nat) _ p b true d _ _ l.length (iW (rws sn)) _ (iW l) hs ⟨by omega, by omega⟩ ⟨by omega, by omega⟩ hu ⟨by omega, by omega⟩ kC kF _ (fun _ h => absurd h5' h) (fun _ _ _ _ _ _ => out_refl) (fun _ _ q1 q2 q3 q4 => no q1 q2 q3 q4) (fun _ _ _ _ _ => out_refl) (fun _ _ _ _ => out_refl) (fun _ _ _ => out_refl) (fun h => absurd hlt h)
end Go.Proofs.Ytbolppjlaipfjaa.Ex
end
section
set_option linter.unusedSectionVars false
set_option linter.unusedSimpArgs false
set_option linter.unusedVariables false
namespace Go.Proofs.Ytbolppjlaipfjaa.Ex
open Go
set_option linter.unusedVariables false
section
variable (sn : Int) (s : ByteArray) (hW : CallSpec Try.prog 23 [.int .u8 sn] [] (.mk slN [] []))
include sn s hW
theorem rread_0_p : go (exec (Try.prog) (8) (10) ([.int .u8 sn, .string s]) ([])) [(6, .call (.mk (zSN) [] []))] = some (.mk (.tuple #[zSN, .bool false, .int .i64 0]) [] [], true, [type_of% hW]) := by kernel_rfl
theorem rread_0 (R : Res) (k_p : Res.le (.mk (.tuple #[zSN, .bool false, .int .i64 0]) [] []) R) : CallSpec (Try.prog) (10) ([.int .u8 sn, .string s]) ([]) R := by
  exact (CallSpec.id (go_ok (exec_ok tnamed tcalm tmixed _ _ _ _) (rread_0_p sn s hW ) (aC (hW) aN))).le (k_p )
end
section
variable (sn b z : Int) (s : ByteArray) (n : Nat) (cs : List Value) (hn : 1 ≤ n) (hW : CallSpec Try.prog 23 [.int .u8 sn] [] (.mk (slB 0 n n) [.own 3 cs] [])) (kZ : CodeSpec Try.prog 0 lpZC (frZ sn s n 4 0) [.own 3 cs] (Out.mk (Xt.exit 0) (frZ sn s n z (↑n : Int)) [.own 3 cs] [])) (kL : CodeSpec Try.prog 0 lpMC (frM sn s n z slN false 0 0) [.own 3 cs] (Out.mk (Xt.exit 2) (frOf 108 [(10, slN), (11, .bool false), (12, .int .i64 b)]) [] []))
include sn b z s n cs hn hW kZ kL
theorem rread_n_p : go (exec (Try.prog) (8) (10) ([.int .u8 sn, .string s]) ([])) [(6, .call (.mk ((zSB 0 n n)) [.own 3 cs] [])), (8, .dec false), (4, Itm.loop [0, 1, 7, 8, 9] (Out.mk (Xt.exit 0) (frOf 108 [(0, .int .u8 sn), (1, .string s), (7, (zSB 0 n n)), (8, .int .i64 z), (9, .int .i64 (↑n : Int))]) [.own 3 cs] [])), (8, Itm.loop [0, 1, 7, 8, 10, 11, 12, 13] (Out.mk (Xt.exit 2) (frOf 108 [(10, zSN), (11, .bool false), (12, .int .i64 b)]) [] []))] = some (.mk (.tuple #[zSN, .bool false, .int .i64 b]) [] [], true, [type_of% hW, decide ((↑n : Int) = 0) = false, type_of% kZ, type_of% kL]) := by kernel_rfl
theorem rread_n (R : Res) (k_p : Res.le (.mk (.tuple #[zSN, .bool false, .int .i64 b]) [] []) R) : CallSpec (Try.prog) (10) ([.int .u8 sn, .string s]) ([]) R := by
  exact (CallSpec.id (go_ok (exec_ok tnamed tcalm tmixed _ _ _ _) (rread_n_p sn b z s n cs hn hW kZ kL ) (aC (hW) (aC dN (aC (kZ) (aC (kL) aN)))))).le (k_p )
end
section
variable (sn b z : Int) (s : ByteArray) (n m : Nat) (cs vs : List Value) (hn : 1 ≤ n) (hW : CallSpec Try.prog 23 [.int .u8 sn] [] (.mk (slB 0 n n) [.own 3 cs] [])) (kZ : CodeSpec Try.prog 0 lpZC (frZ sn s n 4 0) [.own 3 cs] (Out.mk (Xt.exit 0) (frZ sn s n z (↑n : Int)) [.own 3 cs] [])) (kL : CodeSpec Try.prog 0 lpMC (frM sn s n z slN false 0 0) [.own 3 cs] (Out.mk (Xt.exit 2) (frOf 108 [(10, slB 0 m m), (11, .bool true), (12, .int .i64 b)]) [.own 3 vs] []))
include sn b z s n m cs vs hn hW kZ kL
theorem rread_s_p : go (exec (Try.prog) (8) (10) ([.int .u8 sn, .string s]) ([])) [(6, .call (.mk ((zSB 0 n n)) [.own 3 cs] [])), (8, .dec false), (4, Itm.loop [0, 1, 7, 8, 9] (Out.mk (Xt.exit 0) (frOf 108 [(0, .int .u8 sn), (1, .string s), (7, (zSB 0 n n)), (8, .int .i64 z), (9, .int .i64 (↑n : Int))]) [.own 3 cs] [])), (8, Itm.loop [0, 1, 7, 8, 10, 11, 12, 13] (Out.mk (Xt.exit 2) (frOf 108 [(10, (zSB 0 m m)), (11, .bool true), (12, .int .i64 b)]) [.own 3 vs] []))] = some (.mk (.tuple #[(zSB 0 m m), .bool true, .int .i64 b]) [.own 3 vs] [], true, [type_of% hW, decide ((↑n : Int) = 0) = false, type_of% kZ, type_of% kL]) := by kernel_rfl
theorem rread_s (R : Res) (k_p : Res.le (.mk (.tuple #[(zSB 0 m m), .bool true, .int .i64 b]) [.own 3 vs] []) R) : CallSpec (Try.prog) (10) ([.int .u8 sn, .string s]) ([]) R := by
  exact (CallSpec.id (go_ok (exec_ok tnamed tcalm tmixed _ _ _ _) (rread_s_p sn b z s n m cs vs hn hW kZ kL ) (aC (hW) (aC dN (aC (kZ) (aC (kL) aN)))))).le (k_p )
end
end Go.Proofs.Ytbolppjlaipfjaa.Ex
end
section
set_option linter.unusedSectionVars false
set_option linter.unusedSimpArgs false
set_option linter.unusedVariables false
namespace Go.Proofs.Ytbolppjlaipfjaa.Ex
open Go
set_option linter.unusedVariables false
theorem find_neg (s : ByteArray) : F.find s 165 < 0 ↔ F.pass (bl s) = [] := by
  rcases find_cases s with ⟨e, h⟩ | ⟨n, e, _, _, h⟩
  · exact ⟨fun _ => h, fun _ => by omega⟩
  · exact ⟨fun g => by omega, fun g => absurd g h⟩
theorem aft_tail {s : ByteArray} (h : ¬ F.find s 165 < 0) : aft s = F.str (F.pass (bl s)).tail := by
  rcases find_cases s with ⟨e, _⟩ | ⟨n, e, hn, hd, _⟩
  · omega
  · apply str_inj
    unfold aft
    rw [bl_cut, bl_str, hd, e, show Int.toNat ((n : Int) + 1) = n + 1 by omega, ← bl_len, List.take_length, List.tail_drop]
theorem bl_cutB (d : ByteArray) (p : Nat) : bl (cutB d p) = (bl d).drop p := by
  unfold cutB
  rw [bl_cut, ← bl_len, List.take_length]
theorem bt_bl (d : ByteArray) (p : Nat) (h : p < (bl d).length) : bt d p = ((bl d)[p]).toNat := by
  unfold bt
  rw [List.getD_eq_getElem?_getD, List.getElem?_eq_getElem h]
  rfl
theorem pass_at_p (d : ByteArray) (p : Nat) (h : p < d.size) : F.pass (bl (cutB d p)) = if bt d p = 165 then (bl d).drop p else F.pass (bl (cutB d (p + 1))) := by
  have hl : p < (bl d).length := by rw [bl_len]; exact h
  rw [bl_cutB, bl_cutB, List.drop_eq_getElem_cons hl, F.pass, bt_bl d p hl]
  by_cases e : (bl d)[p] = 165
  · rw [e]; rfl
  · have e2 : ¬ ((bl d)[p]).toNat = 165 := fun g => e (UInt8.toNat_inj.1 g)
    rw [if_neg e2, beq_false_of_ne e]
    rfl
theorem rd_same (sn : Int) (d : ByteArray) : ∀ (g p f : Nat) (l : List Int) (b : Nat), d.size < g + p → p ≤ d.size → d.size - p < f → rdS sn f (cutB d p) l b = rfS sn d g p l b
  | 0, p, f, l, b, hg, hp, hf => by omega
  | g + 1, p, 0, l, b, hg, hp, hf => by omega
  | g + 1, p, f + 1, l, b, hg, hp, hf => by
    rw [rfS]
    by_cases h0 : d.size ≤ p
    · rw [if_pos h0, rdS, if_pos ((find_neg _).2 (by rw [bl_cutB, List.drop_eq_nil_of_le (by rw [bl_len]; exact h0)]; rfl))]
    rw [if_neg h0]
    have hpass := pass_at_p d p (by omega)
    by_cases h5 : bt d p ≠ 165
    · rw [if_pos h5, ← rd_same sn d g (p + 1) (f + 1) l b (by omega) (by omega) (by omega)]
      rw [if_neg h5] at hpass
      rw [rdS, rdS]
      by_cases hn : F.find (cutB d p) 165 < 0
      · rw [if_pos hn, if_pos ((find_neg _).2 (by rw [← hpass]; exact (find_neg _).1 hn))]
      · have hn2 : ¬ F.find (cutB d (p + 1)) 165 < 0 := fun h => hn ((find_neg _).2 (by rw [hpass]; exact (find_neg _).1 h))
        rw [if_neg hn, if_neg hn2, aft_tail hn, aft_tail hn2, hpass]
    · rw [if_neg h5]
      rw [if_pos (Classical.not_not.1 h5)] at hpass
      have hl : p < (bl d).length := by rw [bl_len]; omega
      have hn : ¬ F.find (cutB d p) 165 < 0 := fun h => by
        have := (find_neg _).1 h
        rw [hpass, List.drop_eq_getElem_cons hl] at this
        cases this
      have ha : aft (cutB d p) = cutB d (p + 1) := by
        rw [aft_tail hn, hpass, List.tail_drop]
        apply str_inj
        rw [bl_str, bl_cutB]
      rw [rdS, if_neg hn, ha]
      by_cases hG : frG sn (cutB d (p + 1))
      · have h1 := hG.1
        rw [cutB_size] at h1
        have e : cutB (cutB d (p + 1)) (frK sn + 2) = cutB d (p + frK sn + 3) := by
          apply str_inj
          rw [bl_cutB, bl_cutB, bl_cutB, List.drop_drop, show p + 1 + (frK sn + 2) = p + frK sn + 3 by omega]
        rw [if_pos hG, if_pos hG, e]
        exact rd_same sn d g (p + frK sn + 3) f _ b (by omega) (by omega) (by omega)
      · rw [if_neg hG, if_neg hG]
        exact rd_same sn d g (p + 1) f l (b + 1) (by omega) (by omega) (by omega)
theorem cutB_zero (d : ByteArray) : cutB d 0 = d := by
  apply str_inj
  rw [bl_cutB, List.drop_zero]
theorem rread_done {sn : Int} {s : ByteArray} (hs : s.size ≤ 140737488351232) : CallSpec Try.prog 10 [.int .u8 sn, .string s] [] (rdR (F.read sn s)) := by
  have hlen := (ws_same sn).2.2
  unfold F.read
  by_cases hw : wds sn = []
  · rw [if_pos hw]
    have hr : rws sn = [] := by rw [hw] at hlen; exact List.length_eq_zero_iff.1 hlen
    exact rread_0 sn s ((rwid_done sn).1 hr) _ res_refl
  · rw [if_neg hw]
    have hr : rws sn ≠ [] := fun h => hw (by rw [h] at hlen; exact List.length_eq_zero_iff.1 hlen.symm)
    have kW := (rwid_done sn).2 hr
    have hn : 1 ≤ (rws sn).length := List.length_pos_iff.2 hr
    have h5 : (rws sn).length ≤ 5 := by rw [hlen]; exact wds_len sn
    have h17 := frK_le sn
    have hsum := sum_same sn
    have kZ := (z_loop sn s (rws sn) [] 4 h5 (rws_ok sn) (by unfold frK at h17; omega)).code
    rw [List.nil_append, show 4 + sumR (rws sn) = frK sn + 3 by unfold frK; omega] at kZ
    have kL := (m_loop hr s hs (s.size + 1) 0 [] 0 (by omega) (by omega) (by omega)).code
    have e := rd_same sn s (s.size + 1) 0 (s.size + 1) [] 0 (by omega) (by omega) (by omega)
    rw [cutB_zero] at e
    rw [← e] at kL
    generalize rdS sn (s.size + 1) s [] 0 = q at kL
    obtain ⟨l, b⟩ := q
    unfold mO at kL
    unfold rdR
    by_cases hl : l = []
    · rw [if_pos hl] at kL ⊢
      exact rread_n sn b _ s _ _ hn kW kZ kL _ res_refl
    · rw [if_neg hl] at kL ⊢
      exact rread_s sn b _ s _ _ _ _ hn kW kZ kL _ res_refl
end Go.Proofs.Ytbolppjlaipfjaa.Ex
end
section
set_option linter.unusedSectionVars false
set_option linter.unusedSimpArgs false
set_option linter.unusedVariables false
namespace Go.Proofs.Ytbolppjlaipfjaa.Ex
open Go
set_option linter.unusedVariables false
def awR1 : Res := ⟨.tuple #[slB 0 2 2, .bool true, .int .i64 2], [.own 3 [.int .i64 3, .int .i64 (-2)]], []⟩
def awR2 : Res := ⟨.tuple #[slN, .bool false, .int .i64 1], [], []⟩
def awS0 : ByteArray := ByteArray.mk #[UInt8.ofNat 5, UInt8.ofNat 3, UInt8.ofNat 254, UInt8.ofNat 255, UInt8.ofNat 255, UInt8.ofNat 255]
def awS1 : ByteArray := ByteArray.mk #[UInt8.ofNat 0, UInt8.ofNat 165, UInt8.ofNat 165, UInt8.ofNat 5, UInt8.ofNat 3, UInt8.ofNat 254, UInt8.ofNat 255, UInt8.ofNat 255, UInt8.ofNat 255, UInt8.ofNat 25, UInt8.ofNat 238, UInt8.ofNat 165, UInt8.ofNat 5]
def awS2 : ByteArray := ByteArray.mk #[UInt8.ofNat 165, UInt8.ofNat 5, UInt8.ofNat 3, UInt8.ofNat 254, UInt8.ofNat 255, UInt8.ofNat 255, UInt8.ofNat 255, UInt8.ofNat 25, UInt8.ofNat 238]
theorem awC0 : F.sum awS0 = 60953 := by decide +kernel
theorem awC1 : F.read 5 awS1 = ([3, -2], 2) := by decide +kernel
theorem awC2 : F.read 2 awS2 = ([], 1) := by decide +kernel
theorem KC : CallSpec Try.prog 27 [.string awS0] [] ⟨.int .u16 60953, [], []⟩ := by
  have h := psum_done (s := awS0) (by decide)
  rwa [awC0] at h
theorem K1 : CallSpec Try.prog 9 [.int .u8 5, .string awS1] [] awR1 := by
  have h := read_done (sn := 5) (s := awS1) (by decide)
  rw [awC1] at h
  exact h
theorem K2 : CallSpec Try.prog 9 [.int .u8 2, .string awS2] [] awR2 := by
  have h := read_done (sn := 2) (s := awS2) (by decide)
  rw [awC2] at h
  exact h
section
variable (_x : Nat)
include _x
theorem awk_p : go (exec (Try.prog) (8) (12) ([]) ([])) [(408, .call (.mk (Value.int IntKind.u16 60953) [] [])), (44, .call (.mk (.tuple #[(zSB 0 2 2), .bool true, .int .i64 2]) [.own 3 [.int .i64 3, .int .i64 (-2)]] [])), (11, .call (.mk (.tuple #[zSN, .bool false, .int .i64 1]) [] []))] = some (.mk (.bool true) [] [], true, [CallSpec Try.prog 27 [.string (ByteArray.mk #[UInt8.ofNat 5, UInt8.ofNat 3, UInt8.ofNat 254, UInt8.ofNat 255, UInt8.ofNat 255, UInt8.ofNat 255])] [] (.mk (Value.int IntKind.u16 60953) [] []), CallSpec Try.prog 9 [.int .u8 5, .string (ByteArray.mk #[UInt8.ofNat 0, UInt8.ofNat 165, UInt8.ofNat 165, UInt8.ofNat 5, UInt8.ofNat 3, UInt8.ofNat 254, UInt8.ofNat 255, UInt8.ofNat 255, UInt8.ofNat 255, UInt8.ofNat 25, UInt8.ofNat 238, UInt8.ofNat 165, UInt8.ofNat 5])] [] (.mk (.tuple #[(zSB 0 2 2), .bool true, .int .i64 2]) [.own 3 [.int .i64 3, .int .i64 (-2)]] []), CallSpec Try.prog 9 [.int .u8 2, .string (ByteArray.mk #[UInt8.ofNat 165, UInt8.ofNat 5, UInt8.ofNat 3, UInt8.ofNat 254, UInt8.ofNat 255, UInt8.ofNat 255, UInt8.ofNat 255, UInt8.ofNat 25, UInt8.ofNat 238])] [] (.mk (.tuple #[zSN, .bool false, .int .i64 1]) [] [])]) := by kernel_rfl
theorem awk (R : Res) (k_p : Res.le (.mk (.bool true) [] []) R) : CallSpec (Try.prog) (12) ([]) ([]) R := by
  exact (CallSpec.id (go_ok (exec_ok tnamed tcalm tmixed _ _ _ _) (awk_p _x ) (aC (KC) (aC (K1) (aC (K2) aN))))).le (k_p )
end
end Go.Proofs.Ytbolppjlaipfjaa.Ex
end
section
set_option linter.unusedSectionVars false
set_option linter.unusedSimpArgs false
set_option linter.unusedVariables false
namespace Go.Proofs.Ytbolppjlaipfjaa.Ex
open Go
theorem awake_done : CallSpec Try.prog 12 [] [] ⟨.bool true, [], []⟩ := awk 0 _ res_refl
end Go.Proofs.Ytbolppjlaipfjaa.Ex
end
section
set_option linter.unusedSectionVars false
set_option linter.unusedSimpArgs false
set_option linter.unusedVariables false
namespace Go.Proofs.Ytbolppjlaipfjaa.Ex
open Go
set_option linter.unusedVariables false
noncomputable def lpA : Code := loopAt Try.prog 15 0
noncomputable def lpAC : Code := .loop lpA
def frA (sn : Int) (n c q m : Nat) (i : Int) : Fr := frOf 92 [(0, .int .u8 sn), (1, slB 0 n c), (7, slB 1 q q), (28, slB 2 m m), (29, .int .i64 m), (30, .int .i64 i)]
def kA : Xt → List Nat
  | .normal => [0, 1, 7, 28, 29, 30]
  | .exit _ => [0, 1, 7, 28, 29, 30]
  | _ => [4, 5]
end Go.Proofs.Ytbolppjlaipfjaa.Ex
end
section
set_option linter.unusedSectionVars false
set_option linter.unusedSimpArgs false
set_option linter.unusedVariables false
namespace Go.Proofs.Ytbolppjlaipfjaa.Ex
open Go
set_option linter.unusedVariables false
def loW (w : Int) : Int := if w < 0 then -(256 ^ wB w / 2) else 0
def hiW (w : Int) : Int := if w < 0 then 256 ^ wB w / 2 - 1 else 256 ^ wB w - 1
def okX (w x : Int) : Prop := loW w ≤ x ∧ x ≤ hiW w
instance (w x : Int) : Decidable (okX w x) := inferInstanceAs (Decidable (loW w ≤ x ∧ x ≤ hiW w))
def byW (w x : Int) : List Int := (List.range (wB w)).map fun j => x / 256 ^ j % 256
def uB (l : List Int) : List Value := l.map fun b => .int .u8 b
def wrF : List Int → List Int → Option (List Int)
  | [], _ => some []
  | _ :: _, [] => none
  | w :: ws, x :: xs => if okX w x then (wrF ws xs).map (byW w x ++ ·) else none
def i64 (x : Int) : Prop := -9223372036854775808 ≤ x ∧ x ≤ 9223372036854775807
end Go.Proofs.Ytbolppjlaipfjaa.Ex
end
section
set_option linter.unusedSectionVars false
set_option linter.unusedSimpArgs false
set_option linter.unusedVariables false
namespace Go.Proofs.Ytbolppjlaipfjaa.Ex
open Go
set_option linter.unusedVariables false
def strB (bs : List Value) : ByteArray := ⟨(bs.map unbyte).toArray⟩
end Go.Proofs.Ytbolppjlaipfjaa.Ex
end
section
set_option linter.unusedSectionVars false
set_option linter.unusedSimpArgs false
set_option linter.unusedVariables false
namespace Go.Proofs.Ytbolppjlaipfjaa.Ex
open Go
set_option linter.unusedVariables false
def wrS (sn : Int) (l : List Int) : ByteArray := strB (uB (sn :: l))
def wrT (sn : Int) (l : List Int) : ByteArray := a5 ++ wrS sn l ++ strB (uB [F.sum (wrS sn l) % 256, F.sum (wrS sn l) / 256])
def F.write (sn : Int) (xs : List Int) : ByteArray × Int :=
  if wds sn = [] then (⟨#[]⟩, 6) else if (wds sn).length ≠ xs.length then (⟨#[]⟩, 50) else match wrF (wds sn) xs with
    | none => (⟨#[]⟩, 5)
    | some l => (wrT sn l, 0)
end Go.Proofs.Ytbolppjlaipfjaa.Ex
end
section
set_option linter.unusedSectionVars false
set_option linter.unusedSimpArgs false
set_option linter.unusedVariables false
namespace Go.Proofs.Ytbolppjlaipfjaa.Ex
open Go
set_option linter.unusedVariables false
theorem le1 (s : ByteArray) (k : Nat) : leN s k 1 = bt s k := by show 0 + bt s (k + 0) * 1 = _; simp
theorem le2 (s : ByteArray) (k : Nat) : leN s k 2 = bt s k + bt s (k + 1) * 256 := by show leN s k 1 + bt s (k + 1) * 256 = _; rw [le1]
end Go.Proofs.Ytbolppjlaipfjaa.Ex
end
section
set_option linter.unusedSectionVars false
set_option linter.unusedSimpArgs false
set_option linter.unusedVariables false
namespace Go.Proofs.Ytbolppjlaipfjaa.Ex
open Go
set_option linter.unusedVariables false
noncomputable def lpQ : Code := loopAt Try.prog 16 0
noncomputable def lpQC : Code := .loop lpQ
def frQ (sn : Int) (n c q m : Nat) (i : Int) : Fr := frOf 105 [(0, .int .u8 sn), (1, slB 0 n c), (6, slB 1 m m), (7, slB 2 q q), (8, .int .i64 i)]
end Go.Proofs.Ytbolppjlaipfjaa.Ex
end
section
set_option linter.unusedSectionVars false
set_option linter.unusedSimpArgs false
set_option linter.unusedVariables false
namespace Go.Proofs.Ytbolppjlaipfjaa.Ex
open Go
set_option linter.unusedVariables false
noncomputable def rgL1 : Code := regAt Try.prog 14 1
def lmarks : List Value := [.int .i64 (-7770777), .int .i64 (-7770777), .int .i64 (-7770777), .int .i64 (-7770777)]
noncomputable def rgL2 : Code := regAt Try.prog 14 2
noncomputable def lpL : Code := loopAt Try.prog 14 0
noncomputable def lpLC : Code := .loop lpL
def frLe (n k : Nat) (i : Int) : Fr := frOf 23 [(0, slB 0 n n), (3, slB 1 k (n + 4)), (4, .int .i64 i)]
end Go.Proofs.Ytbolppjlaipfjaa.Ex
end
section
set_option linter.unusedSectionVars false
set_option linter.unusedSimpArgs false
set_option linter.unusedVariables false
namespace Go.Proofs.Ytbolppjlaipfjaa.Ex
open Go
set_option linter.unusedVariables false
end Go.Proofs.Ytbolppjlaipfjaa.Ex
end
section
set_option linter.unusedSectionVars false
set_option linter.unusedSimpArgs false
set_option linter.unusedVariables false
namespace Go.Proofs.Ytbolppjlaipfjaa.Ex
open Go
set_option linter.unusedVariables false
noncomputable def lpS : Code := loopAt Try.prog 11 0
theorem lpS_calm : calmC lpS = true := loopAt_calm tcalm 11 0
noncomputable def lpSC : Code := .loop lpS
def frS (n c m d : Nat) (i : Int) : Fr := frOf 26 [(0, slB 0 n c), (1, slB 1 m d), (5, .int .i64 i)]
noncomputable def lpK : Code := loopAt Try.prog 17 0
noncomputable def lpKC : Code := .loop lpK
def frK' (n c : Nat) (i : Int) : Fr := frOf 29 [(5, slB 0 n c), (6, .int .i64 i)]
section
variable (n c m d i : Nat) (x : Int) (us vs : List Value) (hu : n ≤ List.length us) (hv : m ≤ List.length vs) (hi : i < n ∧ i < m ∧ n ≤ 17592186043904) (hx0 : isInt .i64 (List.getD us (0 + Int.toNat (↑i : Int) * 1) undef) = true) (hx : Value.int .i64 (intOf (List.getD us (0 + Int.toNat (↑i : Int) * 1) undef)) = .int .i64 x) (hy0 : isInt .i64 (List.getD vs (0 + Int.toNat (↑i : Int) * 1) undef) = true) (hy : Value.int .i64 (intOf (List.getD vs (0 + Int.toNat (↑i : Int) * 1) undef)) = .int .i64 x)
include n c m d i x us vs hu hv hi hx0 hx hy0 hy
theorem smo_r_p : go (body (Try.prog) (8) (2) (8) (fun x_1 => [0, 1, 5]) (lpS) (frS n c m d (↑i : Int)) ([.own 3 us, .own 3 vs])) [(5, .dec true), (2, Itm.must), (1, Itm.must), (0, Itm.must), (0, Itm.val (.int .i64 x)), (2, Itm.must), (1, Itm.must), (0, Itm.must), (0, Itm.val (.int .i64 x)), (2, .dec false), (1, Itm.val (.int .i64 ((↑i : Int) + 1)))] = some (Out.mk Xt.normal (frOf 26 [(0, (zSB 0 n c)), (1, (zSB 1 m d)), (5, .int .i64 ((↑i : Int) + 1))]) [.own 3 us, .own 3 vs] [], true, [decide ((↑i : Int) < (↑n : Int)) = true, inside (↑i : Int) n = true, decide (0 + Int.toNat (↑i : Int) * 1 < List.length us) = true, isInt .i64 (List.getD us (0 + Int.toNat (↑i : Int) * 1) undef) = true, type_of% hx, inside (↑i : Int) m = true, decide (0 + Int.toNat (↑i : Int) * 1 < List.length vs) = true, isInt .i64 (List.getD vs (0 + Int.toNat (↑i : Int) * 1) undef) = true, type_of% hy, (!decide (x = x)) = false, Value.int .i64 (IntKind.wrap .i64 ((↑i : Int) + 1)) = .int .i64 ((↑i : Int) + 1)]) := by kernel_rfl
theorem smo_r (R : Out) (k_p : Out.le (Out.mk Xt.normal (frOf 26 [(0, (zSB 0 n c)), (1, (zSB 1 m d)), (5, .int .i64 ((↑i : Int) + 1))]) [.own 3 us, .own 3 vs] []) R) : CodeSpec (Try.prog) (2) (lpS) (frS n c m d (↑i : Int)) ([.own 3 us, .own 3 vs]) R := by
  exact (CodeSpec.id (go_ok (body_ok tnamed tcalm tmixed _ _ _ _ _ _ lpS_calm) (smo_r_p n c m d i x us vs hu hv hi hx0 hx hy0 hy ) (aC dO (aC (inside_of (by omega)) (aC dO (aC ((by omega)) (aC (hx) (aC (inside_of (by omega)) (aC dO (aC ((by omega)) (aC (hy) (aC (congrArg not dO) (aC (congrArg (Value.int _) (Go.IntWalk.i64_in _ (by omega))) aN))))))))))))).le (k_p )
end
section
variable (n c m d : Nat) (us vs : List Value)
include n c m d us vs
theorem smo_e_p : go (body (Try.prog) (8) (2) (8) (fun x => [0, 1, 5]) (lpS) (frS n c m d (↑n : Int)) ([.own 3 us, .own 3 vs])) [(5, .dec false)] = some (Out.mk (Xt.exit 0) (frOf 26 [(0, (zSB 0 n c)), (1, (zSB 1 m d)), (5, .int .i64 (↑n : Int))]) [.own 3 us, .own 3 vs] [], true, [decide ((↑n : Int) < (↑n : Int)) = false]) := by kernel_rfl
theorem smo_e (R : Out) (k_p : Out.le (Out.mk (Xt.exit 0) (frOf 26 [(0, (zSB 0 n c)), (1, (zSB 1 m d)), (5, .int .i64 (↑n : Int))]) [.own 3 us, .own 3 vs] []) R) : CodeSpec (Try.prog) (2) (lpS) (frS n c m d (↑n : Int)) ([.own 3 us, .own 3 vs]) R := by
  exact (CodeSpec.id (go_ok (body_ok tnamed tcalm tmixed _ _ _ _ _ _ lpS_calm) (smo_e_p n c m d us vs ) (aC dN aN))).le (k_p )
end
section
variable (n c d : Nat) (us vs : List Value) (kL : CodeSpec Try.prog 2 lpSC (frS n c n d 0) [.own 3 us, .own 3 vs] (Out.mk (Xt.exit 0) (frS n c n d (↑n : Int)) [.own 3 us, .own 3 vs] []))
include n c d us vs kL
theorem smo_p : go (exec (Try.prog) (8) (11) ([slB 0 n c, slB 1 n d]) ([.own 3 us, .own 3 vs])) [(9, .dec false), (2, Itm.loop [0, 1, 5] (Out.mk (Xt.exit 0) (frOf 26 [(0, (zSB 0 n c)), (1, (zSB 1 n d)), (5, .int .i64 (↑n : Int))]) [.own 3 us, .own 3 vs] []))] = some (.mk (.bool true) [.own 3 us, .own 3 vs] [], true, [(!decide ((↑n : Int) = (↑n : Int))) = false, type_of% kL]) := by kernel_rfl
theorem smo (R : Res) (k_p : Res.le (.mk (.bool true) [.own 3 us, .own 3 vs] []) R) : CallSpec (Try.prog) (11) ([slB 0 n c, slB 1 n d]) ([.own 3 us, .own 3 vs]) R := by
  exact (CallSpec.id (go_ok (exec_ok tnamed tcalm tmixed _ _ _ _) (smo_p n c d us vs kL ) (aC (congrArg not dO) (aC (kL) aN)))).le (k_p )
end
section
variable (_x : Nat)
include _x
theorem smn_p : go (exec (Try.prog) (8) (11) ([slN, slN]) ([])) [] = some (.mk (.bool true) [] [], true, []) := by kernel_rfl
theorem smn (R : Res) (k_p : Res.le (.mk (.bool true) [] []) R) : CallSpec (Try.prog) (11) ([slN, slN]) ([]) R := by
  exact (CallSpec.id (go_ok (exec_ok tnamed tcalm tmixed _ _ _ _) (smn_p _x ) aN)).le (k_p )
end
end Go.Proofs.Ytbolppjlaipfjaa.Ex
end
section
set_option linter.unusedSectionVars false
set_option linter.unusedSimpArgs false
set_option linter.unusedVariables false
namespace Go.Proofs.Ytbolppjlaipfjaa.Ex
open Go
set_option linter.unusedVariables false
theorem iW_get (l : List Int) (ex : List Value) (i : Nat) (h : i < l.length) : List.getD (iW l ++ ex) (0 + Int.toNat ((i : Nat) : Int) * 1) undef = .int .i64 l[i] := by
  rw [show 0 + Int.toNat ((i : Nat) : Int) * 1 = i by omega, List.getD_eq_getElem?_getD, List.getElem?_append_left (by rw [iW_len]; exact h)]
  simp [iW, h]
theorem sm_loopO (l : List Int) (ex ey : List Value) (c d : Nat) (hl : l.length ≤ 17592186043904) : ∀ k i, i + k = l.length → LoopSpec Try.prog 2 lpS (frS l.length c l.length d (i : Nat)) [.own 3 (iW l ++ ex), .own 3 (iW l ++ ey)] ⟨.exit 0, frS l.length c l.length d l.length, [.own 3 (iW l ++ ex), .own 3 (iW l ++ ey)], []⟩ := by
  intro k
  induction k with
  | zero =>
    intro i hi
    obtain rfl : i = l.length := by omega
    exact .last (smo_e l.length c l.length d _ _ _ out_refl) (by intro h; cases h)
  | succ k ih =>
    intro i hi
    have h : i < l.length := by omega
    have e1 := iW_get l ex i h
    have e2 := iW_get l ey i h
    exact .more (smo_r l.length c l.length d i l[i] (iW l ++ ex) (iW l ++ ey) (by rw [List.length_append, iW_len]; omega) (by rw [List.length_append, iW_len]; omega) ⟨h, h, hl⟩ (by rw [e1]; rfl) (by rw [e1]; rfl) (by rw [e2]; rfl) (by rw [e2]; rfl) ⟨.normal, frS l.length c l.length d (i + 1 : Nat), [.own 3 (iW l ++ ex), .own 3 (iW l ++ ey)], []⟩ ⟨rfl, rfl, rfl, fun j hj => hj⟩) rfl (ih (i + 1) (by omega)) (fun j hj _ => by cases hj)
theorem same_o {l : List Int} {ex ey : List Value} {c d : Nat} (hl : l.length ≤ 17592186043904) : CallSpec Try.prog 11 [slB 0 l.length c, slB 1 l.length d] [.own 3 (iW l ++ ex), .own 3 (iW l ++ ey)] ⟨.bool true, [.own 3 (iW l ++ ex), .own 3 (iW l ++ ey)], []⟩ :=
  smo l.length c d _ _ (sm_loopO l ex ey c d hl l.length 0 (by omega)).code _ res_refl
theorem same_n : CallSpec Try.prog 11 [slN, slN] [] ⟨.bool true, [], []⟩ := smn 0 _ res_refl
end Go.Proofs.Ytbolppjlaipfjaa.Ex
end
section
set_option linter.unusedSectionVars false
set_option linter.unusedSimpArgs false
set_option linter.unusedVariables false
-- PRINTED BY print.sh 35421559b90ae4d0a3588c463048766b98c2df88dd9212a6774a882060cdf62d: not written by this session
-- PRINTED WORDS (module Derived/Print/Words.lean): go-wishes' parts 1 to 38 and go-gate-2's additions: AI agents of Go's test side, Mon Nov 16 2026; no person has read them. Plain theorems and definitions: no macro, no elab, no axiom.
set_option linter.unusedVariables false
set_option linter.unusedSimpArgs false
namespace Go.Proofs.YtbolppjlaipfjaaW.PrintWords
open Go.RowKit

/-- A fact that the walk's simp doesn't look into. -/
structure Aside0 (p : Prop) : Prop where mk :: (out : p)
/-- The world is the old one, some orders having been drawn. -/
structure Drawn0 (w w' : World) : Prop where mk :: (out : ∃ n, w' = w.drewN n)
theorem Drawn0.refl (w : World) : Drawn0 w w := ⟨⟨0, rfl⟩⟩
theorem Drawn0.step {w w' : World} (h : Drawn0 w w') (n : Nat) : Drawn0 w (w'.drewN n) := by
  obtain ⟨m, rfl⟩ := h
  exact ⟨⟨m + n, World.drewN_drewN ..⟩⟩
theorem Drawn0.grown {w w' : World} (h : Drawn0 w w') : Grown w w' := by
  obtain ⟨n, rfl⟩ := h
  induction n with
  | zero => exact Grown.refl _
  | succ n ih => rw [← World.drew_drewN]; exact Grown.drew ih
theorem Drawn0.below {w w' : World} (h : Drawn0 w w') : Below w.heap.size w w' := by
  obtain ⟨n, rfl⟩ := h
  induction n with
  | zero => exact Below.refl _ _
  | succ n ih => rw [← World.drew_drewN]; exact ih.drew


def rd (xs : List Int) (i : Int) : Int := xs.getD i.toNat 0
def bt (s : ByteArray) (i : Int) : Int := if h : i.toNat < s.size then ((s[i.toNat]'h).toNat : Int) else 0
theorem bt_at (s : ByteArray) (i : Int) : ∀ h : i.toNat < s.size, ((s[i.toNat]'h).toNat : Int) = bt s i := fun h => by simp [bt, h]
theorem below_alloc {w W : World} (h : Below w.heap.size w W) (o : Obj) : Below w.heap.size w (W.alloc o) := h.alloc h.size o
theorem grown_of_below {w w1 : World} (h : Below w.heap.size w w1) (row : Option Nat) : w.grownBy w1 row := ⟨h.os, h.tape, h.output, h.size, fun i hi _ => h.block i hi⟩
theorem pw_cell_below {w w1 : World} (h : Below w.heap.size w w1) {a : Addr} {v : Value} (hc : w.cell? a = some v) : w1.cell? a = some v := (h.cell (World.block_lt_of_cell? w a hc)).trans hc

def ReadsInt (w : World) (k : IntKind) (A : Option Addr) (n : Nat) (xs : List Int) : Prop :=
  xs.length = n ∧ n ≤ 9223372036854775807 ∧ (0 < n → ∃ ad, A = some ad ∧ ∀ j, j < n → w.cell? (ad.add j) = some (.int k (xs.getD j 0)))
theorem ReadsInt.at_ {w : World} {k : IntKind} {A : Option Addr} {n : Nat} {xs : List Int} (h : ReadsInt w k A n xs) (i : Int) (h0 : 0 ≤ i) (h1 : i < n) : ∃ ad, A = some ad ∧ w.cell? (ad.add i.toNat) = some (.int k (rd xs i)) := by
  obtain ⟨ad, e, hc⟩ := h.2.2 (by omega)
  exact ⟨ad, e, hc _ (by omega)⟩
theorem ReadsInt.below {w w1 : World} {k : IntKind} {A : Option Addr} {n : Nat} {xs : List Int} (h : ReadsInt w k A n xs) (hb : Below w.heap.size w w1) : ReadsInt w1 k A n xs :=
  ⟨h.1, h.2.1, fun hn => by
    obtain ⟨ad, e, hc⟩ := h.2.2 hn
    exact ⟨ad, e, fun j hj => pw_cell_below hb (hc j hj)⟩⟩

theorem own_base {w : World} {base : Nat} {e : TypeId} {size n : Nat} {v : Value} {xs : List Value} (h : w.ownsRow base e size v n xs) (k : Nat) (hk : v.ownBlock = some k) : base ≤ k := by
  rcases h.2 with ⟨rfl, _⟩ | ⟨g, cap, cur, rfl, hb, _⟩
  · simp [Value.ownBlock] at hk
  · have : g = k := by simpa [Value.ownBlock] using hk
    omega
theorem own_lt {w : World} {base : Nat} {e : TypeId} {size n : Nat} {v : Value} {xs : List Value} (h : w.ownsRow base e size v n xs) (k : Nat) (hk : v.ownBlock = some k) : k < w.heap.size := by
  rcases h.2 with ⟨rfl, _⟩ | ⟨g, cap, cur, rfl, hb, hh, _⟩
  · simp [Value.ownBlock] at hk
  · have : g = k := by simpa [Value.ownBlock] using hk
    subst this
    exact (Array.getElem?_eq_some_iff.1 hh).1
theorem pw_own_below {w w1 : World} {base : Nat} {e : TypeId} {size n : Nat} {v : Value} {xs : List Value} (h : w.ownsRow base e size v n xs) (hb : Below w.heap.size w w1) : w1.ownsRow base e size v n xs :=
  h.kept (grown_of_below hb none) (by cases v.ownBlock <;> simp)
theorem own_slice {w : World} {base n : Nat} {e : TypeId} {size : Nat} {v : Value} {xs : List Value} (h : w.ownsRow base e size v n xs) : ∃ A c, v = .slice A n c := by
  rcases h.2 with ⟨rfl, rfl⟩ | ⟨g, cap, cur, rfl, _⟩
  · exact ⟨none, 0, rfl⟩
  · exact ⟨_, cap, rfl⟩
section
variable {P : Program} {ops : Array Oper} {rest : List Oper} {o : Oper} {a : Act} {Q : Exit → Act → World → Prop}

end

section
variable {P : Program}
end
section
variable {P : Program} {ops : Array Oper} {rest : List Oper} {o : Oper} {a : Act} {Q : Exit → Act → World → Prop}
end

def bytesOf (s : ByteArray) : List Int := s.data.toList.map fun b => (b.toNat : Int)
def LeO {α : Type} (a b : Option α) : Prop := ∀ r, a = some r → b = some r
theorem LeO.refl {α : Type} (a : Option α) : LeO a a := fun _ h => h
theorem LeO.none {α : Type} (b : Option α) : LeO Option.none b := fun _ h => by cases h
theorem LeO.trans {α : Type} {a b c : Option α} (h : LeO a b) (k : LeO b c) : LeO a c := fun r hr => k r (h r hr)
theorem LeO.bind {α β : Type} {a a' : Option α} {f f' : α → Option β} (h : LeO a a') (k : ∀ x, LeO (f x) (f' x)) : LeO (a.bind f) (a'.bind f') := by
  intro r hr
  obtain ⟨x, hx, hf⟩ := Option.bind_eq_some_iff.1 hr
  exact Option.bind_eq_some_iff.2 ⟨x, h x hx, k x r hf⟩
theorem LeO.map {α β : Type} {a a' : Option α} (f : α → β) (h : LeO a a') : LeO (a.map f) (a'.map f) := by
  intro r hr
  obtain ⟨x, hx, hf⟩ := Option.map_eq_some_iff.1 hr
  exact Option.map_eq_some_iff.2 ⟨x, h x hx, hf⟩
theorem more_rounds {α : Type} {g : Nat → Option α} (h : ∀ k, LeO (g k) (g (k + 1))) (k : Nat) : ∀ j, LeO (g k) (g (k + j))
  | 0 => LeO.refl _
  | j + 1 => (more_rounds h k j).trans (h (k + j))
theorem at_rounds {α : Type} {g : Nat → Option α} (h : ∀ k, LeO (g k) (g (k + 1))) {k k' : Nat} (hk : k ≤ k') {r : α} (hr : g k = some r) : g k' = some r := by
  have := more_rounds h k (k' - k) r hr
  rwa [Nat.add_sub_cancel' hk] at this
def Reps {α : Type} (R : α → List Value → Prop) (size : Nat) (ps : List α) (cs : List Value) : Prop :=
  cs.length = ps.length * size ∧ ∀ j p, ps[j]? = some p → R p ((cs.drop (j * size)).take size)
theorem Reps.none {α : Type} (R : α → List Value → Prop) (size : Nat) : Reps R size [] [] := ⟨by simp, fun j p h => by simp at h⟩
theorem Reps.snoc {α : Type} {R : α → List Value → Prop} {size : Nat} {ps : List α} {cs c : List Value} {p : α} (h : Reps R size ps cs) (hp : R p c) (hc : c.length = size) : Reps R size (ps ++ [p]) (cs ++ c) := by
  refine ⟨by rw [List.length_append, h.1, hc, List.length_append, List.length_singleton, Nat.add_mul, Nat.one_mul], fun j q hq => ?_⟩
  rcases Nat.lt_or_ge j ps.length with hj | hj
  · rw [List.getElem?_append_left hj] at hq
    have h1 : j * size + size ≤ cs.length := by rw [h.1, ← Nat.succ_mul]; exact Nat.mul_le_mul_right _ hj
    have h2 := h.2 j q hq
    rw [List.drop_append_of_le_length (by omega), List.take_append_of_le_length (by rw [List.length_drop]; omega)]
    exact h2
  · have hj' : j = ps.length := by
      have := (List.getElem?_eq_some_iff.1 hq).1
      rw [List.length_append, List.length_singleton] at this
      omega
    subst hj'
    have hq' : p = q := by simpa using hq
    subst hq'
    rw [← h.1, List.drop_left, ← hc, List.take_length]
    exact hp
theorem Reps.imp_ {α : Type} {R R' : α → List Value → Prop} {size : Nat} {ps : List α} {cs : List Value} (h : Reps R size ps cs) (hR : ∀ p c, R p c → R' p c) : Reps R' size ps cs := ⟨h.1, fun j p hj => hR _ _ (h.2 j p hj)⟩

def ReadsRow {α : Type} (R : α → List Value → Prop) (size : Nat) (w : World) (A : Option Addr) (n : Nat) (ps : List α) : Prop :=
  ps.length = n ∧ n ≤ 9223372036854775807 ∧ (0 < n → ∃ ad, A = some ad ∧ ∀ j p, ps[j]? = some p → ∃ c, c.length = size ∧ R p c ∧ ∀ i u, c[i]? = some u → w.cell? (ad.add (j * size + i)) = some u)
theorem ReadsRow.imp_ {α : Type} {R R' : α → List Value → Prop} {size : Nat} {w w1 : World} {A : Option Addr} {n : Nat} {ps : List α} (h : ReadsRow R size w A n ps) (hb : Below w.heap.size w w1) (hR : ∀ p c, R p c → R' p c) : ReadsRow R' size w1 A n ps :=
  ⟨h.1, h.2.1, fun hn => by
    obtain ⟨ad, e, hc⟩ := h.2.2 hn
    refine ⟨ad, e, fun j p hj => ?_⟩
    obtain ⟨c, hs, hr, hcell⟩ := hc j p hj
    exact ⟨c, hs, hR _ _ hr, fun i u hu => pw_cell_below hb (hcell i u hu)⟩⟩
theorem own_reads_row {α : Type} {R : α → List Value → Prop} {w : World} {base n size : Nat} {e : TypeId} {v : Value} {ps : List α} {cs : List Value} (h : w.ownsRow base e size v n cs) (hR : Reps R size ps cs) (hn : ps.length = n) :
    ∃ A c, v = .slice A n c ∧ ReadsRow R size w A n ps := by
  rcases Nat.eq_zero_or_pos n with h0 | h0
  · rcases h.2 with ⟨rfl, rfl⟩ | ⟨g, cap, cur, rfl, _⟩
    · exact ⟨none, 0, rfl, hn, by omega, fun hp => absurd hp (by omega)⟩
    · exact ⟨_, cap, rfl, hn, by omega, fun hp => absurd hp (by omega)⟩
  · obtain ⟨g, cap, rfl, _, _⟩ := h.form h0
    have hm : n ≤ 9223372036854775807 := by
      rcases h.2 with ⟨_, h1⟩ | ⟨g', cap', cur, he, _, _, h1, h2, _⟩
      · omega
      · simp only [maxLen] at h2
        omega
    refine ⟨_, cap, rfl, hn, hm, fun _ => ⟨_, rfl, fun j p hj => ⟨(cs.drop (j * size)).take size, ?_, hR.2 j p hj, fun i u hu => ?_⟩⟩⟩
    · have hjl := (List.getElem?_eq_some_iff.1 hj).1
      have h1 : j * size + size ≤ cs.length := by rw [hR.1, ← Nat.succ_mul]; exact Nat.mul_le_mul_right _ hjl
      rw [List.length_take, List.length_drop]
      omega
    · refine h.cells (g := g) rfl _ u ?_
      rw [List.getElem?_take] at hu
      split at hu
      · rw [List.getElem?_drop] at hu
        exact hu
      · cases hu
section
variable {P : Program} {ops : Array Oper} {rest : List Oper} {o : Oper} {a : Act} {Q : Exit → Act → World → Prop}
theorem print_append_cells {w0 W : World} (base : Nat) (hgd : o.guard = none) (s x : Operand) (t e : TypeId) (z : Value) (size bytes : Nat)
    (ho : o.op = .call { callee := .builtin .append, args := #[s, x], argTypes := #[t, t] })
    (ht : P.underlying t = some (.slice e)) (hinfo : (P.info? e).map (fun i => (i.zero, i.size, i.bytes)) = some (some z, size, bytes)) (hz : z.cells.size = size) (hs0 : 0 < size) (hb0 : 0 < bytes)
    (v : Value) (n : Nat) (xs ys : List Value) (hs : a.eval s = v) (hx : a.eval x = .slice (some ⟨W.heap.size, 0, none⟩) 1 1) (hys : ys.length = size) (h1 : ∀ u ∈ ys, u.oneCell' = true)
    (HO : W.ownsRow base e size v n xs) (HB : Below base w0 W) (hbase : base ≤ W.heap.size) (hl : (n + 1) * bytes ≤ 140737488355328)
    (h : ∀ v1 w1, w1.ownsRow base e size v1 (n + 1) (xs ++ ys) → Below base w0 w1 → W.grownBy w1 v.ownBlock → (v1.ownBlock = v.ownBlock ∨ ∃ b, v1.ownBlock = some b ∧ W.heap.size ≤ b) → wpList P ops Q rest (a.put o.dst v1) w1) :
    wpList P ops Q (o :: rest) a (W.alloc (.cells ys.toArray e)) := by
  obtain ⟨i0, hi, hzz⟩ := Option.map_eq_some_iff.1 hinfo
  simp only [Prod.mk.injEq] at hzz
  obtain ⟨hz0, hz1, hz2⟩ := hzz
  have hlen : n + 1 ≤ 140737488355328 := Nat.le_trans (Nat.le_mul_of_pos_right _ hb0) hl
  refine wpList_append_own_at (W.alloc (.cells ys.toArray e)) hgd s x t ho base e i0 z size bytes ht hi hz0 hz1 hz2 hz hs0 v n xs hs (HO.alloc _) ⟨W.heap.size, 0, none⟩ 1 1 ys hx (by rw [hys]; simp)
    (by simpa using World.news_of_block (cs := ys.toArray) (t := e) (fr := (0, 0)) (heap_alloc_new W (.cells ys.toArray e))) h1 (by simp only [maxLen]; omega) hl (by simp; omega) ?_
  intro v1 w1 hown hg _ hat
  refine h v1 w1 hown ((HB.alloc hbase _).grown hg (by simp; omega) (own_base HO)) (World.grownBy.trans (World.grownBy_alloc W _ _) hg) ?_
  rcases hat with hat | hat
  · exact .inl hat
  · exact .inr ⟨_, hat, by simp⟩
end

theorem own_ne {w : World} {base : Nat} {e t : TypeId} {size n g : Nat} {v : Value} {xs : List Value} {cs : Array Value} (h : w.ownsRow base e size v n xs) (hg : w.heap[g]? = some (.cells cs t (0, 0))) (hne : e ≠ t) : some g ≠ v.ownBlock := by
  rcases h.2 with ⟨rfl, _⟩ | ⟨g', cap, cur, rfl, _, hh, _⟩
  · simp [Value.ownBlock]
  · intro he
    have : g = g' := by simpa [Value.ownBlock] using he
    subst this
    rw [hg] at hh
    injection hh with hh
    injection hh with _ ht
    exact hne ht.symm
theorem blk_set {w : World} {g : Nat} {t : TypeId} {cs : Array Value} (h : w.heap[g]? = some (.cells cs t (0, 0))) (i : Nat) (u : Value) : (w.setCell ⟨g, i, none⟩ u).heap[g]? = some (.cells (cs.setIfInBounds i u) t (0, 0)) := by
  simp [World.setCell, Array.getElem?_modify, h]
theorem blk_far {w : World} {g : Nat} {t : TypeId} {cs : Array Value} (h : w.heap[g]? = some (.cells cs t (0, 0))) {p : Addr} (hp : g ≠ p.block) (u : Value) : (w.setCell p u).heap[g]? = some (.cells cs t (0, 0)) := (Below.heap_setCell w p u g hp).trans h
theorem blk_lt {w : World} {g : Nat} {o : Obj} (h : w.heap[g]? = some o) : g < w.heap.size := (Array.getElem?_eq_some_iff.1 h).1
theorem blk_cell {w : World} {g : Nat} {t : TypeId} {cs : Array Value} (h : w.heap[g]? = some (.cells cs t (0, 0))) (i : Nat) : w.cell? ⟨g, i, none⟩ = cs[i]? := cell_of_row w g i cs t (0, 0) h
theorem blk_frozen {w : World} {g : Nat} {t : TypeId} {cs : Array Value} (h : w.heap[g]? = some (.cells cs t (0, 0))) (i : Nat) : w.frozen? ⟨g, i, none⟩ = false := by simp [World.frozen?, h]
def KeepBut (w w' : World) (g : Nat) (row : Option Nat) : Prop := w.heap.size ≤ w'.heap.size ∧ ∀ i, i < w.heap.size → i ≠ g → some i ≠ row → w'.heap[i]? = w.heap[i]?
theorem KeepBut.refl (w : World) (g : Nat) (row : Option Nat) : KeepBut w w g row := ⟨Nat.le_refl _, fun _ _ _ _ => rfl⟩
theorem KeepBut.of_below {w w1 : World} (h : Below w.heap.size w w1) (g : Nat) (row : Option Nat) : KeepBut w w1 g row := ⟨h.size, fun i hi _ _ => h.block i hi⟩
theorem KeepBut.trans {w w1 w2 : World} {g : Nat} {row row1 : Option Nat} (h : KeepBut w w1 g row) (k : KeepBut w1 w2 g row1) (hr : row1 = row ∨ ∃ b, row1 = some b ∧ w.heap.size ≤ b) : KeepBut w w2 g row :=
  ⟨Nat.le_trans h.1 k.1, fun i hi hg hn => by
    refine (k.2 i (Nat.lt_of_lt_of_le hi h.1) hg ?_).trans (h.2 i hi hg hn)
    rcases hr with rfl | ⟨b, rfl, hb⟩
    · exact hn
    · intro e
      injection e with e
      omega⟩
theorem KeepBut.blk {w w1 : World} {g g' : Nat} {row : Option Nat} {o : Obj} (h : KeepBut w w1 g row) (hb : w.heap[g']? = some o) (hg : g' ≠ g) (hr : some g' ≠ row) : w1.heap[g']? = some o := (h.2 g' (blk_lt hb) hg hr).trans hb
theorem KeepBut.own {w w1 : World} {g : Nat} {row : Option Nat} {base : Nat} {e : TypeId} {size n : Nat} {v : Value} {xs : List Value} (h : KeepBut w w1 g row) (ho : w.ownsRow base e size v n xs) (hg : v.ownBlock ≠ some g) (hr : v.ownBlock = none ∨ v.ownBlock ≠ row) : w1.ownsRow base e size v n xs := by
  obtain ⟨h1, h2⟩ := ho
  refine ⟨h1, ?_⟩
  rcases h2 with h2 | ⟨b, cap, cur, rfl, hb, hh, r⟩
  · exact .inl h2
  · refine .inr ⟨b, cap, cur, rfl, hb, h.blk hh ?_ ?_, r⟩
    · intro e
      exact hg (by rw [← e]; rfl)
    · rcases hr with hr | hr
      · simp [Value.ownBlock] at hr
      · exact hr
def Ev {α : Type} (g : Nat → Option α) (r : α) : Prop := ∃ K, ∀ k, K ≤ k → g k = some r
theorem Ev.of {α : Type} {g : Nat → Option α} {r : α} (hg : ∀ k, LeO (g k) (g (k + 1))) {k : Nat} (h : g k = some r) : Ev g r := ⟨k, fun _ hk => at_rounds hg hk h⟩
theorem Ev.now {α : Type} (r : α) : Ev (fun _ => some r) r := ⟨0, fun _ _ => rfl⟩
theorem Ev.rounds {α : Type} {g : Nat → Option α} {r : α} (h : Ev g r) : ∃ k, g k = some r := by
  obtain ⟨K, h⟩ := h
  exact ⟨K, h K (Nat.le_refl _)⟩
theorem Ev.bind {α β : Type} {g : Nat → Option α} {f : Nat → α → Option β} {a : α} {r : β} (h : Ev g a) (k : Ev (fun n => f n a) r) : Ev (fun n => (g n).bind (f n)) r := by
  obtain ⟨K, h⟩ := h
  obtain ⟨K', k⟩ := k
  refine ⟨max K K', fun n hn => ?_⟩
  have h1 := h n (by omega)
  have h2 := k n (by omega)
  simp only [h1, Option.bind_some]
  exact h2
theorem Ev.step {α : Type} {g f : Nat → Option α} {r : α} (h : ∀ k, g (k + 1) = f k) (k : Ev f r) : Ev g r := by
  obtain ⟨K, k⟩ := k
  refine ⟨K + 1, fun n hn => ?_⟩
  obtain ⟨m, rfl⟩ : ∃ m, n = m + 1 := ⟨n - 1, by omega⟩
  rw [h]
  exact k m (by omega)
theorem Ev.congr {α : Type} {g f : Nat → Option α} {r : α} (h : ∀ k, g k = f k) (k : Ev f r) : Ev g r := by
  obtain ⟨K, k⟩ := k
  exact ⟨K, fun n hn => (h n).trans (k n hn)⟩
section
variable {P : Program} {ops : Array Oper} {o : Oper} {a : Act} {Q : Exit → Act → World → Prop} {K : Act → World → Prop}
end
theorem own_weaken {w : World} {base base' : Nat} {e : TypeId} {size n : Nat} {v : Value} {xs : List Value} (h : w.ownsRow base e size v n xs) (hb : base' ≤ base) : w.ownsRow base' e size v n xs := by
  obtain ⟨h1, h2⟩ := h
  refine ⟨h1, ?_⟩
  rcases h2 with h2 | ⟨g, cap, cur, rfl, hg, r⟩
  · exact .inl h2
  · exact .inr ⟨g, cap, cur, rfl, Nat.le_trans hb hg, r⟩
section
variable {α : Type} {enc : α → Value} {d : α}
def rdOf (d : α) (xs : List α) (i : Int) : α := xs.getD i.toNat d
def ReadsOf (enc : α → Value) (d : α) (w : World) (A : Option Addr) (n : Nat) (xs : List α) : Prop :=
  xs.length = n ∧ n ≤ 9223372036854775807 ∧ (0 < n → ∃ ad, A = some ad ∧ ∀ j, j < n → w.cell? (ad.add j) = some (enc (xs.getD j d)))
theorem ReadsOf.at_ {w : World} {A : Option Addr} {n : Nat} {xs : List α} (h : ReadsOf enc d w A n xs) (i : Int) (h0 : 0 ≤ i) (h1 : i < n) : ∃ ad, A = some ad ∧ w.cell? (ad.add i.toNat) = some (enc (rdOf d xs i)) := by
  obtain ⟨ad, e, hc⟩ := h.2.2 (by omega)
  exact ⟨ad, e, hc _ (by omega)⟩
theorem ReadsOf.below {w w1 : World} {A : Option Addr} {n : Nat} {xs : List α} (h : ReadsOf enc d w A n xs) (hb : Below w.heap.size w w1) : ReadsOf enc d w1 A n xs :=
  ⟨h.1, h.2.1, fun hn => by
    obtain ⟨ad, e, hc⟩ := h.2.2 hn
    exact ⟨ad, e, fun j hj => pw_cell_below hb (hc j hj)⟩⟩
end
section
variable {α : Type} {P : Program} {ops : Array Oper} {rest : List Oper} {o : Oper} {a : Act} {Q : Exit → Act → World → Prop}
end

section
variable {P : Program}
end
theorem own_le {w : World} {base n m c size : Nat} {e : TypeId} {A : Option Addr} {xs : List Value} (h : w.ownsRow base e size (.slice A m c) n xs) : m ≤ c := by
  rcases h.2 with ⟨he, _⟩ | ⟨g, cap, cur, he, _, _, hnc, _⟩
  · injection he with _ h2 h3
    omega
  · injection he with _ h2 h3
    omega
def OwnRow {α : Type} (R : α → List Value → Prop) (e : TypeId) (size : Nat) (w : World) (base : Nat) (v : Value) (ps : List α) : Prop :=
  ∃ inner, w.ownsRow base e size v ps.length inner ∧ Reps R size ps inner
section
variable {α : Type} {R R' : α → List Value → Prop} {e : TypeId} {size : Nat} {w w1 : World} {base : Nat} {v : Value} {ps : List α}
theorem OwnRow.imp_ (h : OwnRow R e size w base v ps) (hR : ∀ p c, R p c → R' p c) : OwnRow R' e size w base v ps := by
  obtain ⟨inner, ho, hr⟩ := h
  exact ⟨inner, ho, hr.imp_ hR⟩
theorem OwnRow.below (h : OwnRow R e size w base v ps) (hb : Below w.heap.size w w1) : OwnRow R e size w1 base v ps := by
  obtain ⟨inner, ho, hr⟩ := h
  exact ⟨inner, pw_own_below ho hb, hr⟩
theorem OwnRow.keep (h : OwnRow R e size w base v ps) {g : Nat} {t : TypeId} {cells : Array Value} (hb : w.heap[g]? = some (.cells cells t (0, 0))) (ht : e ≠ t) (hk : KeepBut w w1 g none) : OwnRow R e size w1 base v ps := by
  obtain ⟨inner, ho, hr⟩ := h
  exact ⟨inner, hk.own ho (Ne.symm (own_ne ho hb ht)) (by cases v.ownBlock <;> simp), hr⟩
theorem OwnRow.reads (h : OwnRow R e size w base v ps) : ∃ A c, v = .slice A ps.length c ∧ ps.length ≤ c ∧ ReadsRow R size w A ps.length ps := by
  obtain ⟨inner, ho, hr⟩ := h
  obtain ⟨A, c, rfl, hrow⟩ := own_reads_row ho hr rfl
  exact ⟨A, c, rfl, own_le ho, hrow⟩
end
section
variable {P : Program} {ops : Array Oper} {rest : List Oper} {o : Oper} {a : Act} {Q : Exit → Act → World → Prop} {α : Type} {R : α → List Value → Prop}
theorem OwnRow.append {w0 W : World} (base : Nat) (hgd : o.guard = none) (s x : Operand) (t e : TypeId) (z : Value) (size bytes : Nat)
    (ho : o.op = .call { callee := .builtin .append, args := #[s, x], argTypes := #[t, t] })
    (ht : P.underlying t = some (.slice e)) (hinfo : (P.info? e).map (fun i => (i.zero, i.size, i.bytes)) = some (some z, size, bytes)) (hz : z.cells.size = size) (hs0 : 0 < size) (hb0 : 0 < bytes)
    (v : Value) (ps : List α) (p : α) (cs : List Value) (hs : a.eval s = v) (hx : a.eval x = .slice (some ⟨W.heap.size, 0, none⟩) 1 1) (hp : R p cs) (hcs : cs.length = size) (h1 : ∀ u ∈ cs, u.oneCell' = true)
    (HO : OwnRow R e size W base v ps) (HB : Below base w0 W) (hbase : base ≤ W.heap.size) (hl : (ps.length + 1) * bytes ≤ 140737488355328)
    (h : ∀ v1 w1, OwnRow R e size w1 base v1 (ps ++ [p]) → Below base w0 w1 → W.grownBy w1 v.ownBlock → (v1.ownBlock = v.ownBlock ∨ ∃ b, v1.ownBlock = some b ∧ W.heap.size ≤ b) → wpList P ops Q rest (a.put o.dst v1) w1) :
    wpList P ops Q (o :: rest) a (W.alloc (.cells cs.toArray e)) := by
  obtain ⟨inner, hown, hr⟩ := HO
  refine print_append_cells base hgd s x t e z size bytes ho ht hinfo hz hs0 hb0 v ps.length inner cs hs hx hcs h1 hown HB hbase hl ?_
  intro v1 w1 hown1 hb1 hg1 hat1
  exact h v1 w1 ⟨inner ++ cs, by rw [List.length_append, List.length_singleton]; exact hown1, hr.snoc hp hcs⟩ hb1 hg1 hat1
end
section
variable {P : Program} {ops : Array Oper} {o : Oper} {a : Act} {Q : Exit → Act → World → Prop} {K : Act → World → Prop} {α : Type} {R : α → List Value → Prop}
end
section
variable {α : Type} {P : Program}
theorem ReadsOf.len_ {enc : α → Value} {d : α} {w : World} {A : Option Addr} {n : Nat} {xs : List α} (h : ReadsOf enc d w A n xs) : ReadsOf enc d w A xs.length xs := by rw [h.1]; exact h
end

section
variable {P : Program} {ops : Array Oper} {rest : List Oper} {o : Oper} {a : Act} {Q : Exit → Act → World → Prop}
end
/-- ok: which blocks the rows inside may be ('not the row that is being written'). -/
structure Kd (α : Type) where
  sz : Nat
  E : List Nat
  K : World → α → List Value → Prop
  M : World → Nat → (Nat → Prop) → α → List Value → Prop
  K_len : ∀ {w x cs}, K w x cs → cs.length = sz
  K_one : ∀ {w x cs}, K w x cs → ∀ u ∈ cs, u.oneCell' = true
  K_below : ∀ {w w1 : World} {x cs}, Below w.heap.size w w1 → K w x cs → K w1 x cs
  K_of_M : ∀ {w base ok x cs}, M w base ok x cs → K w x cs
  M_mono : ∀ {w base ok ok' x cs}, (∀ k, ok k → ok' k) → M w base ok x cs → M w base ok' x cs
  M_bound : ∀ {w : World} {base ok x cs}, M w base ok x cs → M w base (fun k => ok k ∧ base ≤ k ∧ k < w.heap.size ∧ ∃ q, q ∈ E ∧ ∃ cells, w.heap[k]? = some (.cells cells q (0, 0))) x cs
  M_move : ∀ {w w1 : World} {base ok x cs}, (∀ k, ok k → w1.heap[k]? = w.heap[k]?) → M w base ok x cs → M w1 base ok x cs
  M_lower : ∀ {w base base' ok x cs}, base' ≤ base → M w base ok x cs → M w base' ok x cs

theorem own_move {w w1 : World} {base : Nat} {e : TypeId} {size n : Nat} {v : Value} {xs : List Value} (h : w.ownsRow base e size v n xs) (hm : ∀ k, v.ownBlock = some k → w1.heap[k]? = w.heap[k]?) : w1.ownsRow base e size v n xs := by
  obtain ⟨h1, h2⟩ := h
  refine ⟨h1, ?_⟩
  rcases h2 with h2 | ⟨g, cap, cur, rfl, hg, hh, r⟩
  · exact .inl h2
  · exact .inr ⟨g, cap, cur, rfl, hg, (hm g (by simp [Value.ownBlock])).trans hh, r⟩
theorem own_typed {w : World} {base : Nat} {e : TypeId} {size n : Nat} {v : Value} {xs : List Value} (h : w.ownsRow base e size v n xs) (k : Nat) (hk : v.ownBlock = some k) : ∃ cells, w.heap[k]? = some (.cells cells e (0, 0)) := by
  rcases h.2 with ⟨rfl, _⟩ | ⟨g, cap, cur, rfl, hg, hh, r⟩
  · simp [Value.ownBlock] at hk
  · have : g = k := by simpa [Value.ownBlock] using hk
    subst this
    exact ⟨cur, hh⟩

namespace Kd
def C {α : Type} (d : Kd α) (w : World) (A : Option Addr) (n : Nat) (xs : List α) : Prop := ReadsRow (d.K w) d.sz w A n xs
def R {α : Type} (d : Kd α) (e : Nat) (w : World) (base : Nat) (ok : Nat → Prop) (v : Value) (xs : List α) : Prop :=
  (∀ k, v.ownBlock = some k → ok k) ∧ OwnRow (d.M w base (fun k => ok k ∧ some k ≠ v.ownBlock)) e d.sz w base v xs
section
variable {α : Type} {d : Kd α} {e : Nat} {w w1 : World} {base : Nat} {ok ok' : Nat → Prop} {v : Value} {xs : List α}
theorem C_below {A : Option Addr} {n : Nat} (h : d.C w A n xs) (hb : Below w.heap.size w w1) : d.C w1 A n xs := ReadsRow.imp_ h hb (fun _ _ hp => d.K_below hb hp)
theorem R_mono (h : d.R e w base ok v xs) (hok : ∀ k, ok k → ok' k) : d.R e w base ok' v xs := ⟨fun k hk => hok k (h.1 k hk), h.2.imp_ (fun _ _ hp => d.M_mono (fun k hk => ⟨hok k hk.1, hk.2⟩) hp)⟩
theorem R_bound (h : d.R e w base ok v xs) : d.R e w base (fun k => ok k ∧ base ≤ k ∧ k < w.heap.size ∧ ∃ q, q ∈ e :: d.E ∧ ∃ cells, w.heap[k]? = some (.cells cells q (0, 0))) v xs := by
  obtain ⟨h0, inner, ho, hr⟩ := h
  refine ⟨fun k hk => ?_, inner, ho, hr.imp_ (fun _ _ hp => d.M_mono (fun k hk => ?_) (d.M_bound hp))⟩
  · obtain ⟨cells, hc⟩ := own_typed ho k hk
    exact ⟨h0 k hk, own_base ho k hk, own_lt ho k hk, e, List.mem_cons_self, cells, hc⟩
  · obtain ⟨⟨h1, h2⟩, h3, h4, q, hq, hc⟩ := hk
    exact ⟨⟨h1, h3, h4, q, List.mem_cons_of_mem _ hq, hc⟩, h2⟩
theorem R_move (h : d.R e w base ok v xs) (hm : ∀ k, ok k → w1.heap[k]? = w.heap[k]?) : d.R e w1 base ok v xs := by
  obtain ⟨h0, inner, ho, hr⟩ := h
  exact ⟨h0, inner, own_move ho (fun k hk => hm k (h0 k hk)), hr.imp_ (fun _ _ hp => d.M_move (fun k hk => hm k hk.1) hp)⟩
theorem R_lower {base' : Nat} (h : d.R e w base ok v xs) (hb : base' ≤ base) : d.R e w base' ok v xs := by
  obtain ⟨h0, inner, ho, hr⟩ := h
  exact ⟨h0, inner, own_weaken ho hb, hr.imp_ (fun _ _ hp => d.M_lower hb hp)⟩
theorem R_step (h : d.R e w base ok v xs) (hm : ∀ k, ok k → k < w.heap.size → w1.heap[k]? = w.heap[k]?) : d.R e w1 base ok v xs :=
  R_mono (R_move (R_bound h) (fun k hk => hm k hk.1 hk.2.2.1)) (fun _ hk => hk.1)
theorem R_below (h : d.R e w base ok v xs) (hb : Below w.heap.size w w1) : d.R e w1 base ok v xs := R_step h (fun k _ hk => hb.block k hk)
theorem R_reads (h : d.R e w base ok v xs) : ∃ A c, v = .slice A xs.length c ∧ xs.length ≤ c ∧ d.C w A xs.length xs := by
  obtain ⟨A, c, he, hl, hr⟩ := OwnRow.reads h.2
  exact ⟨A, c, he, hl, hr.imp_ (Below.refl _ _) (fun _ _ hp => d.K_of_M hp)⟩
end

def scalar {α : Type} (enc : α → Value) (h1 : ∀ x, (enc x).oneCell' = true) : Kd α where
  sz := 1
  E := []
  K := fun _ x cs => cs = [enc x]
  M := fun _ _ _ x cs => cs = [enc x]
  K_len := fun h => by rw [h]; rfl
  K_one := fun h u hu => by
    rw [h] at hu
    rw [List.mem_singleton.1 hu]
    exact h1 _
  K_below := fun _ h => h
  K_of_M := fun h => h
  M_mono := fun _ h => h
  M_bound := fun h => h
  M_move := fun _ h => h
  M_lower := fun _ h => h
def int (k : IntKind) : Kd Int := scalar (Value.int k) (fun _ => rfl)
def bool : Kd Bool := scalar Value.bool (fun _ => rfl)
def string : Kd ByteArray := scalar Value.string (fun _ => rfl)
def slice {α : Type} (e : Nat) (d : Kd α) : Kd (List α) where
  sz := 1
  E := e :: d.E
  K := fun w xs cs => ∃ A c, cs = [.slice A xs.length c] ∧ xs.length ≤ c ∧ d.C w A xs.length xs
  M := fun w base ok xs cs => ∃ v, cs = [v] ∧ d.R e w base ok v xs
  K_len := by
    rintro w x cs ⟨A, c, rfl, _⟩
    rfl
  K_one := by
    rintro w x cs ⟨A, c, rfl, _⟩ u hu
    rw [List.mem_singleton.1 hu]
    rfl
  K_below := by
    rintro w w1 x cs hb ⟨A, c, rfl, hl, hr⟩
    exact ⟨A, c, rfl, hl, C_below hr hb⟩
  K_of_M := by
    rintro w base ok x cs ⟨v, rfl, h⟩
    obtain ⟨A, c, rfl, hl, hr⟩ := R_reads h
    exact ⟨A, c, rfl, hl, hr⟩
  M_mono := by
    rintro w base ok ok' x cs hok ⟨v, rfl, h⟩
    exact ⟨v, rfl, R_mono h hok⟩
  M_bound := by
    rintro w base ok x cs ⟨v, rfl, h⟩
    exact ⟨v, rfl, R_bound h⟩
  M_move := by
    rintro w w1 base ok x cs hm ⟨v, rfl, h⟩
    exact ⟨v, rfl, R_move h hm⟩
  M_lower := by
    rintro w base base' ok x cs hb ⟨v, rfl, h⟩
    exact ⟨v, rfl, R_lower h hb⟩
def bot {α : Type} (sz : Nat) (E : List Nat) : Kd α where
  sz := sz
  E := E
  K := fun _ _ _ => False
  M := fun _ _ _ _ _ => False
  K_len := fun h => h.elim
  K_one := fun h => h.elim
  K_below := fun _ h => h
  K_of_M := fun h => h
  M_mono := fun _ h => h
  M_bound := fun h => h
  M_move := fun _ h => h
  M_lower := fun _ h => h
def upto {α : Type} (F : Kd α → Kd α) (sz : Nat) (E : List Nat) : Nat → Kd α
  | 0 => bot sz E
  | n + 1 => F (upto F sz E n)
section
variable {P : Program} {ops : Array Oper} {rest : List Oper} {o : Oper} {a : Act} {Q : Exit → Act → World → Prop} {α : Type}
end
section
variable {P : Program} {ops : Array Oper} {o : Oper} {a : Act} {Q : Exit → Act → World → Prop} {Kc : Act → World → Prop} {α : Type}
end
end Kd
namespace Kd
/-- F says the more, the more its argument says. -/
structure Mono {α β : Type} (F : Kd α → Kd β) : Prop where
  sz : ∀ d d' : Kd α, d.sz = d'.sz → (F d).sz = (F d').sz
  K : ∀ d d' : Kd α, d.sz = d'.sz → (∀ w x cs, d.K w x cs → d'.K w x cs) → ∀ w x cs, (F d).K w x cs → (F d').K w x cs
  M : ∀ d d' : Kd α, d.sz = d'.sz → (∀ w base ok x cs, d.M w base ok x cs → d'.M w base ok x cs) → ∀ w base ok x cs, (F d).M w base ok x cs → (F d').M w base ok x cs
section
variable {α : Type} {F : Kd α → Kd α} {sz : Nat} {E : List Nat} {hs : ∀ n, (upto F sz E n).sz = sz} {hE : ∀ n q, q ∈ (upto F sz E n).E → q ∈ E}
end
end Kd
namespace Kd
end Kd
namespace Kd
section
variable {α β : Type} {d : Kd α} {d' : Kd β} {e e' : Nat} {w w1 W : World} {base b b' : Nat} {ok ok' okv oku : Nat → Prop} {v u : Value} {xs : List α} {ys : List β}
end
section
variable {w W : World} {A : Option Addr} {n : Nat}
variable {α : Type} {enc : α → Value} {h1 : ∀ x, (enc x).oneCell' = true} {e base g cap : Nat} {ok : Nat → Prop} {xs : List α}
end

section
variable {P : Program} {ops : Array Oper} {rest : List Oper} {o : Oper} {a : Act} {Q : Exit → Act → World → Prop}
variable {α : Type}
end
end Kd
theorem own_take {w : World} {base n m c size : Nat} {e : TypeId} {A : Option Addr} {xs : List Value} (h : w.ownsRow base e size (.slice A n c) n xs) (hm : m ≤ n) : w.ownsRow base e size (.slice A m c) m (xs.take (m * size)) := by
  obtain ⟨h1, h2⟩ := h
  refine ⟨by rw [List.length_take, h1]; exact Nat.min_eq_left (Nat.mul_le_mul_right _ hm), ?_⟩
  rcases h2 with ⟨he, h0⟩ | ⟨g, cap, cur, he, hb, hh, hnc, hcm, hcs, ht⟩
  · injection he with ha _ hc
    subst ha; subst hc
    exact .inl ⟨by rw [show m = 0 by omega], by omega⟩
  · injection he with ha _ hc
    subst ha; subst hc
    refine .inr ⟨g, c, cur, rfl, hb, hh, by omega, hcm, hcs, ?_⟩
    rw [← ht, List.take_take, Nat.min_eq_left (Nat.mul_le_mul_right _ hm)]
section
variable {P : Program}
end
def QRow (w : World) (base : Nat) (e : TypeId) (size : Nat) (v : Value) (n : Nat) (xs : List Value) : Prop :=
  xs.length = n * size ∧
  ((n = 0 ∧ ∃ A, v = .slice A 0 0 ∧ ∀ a, A = some a → base ≤ a.block ∧ ∃ cur, w.heap[a.block]? = some (.cells cur e (0, 0))) ∨
   ∃ g off cap cur, v = .slice (some ⟨g, off * size, none⟩) n cap ∧ base ≤ g ∧ w.heap[g]? = some (.cells cur e (0, 0)) ∧ n ≤ cap ∧ off + cap ≤ maxLen ∧ cur.size = (off + cap) * size ∧ (cur.toList.drop (off * size)).take (n * size) = xs)
section
variable {w w1 : World} {base n size : Nat} {e : TypeId} {v : Value} {xs : List Value}
end
section
variable {P : Program}
end
namespace Kd
theorem reps_take {α : Type} {R : α → List Value → Prop} {size m : Nat} {ps : List α} {cs : List Value} (h : Reps R size ps cs) (hm : m ≤ ps.length) : Reps R size (ps.take m) (cs.take (m * size)) := by
  refine ⟨by rw [List.length_take, List.length_take, h.1, Nat.min_eq_left hm, Nat.min_eq_left (Nat.mul_le_mul_right _ hm)], fun j p hj => ?_⟩
  rw [List.getElem?_take] at hj
  split at hj
  · rename_i hjm
    have := h.2 j p hj
    have hle : j * size + size ≤ m * size := by rw [← Nat.succ_mul]; exact Nat.mul_le_mul_right _ hjm
    rw [List.drop_take, List.take_take, Nat.min_eq_left (by omega)]
    exact this
  · cases hj
theorem R_take {α : Type} {d : Kd α} {e m n c : Nat} {w : World} {base : Nat} {ok : Nat → Prop} {A : Option Addr} {xs : List α} (h : d.R e w base ok (.slice A n c) xs) (hm : m ≤ xs.length) : d.R e w base ok (.slice A m c) (xs.take m) := by
  obtain ⟨h0, inner, ho, hr⟩ := h
  have hn : n = xs.length := by
    obtain ⟨A', c', he⟩ := own_slice ho
    injection he
  subst hn
  have hb : ∀ x y : Nat, (Value.slice A x c).ownBlock = (Value.slice A y c).ownBlock := by
    intro x y
    cases A <;> rfl
  refine ⟨fun k hk => h0 k (by rw [hb _ m]; exact hk), inner.take (m * d.sz), ?_, ?_⟩
  · rw [List.length_take, Nat.min_eq_left hm]
    exact own_take ho hm
  · rw [hb m xs.length]
    exact reps_take hr hm
def Q {α : Type} (d : Kd α) (e : Nat) (w : World) (base : Nat) (ok : Nat → Prop) (v : Value) (xs : List α) : Prop :=
  (∀ k, v.ownBlock = some k → ok k) ∧ ∃ inner, QRow w base e d.sz v xs.length inner ∧ Reps (d.M w base (fun k => ok k ∧ some k ≠ v.ownBlock)) d.sz xs inner
section
variable {α : Type} {d : Kd α} {e : Nat} {w w1 W : World} {base : Nat} {ok ok' : Nat → Prop} {v : Value} {xs : List α}
end
section
variable {P : Program} {ops : Array Oper} {rest : List Oper} {o : Oper} {a : Act} {Q' : Exit → Act → World → Prop} {Kc : Act → World → Prop} {α : Type}
end
end Kd
namespace Kd
section
variable {α : Type} {d : Kd α} {e e' : Nat} {w w1 W : World} {base : Nat} {ok : Nat → Prop} {u v : Value} {xs : List α}
end
end Kd
namespace Kd
section
variable {α : Type} {d : Kd α} {e base g n cap : Nat} {ok okp : Nat → Prop} {W : World} {xs : List α}
end
end Kd
namespace Kd
section
variable {α : Type} {F : Kd α → Kd α} {sz : Nat} {E : List Nat} {hs : ∀ n, (upto F sz E n).sz = sz} {hE : ∀ n q, q ∈ (upto F sz E n).E → q ∈ E}
end
end Kd
namespace Kd
section
variable {P : Program} {ops : Array Oper} {rest : List Oper} {o : Oper} {a : Act} {Q : Exit → Act → World → Prop} {α : Type}
end
end Kd
namespace Kd
section
variable {P : Program} {ops : Array Oper} {rest : List Oper} {o : Oper} {a : Act} {Q : Exit → Act → World → Prop} {α : Type}
end
end Kd
namespace Kd
section
variable {α : Type} {k : Kd α} {w : World} {A : Option Addr} {xs : List α} {m c : Nat}
end
end Kd
section
variable {P : Program}
end
theorem ReadsInt.nil (W : World) (k : IntKind) : ReadsInt W k none ([] : List Int).length [] := ⟨rfl, by simp, fun h => absurd h (Nat.lt_irrefl 0)⟩
theorem ReadsInt.drewN {W : World} {k : IntKind} {A : Option Addr} {n : Nat} {xs : List Int} (h : ReadsInt W k A n xs) (m : Nat) : ReadsInt (W.drewN m) k A n xs := h
theorem keep_cell {w W : World} {g : Nat} (h : KeepBut w W g none) {a : Addr} {v : Value} (hc : w.cell? a = some v) (hne : a.block ≠ g) : W.cell? a = some v := by
  have := h.2 a.block (World.block_lt_of_cell? w a hc) hne (by simp)
  simpa [World.cell?, this] using hc
theorem add_block (a : Addr) (i : Nat) : (a.add i).block = a.block := by unfold Addr.add; split <;> rfl
theorem ReadsOf.nil {α : Type} (enc : α → Value) (d : α) (W : World) : ReadsOf enc d W none ([] : List α).length [] := ⟨rfl, by simp, fun h => absurd h (Nat.lt_irrefl 0)⟩
theorem ReadsOf.drewN {α : Type} {enc : α → Value} {d : α} {W : World} {A : Option Addr} {n : Nat} {xs : List α} (h : ReadsOf enc d W A n xs) (m : Nat) : ReadsOf enc d (W.drewN m) A n xs := h
theorem ReadsInt.keep {w W : World} {k : IntKind} {A : Option Addr} {n g : Nat} {xs : List Int} (h : ReadsInt w k A n xs) (hk : KeepBut w W g none) (hf : ∀ ad, A = some ad → 0 < n → ad.block ≠ g) : ReadsInt W k A n xs :=
  ⟨h.1, h.2.1, fun hn => by
    obtain ⟨ad, e, hc⟩ := h.2.2 hn
    exact ⟨ad, e, fun j hj => keep_cell hk (hc j hj) (by rw [add_block]; exact hf ad e hn)⟩⟩
theorem ReadsOf.keep {α : Type} {enc : α → Value} {d : α} {w W : World} {A : Option Addr} {n g : Nat} {xs : List α} (h : ReadsOf enc d w A n xs) (hk : KeepBut w W g none) (hf : ∀ ad, A = some ad → 0 < n → ad.block ≠ g) : ReadsOf enc d W A n xs :=
  ⟨h.1, h.2.1, fun hn => by
    obtain ⟨ad, e, hc⟩ := h.2.2 hn
    exact ⟨ad, e, fun j hj => keep_cell hk (hc j hj) (by rw [add_block]; exact hf ad e hn)⟩⟩
theorem below_drew1 {base : Nat} {w W : World} (h : Below base w W) : Below base w W.drew := h.drew
namespace Kd
section
variable {α β : Type} {d : Kd α} {d' : Kd β} {e e' base base' n : Nat} {ok ok' : Nat → Prop} {w W w1 W1 : World} {v u : Value} {xs : List α} {ys : List β} {A : Option Addr} {c : Nat}
end
section
variable {α : Type} {enc : α → Value} {h1 : ∀ x, (enc x).oneCell' = true} {w W : World} {A : Option Addr} {n g : Nat} {xs : List α}
end
end Kd
namespace Kd
section
variable {α : Type} {d : Kd α} {e base g : Nat} {ok : Nat → Prop} {w w1 : World} {v : Value} {xs : List α} {o : Obj}
end
end Kd
section
variable {P : Program} {ops : Array Oper} {rest : List Oper} {o : Oper} {a : Act} {Q : Exit → Act → World → Prop}
end
namespace Kd
section
variable {α : Type} {enc : α → Value} {h1 : ∀ x, (enc x).oneCell' = true} {e base g n cap : Nat} {ok : Nat → Prop} {W : World} {xs : List α}
end
end Kd
section
variable {P : Program} {ops : Array Oper} {rest : List Oper} {o : Oper} {a : Act} {Q : Exit → Act → World → Prop}
end
namespace Kd
section
variable {α : Type} {enc : α → Value} {h1 : ∀ x, (enc x).oneCell' = true} {e base g n cap : Nat} {ok : Nat → Prop} {W : World} {xs : List α}
end
end Kd
section
variable {P : Program} {ops : Array Oper} {rest : List Oper} {o : Oper} {a : Act} {Q : Exit → Act → World → Prop} {W : World}
end
section
variable {P : Program} {ops : Array Oper} {o : Oper} {a : Act} {Q : Exit → Act → World → Prop} {Kc : Act → World → Prop}
namespace Kd
variable {α : Type}
end Kd
end
inductive Vals (P : Program) (tmps : Array Value) (w : World) : List ResultVar → List Value → Prop where
  | nil : Vals P tmps w [] []
  | tmp {u : Tmp} {rs : List ResultVar} {vs : List Value} (h : Vals P tmps w rs vs) : Vals P tmps w (.tmp u :: rs) (tmps.getD u undef :: vs)
  | cell {p : Tmp} {ty : TypeId} {rs : List ResultVar} {vs : List Value} (g : Nat) (t : TypeId) (cs : Array Value) (fr : Nat × Nat) (d : TypeDesc)
      (hp : tmps.getD p undef = .pointer (some ⟨g, 0, none⟩)) (hg : w.heap[g]? = some (.cells cs t fr))
      (hu : P.underlying ty = some d) (hd : (match d with | .struct _ | .array _ _ => true | _ => false) = true) (hi : (P.info? ty).map (·.size) = some cs.size)
      (h : Vals P tmps w rs vs) : Vals P tmps w (.cell p ty :: rs) (.agg cs :: vs)
section
variable {P : Program} {tmps : Array Value} {w : World}
end
namespace Kd
section
variable {P : Program} {α : Type}
end
section
variable {P : Program} {ops : Array Oper} {rest : List Oper} {o : Oper} {a : Act} {Q : Exit → Act → World → Prop} {Kc : Act → World → Prop} {α : Type}
end
end Kd

end Go.Proofs.YtbolppjlaipfjaaW.PrintWords
end
section
set_option linter.unusedSectionVars false
set_option linter.unusedSimpArgs false
set_option linter.unusedVariables false
-- PRINTED BY print.sh 35421559b90ae4d0a3588c463048766b98c2df88dd9212a6774a882060cdf62d: not written by this session
namespace Go.Proofs.YtbolppjlaipfjaaW.PrintLast

section
variable {P : Program} {ops : Array Oper} {Q : Exit → Act → World → Prop} {md : Region.Mode} {S : World → Prop} {ds : List Nat}

def ListedClosed (md : Region.Mode) (ops : Array Oper) (listed : Array Bool) : Prop :=
  ∀ j oj, ops[j]? = some oj → listed.getD j false = true → ∀ e ∈ oj.after, Region.binds md e = true → listed.getD e.on false = true

theorem ListedClosed.set {listed : Array Bool} {i : Nat} (h : ListedClosed md ops listed) (hi : i ∈ Region.ready md ops listed) : ListedClosed md ops (listed.setIfInBounds i true) := by
  obtain ⟨_, oi, hoi, hall⟩ := mem_ready.1 hi
  intro j oj hj hl e he hb
  by_cases hij : i = j
  · subst hij
    have : oj = oi := Option.some.inj (hj.symm.trans hoi)
    subst this
    exact getD_set_true (hall e he hb)
  · rw [getD_set_ne false hij] at hl
    exact getD_set_true (h j oj hj hl e he hb)

def wpAnyLast (P : Program) (md : Region.Mode) (ops : Array Oper) (Q : Exit → Act → World → Prop) (S : World → Prop) (ds : List Nat) : Nat → Array Bool → Act → World → Prop
  | 0, listed, a, w => Region.ready md ops listed = [] ∧ Q .normal a w
  | fuel + 1, listed, a, w =>
    (Region.ready md ops listed = [] → Q .normal a w) ∧
    ∀ i ∈ Region.ready md ops listed, wpOp P ops Q i (fun a' w' => (i ∉ ds → S w → S w') ∧ wpAnyLast P md ops Q S ds fuel (listed.setIfInBounds i true) a' w') a w

end

section
variable {P : Program} {ops : Array Oper} {Q : Exit → Act → World → Prop} {md : Region.Mode} {S : World → Prop} {ds : List Nat}

def AllReadyL (P : Program) (md : Region.Mode) (ops : Array Oper) (Q : Exit → Act → World → Prop) (S : World → Prop) (ds : List Nat) (fuel : Nat) (listed : Array Bool) (a : Act) (w : World) (rs : List Nat) : Prop :=
  ∀ i ∈ rs, wpOp P ops Q i (fun a' w' => (i ∉ ds → S w → S w') ∧ wpAnyLast P md ops Q S ds fuel (listed.setIfInBounds i true) a' w') a w
theorem AllReadyL.nil {fuel : Nat} {listed : Array Bool} {a : Act} {w : World} : AllReadyL P md ops Q S ds fuel listed a w [] := fun _ h => by cases h
theorem AllReadyL.cons {fuel : Nat} {listed : Array Bool} {a : Act} {w : World} {i : Nat} {o : Oper} {rs : List Nat} (ho : ops[i]? = some o) (hd : i ∉ ds)
    (h : ∀ K' : Act → World → Prop, Shut (∀ a w, S w → (S w → wpAnyLast P md ops Q S ds fuel (listed.setIfInBounds i true) a w) → K' a w) → if Region.wanted o (yielded ops a.tmps) = true then Oper.wp P o a w K' Q else K' (a.put o.dst undef) w)
    (hs : AllReadyL P md ops Q S ds fuel listed a w rs) : AllReadyL P md ops Q S ds fuel listed a w (i :: rs) := fun j hj => by
  rcases List.mem_cons.1 hj with rfl | hj
  · exact wpOp_step ho (fun K' hK => h K' (fun a w hS hW => hK a w ⟨fun _ _ => hS, hW hS⟩))
  · exact hs j hj
end
end Go.Proofs.YtbolppjlaipfjaaW.PrintLast
end
section
set_option linter.unusedSectionVars false
set_option linter.unusedSimpArgs false
set_option linter.unusedVariables false
-- PRINTED BY print.sh 35421559b90ae4d0a3588c463048766b98c2df88dd9212a6774a882060cdf62d: not written by this session
namespace Go.Proofs.YtbolppjlaipfjaaW.PrintWords
open Go.RowKit
namespace Kd
section
variable {α : Type} {d : Kd α} {e base g o n cap : Nat} {ok okp : Nat → Prop} {w W : World} {v : Value} {xs : List α}
end
section
variable {α : Type} {enc : α → Value} {h1 : ∀ x, (enc x).oneCell' = true} {e base g o n cap : Nat} {ok : Nat → Prop} {W : World} {xs : List α}
end
end Kd
end Go.Proofs.YtbolppjlaipfjaaW.PrintWords
end
section
set_option linter.unusedSectionVars false
set_option linter.unusedSimpArgs false
set_option linter.unusedVariables false
-- PRINTED BY print.sh 35421559b90ae4d0a3588c463048766b98c2df88dd9212a6774a882060cdf62d: not written by this session
namespace Go.Proofs.YtbolppjlaipfjaaW.PrintWords
open Go.RowKit
namespace Kd
def tag {α : Type} (f : Nat → Nat) (d : Kd α) : Kd (α × Nat) where
  sz := d.sz
  E := d.E
  K := fun w x cs => d.K w x.1 cs
  M := fun w base ok x cs => d.M w base (fun k => ok k ∧ f k = x.2) x.1 cs
  K_len := fun h => d.K_len h
  K_one := fun h => d.K_one h
  K_below := fun hb h => d.K_below hb h
  K_of_M := fun h => d.K_of_M h
  M_mono := fun hok h => d.M_mono (fun k hk => ⟨hok k hk.1, hk.2⟩) h
  M_bound := fun h => d.M_mono (fun _ hk => ⟨⟨hk.1.1, hk.2⟩, hk.1.2⟩) (d.M_bound h)
  M_move := fun hm h => d.M_move (fun k hk => hm k hk.1) h
  M_lower := fun hb h => d.M_lower hb h
def raw (sz : Nat) : Kd (List Value) where
  sz := sz
  E := []
  K := fun _ x cs => cs = x ∧ cs.length = sz ∧ ∀ u ∈ cs, u.oneCell' = true
  M := fun _ _ _ x cs => cs = x ∧ cs.length = sz ∧ ∀ u ∈ cs, u.oneCell' = true
  K_len := fun h => h.2.1
  K_one := fun h => h.2.2
  K_below := fun _ h => h
  K_of_M := fun h => h
  M_mono := fun _ h => h
  M_bound := fun h => h
  M_move := fun _ h => h
  M_lower := fun _ h => h
def S {α : Type} (d : Kd α) (e : Nat) (w : World) (base : Nat) (ok : Nat → Prop) (v : Value) (xs : List α) : Prop := ∃ f, (tag f d).R e w base ok v xs.zipIdx
section
variable {α β : Type} {d : Kd α} {d' : Kd β} {e e' : Nat} {w w1 W : World} {base b : Nat} {ok ok' okv oku : Nat → Prop} {u v : Value} {xs : List α} {ys : List β}
end
section
variable {α β : Type} {d : Kd α} {d' : Kd β} {e e' g : Nat} {w w1 W : World} {base b : Nat} {ok ok' okv oku : Nat → Prop} {u v : Value} {xs : List α} {ys : List β}
end
section
variable {P : Program} {ops : Array Oper} {rest : List Oper} {o : Oper} {a : Act} {Q : Exit → Act → World → Prop} {Kc : Act → World → Prop} {α : Type}
end
def gap {α : Type} (f : Nat → Nat) (d : Kd α) (i : Nat) (c : List Value) : Kd (α × Nat) where
  sz := d.sz
  E := d.E
  K := fun w x cs => (x.2 = i → cs = c ∧ cs.length = d.sz ∧ ∀ u ∈ cs, u.oneCell' = true) ∧ (x.2 ≠ i → d.K w x.1 cs)
  M := fun w base ok x cs => (x.2 = i → cs = c ∧ cs.length = d.sz ∧ ∀ u ∈ cs, u.oneCell' = true) ∧ (x.2 ≠ i → d.M w base (fun k => ok k ∧ f k = x.2) x.1 cs)
  K_len := fun {w x cs} h => by
    by_cases hx : x.2 = i
    · exact (h.1 hx).2.1
    · exact d.K_len (h.2 hx)
  K_one := fun {w x cs} h => by
    by_cases hx : x.2 = i
    · exact (h.1 hx).2.2
    · exact d.K_one (h.2 hx)
  K_below := fun hb h => ⟨h.1, fun hx => d.K_below hb (h.2 hx)⟩
  K_of_M := fun h => ⟨h.1, fun hx => d.K_of_M (h.2 hx)⟩
  M_mono := fun hok h => ⟨h.1, fun hx => d.M_mono (fun k hk => ⟨hok k hk.1, hk.2⟩) (h.2 hx)⟩
  M_bound := fun h => ⟨h.1, fun hx => d.M_mono (fun _ hk => ⟨⟨hk.1.1, hk.2⟩, hk.1.2⟩) (d.M_bound (h.2 hx))⟩
  M_move := fun hm h => ⟨h.1, fun hx => d.M_move (fun k hk => hm k hk.1) (h.2 hx)⟩
  M_lower := fun hb h => ⟨h.1, fun hx => d.M_lower hb (h.2 hx)⟩
def H {α : Type} (d : Kd α) (e : Nat) (w : World) (base : Nat) (ok : Nat → Prop) (v : Value) (xs : List α) (i : Int) (oki : Nat → Prop) (c : List Value) : Prop :=
  (∀ k, oki k → ok k) ∧ ∃ f, (gap f d i.toNat c).R e w base (fun k => ok k ∧ ¬ oki k) v xs.zipIdx
section
variable {α β : Type} {d : Kd α} {e e' g n cap : Nat} {w w1 W : World} {base : Nat} {ok ok' oki okp : Nat → Prop} {u v : Value} {xs : List α} {i : Int} {c : List Value}
end
section
variable {P : Program} {ops : Array Oper} {rest : List Oper} {o : Oper} {a : Act} {Q : Exit → Act → World → Prop} {α : Type}
end
end Kd
end Go.Proofs.YtbolppjlaipfjaaW.PrintWords
end
section
set_option linter.unusedSectionVars false
set_option linter.unusedSimpArgs false
set_option linter.unusedVariables false
-- PRINTED BY print.sh 35421559b90ae4d0a3588c463048766b98c2df88dd9212a6774a882060cdf62d: not written by this session
namespace Go.Proofs.YtbolppjlaipfjaaW.PrintWords
open Go.RowKit
namespace Kd
section
variable {α : Type} {n : Nat} {d : Kd α} {hs : 0 < d.sz} {w : World} {base : Nat} {ok : Nat → Prop} {xs : List α} {cs : List Value}
end
section
variable {α : Type} {n : Nat} {enc : α → Value} {h1 : ∀ x, (enc x).oneCell' = true} {hs : 0 < (scalar enc h1).sz} {w : World} {base : Nat} {ok : Nat → Prop} {xs : List α} {cs : List Value}
end
end Kd
end Go.Proofs.YtbolppjlaipfjaaW.PrintWords
end
section
set_option linter.unusedSectionVars false
set_option linter.unusedSimpArgs false
set_option linter.unusedVariables false
-- PRINTED BY print.sh 35421559b90ae4d0a3588c463048766b98c2df88dd9212a6774a882060cdf62d: not written by this session
namespace Go.Proofs.YtbolppjlaipfjaaW.PrintWords
open Go.RowKit
section
variable {P : Program}
end
namespace Kd
section
variable {P : Program} {ops : Array Oper} {rest : List Oper} {o : Oper} {a : Act} {Q : Exit → Act → World → Prop} {Kc : Act → World → Prop} {α : Type}
end
section
variable {α : Type} {d : Kd α} {e : Nat} {w : World} {base : Nat} {ok : Nat → Prop} {v : Value} {xs : List α}
end
section
variable {P : Program} {ops : Array Oper} {rest : List Oper} {o : Oper} {a : Act} {Q : Exit → Act → World → Prop} {Kc : Act → World → Prop} {α : Type}
end
end Kd
end Go.Proofs.YtbolppjlaipfjaaW.PrintWords
end
section
set_option linter.unusedSectionVars false
set_option linter.unusedSimpArgs false
set_option linter.unusedVariables false
-- PRINTED BY print.sh 35421559b90ae4d0a3588c463048766b98c2df88dd9212a6774a882060cdf62d: not written by this session
namespace Go.Proofs.YtbolppjlaipfjaaW.PrintWords
open Go.RowKit
namespace Kd
/-- What a kind reads lies in the blocks: nothing else of the world is looked at. -/
structure Heap {α : Type} (d : Kd α) : Prop where
  K : ∀ {w w1 : World} {x : α} {cs : List Value}, (∀ k, k < w.heap.size → w1.heap[k]? = w.heap[k]?) → d.K w x cs → d.K w1 x cs
theorem cell_heap {w w1 : World} (hb : ∀ k, k < w.heap.size → w1.heap[k]? = w.heap[k]?) {a : Addr} {v : Value} (h : w.cell? a = some v) : w1.cell? a = some v := by
  have := hb a.block (World.block_lt_of_cell? w a h)
  simpa [World.cell?, this] using h
theorem Heap.C {α : Type} {d : Kd α} (hd : Heap d) {w w1 : World} {A : Option Addr} {n : Nat} {xs : List α} (hb : ∀ k, k < w.heap.size → w1.heap[k]? = w.heap[k]?) (h : d.C w A n xs) : d.C w1 A n xs :=
  ⟨h.1, h.2.1, fun hn => by
    obtain ⟨ad, e, hc⟩ := h.2.2 hn
    refine ⟨ad, e, fun j p hj => ?_⟩
    obtain ⟨c, hs, hr, hcell⟩ := hc j p hj
    exact ⟨c, hs, hd.K hb hr, fun i u hu => cell_heap hb (hcell i u hu)⟩⟩
section
variable {α : Type} {d : Kd α} {e base g n c : Nat} {ok : Nat → Prop} {w w0 W : World} {A : Option Addr} {xs : List α}
end
end Kd
end Go.Proofs.YtbolppjlaipfjaaW.PrintWords
end
section
set_option linter.unusedSectionVars false
set_option linter.unusedSimpArgs false
set_option linter.unusedVariables false
-- PRINTED BY print.sh 35421559b90ae4d0a3588c463048766b98c2df88dd9212a6774a882060cdf62d: not written by this session
namespace Go.Proofs.YtbolppjlaipfjaaW.PrintWords
open Go.RowKit
def Kept (w W : World) (S : Nat → Prop) : Prop := w.heap.size ≤ W.heap.size ∧ ∀ i, i < w.heap.size → ¬ S i → W.heap[i]? = w.heap[i]?
section
variable {w W W2 : World} {S S2 S' : Nat → Prop}
theorem Kept.refl (w : World) (S : Nat → Prop) : Kept w w S := ⟨Nat.le_refl _, fun _ _ _ => rfl⟩
theorem Kept.of_below (h : Below w.heap.size w W) (S : Nat → Prop) : Kept w W S := ⟨h.size, fun i hi _ => h.block i hi⟩
theorem Kept.mono (h : Kept w W S) (hs : ∀ k, S k → S' k) : Kept w W S' := ⟨h.1, fun i hi hn => h.2 i hi (fun hk => hn (hs i hk))⟩
theorem Kept.then_ (h : Kept w W S) (k : Kept W W2 S2) (hs : ∀ k, S2 k → S k ∨ w.heap.size ≤ k) : Kept w W2 S :=
  ⟨Nat.le_trans h.1 k.1, fun i hi hn => (k.2 i (Nat.lt_of_lt_of_le hi h.1) (fun h2 => (hs i h2).elim hn (fun h3 => by omega))).trans (h.2 i hi hn)⟩
theorem Kept.below (h : Kept w W S) (hb : Below W.heap.size W W2) : Kept w W2 S := h.then_ (Kept.of_below hb (fun _ => False)) (fun _ hk => hk.elim)
theorem Kept.alloc (h : Kept w W S) (o : Obj) : Kept w (W.alloc o) S := h.below (below_alloc (Below.refl _ _) o)
theorem Kept.drew (h : Kept w W S) : Kept w W.drew S := h
theorem Kept.drewN (h : Kept w W S) (m : Nat) : Kept w (W.drewN m) S := h
theorem Kept.setCell (h : Kept w W S) {p : Addr} (hp : S p.block ∨ w.heap.size ≤ p.block) (u : Value) : Kept w (W.setCell p u) S :=
  h.then_ (S2 := fun k => k = p.block) ⟨by simp [World.setCell], fun i _ hn => Below.heap_setCell W p u i hn⟩ (fun k hk => by rw [hk]; exact hp)
theorem Kept.keep {g : Nat} (h : KeepBut w W g none) (k : Kept W W2 S2) (hs : ∀ k, S2 k → w.heap.size ≤ k) : KeepBut w W2 g none :=
  ⟨Nat.le_trans h.1 k.1, fun i hi hg hr => (k.2 i (Nat.lt_of_lt_of_le hi h.1) (fun h2 => by have := hs i h2; omega)).trans (h.2 i hi hg hr)⟩
end
namespace Kd
section
variable {α : Type} {d : Kd α} {e base n c : Nat} {ok oki S S2 : Nat → Prop} {w w0 W W1 W2 : World} {v : Value} {A : Option Addr} {xs : List α} {i : Int} {cs : List Value}
end
end Kd
end Go.Proofs.YtbolppjlaipfjaaW.PrintWords
end
section
set_option linter.unusedSectionVars false
set_option linter.unusedSimpArgs false
set_option linter.unusedVariables false
-- PRINTED BY print.sh 35421559b90ae4d0a3588c463048766b98c2df88dd9212a6774a882060cdf62d: not written by this session
namespace Go.Proofs.YtbolppjlaipfjaaW.PrintWords
open Go.RowKit
def Foot (P : World → Prop) (W : World) (ok : Nat → Prop) : Prop := ∀ W' : World, (∀ k, ok k → k < W.heap.size → W'.heap[k]? = W.heap[k]?) → P W'
theorem heap_lt {W W1 : World} {k : Nat} (h : W1.heap[k]? = W.heap[k]?) (hlt : k < W.heap.size) : k < W1.heap.size := by
  rw [Array.getElem?_eq_getElem hlt] at h
  exact (Array.getElem?_eq_some_iff.1 h).1
namespace Foot
variable {P Q : World → Prop} {W W1 : World} {ok ok' : Nat → Prop}
theorem now (h : Foot P W ok) : P W := h W (fun _ _ _ => rfl)
theorem mono (h : Foot P W ok) (hok : ∀ k, ok k → ok' k) : Foot P W ok' := fun W' hW => h W' (fun k hk hlt => hW k (hok k hk) hlt)
theorem bound (h : Foot P W ok) : Foot P W (fun k => ok k ∧ k < W.heap.size) := fun W' hW => h W' (fun k hk hlt => hW k ⟨hk, hlt⟩ hlt)
theorem step (h : Foot P W ok) (hm : ∀ k, ok k → k < W.heap.size → W1.heap[k]? = W.heap[k]?) : Foot P W1 ok := fun W' hW => h W' (fun k hk hlt => (hW k hk (heap_lt (hm k hk hlt) hlt)).trans (hm k hk hlt))
theorem imp (h : Foot P W ok) (hi : ∀ W', P W' → Q W') : Foot Q W ok := fun W' hW => hi W' (h W' hW)
theorem old (h : Foot P W ok) (hb : Below W.heap.size W W1) : Foot P W1 (fun k => ok k ∧ k < W.heap.size) := (h.bound).step (fun k _ hlt => hb.block k hlt)
end Foot
namespace Kd
def F {α : Type} (d : Kd α) (W : World) (ok : Nat → Prop) (A : Option Addr) (n : Nat) (xs : List α) : Prop := Foot (fun W => d.C W A n xs) W ok
def FK {α : Type} (d : Kd α) (W : World) (ok : Nat → Prop) (x : α) (c : List Value) : Prop := Foot (fun W => d.K W x c) W ok
section
variable {α β : Type} {d : Kd α} {e base n n' cc g N : Nat} {ok ok' okp S : Nat → Prop} {w w0 w1 W W1 : World} {A A' : Option Addr} {u v v1 : Value} {xs : List α} {xs' : List β} {d' : Kd β} {x : α} {c : List Value}
end
end Kd
end Go.Proofs.YtbolppjlaipfjaaW.PrintWords
end
section
set_option linter.unusedSectionVars false
set_option linter.unusedSimpArgs false
set_option linter.unusedVariables false
-- PRINTED BY print.sh 35421559b90ae4d0a3588c463048766b98c2df88dd9212a6774a882060cdf62d: not written by this session
namespace Go.Proofs.YtbolppjlaipfjaaW.PrintWords
open Go.RowKit
namespace Kd
section
variable {α : Type} {d : Kd α} {e base n cc g : Nat} {ok ok' okp S : Nat → Prop} {w w1 W W1 : World} {A : Option Addr} {u v v1 : Value} {xs : List α} {x : α} {c : List Value}
def N {α : Type} (d : Kd α) (e : Nat) (w : World) (base : Nat) (ok : Nat → Prop) (v : Value) (xs : List α) : Prop :=
  (∀ k, v.ownBlock = some k → ok k) ∧ ∃ rows : List (List Value), rows.length = xs.length ∧ (raw d.sz).R e w base (fun k => some k = v.ownBlock) v rows ∧ ∀ (j : Nat) (x : α) (c : List Value), xs[j]? = some x → rows[j]? = some c → FK d w (fun k => ok k ∧ some k ≠ v.ownBlock) x c
end
end Kd
end Go.Proofs.YtbolppjlaipfjaaW.PrintWords
end
section
set_option linter.unusedSectionVars false
set_option linter.unusedSimpArgs false
set_option linter.unusedVariables false
-- PRINTED BY print.sh 35421559b90ae4d0a3588c463048766b98c2df88dd9212a6774a882060cdf62d: not written by this session
namespace Go.Proofs.YtbolppjlaipfjaaW.PrintWords
open Go.RowKit
namespace Kd
section
variable {α : Type} {d : Kd α} {e base n cap g : Nat} {ok ok' okp : Nat → Prop} {w w1 W : World} {v v1 : Value} {xs ys : List α}
end
section
variable {P : Program} {ops : Array Oper} {rest : List Oper} {o : Oper} {a : Act} {Q : Exit → Act → World → Prop} {Kc : Act → World → Prop} {α : Type}
end
end Kd
end Go.Proofs.YtbolppjlaipfjaaW.PrintWords
end
section
set_option linter.unusedSectionVars false
set_option linter.unusedSimpArgs false
set_option linter.unusedVariables false
-- PRINTED BY print.sh 35421559b90ae4d0a3588c463048766b98c2df88dd9212a6774a882060cdf62d: not written by this session
-- PRINTED WORDS (module Derived/Print/More.lean): go-gate-2's additions: an AI agent of Go's test side, Tue Nov 17 2026; no person has read it. Lean checks it.
namespace Go.Proofs.YtbolppjlaipfjaaW.PrintMore
open Go.RowKit Go.Proofs.YtbolppjlaipfjaaW.PrintWords
namespace Kd
open Go.Proofs.YtbolppjlaipfjaaW.PrintWords.Kd
end Kd

namespace Kd
open Go.Proofs.YtbolppjlaipfjaaW.PrintWords.Kd
section
variable {α : Type} {d : Kd α} {e base g N : Nat} {ok : Nat → Prop} {W w1 : World} {u v : Value} {xs : List α}
end
end Kd
end Go.Proofs.YtbolppjlaipfjaaW.PrintMore
namespace Go.Proofs.YtbolppjlaipfjaaW.PrintWords
open Go.RowKit
section
variable {P : Program} {ops : Array Oper} {rest : List Oper} {o : Oper} {a : Act} {Q : Exit → Act → World → Prop} {W : World}
theorem gate_builtin {b : Builtin} {xs : Array Operand} {ts : Array TypeId} (_ho : o.op = .call { callee := .builtin b, args := xs, argTypes := ts }) (h : wpList P ops Q (o :: rest) a W) : wpList P ops Q (o :: rest) a W := h
end
def shl (k : IntKind) (x y : Int) : Int := k.wrap (x * 2 ^ min y.toNat k.bits)
def shr (k : IntKind) (x y : Int) : Int := x / 2 ^ min y.toNat k.bits
namespace Kd
section
variable {α : Type} {d : Kd α} {e base : Nat} {ok : Nat → Prop} {W w1 : World} {v : Value} {xs : List α}
end
section
variable {α : Type} {d : Kd α} {e base g n cap : Nat} {ok oki okp : Nat → Prop} {W : World} {xs : List α} {i : Int} {c : List Value}
end
section
variable {α : Type} {d : Kd α} {e base b b' g N : Nat} {ok ok1 : Nat → Prop} {W W2 w1 : World} {u v : Value} {xs ys : List α} {S : Nat → Prop}
end
end Kd
end Go.Proofs.YtbolppjlaipfjaaW.PrintWords
namespace Go.Proofs.YtbolppjlaipfjaaW.PrintWords
open Go.RowKit
namespace Kd
section
variable {α β : Type} {d : Kd α} {e base base' n m c g N' lo hi : Nat} {ok ok' S : Nat → Prop} {w W w1 : World} {A : Option Addr} {ad : Addr} {u v v1 : Value} {xs : List α}
end
end Kd
end Go.Proofs.YtbolppjlaipfjaaW.PrintWords
end
section
set_option linter.unusedSectionVars false
set_option linter.unusedSimpArgs false
set_option linter.unusedVariables false
namespace Go.Proofs.Ytbolppjlaipfjaa.HKit
open Go.RowKit Go.Proofs.YtbolppjlaipfjaaW.PrintWords Go.Proofs.YtbolppjlaipfjaaW.PrintLast Go.Proofs.YtbolppjlaipfjaaW.PrintMore
set_option linter.unusedVariables false
set_option linter.unusedSimpArgs false
theorem heap_at (W : World) (o : Obj) (g : Nat) (h : g = W.heap.size) : (W.alloc o).heap[g]? = some o := by
  subst h
  simpa using heap_alloc_new W o
section
variable {P : Program} {ops : Array Oper} {rest : List Oper} {o : Oper} {a : Act} {Q : Exit → Act → World → Prop} {α : Type}
end
def marks : List Int := [-7770777, -7770777, -7770777, -7770777]
def IsLent (w : World) (base : Nat) (v : Value) (l : List Int) : Prop := ∃ A c, v = .slice A l.length c ∧ l.length + 4 ≤ c ∧ Kd.R (Kd.int .i64) 3 w base (fun _ => True) (.slice A (l.length + 4) c) (l ++ marks)
theorem IsLent.row {w : World} {base : Nat} {v : Value} {l : List Int} (h : IsLent w base v l) : Kd.R (Kd.int .i64) 3 w base (fun _ => True) v l := by
  obtain ⟨A, c, rfl, hc, hr⟩ := h
  have := Kd.R_take (m := l.length) hr (by simp [marks])
  rwa [List.take_append_of_le_length (Nat.le_refl _), List.take_of_length_le (Nat.le_refl _)] at this
theorem IsLent.below {w w1 : World} {base : Nat} {v : Value} {l : List Int} (h : IsLent w base v l) (hb : Below w.heap.size w w1) : IsLent w1 base v l := by
  obtain ⟨A, c, rfl, hc, hr⟩ := h
  exact ⟨A, c, rfl, hc, Kd.R_below hr hb⟩
theorem IsLent.reads {w : World} {base : Nat} {v : Value} {l : List Int} (h : IsLent w base v l) : ∃ A c, v = .slice A l.length c ∧ l.length ≤ c ∧ Kd.C (Kd.int .i64) w A l.length l := Kd.R_reads h.row
end Go.Proofs.Ytbolppjlaipfjaa.HKit
end
