import Derived.Test.YtjalkjeldlchoaaYTre3
section
set_option linter.unusedSectionVars false
set_option linter.unusedSimpArgs false
set_option linter.unusedVariables false
namespace Go.Proofs.Ytjalkjeldlchoaa.X
open Go Go.RowKit
def roomV (r : Int) : Int := if 1073741825 < r then 1073741825 else r
def laneV (l : List S23) (a0 a1 b0 b1 r : Int) : Bool := withinV l (mn a0 b0 - roomV r) (mx a0 b0 + roomV r) (mn a1 b1 - roomV r) (mx a1 b1 + roomV r)
def upV (x0 x1 y0 y1 z0 z1 : Int) : Bool := decide (x0 > x1 ∨ y0 > y1 ∨ z0 > z1)
def holdE (l r : List S23) (fl ce x0 x1 y0 y1 z0 z1 : Int) : Int := if checkV l r fl ce = 0 then (if upV x0 x1 y0 y1 z0 z1 = true then 1 else 0) else checkV l r fl ce
def holdB (l r : List S23) (fl ce x0 x1 y0 y1 z0 z1 : Int) : Bool := decide (holdE l r fl ce x0 x1 y0 y1 z0 z1 = 0) && (decide (z0 ≥ fl) && (decide (z1 ≤ ce) && withinV l x0 x1 y0 y1))
def quad (a0 a1 b0 b1 : Int) : Bool := inQ a0 && inQ a1 && (inQ b0 && inQ b1)
def LaneE (l r : List S23) (fl ce a0 a1 b0 b1 k : Int) : Int := if checkV l r fl ce = 0 then (if quad a0 a1 b0 b1 = true then (if k < 0 then 1 else 0) else 5) else checkV l r fl ce
def LaneB (l r : List S23) (fl ce a0 a1 b0 b1 k : Int) : Bool := decide (LaneE l r fl ce a0 a1 b0 b1 k = 0) && laneV l a0 a1 b0 b1 k
theorem checkV_zero {l r : List S23} {fl ce : Int} (h : checkV l r fl ce = 0) : simpleV l = 0 ∧ limV r.length fl ce = 0 ∧ rallyV l r = 0 := by
  unfold checkV at h
  by_cases h1 : simpleV l = 0
  · rw [if_pos h1] at h
    by_cases h2 : limV r.length fl ce = 0
    · rw [if_pos h2] at h
      exact ⟨h1, h2, h⟩
    · rw [if_neg h2] at h
      exact absurd h h2
  · rw [if_neg h1] at h
    exact absurd h h1
theorem quad_in {a0 a1 b0 b1 : Int} (h : quad a0 a1 b0 b1 = true) : (InB a0 ∧ InB a1) ∧ (InB b0 ∧ InB b1) := by
  unfold quad at h
  simp only [Bool.and_eq_true, inQ_iff] at h
  exact h
end Go.Proofs.Ytjalkjeldlchoaa.X
namespace Go.Proofs.Ytjalkjeldlchoaa.Ex
open Go Go.RowKit Go.Proofs.Ytjalkjeldlchoaa.X
set_option linter.unusedVariables false
theorem res_2 {a a' b b' : Value} {hp : Hp} {wr : List Nat} (h : a = a') (g : b = b') : Res.le ⟨.tuple #[a, b], hp, wr⟩ ⟨.tuple #[a', b'], hp, wr⟩ := res_v (by rw [h, g])
def boxV (x0 x1 y0 y1 z0 z1 : Int) : Value := .agg #[.int .i64 x0, .int .i64 x1, .int .i64 y0, .int .i64 y1, .int .i64 z0, .int .i64 z1]
theorem gfar_done (a0 a1 b0 b1 : Int) : CallSpec Try.prog 37 [pV a0 a1, pV b0 b1] [] ⟨.tuple #[.int .i64 (farA a0 a1 b0 b1), .int .i64 (farE a0 a1 b0 b1)], [], []⟩ := by
  unfold farA farE
  refine gfar_ok _ _ _ _ _ (fun h => res_v ?_) (fun h => res_v ?_)
  · rw [Bool.not_not, Bool.or_eq_true] at h
    rw [if_pos h, if_pos h]
  · rw [Bool.not_not, Bool.or_eq_true] at h
    rw [if_neg h, if_neg h]
    simp only [w64_i]
    rfl
section
variable {l r : List S23} {c d : Nat} {fl ce : Int} (hm : l.length ≤ 9223372036854775807)
include hm
theorem holds_bb (x0 x1 y0 y1 z0 z1 : Int) : CallSpec Try.prog 21 [fV (slB 0 l.length c) fl ce (slB 1 r.length d), boxV x0 x1 y0 y1 z0 z1] [.ro 39 (pc l), .ro 39 (pc r)] ⟨.tuple #[.bool (holdB l r fl ce x0 x1 y0 y1 z0 z1), .int .i64 (holdE l r fl ce x0 x1 y0 y1 z0 z1)], [.ro 39 (pc l), .ro 39 (pc r)], []⟩ := by
  have kW : checkV l r fl ce = 0 → CallSpec Try.prog 53 [slB 0 l.length c, pV x0 x1, pV y0 y1] [.ro 39 (pc l)] ⟨.bool (withinV l x0 x1 y0 y1), [.ro 39 (pc l)], []⟩ := fun h => by
    have hs := simpleV_zero (checkV_zero h).1
    exact within_done x0 x1 y0 y1 (by omega) hs.2.1
  refine holds_ok _ _ _ _ _ _ _ _ _ _ _ _ _ _ _ _ (check_bb hm) kW _ (fun h => ?_) (fun h g => ?_) (fun h g k p => ?_) (fun h g k p => ?_) (fun h g k => ?_)
  all_goals unfold holdB
  · have e : holdE l r fl ce x0 x1 y0 y1 z0 z1 = checkV l r fl ce := by unfold holdE; rw [if_neg h]
    rw [e, decide_eq_false h, Bool.false_and]
    exact res_refl
  · have e : holdE l r fl ce x0 x1 y0 y1 z0 z1 = 1 := by unfold holdE upV; rw [if_pos (by omega), if_pos (decide_eq_true g)]
    rw [e]
    exact res_refl
  all_goals have e : holdE l r fl ce x0 x1 y0 y1 z0 z1 = 0 := by unfold holdE upV; rw [if_pos (by omega), if_neg (by rw [decide_eq_true_iff]; exact g)]
  all_goals rw [e]
  · rw [decide_eq_true k, decide_eq_true p]
    exact res_refl
  · rw [decide_eq_true k, decide_eq_false p]
    exact res_refl
  · rw [decide_eq_false k]
    exact res_refl
theorem lane_bb (hs : simpleV l = 0) (a0 a1 b0 b1 k : Int) (hq : quad a0 a1 b0 b1 = true) (hk : 0 ≤ k) : CallSpec Try.prog 56 [fV (slB 0 l.length c) fl ce (slB 1 r.length d), pV a0 a1, pV b0 b1, .int .i64 k] [.ro 39 (pc l), .ro 39 (pc r)] ⟨.bool (laneV l a0 a1 b0 b1 k), [.ro 39 (pc l), .ro 39 (pc r)], []⟩ := by
  have hz := simpleV_zero hs
  obtain ⟨⟨q1, q2⟩, q3, q4⟩ := quad_in hq
  unfold InB at *
  exact lane_ok _ _ _ _ _ _ l _ _ _ _ _ _ _ ⟨q1.1, q1.2, q2.1, q2.2⟩ ⟨q3.1, q3.2, q4.1, q4.2⟩ hk (fun x0 x1 y0 y1 => within_done x0 x1 y0 y1 (by omega) hz.2.1) _ (res_b (by unfold laneV roomV mn mx; rfl))
theorem Lane_bb (a0 a1 b0 b1 k : Int) : CallSpec Try.prog 23 [fV (slB 0 l.length c) fl ce (slB 1 r.length d), pV a0 a1, pV b0 b1, .int .i64 k] [.ro 39 (pc l), .ro 39 (pc r)] ⟨.tuple #[.bool (LaneB l r fl ce a0 a1 b0 b1 k), .int .i64 (LaneE l r fl ce a0 a1 b0 b1 k)], [.ro 39 (pc l), .ro 39 (pc r)], []⟩ := by
  refine Lane_ok _ _ _ _ _ _ _ _ _ _ _ _ _ _ _ (check_bb hm) (fun h q hk => lane_bb (c := c) (d := d) (r := r) (fl := fl) (ce := ce) hm (checkV_zero h).1 a0 a1 b0 b1 k q hk) _ (fun h => ?_) (fun h g => ?_) (fun h g p => ?_) (fun h g p => ?_)
  all_goals unfold LaneB
  · have e : LaneE l r fl ce a0 a1 b0 b1 k = checkV l r fl ce := by unfold LaneE; rw [if_neg h]
    rw [e, decide_eq_false h, Bool.false_and]
    exact res_refl
  · have e : LaneE l r fl ce a0 a1 b0 b1 k = 5 := by
      have q : quad a0 a1 b0 b1 = false := (Bool.not_eq_true' _).mp g
      unfold LaneE
      rw [if_pos (by omega), if_neg (by rw [q]; exact Bool.false_ne_true)]
    rw [e]
    exact res_refl
  · have e : LaneE l r fl ce a0 a1 b0 b1 k = 1 := by
      have q : quad a0 a1 b0 b1 = true := by rw [Bool.not_eq_true', Bool.not_eq_false] at g; exact g
      unfold LaneE
      rw [if_pos (by omega), if_pos q, if_pos p]
    rw [e]
    exact res_refl
  · have e : LaneE l r fl ce a0 a1 b0 b1 k = 0 := by
      have q : quad a0 a1 b0 b1 = true := by rw [Bool.not_eq_true', Bool.not_eq_false] at g; exact g
      unfold LaneE
      rw [if_pos (by omega), if_pos q, if_neg p]
    rw [e]
    exact res_refl
end
end Go.Proofs.Ytjalkjeldlchoaa.Ex
end
section
set_option linter.unusedSectionVars false
set_option linter.unusedSimpArgs false
set_option linter.unusedVariables false
namespace Go.Proofs.Ytjalkjeldlchoaa.Ex
open Go
set_option linter.unusedVariables false
noncomputable def ra_l : Code := loopAt Try.prog 25 0
theorem ra_l_calm : calmC ra_l = true := loopAt_calm tcalm 25 0
noncomputable def ra_lC : Code := .loop ra_l
def frRa (m d : Nat) (k b n i : Int) : Fr := frOf 61 [(2, .int .i64 k), (3, at_ 2 0), (4, at_ 3 0), (9, .int .i64 b), (10, .int .i64 n), (30, slB 1 m d), (31, .int .i64 m), (32, .int .i64 i)]
def hpRa (n c m d : Nat) (cs rs : List Value) (fl ce p q : Int) : Hp := [.ro 39 cs, .ro 39 rs, .own 24 [slB 0 n c, .int .i64 fl, .int .i64 ce, slB 1 m d], .own 39 [.int .i64 p, .int .i64 q]]
section
variable (n c m d : Nat) (cs rs : List Value) (fl ce p q k b ne i x y fa fe : Int) (w : Bool) (hi : 0 ≤ i ∧ i ≤ (↑m : Int)) (hm : m ≤ 8) (hl : List.length rs = m * 2) (hA : i < (↑m : Int) → ptAt rs i x y) (kF : i < (↑m : Int) → CallSpec Try.prog 37 [pV p q, (a2 x y)] [] (.mk (.tuple #[.int .i64 fa, .int .i64 fe]) [] [])) (kL : i < (↑m : Int) → CallSpec Try.prog 56 [fV (slB 0 n c) fl ce (slB 1 m d), pV p q, (a2 x y), .int .i64 k] [.ro 39 cs, .ro 39 rs] (.mk (.bool w) [.ro 39 cs, .ro 39 rs] []))
include n c m d cs rs fl ce p q k b ne i x y fa fe w hi hm hl hA kF kL
theorem ra_round_pttt : go (body (Try.prog) (8) (2) (8) (fun x_1 => [2, 3, 4, 9, 10, 30, 31, 32]) (ra_l) (frRa m d k b ne i) (hpRa n c m d cs rs fl ce p q)) [(2, .dec true), (1, Itm.must), (1, Itm.must), (0, Itm.val ((a2 x y))), (13, .call (.mk (.tuple #[.int .i64 fa, .int .i64 fe]) [] [])), (11, .dec true), (0, .dec true), (0, .dec true), (0, .dec true), (14, .call (.mk (.bool w) [.ro 39 cs, .ro 39 rs] [])), (5, .dec true), (5, Itm.val (.int .i64 (i + 1)))] = some (Out.mk Xt.normal (frOf 61 [(2, .int .i64 k), (3, (pA 2)), (4, (pA 3)), (9, .int .i64 i), (10, .int .i64 fa), (30, (sB 1 m d)), (31, .int .i64 (↑m : Int)), (32, .int .i64 (i + 1))]) [.ro 39 cs, .ro 39 rs, .own 24 [(sB 0 n c), .int .i64 fl, .int .i64 ce, (sB 1 m d)], .own 39 [.int .i64 p, .int .i64 q]] [], true, [decide (i < (↑m : Int)) = true, inside i m = true, decide (0 + Int.toNat i * 2 + 2 ≤ List.length rs) = true, Value.agg (List.toArray (List.take 2 (List.drop (0 + Int.toNat i * 2) rs))) = (a2 x y), CallSpec Try.prog 37 [(a2 p q), (a2 x y)] [] (.mk (.tuple #[.int .i64 fa, .int .i64 fe]) [] []), decide (b < 0) = true, decide (b < 0) = true, decide (b < 0) = true, decide (b < 0) = true, CallSpec Try.prog 56 [.agg #[(sB 0 n c), .int .i64 fl, .int .i64 ce, (sB 1 m d)], (a2 p q), (a2 x y), .int .i64 k] [.ro 39 cs, .ro 39 rs] (.mk (.bool w) [.ro 39 cs, .ro 39 rs] []), w = true, Value.int .i64 (IntKind.wrap .i64 (i + 1)) = .int .i64 (i + 1)]) := by kernel_rfl
theorem ra_round_pttf : go (body (Try.prog) (8) (2) (8) (fun x_1 => [2, 3, 4, 9, 10, 30, 31, 32]) (ra_l) (frRa m d k b ne i) (hpRa n c m d cs rs fl ce p q)) [(2, .dec true), (1, Itm.must), (1, Itm.must), (0, Itm.val ((a2 x y))), (13, .call (.mk (.tuple #[.int .i64 fa, .int .i64 fe]) [] [])), (11, .dec true), (0, .dec true), (0, .dec true), (0, .dec true), (14, .call (.mk (.bool w) [.ro 39 cs, .ro 39 rs] [])), (5, .dec false), (0, Itm.val (.int .i64 (i + 1)))] = some (Out.mk Xt.normal (frOf 61 [(2, .int .i64 k), (3, (pA 2)), (4, (pA 3)), (9, .int .i64 b), (10, .int .i64 ne), (30, (sB 1 m d)), (31, .int .i64 (↑m : Int)), (32, .int .i64 (i + 1))]) [.ro 39 cs, .ro 39 rs, .own 24 [(sB 0 n c), .int .i64 fl, .int .i64 ce, (sB 1 m d)], .own 39 [.int .i64 p, .int .i64 q]] [], true, [decide (i < (↑m : Int)) = true, inside i m = true, decide (0 + Int.toNat i * 2 + 2 ≤ List.length rs) = true, Value.agg (List.toArray (List.take 2 (List.drop (0 + Int.toNat i * 2) rs))) = (a2 x y), CallSpec Try.prog 37 [(a2 p q), (a2 x y)] [] (.mk (.tuple #[.int .i64 fa, .int .i64 fe]) [] []), decide (b < 0) = true, decide (b < 0) = true, decide (b < 0) = true, decide (b < 0) = true, CallSpec Try.prog 56 [.agg #[(sB 0 n c), .int .i64 fl, .int .i64 ce, (sB 1 m d)], (a2 p q), (a2 x y), .int .i64 k] [.ro 39 cs, .ro 39 rs] (.mk (.bool w) [.ro 39 cs, .ro 39 rs] []), w = false, Value.int .i64 (IntKind.wrap .i64 (i + 1)) = .int .i64 (i + 1)]) := by kernel_rfl
theorem ra_round_ptftt : go (body (Try.prog) (8) (2) (8) (fun x_1 => [2, 3, 4, 9, 10, 30, 31, 32]) (ra_l) (frRa m d k b ne i) (hpRa n c m d cs rs fl ce p q)) [(2, .dec true), (1, Itm.must), (1, Itm.must), (0, Itm.val ((a2 x y))), (13, .call (.mk (.tuple #[.int .i64 fa, .int .i64 fe]) [] [])), (11, .dec false), (1, .dec false), (1, .dec false), (1, .dec false), (2, .dec true), (2, .dec true), (2, .dec true), (2, .dec true), (1, .dec true), (0, .call (.mk (.bool w) [.ro 39 cs, .ro 39 rs] [])), (2, .dec true), (2, .dec true), (5, Itm.val (.int .i64 (i + 1)))] = some (Out.mk Xt.normal (frOf 61 [(2, .int .i64 k), (3, (pA 2)), (4, (pA 3)), (9, .int .i64 i), (10, .int .i64 fa), (30, (sB 1 m d)), (31, .int .i64 (↑m : Int)), (32, .int .i64 (i + 1))]) [.ro 39 cs, .ro 39 rs, .own 24 [(sB 0 n c), .int .i64 fl, .int .i64 ce, (sB 1 m d)], .own 39 [.int .i64 p, .int .i64 q]] [], true, [decide (i < (↑m : Int)) = true, inside i m = true, decide (0 + Int.toNat i * 2 + 2 ≤ List.length rs) = true, Value.agg (List.toArray (List.take 2 (List.drop (0 + Int.toNat i * 2) rs))) = (a2 x y), CallSpec Try.prog 37 [(a2 p q), (a2 x y)] [] (.mk (.tuple #[.int .i64 fa, .int .i64 fe]) [] []), decide (b < 0) = false, decide (b < 0) = false, decide (b < 0) = false, decide (b < 0) = false, decide (fa < ne) = true, decide (fa < ne) = true, decide (fa < ne) = true, decide (fa < ne) = true, decide (fa < ne) = true, CallSpec Try.prog 56 [.agg #[(sB 0 n c), .int .i64 fl, .int .i64 ce, (sB 1 m d)], (a2 p q), (a2 x y), .int .i64 k] [.ro 39 cs, .ro 39 rs] (.mk (.bool w) [.ro 39 cs, .ro 39 rs] []), decide (fa < ne) = true, w = true, Value.int .i64 (IntKind.wrap .i64 (i + 1)) = .int .i64 (i + 1)]) := by kernel_rfl
theorem ra_round_ptftf : go (body (Try.prog) (8) (2) (8) (fun x_1 => [2, 3, 4, 9, 10, 30, 31, 32]) (ra_l) (frRa m d k b ne i) (hpRa n c m d cs rs fl ce p q)) [(2, .dec true), (1, Itm.must), (1, Itm.must), (0, Itm.val ((a2 x y))), (13, .call (.mk (.tuple #[.int .i64 fa, .int .i64 fe]) [] [])), (11, .dec false), (1, .dec false), (1, .dec false), (1, .dec false), (2, .dec true), (2, .dec true), (2, .dec true), (2, .dec true), (1, .dec true), (0, .call (.mk (.bool w) [.ro 39 cs, .ro 39 rs] [])), (2, .dec true), (2, .dec false), (0, Itm.val (.int .i64 (i + 1)))] = some (Out.mk Xt.normal (frOf 61 [(2, .int .i64 k), (3, (pA 2)), (4, (pA 3)), (9, .int .i64 b), (10, .int .i64 ne), (30, (sB 1 m d)), (31, .int .i64 (↑m : Int)), (32, .int .i64 (i + 1))]) [.ro 39 cs, .ro 39 rs, .own 24 [(sB 0 n c), .int .i64 fl, .int .i64 ce, (sB 1 m d)], .own 39 [.int .i64 p, .int .i64 q]] [], true, [decide (i < (↑m : Int)) = true, inside i m = true, decide (0 + Int.toNat i * 2 + 2 ≤ List.length rs) = true, Value.agg (List.toArray (List.take 2 (List.drop (0 + Int.toNat i * 2) rs))) = (a2 x y), CallSpec Try.prog 37 [(a2 p q), (a2 x y)] [] (.mk (.tuple #[.int .i64 fa, .int .i64 fe]) [] []), decide (b < 0) = false, decide (b < 0) = false, decide (b < 0) = false, decide (b < 0) = false, decide (fa < ne) = true, decide (fa < ne) = true, decide (fa < ne) = true, decide (fa < ne) = true, decide (fa < ne) = true, CallSpec Try.prog 56 [.agg #[(sB 0 n c), .int .i64 fl, .int .i64 ce, (sB 1 m d)], (a2 p q), (a2 x y), .int .i64 k] [.ro 39 cs, .ro 39 rs] (.mk (.bool w) [.ro 39 cs, .ro 39 rs] []), decide (fa < ne) = true, w = false, Value.int .i64 (IntKind.wrap .i64 (i + 1)) = .int .i64 (i + 1)]) := by kernel_rfl
theorem ra_round_ptff : go (body (Try.prog) (8) (2) (8) (fun x_1 => [2, 3, 4, 9, 10, 30, 31, 32]) (ra_l) (frRa m d k b ne i) (hpRa n c m d cs rs fl ce p q)) [(2, .dec true), (1, Itm.must), (1, Itm.must), (0, Itm.val ((a2 x y))), (13, .call (.mk (.tuple #[.int .i64 fa, .int .i64 fe]) [] [])), (11, .dec false), (1, .dec false), (1, .dec false), (1, .dec false), (2, .dec false), (0, .dec false), (0, .dec false), (0, .dec false), (0, .dec false), (0, .dec false), (3, Itm.val (.int .i64 (i + 1)))] = some (Out.mk Xt.normal (frOf 61 [(2, .int .i64 k), (3, (pA 2)), (4, (pA 3)), (9, .int .i64 b), (10, .int .i64 ne), (30, (sB 1 m d)), (31, .int .i64 (↑m : Int)), (32, .int .i64 (i + 1))]) [.ro 39 cs, .ro 39 rs, .own 24 [(sB 0 n c), .int .i64 fl, .int .i64 ce, (sB 1 m d)], .own 39 [.int .i64 p, .int .i64 q]] [], true, [decide (i < (↑m : Int)) = true, inside i m = true, decide (0 + Int.toNat i * 2 + 2 ≤ List.length rs) = true, Value.agg (List.toArray (List.take 2 (List.drop (0 + Int.toNat i * 2) rs))) = (a2 x y), CallSpec Try.prog 37 [(a2 p q), (a2 x y)] [] (.mk (.tuple #[.int .i64 fa, .int .i64 fe]) [] []), decide (b < 0) = false, decide (b < 0) = false, decide (b < 0) = false, decide (b < 0) = false, decide (fa < ne) = false, decide (fa < ne) = false, decide (fa < ne) = false, decide (fa < ne) = false, decide (fa < ne) = false, decide (fa < ne) = false, Value.int .i64 (IntKind.wrap .i64 (i + 1)) = .int .i64 (i + 1)]) := by kernel_rfl
theorem ra_round_pf : go (body (Try.prog) (8) (2) (8) (fun x_1 => [2, 3, 4, 9, 10, 30, 31, 32]) (ra_l) (frRa m d k b ne i) (hpRa n c m d cs rs fl ce p q)) [(2, .dec false)] = some (Out.mk (Xt.exit 0) (frOf 61 [(2, .int .i64 k), (3, (pA 2)), (4, (pA 3)), (9, .int .i64 b), (10, .int .i64 ne), (30, (sB 1 m d)), (31, .int .i64 (↑m : Int)), (32, .int .i64 i)]) [.ro 39 cs, .ro 39 rs, .own 24 [(sB 0 n c), .int .i64 fl, .int .i64 ce, (sB 1 m d)], .own 39 [.int .i64 p, .int .i64 q]] [], true, [decide (i < (↑m : Int)) = false]) := by kernel_rfl
theorem ra_round (R : Out) (k_pttt : (h0 : i < (↑m : Int)) → (h1 : b < 0) → (h2 : w = true) → Out.le (Out.mk Xt.normal (frOf 61 [(2, .int .i64 k), (3, (pA 2)), (4, (pA 3)), (9, .int .i64 i), (10, .int .i64 fa), (30, (sB 1 m d)), (31, .int .i64 (↑m : Int)), (32, .int .i64 (i + 1))]) [.ro 39 cs, .ro 39 rs, .own 24 [(sB 0 n c), .int .i64 fl, .int .i64 ce, (sB 1 m d)], .own 39 [.int .i64 p, .int .i64 q]] []) R) (k_pttf : (h0 : i < (↑m : Int)) → (h1 : b < 0) → (h2 : ¬ (w = true)) → Out.le (Out.mk Xt.normal (frOf 61 [(2, .int .i64 k), (3, (pA 2)), (4, (pA 3)), (9, .int .i64 b), (10, .int .i64 ne), (30, (sB 1 m d)), (31, .int .i64 (↑m : Int)), (32, .int .i64 (i + 1))]) [.ro 39 cs, .ro 39 rs, .own 24 [(sB 0 n c), .int .i64 fl, .int .i64 ce, (sB 1 m d)], .own 39 [.int .i64 p, .int .i64 q]] []) R) (k_ptftt : (h0 : i < (↑m : Int)) → (h1 : ¬ (b < 0)) → (h2 : fa < ne) → (h3 : w = true) → Out.le (Out.mk Xt.normal (frOf 61 [(2, .int .i64 k), (3, (pA 2)), (4, (pA 3)), (9, .int .i64 i), (10, .int .i64 fa), (30, (sB 1 m d)), (31, .int .i64 (↑m : Int)), (32, .int .i64 (i + 1))]) [.ro 39 cs, .ro 39 rs, .own 24 [(sB 0 n c), .int .i64 fl, .int .i64 ce, (sB 1 m d)], .own 39 [.int .i64 p, .int .i64 q]] []) R) (k_ptftf : (h0 : i < (↑m : Int)) → (h1 : ¬ (b < 0)) → (h2 : fa < ne) → (h3 : ¬ (w = true)) → Out.le (Out.mk Xt.normal (frOf 61 [(2, .int .i64 k), (3, (pA 2)), (4, (pA 3)), (9, .int .i64 b), (10, .int .i64 ne), (30, (sB 1 m d)), (31, .int .i64 (↑m : Int)), (32, .int .i64 (i + 1))]) [.ro 39 cs, .ro 39 rs, .own 24 [(sB 0 n c), .int .i64 fl, .int .i64 ce, (sB 1 m d)], .own 39 [.int .i64 p, .int .i64 q]] []) R) (k_ptff : (h0 : i < (↑m : Int)) → (h1 : ¬ (b < 0)) → (h2 : ¬ (fa < ne)) → Out.le (Out.mk Xt.normal (frOf 61 [(2, .int .i64 k), (3, (pA 2)), (4, (pA 3)), (9, .int .i64 b), (10, .int .i64 ne), (30, (sB 1 m d)), (31, .int .i64 (↑m : Int)), (32, .int .i64 (i + 1))]) [.ro 39 cs, .ro 39 rs, .own 24 [(sB 0 n c), .int .i64 fl, .int .i64 ce, (sB 1 m d)], .own 39 [.int .i64 p, .int .i64 q]] []) R) (k_pf : (h0 : ¬ (i < (↑m : Int))) → Out.le (Out.mk (Xt.exit 0) (frOf 61 [(2, .int .i64 k), (3, (pA 2)), (4, (pA 3)), (9, .int .i64 b), (10, .int .i64 ne), (30, (sB 1 m d)), (31, .int .i64 (↑m : Int)), (32, .int .i64 i)]) [.ro 39 cs, .ro 39 rs, .own 24 [(sB 0 n c), .int .i64 fl, .int .i64 ce, (sB 1 m d)], .own 39 [.int .i64 p, .int .i64 q]] []) R) : CodeSpec (Try.prog) (2) (ra_l) (frRa m d k b ne i) (hpRa n c m d cs rs fl ce p q) R := by
  by_cases h0 : i < (↑m : Int)
  · by_cases h1 : b < 0
    · by_cases h2 : w = true
      · exact (CodeSpec.id (go_ok (body_ok tnamed tcalm tmixed _ _ _ _ _ _ ra_l_calm) (ra_round_pttt n c m d cs rs fl ce p q k b ne i x y fa fe w hi hm hl hA kF kL ) (aC (dTq h0) (aC (inside_of (by omega)) (aC dO (aC ((hA (by omega))) (aC ((kF (by omega))) (aC (dTq h1) (aC (dTq h1) (aC (dTq h1) (aC (dTq h1) (aC ((kL (by omega))) (aC (h2) (aC (congrArg (Value.int _) (Go.IntWalk.i64_in _ (by omega))) aN)))))))))))))).le (k_pttt h0 h1 h2)
      · exact (CodeSpec.id (go_ok (body_ok tnamed tcalm tmixed _ _ _ _ _ _ ra_l_calm) (ra_round_pttf n c m d cs rs fl ce p q k b ne i x y fa fe w hi hm hl hA kF kL ) (aC (dTq h0) (aC (inside_of (by omega)) (aC dO (aC ((hA (by omega))) (aC ((kF (by omega))) (aC (dTq h1) (aC (dTq h1) (aC (dTq h1) (aC (dTq h1) (aC ((kL (by omega))) (aC ((bF h2)) (aC (congrArg (Value.int _) (Go.IntWalk.i64_in _ (by omega))) aN)))))))))))))).le (k_pttf h0 h1 h2)
    · by_cases h2 : fa < ne
      · by_cases h3 : w = true
        · exact (CodeSpec.id (go_ok (body_ok tnamed tcalm tmixed _ _ _ _ _ _ ra_l_calm) (ra_round_ptftt n c m d cs rs fl ce p q k b ne i x y fa fe w hi hm hl hA kF kL ) (aC (dTq h0) (aC (inside_of (by omega)) (aC dO (aC ((hA (by omega))) (aC ((kF (by omega))) (aC (dFq h1) (aC (dFq h1) (aC (dFq h1) (aC (dFq h1) (aC (dTq h2) (aC (dTq h2) (aC (dTq h2) (aC (dTq h2) (aC (dTq h2) (aC ((kL (by omega))) (aC (dTq h2) (aC (h3) (aC (congrArg (Value.int _) (Go.IntWalk.i64_in _ (by omega))) aN)))))))))))))))))))).le (k_ptftt h0 h1 h2 h3)
        · exact (CodeSpec.id (go_ok (body_ok tnamed tcalm tmixed _ _ _ _ _ _ ra_l_calm) (ra_round_ptftf n c m d cs rs fl ce p q k b ne i x y fa fe w hi hm hl hA kF kL ) (aC (dTq h0) (aC (inside_of (by omega)) (aC dO (aC ((hA (by omega))) (aC ((kF (by omega))) (aC (dFq h1) (aC (dFq h1) (aC (dFq h1) (aC (dFq h1) (aC (dTq h2) (aC (dTq h2) (aC (dTq h2) (aC (dTq h2) (aC (dTq h2) (aC ((kL (by omega))) (aC (dTq h2) (aC ((bF h3)) (aC (congrArg (Value.int _) (Go.IntWalk.i64_in _ (by omega))) aN)))))))))))))))))))).le (k_ptftf h0 h1 h2 h3)
      · exact (CodeSpec.id (go_ok (body_ok tnamed tcalm tmixed _ _ _ _ _ _ ra_l_calm) (ra_round_ptff n c m d cs rs fl ce p q k b ne i x y fa fe w hi hm hl hA kF kL ) (aC (dTq h0) (aC (inside_of (by omega)) (aC dO (aC ((hA (by omega))) (aC ((kF (by omega))) (aC (dFq h1) (aC (dFq h1) (aC (dFq h1) (aC (dFq h1) (aC (dFq h2) (aC (dFq h2) (aC (dFq h2) (aC (dFq h2) (aC (dFq h2) (aC (dFq h2) (aC (congrArg (Value.int _) (Go.IntWalk.i64_in _ (by omega))) aN)))))))))))))))))).le (k_ptff h0 h1 h2)
  · exact (CodeSpec.id (go_ok (body_ok tnamed tcalm tmixed _ _ _ _ _ _ ra_l_calm) (ra_round_pf n c m d cs rs fl ce p q k b ne i x y fa fe w hi hm hl hA kF kL ) (aC (dFq h0) aN))).le (k_pf h0)
end
section
variable (n c m d : Nat) (cs rs : List Value) (fl ce p q k e b ne : Int) (kC : CallSpec Try.prog 18 [fV (slB 0 n c) fl ce (slB 1 m d)] [.ro 39 cs, .ro 39 rs] (.mk (.int .i64 e) [.ro 39 cs, .ro 39 rs] [])) (hL : e = 0 → (X.inQ p && X.inQ q) = true → 0 ≤ k → CodeSpec Try.prog 2 ra_lC (frRa m d k (-1) 0 0) (hpRa n c m d cs rs fl ce p q) (Out.mk (Xt.exit 0) (frRa m d k b ne (↑m : Int)) (hpRa n c m d cs rs fl ce p q) []))
include n c m d cs rs fl ce p q k e b ne kC hL
theorem ra_ok_pt : go (exec (Try.prog) (8) (25) ([fV (slB 0 n c) fl ce (slB 1 m d), pV p q, .int .i64 k]) ([.ro 39 cs, .ro 39 rs])) [(12, .call (.mk (.int .i64 e) [.ro 39 cs, .ro 39 rs] [])), (7, .dec true)] = some (.mk (.tuple #[.int .i64 0, .int .i64 e]) [.ro 39 cs, .ro 39 rs] [], true, [type_of% kC, (!decide (e = 0)) = true]) := by kernel_rfl
theorem ra_ok_pft : go (exec (Try.prog) (8) (25) ([fV (slB 0 n c) fl ce (slB 1 m d), pV p q, .int .i64 k]) ([.ro 39 cs, .ro 39 rs])) [(12, .call (.mk (.int .i64 e) [.ro 39 cs, .ro 39 rs] [])), (7, .dec false), (14, .call (.mk (.bool (X.inQ p && X.inQ q)) [.own 3 [.int .i64 p, .int .i64 q]] [])), (4, .dec true)] = some (.mk (.tuple #[.int .i64 0, .int .i64 5]) [.ro 39 cs, .ro 39 rs] [], true, [type_of% kC, (!decide (e = 0)) = false, CallSpec Try.prog 55 [(sB 0 2 2)] [.own 3 [.int .i64 p, .int .i64 q]] (.mk (.bool (X.inQ p && X.inQ q)) [.own 3 [.int .i64 p, .int .i64 q]] []), (!(X.inQ p && X.inQ q)) = true]) := by kernel_rfl
theorem ra_ok_pfft : go (exec (Try.prog) (8) (25) ([fV (slB 0 n c) fl ce (slB 1 m d), pV p q, .int .i64 k]) ([.ro 39 cs, .ro 39 rs])) [(12, .call (.mk (.int .i64 e) [.ro 39 cs, .ro 39 rs] [])), (7, .dec false), (14, .call (.mk (.bool (X.inQ p && X.inQ q)) [.own 3 [.int .i64 p, .int .i64 q]] [])), (4, .dec false), (3, .dec true)] = some (.mk (.tuple #[.int .i64 0, .int .i64 1]) [.ro 39 cs, .ro 39 rs] [], true, [type_of% kC, (!decide (e = 0)) = false, CallSpec Try.prog 55 [(sB 0 2 2)] [.own 3 [.int .i64 p, .int .i64 q]] (.mk (.bool (X.inQ p && X.inQ q)) [.own 3 [.int .i64 p, .int .i64 q]] []), (!(X.inQ p && X.inQ q)) = false, decide (k < 0) = true]) := by kernel_rfl
theorem ra_ok_pfff : go (exec (Try.prog) (8) (25) ([fV (slB 0 n c) fl ce (slB 1 m d), pV p q, .int .i64 k]) ([.ro 39 cs, .ro 39 rs])) [(12, .call (.mk (.int .i64 e) [.ro 39 cs, .ro 39 rs] [])), (7, .dec false), (14, .call (.mk (.bool (X.inQ p && X.inQ q)) [.own 3 [.int .i64 p, .int .i64 q]] [])), (4, .dec false), (3, .dec false), (9, Itm.loop [2, 3, 4, 9, 10, 30, 31, 32] (Out.mk (Xt.exit 0) (frOf 61 [(2, .int .i64 k), (3, (pA 2)), (4, (pA 3)), (9, .int .i64 b), (10, .int .i64 ne), (30, (sB 1 m d)), (31, .int .i64 (↑m : Int)), (32, .int .i64 (↑m : Int))]) [.ro 39 cs, .ro 39 rs, .own 24 [(sB 0 n c), .int .i64 fl, .int .i64 ce, (sB 1 m d)], .own 39 [.int .i64 p, .int .i64 q]] []))] = some (.mk (.tuple #[.int .i64 b, .int .i64 0]) [.ro 39 cs, .ro 39 rs] [], true, [type_of% kC, (!decide (e = 0)) = false, CallSpec Try.prog 55 [(sB 0 2 2)] [.own 3 [.int .i64 p, .int .i64 q]] (.mk (.bool (X.inQ p && X.inQ q)) [.own 3 [.int .i64 p, .int .i64 q]] []), (!(X.inQ p && X.inQ q)) = false, decide (k < 0) = false, CodeSpec Try.prog (List.length [Blk.ro 39 cs, Blk.ro 39 rs]) ra_lC (frOf 61 [(2, .int .i64 k), (3, (pA 2)), (4, (pA 3)), (9, .int .i64 (-1)), (10, .int .i64 0), (30, (sB 1 m d)), (31, .int .i64 (↑m : Int)), (32, .int .i64 0)]) [.ro 39 cs, .ro 39 rs, .own 24 [(sB 0 n c), .int .i64 fl, .int .i64 ce, (sB 1 m d)], .own 39 [.int .i64 p, .int .i64 q]] (Out.mk (Xt.exit 0) (frOf 61 [(2, .int .i64 k), (3, (pA 2)), (4, (pA 3)), (9, .int .i64 b), (10, .int .i64 ne), (30, (sB 1 m d)), (31, .int .i64 (↑m : Int)), (32, .int .i64 (↑m : Int))]) [.ro 39 cs, .ro 39 rs, .own 24 [(sB 0 n c), .int .i64 fl, .int .i64 ce, (sB 1 m d)], .own 39 [.int .i64 p, .int .i64 q]] [])]) := by kernel_rfl
theorem ra_ok (R : Res) (k_pt : (h0 : ¬e = 0) → Res.le (.mk (.tuple #[.int .i64 0, .int .i64 e]) [.ro 39 cs, .ro 39 rs] []) R) (k_pft : (h0 : ¬ (¬e = 0)) → (h1 : (!(X.inQ p && X.inQ q)) = true) → Res.le (.mk (.tuple #[.int .i64 0, .int .i64 5]) [.ro 39 cs, .ro 39 rs] []) R) (k_pfft : (h0 : ¬ (¬e = 0)) → (h1 : ¬ ((!(X.inQ p && X.inQ q)) = true)) → (h2 : k < 0) → Res.le (.mk (.tuple #[.int .i64 0, .int .i64 1]) [.ro 39 cs, .ro 39 rs] []) R) (k_pfff : (h0 : ¬ (¬e = 0)) → (h1 : ¬ ((!(X.inQ p && X.inQ q)) = true)) → (h2 : ¬ (k < 0)) → Res.le (.mk (.tuple #[.int .i64 b, .int .i64 0]) [.ro 39 cs, .ro 39 rs] []) R) : CallSpec (Try.prog) (25) ([fV (slB 0 n c) fl ce (slB 1 m d), pV p q, .int .i64 k]) ([.ro 39 cs, .ro 39 rs]) R := by
  by_cases h0 : ¬e = 0
  · exact (CallSpec.id (go_ok (exec_ok tnamed tcalm tmixed _ _ _ _) (ra_ok_pt n c m d cs rs fl ce p q k e b ne kC hL ) (aC (kC) (aC ((by simpa using h0)) aN)))).le (k_pt h0)
  · by_cases h1 : (!(X.inQ p && X.inQ q)) = true
    · exact (CallSpec.id (go_ok (exec_ok tnamed tcalm tmixed _ _ _ _) (ra_ok_pft n c m d cs rs fl ce p q k e b ne kC hL ) (aC (kC) (aC ((by simpa using h0)) (aC ((may2_done _ _)) (aC (h1) aN)))))).le (k_pft h0 h1)
    · by_cases h2 : k < 0
      · exact (CallSpec.id (go_ok (exec_ok tnamed tcalm tmixed _ _ _ _) (ra_ok_pfft n c m d cs rs fl ce p q k e b ne kC hL ) (aC (kC) (aC ((by simpa using h0)) (aC ((may2_done _ _)) (aC ((bF h1)) (aC (dTq h2) aN))))))).le (k_pfft h0 h1 h2)
      · exact (CallSpec.id (go_ok (exec_ok tnamed tcalm tmixed _ _ _ _) (ra_ok_pfff n c m d cs rs fl ce p q k e b ne kC hL ) (aC (kC) (aC ((by simpa using h0)) (aC ((may2_done _ _)) (aC ((bF h1)) (aC (dFq h2) (aC ((hL (by omega) (by simpa using h1) (by omega))) aN)))))))).le (k_pfff h0 h1 h2)
end
end Go.Proofs.Ytjalkjeldlchoaa.Ex
end
section
set_option linter.unusedSectionVars false
set_option linter.unusedSimpArgs false
set_option linter.unusedVariables false
namespace Go.Proofs.Ytjalkjeldlchoaa.X
open Go Go.RowKit Go.Proofs.Ytjalkjeldlchoaa.Ex
def nearV (L : S23 → Bool) (p q : Int) : List S23 → Nat → Int × Int → Int × Int
  | [], _, s => s
  | x :: r, i, s => nearV L p q r (i + 1) (if (s.1 < 0 ∨ farA p q x.f0 x.f1 < s.2) ∧ L x = true then ((i : Int), farA p q x.f0 x.f1) else s)
def RallyE (l r : List S23) (fl ce p q k : Int) : Int := if checkV l r fl ce = 0 then (if (inQ p && inQ q) = true then (if k < 0 then 1 else 0) else 5) else checkV l r fl ce
def RallyA (L : S23 → Bool) (l r : List S23) (fl ce p q k : Int) : Int := if RallyE l r fl ce p q k = 0 then (nearV L p q r 0 (-1, 0)).1 else 0
theorem rallyV_in {l : List S23} : ∀ {r : List S23}, rallyV l r = 0 → ∀ i, i < r.length → InB (pt r i).f0 ∧ InB (pt r i).f1
  | [], _, i, h => absurd h (Nat.not_lt_zero i)
  | p :: r, h, i, hi => by
    unfold rallyV at h
    by_cases ho : outP ⟨p.f0, p.f1⟩ = true
    · rw [if_pos ho] at h; omega
    · rw [if_neg ho] at h
      by_cases hs : sideV l p.f0 p.f1 = 1
      · rw [if_pos hs] at h
        cases i with
        | zero => exact (outP_eq _ _).1 (Bool.eq_false_iff.2 ho)
        | succ i => exact rallyV_in h i (Nat.lt_of_succ_lt_succ hi)
      · rw [if_neg hs] at h; omega
end Go.Proofs.Ytjalkjeldlchoaa.X
namespace Go.Proofs.Ytjalkjeldlchoaa.Ex
open Go Go.RowKit Go.Proofs.Ytjalkjeldlchoaa.X
set_option linter.unusedVariables false
theorem ra_rounds {l r : List S23} {c d : Nat} {fl ce p q k : Int} (hc : checkV l r fl ce = 0) (hp : (inQ p && inQ q) = true) (hk : 0 ≤ k) : ∀ (j i : Nat) (s : Int × Int), i + j = r.length →
    LoopSpec Try.prog 2 ra_l (frRa r.length d k s.1 s.2 i) (hpRa l.length c r.length d (pc l) (pc r) fl ce p q) ⟨.exit 0, frRa r.length d k (nearV (fun x => laneV l p q x.f0 x.f1 k) p q (r.drop i) i s).1 (nearV (fun x => laneV l p q x.f0 x.f1 k) p q (r.drop i) i s).2 r.length, hpRa l.length c r.length d (pc l) (pc r) fl ce p q, []⟩
  | 0, i, s, hi => by
    obtain rfl : i = r.length := by omega
    rw [List.drop_length]
    have hm := limV_le (checkV_zero hc).2.1
    refine .last (ra_round l.length c r.length d (pc l) (pc r) fl ce p q k s.1 s.2 r.length 0 0 0 0 false (by omega) hm (pc_len r) (fun h => by omega) (fun h => by omega) (fun h => by omega) _ (fun h => by omega) (fun h => by omega) (fun h => by omega) (fun h => by omega) (fun h => by omega) (fun _ => out_eq)) (by intro h; cases h)
  | j + 1, i, s, hi => by
    have z := checkV_zero hc
    have hm := limV_le z.2.1
    have hlt : i < r.length := by omega
    have hin := rallyV_in z.2.2 i hlt
    have hz := simpleV_zero z.1
    simp only [Bool.and_eq_true, inQ_iff] at hp
    have hq : quad p q (pt r i).f0 (pt r i).f1 = true := by
      unfold quad
      simp only [Bool.and_eq_true, inQ_iff]
      exact ⟨hp, hin⟩
    have round := ra_round l.length c r.length d (pc l) (pc r) fl ce p q k s.1 s.2 i _ _ _ _ _ (by omega) hm (pc_len r) (fun _ => ptAt_of hlt) (fun _ => gfar_done p q (pt r i).f0 (pt r i).f1) (fun _ => lane_bb (c := c) (d := d) (r := r) (fl := fl) (ce := ce) (by omega) z.1 p q (pt r i).f0 (pt r i).f1 k hq hk)
    have ih := ra_rounds (c := c) (d := d) (k := k) hc (by simp only [Bool.and_eq_true, inQ_iff]; exact hp) hk j (i + 1)
    rw [drop_pt hlt, nearV]
    have key : ∀ s' : Int × Int, s' = (if (s.1 < 0 ∨ farA p q (pt r i).f0 (pt r i).f1 < s.2) ∧ laneV l p q (pt r i).f0 (pt r i).f1 k = true then ((i : Int), farA p q (pt r i).f0 (pt r i).f1) else s) →
        CodeSpec Try.prog 2 ra_l (frRa r.length d k s.1 s.2 i) (hpRa l.length c r.length d (pc l) (pc r) fl ce p q) ⟨.normal, frRa r.length d k s'.1 s'.2 ((i + 1 : Nat) : Int), hpRa l.length c r.length d (pc l) (pc r) fl ce p q, []⟩ := fun s' hs => by
      have fe : ∀ {u : Int × Int}, u = s' → Out.le ⟨.normal, frRa r.length d k u.1 u.2 ((i : Int) + 1), hpRa l.length c r.length d (pc l) (pc r) fl ce p q, []⟩ ⟨.normal, frRa r.length d k s'.1 s'.2 ((i + 1 : Nat) : Int), hpRa l.length c r.length d (pc l) (pc r) fl ce p q, []⟩ := fun h => by rw [h]; exact out_eq
      refine round _ (fun _ h g => fe (u := ((i : Int), farA p q (pt r i).f0 (pt r i).f1)) ?_) (fun _ h g => fe (u := s) ?_) (fun _ h g t => fe (u := ((i : Int), farA p q (pt r i).f0 (pt r i).f1)) ?_) (fun _ h g t => fe (u := s) ?_) (fun _ h g => fe (u := s) ?_) (fun h => absurd (by omega) h)
      · rw [hs, if_pos ⟨.inl h, g⟩]
      · rw [hs, if_neg (fun a => g a.2)]
      · rw [hs, if_pos ⟨.inr g, t⟩]
      · rw [hs, if_neg (fun a => t a.2)]
      · rw [hs, if_neg (fun a => a.1.elim h g)]
    exact .more (key _ rfl) rfl (ih _ (by omega)) (fun j hj => by cases hj)
theorem rally_bb {l r : List S23} {c d : Nat} {fl ce : Int} (hm : l.length ≤ 9223372036854775807) (p q k : Int) : CallSpec Try.prog 25 [fV (slB 0 l.length c) fl ce (slB 1 r.length d), pV p q, .int .i64 k] [.ro 39 (pc l), .ro 39 (pc r)] ⟨.tuple #[.int .i64 (RallyA (fun x => laneV l p q x.f0 x.f1 k) l r fl ce p q k), .int .i64 (RallyE l r fl ce p q k)], [.ro 39 (pc l), .ro 39 (pc r)], []⟩ := by
  refine ra_ok _ _ _ _ _ _ _ _ _ _ _ _ _ _ (check_bb hm) (fun h1 h2 h3 => (ra_rounds (c := c) (d := d) h1 h2 h3 r.length 0 (-1, 0) (by omega)).code) _ (fun h => ?_) (fun h g => ?_) (fun h g t => ?_) (fun h g t => ?_)
  all_goals unfold RallyA
  · have e : RallyE l r fl ce p q k = checkV l r fl ce := by unfold RallyE; rw [if_neg h]
    rw [e, if_neg h]
    exact res_refl
  · have e : RallyE l r fl ce p q k = 5 := by
      unfold RallyE
      rw [Bool.not_eq_true'] at g
      rw [if_pos (by omega), if_neg (by rw [g]; exact Bool.false_ne_true)]
    rw [e]
    exact res_refl
  · have e : RallyE l r fl ce p q k = 1 := by
      unfold RallyE
      rw [Bool.not_eq_true', Bool.not_eq_false] at g
      rw [if_pos (by omega), if_pos g, if_pos t]
    rw [e]
    exact res_refl
  · have e : RallyE l r fl ce p q k = 0 := by
      unfold RallyE
      rw [Bool.not_eq_true', Bool.not_eq_false] at g
      rw [if_pos (by omega), if_pos g, if_neg t]
    rw [e]
    exact res_refl
end Go.Proofs.Ytjalkjeldlchoaa.Ex
end
section
set_option linter.unusedSectionVars false
set_option linter.unusedSimpArgs false
set_option linter.unusedVariables false
namespace Go.Proofs.Ytjalkjeldlchoaa.Ex
open Go
set_option linter.unusedVariables false
abbrev bsV (b k : Nat) : Value := .slice (some ⟨b, 0, none⟩) k k
section
variable (k : Nat) (bs : List Value) (n : Int) (hk : k ≤ 1000000) (hl : List.length bs = k)
include k bs n hk hl
theorem put_ok_p : go (exec (Try.prog) (8) (60) ([bsV 0 k, .int .i64 n]) ([.own 5 bs])) [(8, Itm.val (.int .i64 (n / 256))), (3, Itm.val (.int .i64 (n / 65536))), (3, Itm.val (.int .i64 (n / 16777216))), (11, Itm.must), (0, .dec false), (0, Itm.must)] = some (.mk ((sB 1 (k + 4) (k + 4))) [.dead, .own 5 (bs ++ [.int .u8 (IntKind.wrap IntKind.u8 n), .int .u8 (IntKind.wrap IntKind.u8 (n / 256)), .int .u8 (IntKind.wrap IntKind.u8 (n / 65536)), .int .u8 (IntKind.wrap IntKind.u8 (n / 16777216))])] [0], true, [Value.int .i64 (Int.fdiv n 256) = .int .i64 (n / 256), Value.int .i64 (Int.fdiv n 65536) = .int .i64 (n / 65536), Value.int .i64 (Int.fdiv n 16777216) = .int .i64 (n / 16777216), (true && decide ((k + 4) * 1 ≤ 140737488355328) && decide (k + 4 ≤ 140737488355328) && decide (k * 1 ≤ List.length bs)) = true, decide (k + 4 ≤ k) = false, decide (List.length bs = k * 1) = true]) := by kernel_rfl
theorem put_ok (R : Res) (k_p : Res.le (.mk ((sB 1 (k + 4) (k + 4))) [.dead, .own 5 (bs ++ [.int .u8 (IntKind.wrap IntKind.u8 n), .int .u8 (IntKind.wrap IntKind.u8 (n / 256)), .int .u8 (IntKind.wrap IntKind.u8 (n / 65536)), .int .u8 (IntKind.wrap IntKind.u8 (n / 16777216))])] [0]) R) : CallSpec (Try.prog) (60) ([bsV 0 k, .int .i64 n]) ([.own 5 bs]) R := by
  exact (CallSpec.id (go_ok (exec_ok tnamed tcalm tmixed _ _ _ _) (put_ok_p k bs n hk hl ) (aC (congrArg (Value.int _) (Int.fdiv_eq_ediv_of_nonneg _ (by omega))) (aC (congrArg (Value.int _) (Int.fdiv_eq_ediv_of_nonneg _ (by omega))) (aC (congrArg (Value.int _) (Int.fdiv_eq_ediv_of_nonneg _ (by omega))) (aC ((by simp [ByteArray.size_append, ByteArray.size_extract, sz_mk] <;> omega)) (aC dN (aC dO aN)))))))).le (k_p )
end
end Go.Proofs.Ytjalkjeldlchoaa.Ex
end
section
set_option linter.unusedSectionVars false
set_option linter.unusedSimpArgs false
set_option linter.unusedVariables false
namespace Go.Proofs.Ytjalkjeldlchoaa.X
open Go
def b4 (n : Int) : List Value := [.int .u8 (IntKind.wrap .u8 n), .int .u8 (IntKind.wrap .u8 (n / 256)), .int .u8 (IntKind.wrap .u8 (n / 65536)), .int .u8 (IntKind.wrap .u8 (n / 16777216))]
theorem b4_len (n : Int) : (b4 n).length = 4 := rfl
def b1 (n : Int) : List Value := [.int .u8 (IntKind.wrap .u8 n)]
theorem b1_len (n : Int) : (b1 n).length = 1 := rfl
end Go.Proofs.Ytjalkjeldlchoaa.X
namespace Go.Proofs.Ytjalkjeldlchoaa.Ex
open Go Go.RowKit Go.Proofs.Ytjalkjeldlchoaa.X
set_option linter.unusedVariables false
theorem put_done (k : Nat) (bs : List Value) (n : Int) (hk : k ≤ 1000000) (hl : bs.length = k) : CallSpec Try.prog 60 [bsV 0 k, .int .i64 n] [.own 5 bs] ⟨bsV 1 (k + 4), [.dead, .own 5 (bs ++ b4 n)], [0]⟩ := put_ok k bs n hk hl _ res_refl
end Go.Proofs.Ytjalkjeldlchoaa.Ex
end
section
set_option linter.unusedSectionVars false
set_option linter.unusedSimpArgs false
set_option linter.unusedVariables false
namespace Go.Proofs.Ytjalkjeldlchoaa.Ex
open Go
set_option linter.unusedVariables false
noncomputable def fp_l : Code := loopAt Try.prog 59 0
theorem fp_l_calm : calmC fp_l = true := loopAt_calm tcalm 59 0
noncomputable def fp_lC : Code := .loop fp_l
def frF1 (k n c : Nat) (i : Int) : Fr := frOf 28 [(0, bsV 1 k), (13, slB 0 n c), (14, .int .i64 n), (15, .int .i64 i)]
def frF2 (k n c : Nat) (i : Int) : Fr := frOf 28 [(0, bsV 2 k), (13, slB 1 n c), (14, .int .i64 n), (15, .int .i64 i)]
section
variable (k n c : Nat) (bs cs : List Value) (i x y : Int) (hi : 0 ≤ i ∧ i ≤ (↑n : Int)) (hk : k ≤ 900000) (hn : n ≤ 1000) (hb : List.length bs = k) (hl : List.length cs = n * 2) (hA : i < (↑n : Int) → ptAt cs i x y)
include k n c bs cs i x y hi hk hn hb hl hA
theorem fp1_round_pt : go (body (Try.prog) (8) (1) (8) (fun x_1 => [0, 13, 14, 15]) (fp_l) (frF1 k n c i) ([.ro 39 cs, .own 5 bs])) [(2, .dec true), (0, Itm.must), (1, Itm.must), (0, Itm.val ((a2 x y))), (13, .call (.mk ((sB 1 (k + 4) (k + 4))) [.dead, .own 5 (bs ++ X.b4 x)] [0])), (6, .call (.mk ((sB 1 (k + 4 + 4) (k + 4 + 4))) [.dead, .own 5 (bs ++ X.b4 x ++ X.b4 y)] [0])), (4, Itm.val (.int .i64 (i + 1)))] = some (Out.mk Xt.normal (frOf 28 [(0, (sB 1 (k + 4 + 4) (k + 4 + 4))), (13, (sB 0 n c)), (14, .int .i64 (↑n : Int)), (15, .int .i64 (i + 1))]) [.ro 39 cs, .own 5 (bs ++ X.b4 x ++ X.b4 y)] [], true, [decide (i < (↑n : Int)) = true, inside i n = true, decide (0 + Int.toNat i * 2 + 2 ≤ List.length cs) = true, Value.agg (List.toArray (List.take 2 (List.drop (0 + Int.toNat i * 2) cs))) = (a2 x y), CallSpec Try.prog 60 [(sB 0 k k), .int .i64 x] [.own 5 bs] (.mk ((sB 1 (k + 4) (k + 4))) [.dead, .own 5 (bs ++ X.b4 x)] [0]), CallSpec Try.prog 60 [(sB 0 (k + 4) (k + 4)), .int .i64 y] [.own 5 (bs ++ X.b4 x)] (.mk ((sB 1 (k + 4 + 4) (k + 4 + 4))) [.dead, .own 5 (bs ++ X.b4 x ++ X.b4 y)] [0]), Value.int .i64 (IntKind.wrap .i64 (i + 1)) = .int .i64 (i + 1)]) := by kernel_rfl
theorem fp1_round_pf : go (body (Try.prog) (8) (1) (8) (fun x_1 => [0, 13, 14, 15]) (fp_l) (frF1 k n c i) ([.ro 39 cs, .own 5 bs])) [(2, .dec false)] = some (Out.mk (Xt.exit 0) (frOf 28 [(0, (sB 1 k k)), (13, (sB 0 n c)), (14, .int .i64 (↑n : Int)), (15, .int .i64 i)]) [.ro 39 cs, .own 5 bs] [], true, [decide (i < (↑n : Int)) = false]) := by kernel_rfl
theorem fp1_round (R : Out) (k_pt : (h0 : i < (↑n : Int)) → Out.le (Out.mk Xt.normal (frOf 28 [(0, (sB 1 (k + 4 + 4) (k + 4 + 4))), (13, (sB 0 n c)), (14, .int .i64 (↑n : Int)), (15, .int .i64 (i + 1))]) [.ro 39 cs, .own 5 (bs ++ X.b4 x ++ X.b4 y)] []) R) (k_pf : (h0 : ¬ (i < (↑n : Int))) → Out.le (Out.mk (Xt.exit 0) (frOf 28 [(0, (sB 1 k k)), (13, (sB 0 n c)), (14, .int .i64 (↑n : Int)), (15, .int .i64 i)]) [.ro 39 cs, .own 5 bs] []) R) : CodeSpec (Try.prog) (1) (fp_l) (frF1 k n c i) ([.ro 39 cs, .own 5 bs]) R := by
  by_cases h0 : i < (↑n : Int)
  · exact (CodeSpec.id (go_ok (body_ok tnamed tcalm tmixed _ _ _ _ _ _ fp_l_calm) (fp1_round_pt k n c bs cs i x y hi hk hn hb hl hA ) (aC (dTq h0) (aC (inside_of (by omega)) (aC dO (aC ((hA (by omega))) (aC ((put_done _ _ _ (by omega) (by (try simp only [List.length_append, X.b4_len]); omega))) (aC ((put_done _ _ _ (by omega) (by (try simp only [List.length_append, X.b4_len]); omega))) (aC (congrArg (Value.int _) (Go.IntWalk.i64_in _ (by omega))) aN))))))))).le (k_pt h0)
  · exact (CodeSpec.id (go_ok (body_ok tnamed tcalm tmixed _ _ _ _ _ _ fp_l_calm) (fp1_round_pf k n c bs cs i x y hi hk hn hb hl hA ) (aC (dFq h0) aN))).le (k_pf h0)
end
section
variable (k n c : Nat) (bs cs : List Value) (i x y : Int) (hi : 0 ≤ i ∧ i ≤ (↑n : Int)) (hk : k ≤ 900000) (hn : n ≤ 1000) (hb : List.length bs = k) (hl : List.length cs = n * 2) (hA : i < (↑n : Int) → ptAt cs i x y)
include k n c bs cs i x y hi hk hn hb hl hA
theorem fp2_round_pt : go (body (Try.prog) (8) (2) (8) (fun x_1 => [0, 13, 14, 15]) (fp_l) (frF2 k n c i) ([.dead, .ro 39 cs, .own 5 bs])) [(2, .dec true), (0, Itm.must), (1, Itm.must), (0, Itm.val ((a2 x y))), (13, .call (.mk ((sB 1 (k + 4) (k + 4))) [.dead, .own 5 (bs ++ X.b4 x)] [0])), (6, .call (.mk ((sB 1 (k + 4 + 4) (k + 4 + 4))) [.dead, .own 5 (bs ++ X.b4 x ++ X.b4 y)] [0])), (4, Itm.val (.int .i64 (i + 1)))] = some (Out.mk Xt.normal (frOf 28 [(0, (sB 2 (k + 4 + 4) (k + 4 + 4))), (13, (sB 1 n c)), (14, .int .i64 (↑n : Int)), (15, .int .i64 (i + 1))]) [.dead, .ro 39 cs, .own 5 (bs ++ X.b4 x ++ X.b4 y)] [], true, [decide (i < (↑n : Int)) = true, inside i n = true, decide (0 + Int.toNat i * 2 + 2 ≤ List.length cs) = true, Value.agg (List.toArray (List.take 2 (List.drop (0 + Int.toNat i * 2) cs))) = (a2 x y), CallSpec Try.prog 60 [(sB 0 k k), .int .i64 x] [.own 5 bs] (.mk ((sB 1 (k + 4) (k + 4))) [.dead, .own 5 (bs ++ X.b4 x)] [0]), CallSpec Try.prog 60 [(sB 0 (k + 4) (k + 4)), .int .i64 y] [.own 5 (bs ++ X.b4 x)] (.mk ((sB 1 (k + 4 + 4) (k + 4 + 4))) [.dead, .own 5 (bs ++ X.b4 x ++ X.b4 y)] [0]), Value.int .i64 (IntKind.wrap .i64 (i + 1)) = .int .i64 (i + 1)]) := by kernel_rfl
theorem fp2_round_pf : go (body (Try.prog) (8) (2) (8) (fun x_1 => [0, 13, 14, 15]) (fp_l) (frF2 k n c i) ([.dead, .ro 39 cs, .own 5 bs])) [(2, .dec false)] = some (Out.mk (Xt.exit 0) (frOf 28 [(0, (sB 2 k k)), (13, (sB 1 n c)), (14, .int .i64 (↑n : Int)), (15, .int .i64 i)]) [.dead, .ro 39 cs, .own 5 bs] [], true, [decide (i < (↑n : Int)) = false]) := by kernel_rfl
theorem fp2_round (R : Out) (k_pt : (h0 : i < (↑n : Int)) → Out.le (Out.mk Xt.normal (frOf 28 [(0, (sB 2 (k + 4 + 4) (k + 4 + 4))), (13, (sB 1 n c)), (14, .int .i64 (↑n : Int)), (15, .int .i64 (i + 1))]) [.dead, .ro 39 cs, .own 5 (bs ++ X.b4 x ++ X.b4 y)] []) R) (k_pf : (h0 : ¬ (i < (↑n : Int))) → Out.le (Out.mk (Xt.exit 0) (frOf 28 [(0, (sB 2 k k)), (13, (sB 1 n c)), (14, .int .i64 (↑n : Int)), (15, .int .i64 i)]) [.dead, .ro 39 cs, .own 5 bs] []) R) : CodeSpec (Try.prog) (2) (fp_l) (frF2 k n c i) ([.dead, .ro 39 cs, .own 5 bs]) R := by
  by_cases h0 : i < (↑n : Int)
  · exact (CodeSpec.id (go_ok (body_ok tnamed tcalm tmixed _ _ _ _ _ _ fp_l_calm) (fp2_round_pt k n c bs cs i x y hi hk hn hb hl hA ) (aC (dTq h0) (aC (inside_of (by omega)) (aC dO (aC ((hA (by omega))) (aC ((put_done _ _ _ (by omega) (by (try simp only [List.length_append, X.b4_len]); omega))) (aC ((put_done _ _ _ (by omega) (by (try simp only [List.length_append, X.b4_len]); omega))) (aC (congrArg (Value.int _) (Go.IntWalk.i64_in _ (by omega))) aN))))))))).le (k_pt h0)
  · exact (CodeSpec.id (go_ok (body_ok tnamed tcalm tmixed _ _ _ _ _ _ fp_l_calm) (fp2_round_pf k n c bs cs i x y hi hk hn hb hl hA ) (aC (dFq h0) aN))).le (k_pf h0)
end
section
variable (n c k : Nat) (cs es : List Value) (hL : CodeSpec Try.prog 1 fp_lC (frF1 1 n c 0) [.ro 39 cs, .own 5 (X.b1 (↑n : Int))] (Out.mk (Xt.exit 0) (frF1 k n c (↑n : Int)) [.ro 39 cs, .own 5 es] []))
include n c k cs es hL
theorem fp_nb_p : go (exec (Try.prog) (8) (59) ([sN, slB 0 n c]) ([.ro 39 cs])) [(23, Itm.loop [0, 13, 14, 15] (Out.mk (Xt.exit 0) (frOf 28 [(0, (sB 1 k k)), (13, (sB 0 n c)), (14, .int .i64 (↑n : Int)), (15, .int .i64 (↑n : Int))]) [.ro 39 cs, .own 5 es] []))] = some (.mk ((sB 1 k k)) [.ro 39 cs, .own 5 es] [], true, [type_of% hL]) := by kernel_rfl
theorem fp_nb (R : Res) (k_p : Res.le (.mk ((sB 1 k k)) [.ro 39 cs, .own 5 es] []) R) : CallSpec (Try.prog) (59) ([sN, slB 0 n c]) ([.ro 39 cs]) R := by
  exact (CallSpec.id (go_ok (exec_ok tnamed tcalm tmixed _ _ _ _) (fp_nb_p n c k cs es hL ) (aC (hL) aN))).le (k_p )
end
section
variable (q n c k : Nat) (bs cs es : List Value) (hq : q ≤ 900000) (hb : List.length bs = q) (hL : CodeSpec Try.prog 2 fp_lC (frF2 (q + 1) n c 0) [.dead, .ro 39 cs, .own 5 (bs ++ X.b1 (↑n : Int))] (Out.mk (Xt.exit 0) (frF2 k n c (↑n : Int)) [.dead, .ro 39 cs, .own 5 es] []))
include q n c k bs cs es hq hb hL
theorem fp_bb_p : go (exec (Try.prog) (8) (59) ([bsV 0 q, slB 1 n c]) ([.own 5 bs, .ro 39 cs])) [(14, Itm.must), (0, .dec false), (0, Itm.must), (7, Itm.loop [0, 13, 14, 15] (Out.mk (Xt.exit 0) (frOf 28 [(0, (sB 2 k k)), (13, (sB 1 n c)), (14, .int .i64 (↑n : Int)), (15, .int .i64 (↑n : Int))]) [.dead, .ro 39 cs, .own 5 es] []))] = some (.mk ((sB 2 k k)) [.dead, .ro 39 cs, .own 5 es] [0], true, [(true && decide ((q + 1) * 1 ≤ 140737488355328) && decide (q + 1 ≤ 140737488355328) && decide (q * 1 ≤ List.length bs)) = true, decide (q + 1 ≤ q) = false, decide (List.length bs = q * 1) = true, type_of% hL]) := by kernel_rfl
theorem fp_bb (R : Res) (k_p : Res.le (.mk ((sB 2 k k)) [.dead, .ro 39 cs, .own 5 es] [0]) R) : CallSpec (Try.prog) (59) ([bsV 0 q, slB 1 n c]) ([.own 5 bs, .ro 39 cs]) R := by
  exact (CallSpec.id (go_ok (exec_ok tnamed tcalm tmixed _ _ _ _) (fp_bb_p q n c k bs cs es hq hb hL ) (aC ((by simp [ByteArray.size_append, ByteArray.size_extract, sz_mk] <;> omega)) (aC dN (aC dO (aC (hL) aN)))))).le (k_p )
end
section
variable (q : Nat) (bs : List Value) (hq : q ≤ 900000) (hb : List.length bs = q)
include q bs hq hb
theorem fp_bn_p : go (exec (Try.prog) (8) (59) ([bsV 0 q, sN]) ([.own 5 bs])) [(14, Itm.must), (0, .dec false), (0, Itm.must)] = some (.mk ((sB 1 (q + 1) (q + 1))) [.dead, .own 5 (bs ++ [.int .u8 0])] [0], true, [(true && decide ((q + 1) * 1 ≤ 140737488355328) && decide (q + 1 ≤ 140737488355328) && decide (q * 1 ≤ List.length bs)) = true, decide (q + 1 ≤ q) = false, decide (List.length bs = q * 1) = true]) := by kernel_rfl
theorem fp_bn (R : Res) (k_p : Res.le (.mk ((sB 1 (q + 1) (q + 1))) [.dead, .own 5 (bs ++ [.int .u8 0])] [0]) R) : CallSpec (Try.prog) (59) ([bsV 0 q, sN]) ([.own 5 bs]) R := by
  exact (CallSpec.id (go_ok (exec_ok tnamed tcalm tmixed _ _ _ _) (fp_bn_p q bs hq hb ) (aC ((by simp [ByteArray.size_append, ByteArray.size_extract, sz_mk] <;> omega)) (aC dN (aC dO aN))))).le (k_p )
end
end Go.Proofs.Ytjalkjeldlchoaa.Ex
end
section
set_option linter.unusedSectionVars false
set_option linter.unusedSimpArgs false
set_option linter.unusedVariables false
namespace Go.Proofs.Ytjalkjeldlchoaa.X
open Go
def pbs (l : List S23) : List Value := l.flatMap fun p => b4 p.f0 ++ b4 p.f1
def pb (l : List S23) : List Value := b1 l.length ++ pbs l
theorem pbs_len : ∀ l : List S23, (pbs l).length = 8 * l.length
  | [] => rfl
  | p :: l => by
    show (b4 p.f0 ++ b4 p.f1 ++ pbs l).length = _
    rw [List.length_append, List.length_append, b4_len, b4_len, pbs_len l, List.length_cons]
    omega
theorem pb_len (l : List S23) : (pb l).length = 1 + 8 * l.length := by rw [pb, List.length_append, b1_len, pbs_len]
end Go.Proofs.Ytjalkjeldlchoaa.X
namespace Go.Proofs.Ytjalkjeldlchoaa.Ex
open Go Go.RowKit Go.Proofs.Ytjalkjeldlchoaa.X
set_option linter.unusedVariables false
theorem fp1_rounds {l : List S23} {c : Nat} (hn : l.length ≤ 1000) : ∀ (m i k : Nat) (bs : List Value), i + m = l.length → bs.length = k → k + 8 * m ≤ 900000 →
    LoopSpec Try.prog 1 fp_l (frF1 k l.length c i) [.ro 39 (pc l), .own 5 bs] ⟨.exit 0, frF1 (k + 8 * m) l.length c l.length, [.ro 39 (pc l), .own 5 (bs ++ pbs (l.drop i))], []⟩
  | 0, i, k, bs, hi, hb, hk => by
    obtain rfl : i = l.length := by omega
    rw [List.drop_length]
    show LoopSpec _ _ _ _ _ ⟨.exit 0, frF1 k l.length c l.length, [.ro 39 (pc l), .own 5 (bs ++ [])], []⟩
    rw [List.append_nil]
    exact .last (fp1_round k l.length c bs (pc l) l.length 0 0 (by omega) (by omega) hn hb (pc_len l) (fun h => by omega) _ (fun h => by omega) (fun _ => out_eq)) (by intro h; cases h)
  | m + 1, i, k, bs, hi, hb, hk => by
    have hlt : i < l.length := by omega
    have ih := fp1_rounds (c := c) hn m (i + 1) (k + 4 + 4) (bs ++ b4 (pt l i).f0 ++ b4 (pt l i).f1) (by omega) (by rw [List.length_append, List.length_append, b4_len, b4_len]; omega) (by omega)
    rw [show k + 4 + 4 + 8 * m = k + 8 * (m + 1) by omega] at ih
    have e : bs ++ b4 (pt l i).f0 ++ b4 (pt l i).f1 ++ pbs (l.drop (i + 1)) = bs ++ pbs (l.drop i) := by
      rw [drop_pt hlt]
      show _ = bs ++ (b4 (pt l i).f0 ++ b4 (pt l i).f1 ++ pbs (l.drop (i + 1)))
      simp only [List.append_assoc]
    rw [e] at ih
    exact .more (o1 := ⟨.normal, frF1 (k + 4 + 4) l.length c ((i + 1 : Nat) : Int), [.ro 39 (pc l), .own 5 (bs ++ b4 (pt l i).f0 ++ b4 (pt l i).f1)], []⟩) (fp1_round k l.length c bs (pc l) i _ _ (by omega) (by omega) hn hb (pc_len l) (fun _ => ptAt_of hlt) _ (fun _ => out_eq) (fun h => absurd (by omega) h)) rfl ih (fun j hj => by cases hj)
theorem fp2_rounds {l : List S23} {c : Nat} (hn : l.length ≤ 1000) : ∀ (m i k : Nat) (bs : List Value), i + m = l.length → bs.length = k → k + 8 * m ≤ 900000 →
    LoopSpec Try.prog 2 fp_l (frF2 k l.length c i) [.dead, .ro 39 (pc l), .own 5 bs] ⟨.exit 0, frF2 (k + 8 * m) l.length c l.length, [.dead, .ro 39 (pc l), .own 5 (bs ++ pbs (l.drop i))], []⟩
  | 0, i, k, bs, hi, hb, hk => by
    obtain rfl : i = l.length := by omega
    rw [List.drop_length]
    show LoopSpec _ _ _ _ _ ⟨.exit 0, frF2 k l.length c l.length, [.dead, .ro 39 (pc l), .own 5 (bs ++ [])], []⟩
    rw [List.append_nil]
    exact .last (fp2_round k l.length c bs (pc l) l.length 0 0 (by omega) (by omega) hn hb (pc_len l) (fun h => by omega) _ (fun h => by omega) (fun _ => out_eq)) (by intro h; cases h)
  | m + 1, i, k, bs, hi, hb, hk => by
    have hlt : i < l.length := by omega
    have ih := fp2_rounds (c := c) hn m (i + 1) (k + 4 + 4) (bs ++ b4 (pt l i).f0 ++ b4 (pt l i).f1) (by omega) (by rw [List.length_append, List.length_append, b4_len, b4_len]; omega) (by omega)
    rw [show k + 4 + 4 + 8 * m = k + 8 * (m + 1) by omega] at ih
    have e : bs ++ b4 (pt l i).f0 ++ b4 (pt l i).f1 ++ pbs (l.drop (i + 1)) = bs ++ pbs (l.drop i) := by
      rw [drop_pt hlt]
      show _ = bs ++ (b4 (pt l i).f0 ++ b4 (pt l i).f1 ++ pbs (l.drop (i + 1)))
      simp only [List.append_assoc]
    rw [e] at ih
    exact .more (o1 := ⟨.normal, frF2 (k + 4 + 4) l.length c ((i + 1 : Nat) : Int), [.dead, .ro 39 (pc l), .own 5 (bs ++ b4 (pt l i).f0 ++ b4 (pt l i).f1)], []⟩) (fp2_round k l.length c bs (pc l) i _ _ (by omega) (by omega) hn hb (pc_len l) (fun _ => ptAt_of hlt) _ (fun _ => out_eq) (fun h => absurd (by omega) h)) rfl ih (fun j hj => by cases hj)
theorem points_nb {l : List S23} {c : Nat} (hn : l.length ≤ 1000) : CallSpec Try.prog 59 [.slice none 0 0, slB 0 l.length c] [.ro 39 (pc l)] ⟨bsV 1 (1 + 8 * l.length), [.ro 39 (pc l), .own 5 (pb l)], []⟩ :=
  fp_nb _ _ _ _ _ (fp1_rounds hn l.length 0 1 (b1 l.length) (by omega) rfl (by omega)).code _ res_refl
theorem points_bb {r : List S23} {c q : Nat} {bs : List Value} (hn : r.length ≤ 1000) (hb : bs.length = q) (hq : q ≤ 100000) : CallSpec Try.prog 59 [bsV 0 q, slB 1 r.length c] [.own 5 bs, .ro 39 (pc r)] ⟨bsV 2 (q + 1 + 8 * r.length), [.dead, .ro 39 (pc r), .own 5 (bs ++ pb r)], [0]⟩ := by
  have h := (fp2_rounds (c := c) hn r.length 0 (q + 1) (bs ++ b1 r.length) (by omega) (by rw [List.length_append, b1_len, hb]) (by omega)).code
  rw [List.append_assoc] at h
  exact fp_bb _ _ _ _ _ _ _ (by omega) hb h _ res_refl
theorem points_bn {q : Nat} {bs : List Value} (hb : bs.length = q) (hq : q ≤ 100000) : CallSpec Try.prog 59 [bsV 0 q, .slice none 0 0] [.own 5 bs] ⟨bsV 1 (q + 1), [.dead, .own 5 (bs ++ pb [])], [0]⟩ := fp_bn q bs (by omega) hb _ res_refl
end Go.Proofs.Ytjalkjeldlchoaa.Ex
end
section
set_option linter.unusedSectionVars false
set_option linter.unusedSimpArgs false
set_option linter.unusedVariables false
namespace Go.Proofs.Ytjalkjeldlchoaa.Ex
open Go
set_option linter.unusedVariables false
section
variable (n c m d : Nat) (cs rs : List Value) (fl ce e : Int) (he : e ≠ 0) (kC : CallSpec Try.prog 18 [fV (slB 0 n c) fl ce (slB 1 m d)] [.ro 39 cs, .ro 39 rs] (.mk (.int .i64 e) [.ro 39 cs, .ro 39 rs] []))
include n c m d cs rs fl ce e he kC
theorem enc_e_p : go (exec (Try.prog) (8) (27) ([fV (slB 0 n c) fl ce (slB 1 m d)]) ([.ro 39 cs, .ro 39 rs])) [(9, .call (.mk (.int .i64 e) [.ro 39 cs, .ro 39 rs] [])), (7, .dec true)] = some (.mk (.tuple #[.string (ByteArray.mk #[]), .int .i64 e]) [.ro 39 cs, .ro 39 rs] [], true, [type_of% kC, (!decide (e = 0)) = true]) := by kernel_rfl
theorem enc_e (R : Res) (k_p : Res.le (.mk (.tuple #[.string (ByteArray.mk #[]), .int .i64 e]) [.ro 39 cs, .ro 39 rs] []) R) : CallSpec (Try.prog) (27) ([fV (slB 0 n c) fl ce (slB 1 m d)]) ([.ro 39 cs, .ro 39 rs]) R := by
  exact (CallSpec.id (go_ok (exec_ok tnamed tcalm tmixed _ _ _ _) (enc_e_p n c m d cs rs fl ce e he kC ) (aC (kC) (aC (congrArg not dN) aN)))).le (k_p )
end
section
variable (n c m d k q : Nat) (cs rs es gs : List Value) (fl ce : Int) (hk : k ≤ 80000) (hE : List.length es = k) (hQ : q ≤ 100000) (hG : List.length gs = q) (hI : List.all (List.take (q * 1) (List.drop 0 gs)) (isInt IntKind.u8) = true) (kC : CallSpec Try.prog 18 [fV (slB 0 n c) fl ce (slB 1 m d)] [.ro 39 cs, .ro 39 rs] (.mk (.int .i64 0) [.ro 39 cs, .ro 39 rs] [])) (kP : CallSpec Try.prog 59 [sN, slB 0 n c] [.ro 39 cs] (.mk (bsV 1 k) [.ro 39 cs, .own 5 es] [])) (kR : CallSpec Try.prog 59 [bsV 0 (k + 4 + 4), slB 1 m d] [.own 5 (es ++ X.b4 fl ++ X.b4 ce), .ro 39 rs] (.mk (bsV 2 q) [.dead, .ro 39 rs, .own 5 gs] [0]))
include n c m d k q cs rs es gs fl ce hk hE hQ hG hI kC kP kR
theorem enc_0_p : go (exec (Try.prog) (8) (27) ([fV (slB 0 n c) fl ce (slB 1 m d)]) ([.ro 39 cs, .ro 39 rs])) [(9, .call (.mk (.int .i64 0) [.ro 39 cs, .ro 39 rs] [])), (11, .call (.mk ((sB 1 k k)) [.ro 39 cs, .own 5 es] [])), (9, .call (.mk ((sB 1 (k + 4) (k + 4))) [.dead, .own 5 (es ++ X.b4 fl)] [0])), (6, .call (.mk ((sB 1 (k + 4 + 4) (k + 4 + 4))) [.dead, .own 5 (es ++ X.b4 fl ++ X.b4 ce)] [0])), (8, .call (.mk ((sB 2 q q)) [.dead, .ro 39 rs, .own 5 gs] [0])), (2, Itm.must), (0, Itm.must)] = some (.mk (.tuple #[.string (ByteArray.mk (List.toArray (List.map unbyte (List.take (q * 1) (List.drop 0 gs))))), .int .i64 0]) [.ro 39 cs, .ro 39 rs] [], true, [type_of% kC, type_of% kP, CallSpec Try.prog 60 [(sB 0 k k), .int .i64 fl] [.own 5 es] (.mk ((sB 1 (k + 4) (k + 4))) [.dead, .own 5 (es ++ X.b4 fl)] [0]), CallSpec Try.prog 60 [(sB 0 (k + 4) (k + 4)), .int .i64 ce] [.own 5 (es ++ X.b4 fl)] (.mk ((sB 1 (k + 4 + 4) (k + 4 + 4))) [.dead, .own 5 (es ++ X.b4 fl ++ X.b4 ce)] [0]), type_of% kR, decide (0 + q * 1 ≤ List.length gs) = true, List.all (List.take (q * 1) (List.drop 0 gs)) (isInt IntKind.u8) = true]) := by kernel_rfl
theorem enc_0 (R : Res) (k_p : Res.le (.mk (.tuple #[.string (ByteArray.mk (List.toArray (List.map unbyte (List.take (q * 1) (List.drop 0 gs))))), .int .i64 0]) [.ro 39 cs, .ro 39 rs] []) R) : CallSpec (Try.prog) (27) ([fV (slB 0 n c) fl ce (slB 1 m d)]) ([.ro 39 cs, .ro 39 rs]) R := by
  exact (CallSpec.id (go_ok (exec_ok tnamed tcalm tmixed _ _ _ _) (enc_0_p n c m d k q cs rs es gs fl ce hk hE hQ hG hI kC kP kR ) (aC (kC) (aC (kP) (aC ((put_done _ _ _ (by omega) (by (try simp only [List.length_append, X.b4_len]); omega))) (aC ((put_done _ _ _ (by omega) (by (try simp only [List.length_append, X.b4_len]); omega))) (aC (kR) (aC dO (aC ((by omega)) aN))))))))).le (k_p )
end
section
variable (n c : Nat) (cs : List Value) (fl ce e : Int) (he : e ≠ 0) (kC : CallSpec Try.prog 18 [fV (slB 0 n c) fl ce (sN)] [.ro 39 cs] (.mk (.int .i64 e) [.ro 39 cs] []))
include n c cs fl ce e he kC
theorem encn_e_p : go (exec (Try.prog) (8) (27) ([fV (slB 0 n c) fl ce (sN)]) ([.ro 39 cs])) [(9, .call (.mk (.int .i64 e) [.ro 39 cs] [])), (7, .dec true)] = some (.mk (.tuple #[.string (ByteArray.mk #[]), .int .i64 e]) [.ro 39 cs] [], true, [type_of% kC, (!decide (e = 0)) = true]) := by kernel_rfl
theorem encn_e (R : Res) (k_p : Res.le (.mk (.tuple #[.string (ByteArray.mk #[]), .int .i64 e]) [.ro 39 cs] []) R) : CallSpec (Try.prog) (27) ([fV (slB 0 n c) fl ce (sN)]) ([.ro 39 cs]) R := by
  exact (CallSpec.id (go_ok (exec_ok tnamed tcalm tmixed _ _ _ _) (encn_e_p n c cs fl ce e he kC ) (aC (kC) (aC (congrArg not dN) aN)))).le (k_p )
end
section
variable (n c k q : Nat) (cs es gs : List Value) (fl ce : Int) (hk : k ≤ 80000) (hE : List.length es = k) (hQ : q ≤ 100000) (hG : List.length gs = q) (hI : List.all (List.take (q * 1) (List.drop 0 gs)) (isInt IntKind.u8) = true) (kC : CallSpec Try.prog 18 [fV (slB 0 n c) fl ce (sN)] [.ro 39 cs] (.mk (.int .i64 0) [.ro 39 cs] [])) (kP : CallSpec Try.prog 59 [sN, slB 0 n c] [.ro 39 cs] (.mk (bsV 1 k) [.ro 39 cs, .own 5 es] [])) (kR : CallSpec Try.prog 59 [bsV 0 (k + 4 + 4), sN] [.own 5 (es ++ X.b4 fl ++ X.b4 ce)] (.mk (bsV 1 q) [.dead, .own 5 gs] [0]))
include n c k q cs es gs fl ce hk hE hQ hG hI kC kP kR
theorem encn_0_p : go (exec (Try.prog) (8) (27) ([fV (slB 0 n c) fl ce (sN)]) ([.ro 39 cs])) [(9, .call (.mk (.int .i64 0) [.ro 39 cs] [])), (11, .call (.mk ((sB 1 k k)) [.ro 39 cs, .own 5 es] [])), (9, .call (.mk ((sB 1 (k + 4) (k + 4))) [.dead, .own 5 (es ++ X.b4 fl)] [0])), (6, .call (.mk ((sB 1 (k + 4 + 4) (k + 4 + 4))) [.dead, .own 5 (es ++ X.b4 fl ++ X.b4 ce)] [0])), (8, .call (.mk ((sB 1 q q)) [.dead, .own 5 gs] [0])), (2, Itm.must), (0, Itm.must)] = some (.mk (.tuple #[.string (ByteArray.mk (List.toArray (List.map unbyte (List.take (q * 1) (List.drop 0 gs))))), .int .i64 0]) [.ro 39 cs] [], true, [type_of% kC, type_of% kP, CallSpec Try.prog 60 [(sB 0 k k), .int .i64 fl] [.own 5 es] (.mk ((sB 1 (k + 4) (k + 4))) [.dead, .own 5 (es ++ X.b4 fl)] [0]), CallSpec Try.prog 60 [(sB 0 (k + 4) (k + 4)), .int .i64 ce] [.own 5 (es ++ X.b4 fl)] (.mk ((sB 1 (k + 4 + 4) (k + 4 + 4))) [.dead, .own 5 (es ++ X.b4 fl ++ X.b4 ce)] [0]), type_of% kR, decide (0 + q * 1 ≤ List.length gs) = true, List.all (List.take (q * 1) (List.drop 0 gs)) (isInt IntKind.u8) = true]) := by kernel_rfl
theorem encn_0 (R : Res) (k_p : Res.le (.mk (.tuple #[.string (ByteArray.mk (List.toArray (List.map unbyte (List.take (q * 1) (List.drop 0 gs))))), .int .i64 0]) [.ro 39 cs] []) R) : CallSpec (Try.prog) (27) ([fV (slB 0 n c) fl ce (sN)]) ([.ro 39 cs]) R := by
  exact (CallSpec.id (go_ok (exec_ok tnamed tcalm tmixed _ _ _ _) (encn_0_p n c k q cs es gs fl ce hk hE hQ hG hI kC kP kR ) (aC (kC) (aC (kP) (aC ((put_done _ _ _ (by omega) (by (try simp only [List.length_append, X.b4_len]); omega))) (aC ((put_done _ _ _ (by omega) (by (try simp only [List.length_append, X.b4_len]); omega))) (aC (kR) (aC dO (aC ((by omega)) aN))))))))).le (k_p )
end
end Go.Proofs.Ytjalkjeldlchoaa.Ex
end
section
set_option linter.unusedSectionVars false
set_option linter.unusedSimpArgs false
set_option linter.unusedVariables false
namespace Go.Proofs.Ytjalkjeldlchoaa.X
open Go Go.RowKit Go.Proofs.Ytjalkjeldlchoaa.Ex
def encV (l r : List S23) (fl ce : Int) : List Value := pb l ++ b4 fl ++ b4 ce ++ pb r
def strB (bs : List Value) : ByteArray := ⟨(bs.map unbyte).toArray⟩
def encT (l r : List S23) (fl ce : Int) : ByteArray := if checkV l r fl ce = 0 then strB (encV l r fl ce) else ⟨#[]⟩
theorem all_b4 (n : Int) : (b4 n).all (isInt .u8) = true := rfl
theorem all_b1 (n : Int) : (b1 n).all (isInt .u8) = true := rfl
theorem all_pbs : ∀ l : List S23, (pbs l).all (isInt .u8) = true
  | [] => rfl
  | p :: l => by
    show (b4 p.f0 ++ b4 p.f1 ++ pbs l).all _ = true
    rw [List.all_append, List.all_append, all_b4, all_b4, all_pbs l]
    rfl
theorem all_pb (l : List S23) : (pb l).all (isInt .u8) = true := by rw [pb, List.all_append, all_b1, all_pbs]; rfl
theorem all_enc (l r : List S23) (fl ce : Int) : (encV l r fl ce).all (isInt .u8) = true := by
  unfold encV
  simp only [List.all_append, all_pb, all_b4, Bool.and_self]
theorem enc_len (l r : List S23) (fl ce : Int) : (encV l r fl ce).length = 1 + 8 * l.length + 4 + 4 + 1 + 8 * r.length := by
  unfold encV
  simp only [List.length_append, pb_len, b4_len]
  omega
end Go.Proofs.Ytjalkjeldlchoaa.X
namespace Go.Proofs.Ytjalkjeldlchoaa.Ex
open Go Go.RowKit Go.Proofs.Ytjalkjeldlchoaa.X
set_option linter.unusedVariables false
theorem take_all {α : Type} {l : List α} {q : Nat} (h : l.length = q) : List.take (q * 1) (List.drop 0 l) = l := by rw [List.drop_zero, List.take_of_length_le (by omega)]
theorem encode_bb {l r : List S23} {c d : Nat} {fl ce : Int} (hm : l.length ≤ 9223372036854775807) : CallSpec Try.prog 27 [fV (slB 0 l.length c) fl ce (slB 1 r.length d)] [.ro 39 (pc l), .ro 39 (pc r)] ⟨.tuple #[.string (encT l r fl ce), .int .i64 (checkV l r fl ce)], [.ro 39 (pc l), .ro 39 (pc r)], []⟩ := by
  have kC := check_bb (l := l) (r := r) (c := c) (d := d) (fl := fl) (ce := ce) hm
  unfold encT
  by_cases h : checkV l r fl ce = 0
  · have z := checkV_zero h
    have hl := simpleV_zero z.1
    have hr := limV_le z.2.1
    rw [if_pos h, h]
    rw [h] at kC
    have kP := points_nb (l := l) (c := c) (by omega)
    have kR := points_bb (r := r) (c := d) (q := 1 + 8 * l.length + 4 + 4) (bs := pb l ++ b4 fl ++ b4 ce) (by omega) (by rw [List.length_append, List.length_append, pb_len, b4_len, b4_len]) (by omega)
    have el := enc_len l r fl ce
    refine enc_0 _ _ _ _ (1 + 8 * l.length) _ _ _ _ _ _ _ (by omega) (pb_len l) (by omega) (enc_len l r fl ce) ?_ kC kP kR _ (res_2 ?_ rfl)
    · rw [take_all (enc_len l r fl ce)]
      exact all_enc l r fl ce
    · rw [take_all (enc_len l r fl ce)]
      rfl
  · rw [if_neg h]
    exact enc_e _ _ _ _ _ _ _ _ _ h kC _ res_refl
theorem encode_bn {l : List S23} {c : Nat} {fl ce : Int} (hm : l.length ≤ 9223372036854775807) : CallSpec Try.prog 27 [fV (slB 0 l.length c) fl ce (.slice none 0 0)] [.ro 39 (pc l)] ⟨.tuple #[.string (encT l [] fl ce), .int .i64 (checkV l [] fl ce)], [.ro 39 (pc l)], []⟩ := by
  have kC := check_bn (l := l) (c := c) (fl := fl) (ce := ce) hm
  unfold encT
  by_cases h : checkV l [] fl ce = 0
  · have z := checkV_zero h
    have hl := simpleV_zero z.1
    rw [if_pos h, h]
    rw [h] at kC
    have kP := points_nb (l := l) (c := c) (by omega)
    have kR := points_bn (q := 1 + 8 * l.length + 4 + 4) (bs := pb l ++ b4 fl ++ b4 ce) (by rw [List.length_append, List.length_append, pb_len, b4_len, b4_len]) (by omega)
    have el := enc_len l [] fl ce
    refine encn_0 _ _ (1 + 8 * l.length) _ _ _ _ _ _ (by omega) (pb_len l) (by have : ([] : List S23).length = 0 := rfl; omega) (enc_len l [] fl ce) ?_ kC kP kR _ (res_2 ?_ rfl)
    · rw [take_all (enc_len l [] fl ce)]
      exact all_enc l [] fl ce
    · rw [take_all (enc_len l [] fl ce)]
      rfl
  · rw [if_neg h]
    exact encn_e _ _ _ _ _ _ h kC _ res_refl
end Go.Proofs.Ytjalkjeldlchoaa.Ex
end
section
set_option linter.unusedSectionVars false
set_option linter.unusedSimpArgs false
set_option linter.unusedVariables false
namespace Go.Proofs.Ytjalkjeldlchoaa.Ex
open Go
set_option linter.unusedVariables false
noncomputable def ri_l : Code := loopAt Try.prog 50 0
noncomputable def ri_lC : Code := .loop ri_l
def frI (n c : Nat) (v i : Int) : Fr := frOf 54 [(0, sl0 n c), (3, at_ 1 0), (5, .int .i64 v), (6, .int .i64 i)]
def frIR : Fr := frOf 54 [(4, .int .i64 0)]
def hpI (cs : List Value) (p q : Int) : Hp := [.ro 39 cs, .own 39 [.int .i64 p, .int .i64 q]]
end Go.Proofs.Ytjalkjeldlchoaa.Ex
end
section
set_option linter.unusedSectionVars false
set_option linter.unusedSimpArgs false
set_option linter.unusedVariables false
namespace Go.Proofs.Ytjalkjeldlchoaa.X
open Go Go.RowKit
set_option linter.unusedVariables false
set_option linter.unusedSimpArgs false
def InC (x : Int) : Prop := -1073741824 ≤ x ∧ x ≤ 1073741824
end Go.Proofs.Ytjalkjeldlchoaa.X
end
section
set_option linter.unusedSectionVars false
set_option linter.unusedSimpArgs false
set_option linter.unusedVariables false
namespace Go.Proofs.Ytjalkjeldlchoaa.X
open Go Go.RowKit
set_option linter.unusedVariables false
set_option linter.unusedSimpArgs false
def sm (h : Nat → Int) : Nat → Int
  | 0 => 0
  | k + 1 => sm h k + h k
/-- A closed polygon whose sides meet at its corners alone. -/
structure Simp (n : Nat) (X Y : Nat → Int) : Prop where
  three : 3 ≤ n
  perX : ∀ i, X (i + n) = X i
  perY : ∀ i, Y (i + n) = Y i
  far : ∀ i d, 2 ≤ d → d + 2 ≤ n → ¬ GeoI (X i) (Y i) (X (i + 1)) (Y (i + 1)) (X (i + d)) (Y (i + d)) (X (i + d + 1)) (Y (i + d + 1))
  ne : ∀ i, ¬ (X i = X (i + 1) ∧ Y i = Y (i + 1))
  sp1 : ∀ i, ¬ OnI (X i) (Y i) (X (i + 1)) (Y (i + 1)) (X (i + 2)) (Y (i + 2))
  sp2 : ∀ i, ¬ OnI (X (i + 1)) (Y (i + 1)) (X (i + 2)) (Y (i + 2)) (X i) (Y i)
  inb : ∀ i, InC (X i) ∧ InC (Y i)
theorem Simp.shift {n : Nat} {X Y : Nat → Int} (h : Simp n X Y) (s : Nat) : Simp n (fun k => X (k + s)) (fun k => Y (k + s)) := by
  have e : ∀ i d : Nat, i + d + s = i + s + d := fun i d => by omega
  refine ⟨h.three, fun i => ?_, fun i => ?_, fun i d h1 h2 => ?_, fun i => ?_, fun i => ?_, fun i => ?_, fun i => h.inb _⟩
  · show X (i + n + s) = X (i + s); rw [e, h.perX]
  · show Y (i + n + s) = Y (i + s); rw [e, h.perY]
  · have := h.far (i + s) d h1 h2
    show ¬ GeoI (X (i + s)) (Y (i + s)) (X (i + 1 + s)) (Y (i + 1 + s)) (X (i + d + s)) (Y (i + d + s)) (X (i + d + 1 + s)) (Y (i + d + 1 + s))
    rw [e i 1, e i d, show i + d + 1 + s = i + s + d + 1 by omega]
    exact this
  · show ¬ (X (i + s) = X (i + 1 + s) ∧ Y (i + s) = Y (i + 1 + s)); rw [e]; exact h.ne _
  · show ¬ OnI (X (i + s)) (Y (i + s)) (X (i + 1 + s)) (Y (i + 1 + s)) (X (i + 2 + s)) (Y (i + 2 + s)); rw [e, e]; exact h.sp1 _
  · show ¬ OnI (X (i + 1 + s)) (Y (i + 1 + s)) (X (i + 2 + s)) (Y (i + 2 + s)) (X (i + s)) (Y (i + s)); rw [e, e]; exact h.sp2 _
end Go.Proofs.Ytjalkjeldlchoaa.X
end
section
set_option linter.unusedSectionVars false
set_option linter.unusedSimpArgs false
set_option linter.unusedVariables false
namespace Go.Proofs.Ytjalkjeldlchoaa.X
open Go Go.RowKit
set_option linter.unusedVariables false
set_option linter.unusedSimpArgs false
end Go.Proofs.Ytjalkjeldlchoaa.X
end
section
set_option linter.unusedSectionVars false
set_option linter.unusedSimpArgs false
set_option linter.unusedVariables false
namespace Go.Proofs.Ytjalkjeldlchoaa.X
open Go Go.RowKit
set_option linter.unusedVariables false
set_option linter.unusedSimpArgs false
/-- A closed polygon whose sides meet at its corners alone: with no bound. -/
structure Poly (n : Nat) (X Y : Nat → Int) : Prop where
  three : 3 ≤ n
  perX : ∀ i, X (i + n) = X i
  perY : ∀ i, Y (i + n) = Y i
  far : ∀ i d, 2 ≤ d → d + 2 ≤ n → ¬ GeoI (X i) (Y i) (X (i + 1)) (Y (i + 1)) (X (i + d)) (Y (i + d)) (X (i + d + 1)) (Y (i + d + 1))
  ne : ∀ i, ¬ (X i = X (i + 1) ∧ Y i = Y (i + 1))
  dot : ∀ i, (X i - X (i + 1)) * (Y (i + 2) - Y (i + 1)) - (Y i - Y (i + 1)) * (X (i + 2) - X (i + 1)) = 0 → (X i - X (i + 1)) * (X (i + 2) - X (i + 1)) + (Y i - Y (i + 1)) * (Y (i + 2) - Y (i + 1)) < 0
theorem Poly.shift {n : Nat} {X Y : Nat → Int} (h : Poly n X Y) (s : Nat) : Poly n (fun k => X (k + s)) (fun k => Y (k + s)) := by
  have e : ∀ i d : Nat, i + d + s = i + s + d := fun i d => by omega
  refine ⟨h.three, fun i => ?_, fun i => ?_, fun i d h1 h2 => ?_, fun i => ?_, fun i => ?_⟩
  · show X (i + n + s) = X (i + s); rw [e, h.perX]
  · show Y (i + n + s) = Y (i + s); rw [e, h.perY]
  · have := h.far (i + s) d h1 h2
    show ¬ GeoI (X (i + s)) (Y (i + s)) (X (i + 1 + s)) (Y (i + 1 + s)) (X (i + d + s)) (Y (i + d + s)) (X (i + d + 1 + s)) (Y (i + d + 1 + s))
    rw [e i 1, e i d, show i + d + 1 + s = i + s + d + 1 by omega]
    exact this
  · show ¬ (X (i + s) = X (i + 1 + s) ∧ Y (i + s) = Y (i + 1 + s)); rw [e]; exact h.ne _
  · have := h.dot (i + s)
    show (X (i + s) - X (i + 1 + s)) * (Y (i + 2 + s) - Y (i + 1 + s)) - (Y (i + s) - Y (i + 1 + s)) * (X (i + 2 + s) - X (i + 1 + s)) = 0 → (X (i + s) - X (i + 1 + s)) * (X (i + 2 + s) - X (i + 1 + s)) + (Y (i + s) - Y (i + 1 + s)) * (Y (i + 2 + s) - Y (i + 1 + s)) < 0
    rw [e, e]
    exact this
end Go.Proofs.Ytjalkjeldlchoaa.X
end
section
set_option linter.unusedSectionVars false
set_option linter.unusedSimpArgs false
set_option linter.unusedVariables false
namespace Go.Proofs.Ytjalkjeldlchoaa.X
open Go Go.RowKit
set_option linter.unusedVariables false
set_option linter.unusedSimpArgs false
end Go.Proofs.Ytjalkjeldlchoaa.X
end
section
set_option linter.unusedSectionVars false
set_option linter.unusedSimpArgs false
set_option linter.unusedVariables false
namespace Go.Proofs.Ytjalkjeldlchoaa.X
open Go Go.RowKit
set_option linter.unusedVariables false
set_option linter.unusedSimpArgs false
end Go.Proofs.Ytjalkjeldlchoaa.X
end
section
set_option linter.unusedSectionVars false
set_option linter.unusedSimpArgs false
set_option linter.unusedVariables false
namespace Go.Proofs.Ytjalkjeldlchoaa.X
open Go Go.RowKit
set_option linter.unusedVariables false
set_option linter.unusedSimpArgs false
end Go.Proofs.Ytjalkjeldlchoaa.X
end
section
set_option linter.unusedSectionVars false
set_option linter.unusedSimpArgs false
set_option linter.unusedVariables false
namespace Go.Proofs.Ytjalkjeldlchoaa.X
open Go Go.RowKit
set_option linter.unusedVariables false
set_option linter.unusedSimpArgs false
end Go.Proofs.Ytjalkjeldlchoaa.X
end
section
set_option linter.unusedSectionVars false
set_option linter.unusedSimpArgs false
set_option linter.unusedVariables false
namespace Go.Proofs.Ytjalkjeldlchoaa.Ex
open Go Go.RowKit Go.Proofs.Ytjalkjeldlchoaa.X
set_option linter.unusedVariables false
end Go.Proofs.Ytjalkjeldlchoaa.Ex
end
section
set_option linter.unusedSectionVars false
set_option linter.unusedSimpArgs false
set_option linter.unusedVariables false
namespace Go.Proofs.Ytjalkjeldlchoaa.Ex
open Go
set_option linter.unusedVariables false
noncomputable def rck_l : Code := loopAt Try.prog 19 0
noncomputable def rck_lC : Code := .loop rck_l
def frK (i : Int) : Fr := frOf 56 [(1, at_ 2 0), (4, .int .i64 i)]
def frKR (v : Int) : Fr := frOf 56 [(2, .int .i64 v)]
abbrev slN : Value := .slice none 0 0
abbrev slD (b : Nat) : Value := .slice (some ⟨b, 0, none⟩) 0 0
end Go.Proofs.Ytjalkjeldlchoaa.Ex
end
section
set_option linter.unusedSectionVars false
set_option linter.unusedSimpArgs false
set_option linter.unusedVariables false
namespace Go.Proofs.Ytjalkjeldlchoaa.Ex
open Go Go.RowKit Go.Proofs.Ytjalkjeldlchoaa.X
set_option linter.unusedVariables false
end Go.Proofs.Ytjalkjeldlchoaa.Ex
end
section
set_option linter.unusedSectionVars false
set_option linter.unusedSimpArgs false
set_option linter.unusedVariables false
namespace Go.Proofs.Ytjalkjeldlchoaa.Ex
open Go
set_option linter.unusedVariables false
end Go.Proofs.Ytjalkjeldlchoaa.Ex
end
section
set_option linter.unusedSectionVars false
set_option linter.unusedSimpArgs false
set_option linter.unusedVariables false
namespace Go.Proofs.Ytjalkjeldlchoaa.Ex
open Go Go.RowKit Go.Proofs.Ytjalkjeldlchoaa.X
set_option linter.unusedVariables false
/-- How a list is handed in: nil; none; points. -/
inductive Pk where
  | nil
  | emp
  | pts (l : List S23)
def Pk.list : Pk → List S23
  | .nil | .emp => []
  | .pts l => l
def Pk.val (b : Nat) : Pk → Value
  | .nil => .slice none 0 0
  | .emp => .slice (some ⟨b, 0, none⟩) 0 0
  | .pts l => .slice (some ⟨b, 0, none⟩) l.length l.length
def Pk.hp : Pk → Hp
  | .nil => []
  | .emp => [.dead]
  | .pts l => [.ro 39 (pc l)]
end Go.Proofs.Ytjalkjeldlchoaa.Ex
end
section
set_option linter.unusedSectionVars false
set_option linter.unusedSimpArgs false
set_option linter.unusedVariables false
namespace Go.Proofs.Ytjalkjeldlchoaa.Ex
open Go
set_option linter.unusedVariables false
end Go.Proofs.Ytjalkjeldlchoaa.Ex
end
section
set_option linter.unusedSectionVars false
set_option linter.unusedSimpArgs false
set_option linter.unusedVariables false
namespace Go.Proofs.Ytjalkjeldlchoaa.Ex
open Go Go.RowKit Go.Proofs.Ytjalkjeldlchoaa.X
set_option linter.unusedVariables false
abbrev lentV (b n : Nat) : Value := .slice (some ⟨b, 0, none⟩) n (n + 1)
end Go.Proofs.Ytjalkjeldlchoaa.Ex
end
section
set_option linter.unusedSectionVars false
set_option linter.unusedSimpArgs false
set_option linter.unusedVariables false
namespace Go.Proofs.Ytjalkjeldlchoaa.Ex
open Go
set_option linter.unusedVariables false
noncomputable def sp_l : Code := loopAt Try.prog 67 0
noncomputable def sp_lC : Code := .loop sp_l
def frP (n c d : Nat) (i : Int) : Fr := frOf 26 [(0, slB 0 n c), (1, slB 1 n d), (5, .int .i64 i)]
end Go.Proofs.Ytjalkjeldlchoaa.Ex
end
section
set_option linter.unusedSectionVars false
set_option linter.unusedSimpArgs false
set_option linter.unusedVariables false
namespace Go.Proofs.Ytjalkjeldlchoaa.Ex
open Go Go.RowKit Go.Proofs.Ytjalkjeldlchoaa.X
set_option linter.unusedVariables false
theorem soft_cons {b b' : Blk} {h h' : Hp} (hb : Softer b b') (hh : ∀ id, Softer (h.getD id .dead) (h'.getD id .dead)) : ∀ id, Softer ((b :: h).getD id .dead) ((b' :: h').getD id .dead)
  | 0 => hb
  | id + 1 => hh id
theorem soft_same (h : Hp) : ∀ id, Softer (h.getD id .dead) (h.getD id .dead) := fun _ => .inl rfl
theorem soft_own {e : TypeId} {cs : List Value} : Softer (.ro e cs) (.own e cs) := .inr ⟨e, cs, rfl, rfl⟩
theorem CallSpec.softer {P : Program} {f : FuncId} {args : List Value} {hp hp' : Hp} {v : Value} (h : CallSpec P f args hp ⟨v, hp, []⟩) (hv : flat v = true) (hl : hp.length = hp'.length) (hs : ∀ id, Softer (hp.getD id .dead) (hp'.getD id .dead)) : CallSpec P f args hp' ⟨v, hp', []⟩ := CallSpec.soft hv hl hs h
end Go.Proofs.Ytjalkjeldlchoaa.Ex
end
section
set_option linter.unusedSectionVars false
set_option linter.unusedSimpArgs false
set_option linter.unusedVariables false
namespace Go.Proofs.Ytjalkjeldlchoaa.X
open Go Go.RowKit
def l0 : List S23 := [⟨0, 0⟩, ⟨100, 0⟩, ⟨100, 100⟩, ⟨0, 100⟩]
def r0 : List S23 := [⟨10, 10⟩, ⟨90, 90⟩, ⟨50, 50⟩]
end Go.Proofs.Ytjalkjeldlchoaa.X
namespace Go.Proofs.Ytjalkjeldlchoaa.Ex
open Go Go.RowKit Go.Proofs.Ytjalkjeldlchoaa.X
set_option linter.unusedVariables false
abbrev cs0 : List Value := [.int .i64 0, .int .i64 0, .int .i64 100, .int .i64 0, .int .i64 100, .int .i64 100, .int .i64 0, .int .i64 100]
abbrev rs0 : List Value := [.int .i64 10, .int .i64 10, .int .i64 90, .int .i64 90, .int .i64 50, .int .i64 50]
abbrev hp0 : Hp := [.own 39 cs0, .own 39 rs0]
abbrev f0 : Value := fV (slB 0 4 4) (-5) 50 (slB 1 3 3)
abbrev s66 : ByteArray := ByteArray.mk #[UInt8.ofNat 4, UInt8.ofNat 0, UInt8.ofNat 0, UInt8.ofNat 0, UInt8.ofNat 0, UInt8.ofNat 0, UInt8.ofNat 0, UInt8.ofNat 0, UInt8.ofNat 0, UInt8.ofNat 100, UInt8.ofNat 0, UInt8.ofNat 0, UInt8.ofNat 0, UInt8.ofNat 0, UInt8.ofNat 0, UInt8.ofNat 0, UInt8.ofNat 0, UInt8.ofNat 100, UInt8.ofNat 0, UInt8.ofNat 0, UInt8.ofNat 0, UInt8.ofNat 100, UInt8.ofNat 0, UInt8.ofNat 0, UInt8.ofNat 0, UInt8.ofNat 0, UInt8.ofNat 0, UInt8.ofNat 0, UInt8.ofNat 0, UInt8.ofNat 100, UInt8.ofNat 0, UInt8.ofNat 0, UInt8.ofNat 0, UInt8.ofNat 251, UInt8.ofNat 255, UInt8.ofNat 255, UInt8.ofNat 255, UInt8.ofNat 50, UInt8.ofNat 0, UInt8.ofNat 0, UInt8.ofNat 0, UInt8.ofNat 3, UInt8.ofNat 10, UInt8.ofNat 0, UInt8.ofNat 0, UInt8.ofNat 0, UInt8.ofNat 10, UInt8.ofNat 0, UInt8.ofNat 0, UInt8.ofNat 0, UInt8.ofNat 90, UInt8.ofNat 0, UInt8.ofNat 0, UInt8.ofNat 0, UInt8.ofNat 90, UInt8.ofNat 0, UInt8.ofNat 0, UInt8.ofNat 0, UInt8.ofNat 50, UInt8.ofNat 0, UInt8.ofNat 0, UInt8.ofNat 0, UInt8.ofNat 50, UInt8.ofNat 0, UInt8.ofNat 0, UInt8.ofNat 0]
theorem soft0 : ∀ id, Softer ([Blk.ro 39 (pc l0), .ro 39 (pc r0)].getD id .dead) (hp0.getD id .dead) := soft_cons soft_own (soft_cons soft_own (soft_same []))
theorem lm0 : l0.length ≤ 9223372036854775807 := by decide
theorem aw_check : CallSpec Try.prog 18 [f0] hp0 ⟨.int .i64 0, hp0, []⟩ := by
  have h := CallSpec.softer (hp' := hp0) (check_bb (l := l0) (r := r0) (c := 4) (d := 3) (fl := -5) (ce := 50) lm0) rfl rfl soft0
  rw [show checkV l0 r0 (-5) 50 = 0 by kernel_rfl] at h
  exact h
theorem aw_h1 : CallSpec Try.prog 21 [f0, boxV 1 99 1 99 (-5) 50] hp0 ⟨.tuple #[.bool true, .int .i64 0], hp0, []⟩ := by
  have h := CallSpec.softer (hp' := hp0) (holds_bb (l := l0) (r := r0) (c := 4) (d := 3) (fl := -5) (ce := 50) lm0 1 99 1 99 (-5) 50) rfl rfl soft0
  rw [show holdB l0 r0 (-5) 50 1 99 1 99 (-5) 50 = true by kernel_rfl, show holdE l0 r0 (-5) 50 1 99 1 99 (-5) 50 = 0 by kernel_rfl] at h
  exact h
theorem aw_h2 : CallSpec Try.prog 21 [f0, boxV 0 99 1 99 (-5) 50] hp0 ⟨.tuple #[.bool false, .int .i64 0], hp0, []⟩ := by
  have h := CallSpec.softer (hp' := hp0) (holds_bb (l := l0) (r := r0) (c := 4) (d := 3) (fl := -5) (ce := 50) lm0 0 99 1 99 (-5) 50) rfl rfl soft0
  rw [show holdB l0 r0 (-5) 50 0 99 1 99 (-5) 50 = false by kernel_rfl, show holdE l0 r0 (-5) 50 0 99 1 99 (-5) 50 = 0 by kernel_rfl] at h
  exact h
theorem aw_l1 : CallSpec Try.prog 23 [f0, pV 10 10, pV 90 90, .int .i64 9] hp0 ⟨.tuple #[.bool true, .int .i64 0], hp0, []⟩ := by
  have h := CallSpec.softer (hp' := hp0) (Lane_bb (l := l0) (r := r0) (c := 4) (d := 3) (fl := -5) (ce := 50) lm0 10 10 90 90 9) rfl rfl soft0
  rw [show LaneB l0 r0 (-5) 50 10 10 90 90 9 = true by kernel_rfl, show LaneE l0 r0 (-5) 50 10 10 90 90 9 = 0 by kernel_rfl] at h
  exact h
theorem aw_l2 : CallSpec Try.prog 23 [f0, pV 10 10, pV 90 90, .int .i64 10] hp0 ⟨.tuple #[.bool false, .int .i64 0], hp0, []⟩ := by
  have h := CallSpec.softer (hp' := hp0) (Lane_bb (l := l0) (r := r0) (c := 4) (d := 3) (fl := -5) (ce := 50) lm0 10 10 90 90 10) rfl rfl soft0
  rw [show LaneB l0 r0 (-5) 50 10 10 90 90 10 = false by kernel_rfl, show LaneE l0 r0 (-5) 50 10 10 90 90 10 = 0 by kernel_rfl] at h
  exact h
theorem aw_r : CallSpec Try.prog 25 [f0, pV 70 70, .int .i64 15] hp0 ⟨.tuple #[.int .i64 2, .int .i64 0], hp0, []⟩ := by
  have h := CallSpec.softer (hp' := hp0) (rally_bb (l := l0) (r := r0) (c := 4) (d := 3) (fl := -5) (ce := 50) lm0 70 70 15) rfl rfl soft0
  rw [show RallyA (fun x => laneV l0 70 70 x.f0 x.f1 15) l0 r0 (-5) 50 70 70 15 = 2 by kernel_rfl, show RallyE l0 r0 (-5) 50 70 70 15 = 0 by kernel_rfl] at h
  exact h
theorem aw_e : CallSpec Try.prog 27 [f0] hp0 ⟨.tuple #[.string s66, .int .i64 0], hp0, []⟩ := by
  have h := CallSpec.softer (hp' := hp0) (encode_bb (l := l0) (r := r0) (c := 4) (d := 3) (fl := -5) (ce := 50) lm0) rfl rfl soft0
  rw [show encT l0 r0 (-5) 50 = s66 by kernel_rfl, show checkV l0 r0 (-5) 50 = 0 by kernel_rfl] at h
  exact h
theorem aw_few : CallSpec Try.prog 18 [fV (.slice none 0 0) 0 0 (.slice none 0 0)] [] ⟨.int .i64 90, [], []⟩ := check_nn 0 0
end Go.Proofs.Ytjalkjeldlchoaa.Ex
end
section
set_option linter.unusedSectionVars false
set_option linter.unusedSimpArgs false
set_option linter.unusedVariables false
namespace Go.Proofs.Ytjalkjeldlchoaa.Ex
open Go Go.RowKit Go.Proofs.Ytjalkjeldlchoaa.X
set_option linter.unusedVariables false
theorem aw_dec_p  : go (exec (Try.prog) (8) (29) ([.string s66]) ([])) [(1977, .call (.mk (.int .i64 0) [.own 39 [.int .i64 0, .int .i64 0, .int .i64 100, .int .i64 0, .int .i64 100, .int .i64 100, .int .i64 0, .int .i64 100], .own 39 [.int .i64 10, .int .i64 10, .int .i64 90, .int .i64 90, .int .i64 50, .int .i64 50]] []))] = some (.mk (.tuple #[.agg #[(sB 0 4 4), .int .i64 (-5), .int .i64 50, (sB 1 3 3)], .int .i64 0]) [.own 39 [.int .i64 0, .int .i64 0, .int .i64 100, .int .i64 0, .int .i64 100, .int .i64 100, .int .i64 0, .int .i64 100], .own 39 [.int .i64 10, .int .i64 10, .int .i64 90, .int .i64 90, .int .i64 50, .int .i64 50]] [], true, [CallSpec Try.prog 18 [.agg #[(sB 0 4 4), .int .i64 (-5), .int .i64 50, (sB 1 3 3)]] [.own 39 [.int .i64 0, .int .i64 0, .int .i64 100, .int .i64 0, .int .i64 100, .int .i64 100, .int .i64 0, .int .i64 100], .own 39 [.int .i64 10, .int .i64 10, .int .i64 90, .int .i64 90, .int .i64 50, .int .i64 50]] (.mk (.int .i64 0) [.own 39 [.int .i64 0, .int .i64 0, .int .i64 100, .int .i64 0, .int .i64 100, .int .i64 100, .int .i64 0, .int .i64 100], .own 39 [.int .i64 10, .int .i64 10, .int .i64 90, .int .i64 90, .int .i64 50, .int .i64 50]] [])]) := by kernel_rfl
theorem aw_dec  (R : Res) (k_p : Res.le (.mk (.tuple #[.agg #[(sB 0 4 4), .int .i64 (-5), .int .i64 50, (sB 1 3 3)], .int .i64 0]) [.own 39 [.int .i64 0, .int .i64 0, .int .i64 100, .int .i64 0, .int .i64 100, .int .i64 100, .int .i64 0, .int .i64 100], .own 39 [.int .i64 10, .int .i64 10, .int .i64 90, .int .i64 90, .int .i64 50, .int .i64 50]] []) R) : CallSpec (Try.prog) (29) ([.string s66]) ([]) R := by
  exact (CallSpec.id (go_ok (exec_ok tnamed tcalm tmixed _ _ _ _) (aw_dec_p ) (aC (aw_check) aN))).le (k_p )
end Go.Proofs.Ytjalkjeldlchoaa.Ex
end
section
set_option linter.unusedSectionVars false
set_option linter.unusedSimpArgs false
set_option linter.unusedVariables false
namespace Go.Proofs.Ytjalkjeldlchoaa.Ex
open Go Go.RowKit Go.Proofs.Ytjalkjeldlchoaa.X
set_option linter.unusedVariables false
def decSum (args : List Value) (hp : Hp) : Res := ⟨.tuple #[fV (slB hp.length 4 4) (-5) 50 (slB (hp.length + 1) 3 3), .int .i64 0], hp ++ [.own 39 cs0, .own 39 rs0], []⟩
theorem aw_d : CallSpec Try.prog 29 [.string s66] [] (decSum [.string s66] []) := aw_dec _ ⟨rfl, rfl, fun _ h => h⟩
theorem awake_w_p  : go (exec (Try.prog) (8) (17) ([]) ([])) [(248, .call (.mk (.tuple #[.bool true, .int .i64 0]) [.own 39 [.int .i64 0, .int .i64 0, .int .i64 100, .int .i64 0, .int .i64 100, .int .i64 100, .int .i64 0, .int .i64 100], .own 39 [.int .i64 10, .int .i64 10, .int .i64 90, .int .i64 90, .int .i64 50, .int .i64 50]] [])), (253, .call (.mk (.tuple #[.bool false, .int .i64 0]) [.own 39 [.int .i64 0, .int .i64 0, .int .i64 100, .int .i64 0, .int .i64 100, .int .i64 100, .int .i64 0, .int .i64 100], .own 39 [.int .i64 10, .int .i64 10, .int .i64 90, .int .i64 90, .int .i64 50, .int .i64 50]] [])), (253, .call (.mk (.tuple #[.bool true, .int .i64 0]) [.own 39 [.int .i64 0, .int .i64 0, .int .i64 100, .int .i64 0, .int .i64 100, .int .i64 100, .int .i64 0, .int .i64 100], .own 39 [.int .i64 10, .int .i64 10, .int .i64 90, .int .i64 90, .int .i64 50, .int .i64 50]] [])), (253, .call (.mk (.tuple #[.bool false, .int .i64 0]) [.own 39 [.int .i64 0, .int .i64 0, .int .i64 100, .int .i64 0, .int .i64 100, .int .i64 100, .int .i64 0, .int .i64 100], .own 39 [.int .i64 10, .int .i64 10, .int .i64 90, .int .i64 90, .int .i64 50, .int .i64 50]] [])), (230, .call (.mk (.tuple #[.int .i64 2, .int .i64 0]) [.own 39 [.int .i64 0, .int .i64 0, .int .i64 100, .int .i64 0, .int .i64 100, .int .i64 100, .int .i64 0, .int .i64 100], .own 39 [.int .i64 10, .int .i64 10, .int .i64 90, .int .i64 90, .int .i64 50, .int .i64 50]] [])), (207, .call (.mk (.tuple #[.string (ByteArray.mk #[UInt8.ofNat 4, UInt8.ofNat 0, UInt8.ofNat 0, UInt8.ofNat 0, UInt8.ofNat 0, UInt8.ofNat 0, UInt8.ofNat 0, UInt8.ofNat 0, UInt8.ofNat 0, UInt8.ofNat 100, UInt8.ofNat 0, UInt8.ofNat 0, UInt8.ofNat 0, UInt8.ofNat 0, UInt8.ofNat 0, UInt8.ofNat 0, UInt8.ofNat 0, UInt8.ofNat 100, UInt8.ofNat 0, UInt8.ofNat 0, UInt8.ofNat 0, UInt8.ofNat 100, UInt8.ofNat 0, UInt8.ofNat 0, UInt8.ofNat 0, UInt8.ofNat 0, UInt8.ofNat 0, UInt8.ofNat 0, UInt8.ofNat 0, UInt8.ofNat 100, UInt8.ofNat 0, UInt8.ofNat 0, UInt8.ofNat 0, UInt8.ofNat 251, UInt8.ofNat 255, UInt8.ofNat 255, UInt8.ofNat 255, UInt8.ofNat 50, UInt8.ofNat 0, UInt8.ofNat 0, UInt8.ofNat 0, UInt8.ofNat 3, UInt8.ofNat 10, UInt8.ofNat 0, UInt8.ofNat 0, UInt8.ofNat 0, UInt8.ofNat 10, UInt8.ofNat 0, UInt8.ofNat 0, UInt8.ofNat 0, UInt8.ofNat 90, UInt8.ofNat 0, UInt8.ofNat 0, UInt8.ofNat 0, UInt8.ofNat 90, UInt8.ofNat 0, UInt8.ofNat 0, UInt8.ofNat 0, UInt8.ofNat 50, UInt8.ofNat 0, UInt8.ofNat 0, UInt8.ofNat 0, UInt8.ofNat 50, UInt8.ofNat 0, UInt8.ofNat 0, UInt8.ofNat 0]), .int .i64 0]) [.own 39 [.int .i64 0, .int .i64 0, .int .i64 100, .int .i64 0, .int .i64 100, .int .i64 100, .int .i64 0, .int .i64 100], .own 39 [.int .i64 10, .int .i64 10, .int .i64 90, .int .i64 90, .int .i64 50, .int .i64 50]] [])), (9, .call (.mk (.tuple #[.agg #[(sB 0 4 4), .int .i64 (-5), .int .i64 50, (sB 1 3 3)], .int .i64 0]) [.own 39 [.int .i64 0, .int .i64 0, .int .i64 100, .int .i64 0, .int .i64 100, .int .i64 100, .int .i64 0, .int .i64 100], .own 39 [.int .i64 10, .int .i64 10, .int .i64 90, .int .i64 90, .int .i64 50, .int .i64 50]] [])), (616, .call (.mk (.int .i64 90) [] []))] = some (.mk (.bool true) [] [], true, [CallSpec Try.prog 21 [.agg #[(sB 0 4 4), .int .i64 (-5), .int .i64 50, (sB 1 3 3)], (a6 1 99 1 99 (-5) 50)] [.own 39 [.int .i64 0, .int .i64 0, .int .i64 100, .int .i64 0, .int .i64 100, .int .i64 100, .int .i64 0, .int .i64 100], .own 39 [.int .i64 10, .int .i64 10, .int .i64 90, .int .i64 90, .int .i64 50, .int .i64 50]] (.mk (.tuple #[.bool true, .int .i64 0]) [.own 39 [.int .i64 0, .int .i64 0, .int .i64 100, .int .i64 0, .int .i64 100, .int .i64 100, .int .i64 0, .int .i64 100], .own 39 [.int .i64 10, .int .i64 10, .int .i64 90, .int .i64 90, .int .i64 50, .int .i64 50]] []), CallSpec Try.prog 21 [.agg #[(sB 0 4 4), .int .i64 (-5), .int .i64 50, (sB 1 3 3)], (a6 0 99 1 99 (-5) 50)] [.own 39 [.int .i64 0, .int .i64 0, .int .i64 100, .int .i64 0, .int .i64 100, .int .i64 100, .int .i64 0, .int .i64 100], .own 39 [.int .i64 10, .int .i64 10, .int .i64 90, .int .i64 90, .int .i64 50, .int .i64 50]] (.mk (.tuple #[.bool false, .int .i64 0]) [.own 39 [.int .i64 0, .int .i64 0, .int .i64 100, .int .i64 0, .int .i64 100, .int .i64 100, .int .i64 0, .int .i64 100], .own 39 [.int .i64 10, .int .i64 10, .int .i64 90, .int .i64 90, .int .i64 50, .int .i64 50]] []), CallSpec Try.prog 23 [.agg #[(sB 0 4 4), .int .i64 (-5), .int .i64 50, (sB 1 3 3)], (a2 10 10), (a2 90 90), .int .i64 9] [.own 39 [.int .i64 0, .int .i64 0, .int .i64 100, .int .i64 0, .int .i64 100, .int .i64 100, .int .i64 0, .int .i64 100], .own 39 [.int .i64 10, .int .i64 10, .int .i64 90, .int .i64 90, .int .i64 50, .int .i64 50]] (.mk (.tuple #[.bool true, .int .i64 0]) [.own 39 [.int .i64 0, .int .i64 0, .int .i64 100, .int .i64 0, .int .i64 100, .int .i64 100, .int .i64 0, .int .i64 100], .own 39 [.int .i64 10, .int .i64 10, .int .i64 90, .int .i64 90, .int .i64 50, .int .i64 50]] []), CallSpec Try.prog 23 [.agg #[(sB 0 4 4), .int .i64 (-5), .int .i64 50, (sB 1 3 3)], (a2 10 10), (a2 90 90), .int .i64 10] [.own 39 [.int .i64 0, .int .i64 0, .int .i64 100, .int .i64 0, .int .i64 100, .int .i64 100, .int .i64 0, .int .i64 100], .own 39 [.int .i64 10, .int .i64 10, .int .i64 90, .int .i64 90, .int .i64 50, .int .i64 50]] (.mk (.tuple #[.bool false, .int .i64 0]) [.own 39 [.int .i64 0, .int .i64 0, .int .i64 100, .int .i64 0, .int .i64 100, .int .i64 100, .int .i64 0, .int .i64 100], .own 39 [.int .i64 10, .int .i64 10, .int .i64 90, .int .i64 90, .int .i64 50, .int .i64 50]] []), CallSpec Try.prog 25 [.agg #[(sB 0 4 4), .int .i64 (-5), .int .i64 50, (sB 1 3 3)], (a2 70 70), .int .i64 15] [.own 39 [.int .i64 0, .int .i64 0, .int .i64 100, .int .i64 0, .int .i64 100, .int .i64 100, .int .i64 0, .int .i64 100], .own 39 [.int .i64 10, .int .i64 10, .int .i64 90, .int .i64 90, .int .i64 50, .int .i64 50]] (.mk (.tuple #[.int .i64 2, .int .i64 0]) [.own 39 [.int .i64 0, .int .i64 0, .int .i64 100, .int .i64 0, .int .i64 100, .int .i64 100, .int .i64 0, .int .i64 100], .own 39 [.int .i64 10, .int .i64 10, .int .i64 90, .int .i64 90, .int .i64 50, .int .i64 50]] []), CallSpec Try.prog 27 [.agg #[(sB 0 4 4), .int .i64 (-5), .int .i64 50, (sB 1 3 3)]] [.own 39 [.int .i64 0, .int .i64 0, .int .i64 100, .int .i64 0, .int .i64 100, .int .i64 100, .int .i64 0, .int .i64 100], .own 39 [.int .i64 10, .int .i64 10, .int .i64 90, .int .i64 90, .int .i64 50, .int .i64 50]] (.mk (.tuple #[.string (ByteArray.mk #[UInt8.ofNat 4, UInt8.ofNat 0, UInt8.ofNat 0, UInt8.ofNat 0, UInt8.ofNat 0, UInt8.ofNat 0, UInt8.ofNat 0, UInt8.ofNat 0, UInt8.ofNat 0, UInt8.ofNat 100, UInt8.ofNat 0, UInt8.ofNat 0, UInt8.ofNat 0, UInt8.ofNat 0, UInt8.ofNat 0, UInt8.ofNat 0, UInt8.ofNat 0, UInt8.ofNat 100, UInt8.ofNat 0, UInt8.ofNat 0, UInt8.ofNat 0, UInt8.ofNat 100, UInt8.ofNat 0, UInt8.ofNat 0, UInt8.ofNat 0, UInt8.ofNat 0, UInt8.ofNat 0, UInt8.ofNat 0, UInt8.ofNat 0, UInt8.ofNat 100, UInt8.ofNat 0, UInt8.ofNat 0, UInt8.ofNat 0, UInt8.ofNat 251, UInt8.ofNat 255, UInt8.ofNat 255, UInt8.ofNat 255, UInt8.ofNat 50, UInt8.ofNat 0, UInt8.ofNat 0, UInt8.ofNat 0, UInt8.ofNat 3, UInt8.ofNat 10, UInt8.ofNat 0, UInt8.ofNat 0, UInt8.ofNat 0, UInt8.ofNat 10, UInt8.ofNat 0, UInt8.ofNat 0, UInt8.ofNat 0, UInt8.ofNat 90, UInt8.ofNat 0, UInt8.ofNat 0, UInt8.ofNat 0, UInt8.ofNat 90, UInt8.ofNat 0, UInt8.ofNat 0, UInt8.ofNat 0, UInt8.ofNat 50, UInt8.ofNat 0, UInt8.ofNat 0, UInt8.ofNat 0, UInt8.ofNat 50, UInt8.ofNat 0, UInt8.ofNat 0, UInt8.ofNat 0]), .int .i64 0]) [.own 39 [.int .i64 0, .int .i64 0, .int .i64 100, .int .i64 0, .int .i64 100, .int .i64 100, .int .i64 0, .int .i64 100], .own 39 [.int .i64 10, .int .i64 10, .int .i64 90, .int .i64 90, .int .i64 50, .int .i64 50]] []), CallSpec Try.prog 29 [.string (ByteArray.mk #[UInt8.ofNat 4, UInt8.ofNat 0, UInt8.ofNat 0, UInt8.ofNat 0, UInt8.ofNat 0, UInt8.ofNat 0, UInt8.ofNat 0, UInt8.ofNat 0, UInt8.ofNat 0, UInt8.ofNat 100, UInt8.ofNat 0, UInt8.ofNat 0, UInt8.ofNat 0, UInt8.ofNat 0, UInt8.ofNat 0, UInt8.ofNat 0, UInt8.ofNat 0, UInt8.ofNat 100, UInt8.ofNat 0, UInt8.ofNat 0, UInt8.ofNat 0, UInt8.ofNat 100, UInt8.ofNat 0, UInt8.ofNat 0, UInt8.ofNat 0, UInt8.ofNat 0, UInt8.ofNat 0, UInt8.ofNat 0, UInt8.ofNat 0, UInt8.ofNat 100, UInt8.ofNat 0, UInt8.ofNat 0, UInt8.ofNat 0, UInt8.ofNat 251, UInt8.ofNat 255, UInt8.ofNat 255, UInt8.ofNat 255, UInt8.ofNat 50, UInt8.ofNat 0, UInt8.ofNat 0, UInt8.ofNat 0, UInt8.ofNat 3, UInt8.ofNat 10, UInt8.ofNat 0, UInt8.ofNat 0, UInt8.ofNat 0, UInt8.ofNat 10, UInt8.ofNat 0, UInt8.ofNat 0, UInt8.ofNat 0, UInt8.ofNat 90, UInt8.ofNat 0, UInt8.ofNat 0, UInt8.ofNat 0, UInt8.ofNat 90, UInt8.ofNat 0, UInt8.ofNat 0, UInt8.ofNat 0, UInt8.ofNat 50, UInt8.ofNat 0, UInt8.ofNat 0, UInt8.ofNat 0, UInt8.ofNat 50, UInt8.ofNat 0, UInt8.ofNat 0, UInt8.ofNat 0])] [] (.mk (.tuple #[.agg #[(sB 0 4 4), .int .i64 (-5), .int .i64 50, (sB 1 3 3)], .int .i64 0]) [.own 39 [.int .i64 0, .int .i64 0, .int .i64 100, .int .i64 0, .int .i64 100, .int .i64 100, .int .i64 0, .int .i64 100], .own 39 [.int .i64 10, .int .i64 10, .int .i64 90, .int .i64 90, .int .i64 50, .int .i64 50]] []), CallSpec Try.prog 18 [.agg #[sN, .int .i64 0, .int .i64 0, sN]] [] (.mk (.int .i64 90) [] [])]) := by kernel_rfl
theorem awake_w  (R : Res) (k_p : Res.le (.mk (.bool true) [] []) R) : CallSpec (Try.prog) (17) ([]) ([]) R := by
  exact (CallSpec.id (go_ok (exec_ok tnamed tcalm tmixed _ _ _ _) (awake_w_p ) (aC (aw_h1) (aC (aw_h2) (aC (aw_l1) (aC (aw_l2) (aC (aw_r) (aC (aw_e) (aC (aw_d) (aC (aw_few) aN)))))))))).le (k_p )
end Go.Proofs.Ytjalkjeldlchoaa.Ex
end
section
set_option linter.unusedSectionVars false
set_option linter.unusedSimpArgs false
set_option linter.unusedVariables false
namespace Go.Proofs.Ytjalkjeldlchoaa.Ex
open Go
set_option linter.unusedVariables false
end Go.Proofs.Ytjalkjeldlchoaa.Ex
end
section
set_option linter.unusedSectionVars false
set_option linter.unusedSimpArgs false
set_option linter.unusedVariables false
namespace Go.Proofs.Ytjalkjeldlchoaa.Ex
open Go
set_option linter.unusedVariables false
end Go.Proofs.Ytjalkjeldlchoaa.Ex
end
section
set_option linter.unusedSectionVars false
set_option linter.unusedSimpArgs false
set_option linter.unusedVariables false
namespace Go.Proofs.Ytjalkjeldlchoaa.Ex
open Go Go.RowKit Go.Proofs.Ytjalkjeldlchoaa.X
set_option linter.unusedVariables false
def Pk.Fits (P : Pk) : Prop := P.list.length * 16 ≤ 140737488351232
theorem Pk.Fits.n {P : Pk} (h : P.Fits) : P.list.length ≤ 1099511627776000 := by unfold Pk.Fits at h; omega
theorem Pk.Fits.m {P : Pk} (h : P.Fits) : P.list.length ≤ 9223372036854775807 := by unfold Pk.Fits at h; omega
end Go.Proofs.Ytjalkjeldlchoaa.Ex
end
section
set_option linter.unusedSectionVars false
set_option linter.unusedSimpArgs false
set_option linter.unusedVariables false
namespace Go.Proofs.Ytjalkjeldlchoaa.Ex
open Go Go.RowKit Go.Proofs.Ytjalkjeldlchoaa.X
set_option linter.unusedVariables false
def Wider (b b' : Blk) : Prop := b' = b ∨ ∃ e cs x, b = .ro e cs ∧ b' = .own e (cs ++ x)
theorem RepBlk.wide {P : Program} {ν : Nu} {w : World} {id : Nat} {b b' : Blk} (h : Wider b b') (hr : RepBlk P ν w id b') : RepBlk P ν w id b := by
  rcases h with rfl | ⟨e, cs, x, rfl, rfl⟩
  · exact hr
  · have h := RepBlk.soft soft_own hr
    obtain ⟨N, h1, h2, h3, cs', h4, h5⟩ := h
    refine ⟨N, h1, h2, h3, (cs'.drop 0).take cs.length, ?_, fun i v hi => ?_⟩
    · have := h4.slice 0 cs.length
      rwa [List.drop_zero, List.take_left] at this
    · rw [List.drop_zero, List.getElem?_take] at hi
      split at hi
      · exact h5 i v hi
      · cases hi
theorem Rep.wide {P : Program} {hp hp' : Hp} {ν : Nu} {w : World} (hl : hp.length = hp'.length) (h : ∀ id, Wider (hp.getD id .dead) (hp'.getD id .dead)) (hr : Rep P ν hp' w) : Rep P ν hp w where
  dom id hid := hr.dom id (by omega)
  blk id := (hr.blk id).wide (h id)
  sep i j N K hij hi hj := by
    refine hr.sep i j N K hij ?_ ?_
    · rcases h i with e | ⟨e, cs, x, h1, h2⟩
      · rw [e]; exact hi
      · rw [h2]; rfl
    · rcases h j with e | ⟨e, cs, x, h1, h2⟩
      · rw [e]; exact hj
      · rw [h2]; rfl
theorem CallSpec.wide {P : Program} {f : FuncId} {args : List Value} {hp hp' : Hp} {v : Value} (h : CallSpec P f args hp ⟨v, hp, []⟩) (hv : flat v = true) (hl : hp.length = hp'.length) (hs : ∀ id, Wider (hp.getD id .dead) (hp'.getD id .dead)) : CallSpec P f args hp' ⟨v, hp', []⟩ :=
  CallSpec.of_below hv fun ν w args' ha hr => h.below hv ha (Rep.wide hl hs hr)
end Go.Proofs.Ytjalkjeldlchoaa.Ex
end
section
set_option linter.unusedSectionVars false
set_option linter.unusedSimpArgs false
set_option linter.unusedVariables false
namespace Go.Proofs.Ytjalkjeldlchoaa.Ex
open Go Go.ChangeShapes Go.WideShapes Go.ChangeAt Go.RowKit Go.Proofs.Ytjalkjeldlchoaa.X
set_option linter.unusedVariables false
set_option linter.unusedSimpArgs false
def Plain (b : Blk) : Prop := b = .dead ∨ ∃ e cs, b = .ro e cs ∧ cs.all flat1 = true
theorem RepBlk.move {P : Program} {ν ν' : Nu} {W : World} {id id' : Nat} {b : Blk} (hb : Plain b) (e : ν' id' = ν id) (h : RepBlk P ν W id b) : RepBlk P ν' W id' b := by
  rcases hb with rfl | ⟨t, cs, rfl, hf⟩
  · exact trivial
  · obtain ⟨N, h1, h2, h3, cs', h4, h5⟩ := h
    obtain rfl := (flat_L2 hf).1 (cr_vr h4)
    exact ⟨N, e.trans h1, h2, h3, cs', CR.of ((flat_L2 hf).2 rfl) (by rw [hf]; simp), h5⟩
theorem Pk.plain (P : Pk) : ∀ b ∈ P.hp, Plain b := by
  cases P with
  | nil => exact fun b hb => by cases hb
  | emp => exact fun b hb => by rw [List.mem_singleton.1 hb]; exact .inl rfl
  | pts l => exact fun b hb => by rw [List.mem_singleton.1 hb]; exact .inr ⟨_, _, rfl, pc_flat l⟩
end Go.Proofs.Ytjalkjeldlchoaa.Ex
end
section
set_option linter.unusedSectionVars false
set_option linter.unusedSimpArgs false
set_option linter.unusedVariables false
namespace Go.Proofs.Ytjalkjeldlchoaa.Ex
open Go Go.ChangeShapes Go.WideShapes Go.ChangeAt Go.RowKit Go.Proofs.Ytjalkjeldlchoaa.X
set_option linter.unusedVariables false
theorem awake_done : CallSpec Try.prog 17 [] [] ⟨.bool true, [], []⟩ := awake_w _ ⟨rfl, rfl, fun _ h => h⟩
end Go.Proofs.Ytjalkjeldlchoaa.Ex
end
section
set_option linter.unusedSectionVars false
set_option linter.unusedSimpArgs false
set_option linter.unusedVariables false
namespace Go.Proofs.Ytjalkjeldlchoaa.Ex
open Go
set_option linter.unusedVariables false
section
variable (s : ByteArray) (b : Bool) (hs : ByteArray.size s ≤ 140737488351232)
include s b hs
theorem num_w_pt : go (exec (Try.prog) (8) (64) ([at_ 0 0]) ([.own 89 [.string s, .bool b]])) [(18, .dec true)] = some (.mk (.int .i64 0) [.own 89 [.string s, .bool true]] [0], true, [decide ((↑(ByteArray.size s) : Int) < 4) = true]) := by kernel_rfl
theorem num_w_pf : go (exec (Try.prog) (8) (64) ([at_ 0 0]) ([.own 89 [.string s, .bool b]])) [(18, .dec false), (7, Itm.must), (11, Itm.must), (17, Itm.must), (3, Itm.must), (6, Itm.must), (6, Itm.must)] = some (.mk (.int .i64 (IntKind.wrap .i64 (IntKind.wrap IntKind.i32 (F.bor IntKind.u32 (F.bor IntKind.u32 (F.bor IntKind.u32 (IntKind.wrap IntKind.u32 (↑(UInt8.toNat (List.getD (Array.toList (ByteArray.data (ByteArray.extract s 0 4))) 0 0)) : Int)) (IntKind.wrap IntKind.u32 (IntKind.wrap IntKind.u32 (↑(UInt8.toNat (List.getD (Array.toList (ByteArray.data (ByteArray.extract s 0 4))) 1 0)) : Int) * 256))) (IntKind.wrap IntKind.u32 (IntKind.wrap IntKind.u32 (↑(UInt8.toNat (List.getD (Array.toList (ByteArray.data (ByteArray.extract s 0 4))) 2 0)) : Int) * 65536))) (IntKind.wrap IntKind.u32 (IntKind.wrap IntKind.u32 (↑(UInt8.toNat (List.getD (Array.toList (ByteArray.data (ByteArray.extract s 0 4))) 3 0)) : Int) * 16777216)))))) [.own 89 [.string (ByteArray.extract s 4 (ByteArray.size s)), .bool b]] [0], true, [decide ((↑(ByteArray.size s) : Int) < 4) = false, upto 4 (ByteArray.size s) = true, upto 4 (ByteArray.size s) = true, inside 0 (ByteArray.size (ByteArray.extract s 0 4)) = true, inside 1 (ByteArray.size (ByteArray.extract s 0 4)) = true, inside 2 (ByteArray.size (ByteArray.extract s 0 4)) = true, inside 3 (ByteArray.size (ByteArray.extract s 0 4)) = true]) := by kernel_rfl
theorem num_w (R : Res) (k_pt : (h0 : (↑(ByteArray.size s) : Int) < 4) → Res.le (.mk (.int .i64 0) [.own 89 [.string s, .bool true]] [0]) R) (k_pf : (h0 : ¬ ((↑(ByteArray.size s) : Int) < 4)) → Res.le (.mk (.int .i64 (IntKind.wrap .i64 (IntKind.wrap IntKind.i32 (F.bor IntKind.u32 (F.bor IntKind.u32 (F.bor IntKind.u32 (IntKind.wrap IntKind.u32 (↑(UInt8.toNat (List.getD (Array.toList (ByteArray.data (ByteArray.extract s 0 4))) 0 0)) : Int)) (IntKind.wrap IntKind.u32 (IntKind.wrap IntKind.u32 (↑(UInt8.toNat (List.getD (Array.toList (ByteArray.data (ByteArray.extract s 0 4))) 1 0)) : Int) * 256))) (IntKind.wrap IntKind.u32 (IntKind.wrap IntKind.u32 (↑(UInt8.toNat (List.getD (Array.toList (ByteArray.data (ByteArray.extract s 0 4))) 2 0)) : Int) * 65536))) (IntKind.wrap IntKind.u32 (IntKind.wrap IntKind.u32 (↑(UInt8.toNat (List.getD (Array.toList (ByteArray.data (ByteArray.extract s 0 4))) 3 0)) : Int) * 16777216)))))) [.own 89 [.string (ByteArray.extract s 4 (ByteArray.size s)), .bool b]] [0]) R) : CallSpec (Try.prog) (64) ([at_ 0 0]) ([.own 89 [.string s, .bool b]]) R := by
  by_cases h0 : (↑(ByteArray.size s) : Int) < 4
  · exact (CallSpec.id (go_ok (exec_ok tnamed tcalm tmixed _ _ _ _) (num_w_pt s b hs ) (aC (dTq h0) aN))).le (k_pt h0)
  · exact (CallSpec.id (go_ok (exec_ok tnamed tcalm tmixed _ _ _ _) (num_w_pf s b hs ) (aC (dFq h0) (aC (upto_of (by omega)) (aC (upto_of (by omega)) (aC (inside_of (by simp only [ByteArray.size_append, ByteArray.size_extract] <;> omega)) (aC (inside_of (by simp only [ByteArray.size_append, ByteArray.size_extract] <;> omega)) (aC (inside_of (by simp only [ByteArray.size_append, ByteArray.size_extract] <;> omega)) (aC (inside_of (by simp only [ByteArray.size_append, ByteArray.size_extract] <;> omega)) aN))))))))).le (k_pf h0)
end
end Go.Proofs.Ytjalkjeldlchoaa.Ex
end
section
set_option linter.unusedSectionVars false
set_option linter.unusedSimpArgs false
set_option linter.unusedVariables false
namespace Go.Proofs.Ytjalkjeldlchoaa.X
open Go Go.Proofs.Ytjalkjeldlchoaa.Ex
def u4 (s : ByteArray) (i : Nat) : Int := IntKind.wrap IntKind.u32 (↑(UInt8.toNat (List.getD (Array.toList (ByteArray.data (ByteArray.extract s 0 4))) i 0)) : Int)
def num4 (s : ByteArray) : Int := IntKind.wrap IntKind.i64 (IntKind.wrap IntKind.i32 (F.bor IntKind.u32 (F.bor IntKind.u32 (F.bor IntKind.u32 (u4 s 0) (IntKind.wrap IntKind.u32 (u4 s 1 * 256))) (IntKind.wrap IntKind.u32 (u4 s 2 * 65536))) (IntKind.wrap IntKind.u32 (u4 s 3 * 16777216))))
def numV (s : ByteArray) : Int := if (s.size : Int) < 4 then 0 else num4 s
def numR (s : ByteArray) : ByteArray := if (s.size : Int) < 4 then s else s.extract 4 s.size
def numB (s : ByteArray) (b : Bool) : Bool := if (s.size : Int) < 4 then true else b
end Go.Proofs.Ytjalkjeldlchoaa.X
namespace Go.Proofs.Ytjalkjeldlchoaa.Ex
open Go Go.RowKit Go.Proofs.Ytjalkjeldlchoaa.X
set_option linter.unusedVariables false
theorem num_done {s : ByteArray} (b : Bool) (hs : s.size ≤ 140737488351232) : CallSpec Try.prog 64 [at_ 0 0] [.own 89 [.string s, .bool b]] ⟨.int .i64 (numV s), [.own 89 [.string (numR s), .bool (numB s b)]], [0]⟩ :=
  num_w s b hs _ (fun h => by rw [numV, numR, numB, if_pos h, if_pos h, if_pos h]; exact res_refl) (fun h => by rw [numV, numR, numB, if_neg h, if_neg h, if_neg h]; exact res_refl)
theorem numR_size (s : ByteArray) : (numR s).size ≤ s.size := by
  unfold numR
  split
  · exact Nat.le_refl _
  · rw [ByteArray.size_extract]; omega
end Go.Proofs.Ytjalkjeldlchoaa.Ex
end
section
set_option linter.unusedSectionVars false
set_option linter.unusedSimpArgs false
set_option linter.unusedVariables false
namespace Go.Proofs.Ytjalkjeldlchoaa.Ex
open Go
set_option linter.unusedVariables false
noncomputable def dp_l : Code := loopAt Try.prog 63 0
theorem dp_l_calm : calmC dp_l = true := loopAt_calm tcalm 63 0
noncomputable def dp_lC : Code := .loop dp_l
def frDp (lv : Value) (n : Int) : Fr := frOf 30 [(0, at_ 0 0), (3, lv), (4, .int .u8 n)]
def keepDp : Xt → List Nat
  | .exit _ => [3]
  | _ => [0, 3, 4]
section
variable (s : ByteArray) (b : Bool) (n : Int) (hs : ByteArray.size s ≤ 140737488351232) (hs' : ByteArray.size (X.numR s) ≤ 140737488351232) (hn : 0 ≤ n ∧ n ≤ 255)
include s b n hs hs' hn
theorem dp_round0_ptt : go (body (Try.prog) (8) (1) (8) (keepDp) (dp_l) (frDp slN n) ([.own 89 [.string s, .bool b]])) [(3, .dec true), (1, .dec true), (1, .dec true), (1, .dec true), (3, .dec true), (1, .dec true), (2, .dec true), (1, .call (.mk (.int .i64 (X.numV s)) [.own 89 [.string (X.numR s), .bool (X.numB s b)]] [0])), (7, .call (.mk (.int .i64 (X.numV (X.numR s))) [.own 89 [.string (X.numR (X.numR s)), .bool (X.numB (X.numR s) (X.numB s b))]] [0])), (21, Itm.val (.int .u8 (n - 1)))] = some (Out.mk Xt.normal (frOf 30 [(0, (pA 0)), (3, (sB 1 1 1)), (4, .int .u8 (n - 1))]) [.own 89 [.string (X.numR (X.numR s)), .bool (X.numB (X.numR s) (X.numB s b))], .own 39 [.int .i64 (X.numV s), .int .i64 (X.numV (X.numR s))]] [0, 0], true, [decide (n > 0) = true, decide (n > 0) = true, decide (n > 0) = true, decide (n > 0) = true, decide (n > 0) = true, decide (n > 0) = true, (!b) = true, CallSpec Try.prog 64 [(pA 0)] [.own 89 [.string s, .bool b]] (.mk (.int .i64 (X.numV s)) [.own 89 [.string (X.numR s), .bool (X.numB s b)]] [0]), CallSpec Try.prog 64 [(pA 0)] [.own 89 [.string (X.numR s), .bool (X.numB s b)]] (.mk (.int .i64 (X.numV (X.numR s))) [.own 89 [.string (X.numR (X.numR s)), .bool (X.numB (X.numR s) (X.numB s b))]] [0]), Value.int .u8 (IntKind.wrap IntKind.u8 (n - 1)) = .int .u8 (n - 1)]) := by kernel_rfl
theorem dp_round0_ptf : go (body (Try.prog) (8) (1) (8) (keepDp) (dp_l) (frDp slN n) ([.own 89 [.string s, .bool b]])) [(3, .dec true), (1, .dec true), (1, .dec true), (1, .dec true), (3, .dec true), (1, .dec true), (2, .dec false)] = some (Out.mk (Xt.exit 0) (frOf 30 [(3, sN)]) [.own 89 [.string s, .bool b]] [], true, [decide (n > 0) = true, decide (n > 0) = true, decide (n > 0) = true, decide (n > 0) = true, decide (n > 0) = true, decide (n > 0) = true, (!b) = false]) := by kernel_rfl
theorem dp_round0_pf : go (body (Try.prog) (8) (1) (8) (keepDp) (dp_l) (frDp slN n) ([.own 89 [.string s, .bool b]])) [(3, .dec false), (0, .dec false), (0, .dec false), (0, .dec false), (0, .dec false), (0, .dec false)] = some (Out.mk (Xt.exit 0) (frOf 30 [(3, sN)]) [.own 89 [.string s, .bool b]] [], true, [decide (n > 0) = false, decide (n > 0) = false, decide (n > 0) = false, decide (n > 0) = false, decide (n > 0) = false, decide (n > 0) = false]) := by kernel_rfl
theorem dp_round0 (R : Out) (k_ptt : (h0 : n > 0) → (h1 : (!b) = true) → Out.le (Out.mk Xt.normal (frOf 30 [(0, (pA 0)), (3, (sB 1 1 1)), (4, .int .u8 (n - 1))]) [.own 89 [.string (X.numR (X.numR s)), .bool (X.numB (X.numR s) (X.numB s b))], .own 39 [.int .i64 (X.numV s), .int .i64 (X.numV (X.numR s))]] [0, 0]) R) (k_ptf : (h0 : n > 0) → (h1 : ¬ ((!b) = true)) → Out.le (Out.mk (Xt.exit 0) (frOf 30 [(3, sN)]) [.own 89 [.string s, .bool b]] []) R) (k_pf : (h0 : ¬ (n > 0)) → Out.le (Out.mk (Xt.exit 0) (frOf 30 [(3, sN)]) [.own 89 [.string s, .bool b]] []) R) : CodeSpec (Try.prog) (1) (dp_l) (frDp slN n) ([.own 89 [.string s, .bool b]]) R := by
  by_cases h0 : n > 0
  · by_cases h1 : (!b) = true
    · exact (CodeSpec.id (go_ok (body_ok tnamed tcalm tmixed _ _ _ _ _ _ dp_l_calm) (dp_round0_ptt s b n hs hs' hn ) (aC (dTq h0) (aC (dTq h0) (aC (dTq h0) (aC (dTq h0) (aC (dTq h0) (aC (dTq h0) (aC (h1) (aC ((num_done _ hs)) (aC ((num_done _ hs')) (aC (congrArg (Value.int _) (Go.IntWalk.u8_in _ (by omega))) aN)))))))))))).le (k_ptt h0 h1)
    · exact (CodeSpec.id (go_ok (body_ok tnamed tcalm tmixed _ _ _ _ _ _ dp_l_calm) (dp_round0_ptf s b n hs hs' hn ) (aC (dTq h0) (aC (dTq h0) (aC (dTq h0) (aC (dTq h0) (aC (dTq h0) (aC (dTq h0) (aC ((bF h1)) aN))))))))).le (k_ptf h0 h1)
  · exact (CodeSpec.id (go_ok (body_ok tnamed tcalm tmixed _ _ _ _ _ _ dp_l_calm) (dp_round0_pf s b n hs hs' hn ) (aC (dFq h0) (aC (dFq h0) (aC (dFq h0) (aC (dFq h0) (aC (dFq h0) (aC (dFq h0) aN)))))))).le (k_pf h0)
end
section
variable (s : ByteArray) (b : Bool) (n : Int) (j : Nat) (cs : List Value) (hc : List.length cs = j * 2) (hj : 1 ≤ j ∧ j ≤ 300) (hs : ByteArray.size s ≤ 140737488351232) (hs' : ByteArray.size (X.numR s) ≤ 140737488351232) (hn : 0 ≤ n ∧ n ≤ 255)
include s b n j cs hc hj hs hs' hn
theorem dp_round1_ptt : go (body (Try.prog) (8) (1) (8) (keepDp) (dp_l) (frDp (slB 1 j j) n) ([.own 89 [.string s, .bool b], .own 39 cs])) [(3, .dec true), (1, .dec true), (1, .dec true), (1, .dec true), (3, .dec true), (1, .dec true), (2, .dec true), (1, .call (.mk (.int .i64 (X.numV s)) [.own 89 [.string (X.numR s), .bool (X.numB s b)]] [0])), (7, .call (.mk (.int .i64 (X.numV (X.numR s))) [.own 89 [.string (X.numR (X.numR s)), .bool (X.numB (X.numR s) (X.numB s b))]] [0])), (15, Itm.must), (0, .dec false), (0, Itm.must), (4, Itm.val (.int .u8 (n - 1)))] = some (Out.mk Xt.normal (frOf 30 [(0, (pA 0)), (3, (sB 1 (j + 1) (j + 1))), (4, .int .u8 (n - 1))]) [.own 89 [.string (X.numR (X.numR s)), .bool (X.numB (X.numR s) (X.numB s b))], .own 39 (cs ++ [.int .i64 (X.numV s), .int .i64 (X.numV (X.numR s))])] [0, 0], true, [decide (n > 0) = true, decide (n > 0) = true, decide (n > 0) = true, decide (n > 0) = true, decide (n > 0) = true, decide (n > 0) = true, (!b) = true, CallSpec Try.prog 64 [(pA 0)] [.own 89 [.string s, .bool b]] (.mk (.int .i64 (X.numV s)) [.own 89 [.string (X.numR s), .bool (X.numB s b)]] [0]), CallSpec Try.prog 64 [(pA 0)] [.own 89 [.string (X.numR s), .bool (X.numB s b)]] (.mk (.int .i64 (X.numV (X.numR s))) [.own 89 [.string (X.numR (X.numR s)), .bool (X.numB (X.numR s) (X.numB s b))]] [0]), (true && decide ((j + 1) * 16 ≤ 140737488355328) && decide (j + 1 ≤ 140737488355328) && decide (j * 2 ≤ List.length cs)) = true, decide (j + 1 ≤ j) = false, decide (List.length cs = j * 2) = true, Value.int .u8 (IntKind.wrap IntKind.u8 (n - 1)) = .int .u8 (n - 1)]) := by kernel_rfl
theorem dp_round1_ptf : go (body (Try.prog) (8) (1) (8) (keepDp) (dp_l) (frDp (slB 1 j j) n) ([.own 89 [.string s, .bool b], .own 39 cs])) [(3, .dec true), (1, .dec true), (1, .dec true), (1, .dec true), (3, .dec true), (1, .dec true), (2, .dec false)] = some (Out.mk (Xt.exit 0) (frOf 30 [(3, (sB 1 j j))]) [.own 89 [.string s, .bool b], .own 39 cs] [], true, [decide (n > 0) = true, decide (n > 0) = true, decide (n > 0) = true, decide (n > 0) = true, decide (n > 0) = true, decide (n > 0) = true, (!b) = false]) := by kernel_rfl
theorem dp_round1_pf : go (body (Try.prog) (8) (1) (8) (keepDp) (dp_l) (frDp (slB 1 j j) n) ([.own 89 [.string s, .bool b], .own 39 cs])) [(3, .dec false), (0, .dec false), (0, .dec false), (0, .dec false), (0, .dec false), (0, .dec false)] = some (Out.mk (Xt.exit 0) (frOf 30 [(3, (sB 1 j j))]) [.own 89 [.string s, .bool b], .own 39 cs] [], true, [decide (n > 0) = false, decide (n > 0) = false, decide (n > 0) = false, decide (n > 0) = false, decide (n > 0) = false, decide (n > 0) = false]) := by kernel_rfl
theorem dp_round1 (R : Out) (k_ptt : (h0 : n > 0) → (h1 : (!b) = true) → Out.le (Out.mk Xt.normal (frOf 30 [(0, (pA 0)), (3, (sB 1 (j + 1) (j + 1))), (4, .int .u8 (n - 1))]) [.own 89 [.string (X.numR (X.numR s)), .bool (X.numB (X.numR s) (X.numB s b))], .own 39 (cs ++ [.int .i64 (X.numV s), .int .i64 (X.numV (X.numR s))])] [0, 0]) R) (k_ptf : (h0 : n > 0) → (h1 : ¬ ((!b) = true)) → Out.le (Out.mk (Xt.exit 0) (frOf 30 [(3, (sB 1 j j))]) [.own 89 [.string s, .bool b], .own 39 cs] []) R) (k_pf : (h0 : ¬ (n > 0)) → Out.le (Out.mk (Xt.exit 0) (frOf 30 [(3, (sB 1 j j))]) [.own 89 [.string s, .bool b], .own 39 cs] []) R) : CodeSpec (Try.prog) (1) (dp_l) (frDp (slB 1 j j) n) ([.own 89 [.string s, .bool b], .own 39 cs]) R := by
  by_cases h0 : n > 0
  · by_cases h1 : (!b) = true
    · exact (CodeSpec.id (go_ok (body_ok tnamed tcalm tmixed _ _ _ _ _ _ dp_l_calm) (dp_round1_ptt s b n j cs hc hj hs hs' hn ) (aC (dTq h0) (aC (dTq h0) (aC (dTq h0) (aC (dTq h0) (aC (dTq h0) (aC (dTq h0) (aC (h1) (aC ((num_done _ hs)) (aC ((num_done _ hs')) (aC ((by simp [ByteArray.size_append, ByteArray.size_extract, sz_mk] <;> omega)) (aC dN (aC dO (aC (congrArg (Value.int _) (Go.IntWalk.u8_in _ (by omega))) aN))))))))))))))).le (k_ptt h0 h1)
    · exact (CodeSpec.id (go_ok (body_ok tnamed tcalm tmixed _ _ _ _ _ _ dp_l_calm) (dp_round1_ptf s b n j cs hc hj hs hs' hn ) (aC (dTq h0) (aC (dTq h0) (aC (dTq h0) (aC (dTq h0) (aC (dTq h0) (aC (dTq h0) (aC ((bF h1)) aN))))))))).le (k_ptf h0 h1)
  · exact (CodeSpec.id (go_ok (body_ok tnamed tcalm tmixed _ _ _ _ _ _ dp_l_calm) (dp_round1_pf s b n j cs hc hj hs hs' hn ) (aC (dFq h0) (aC (dFq h0) (aC (dFq h0) (aC (dFq h0) (aC (dFq h0) (aC (dFq h0) aN)))))))).le (k_pf h0)
end
end Go.Proofs.Ytjalkjeldlchoaa.Ex
end
section
set_option linter.unusedSectionVars false
set_option linter.unusedSimpArgs false
set_option linter.unusedVariables false
namespace Go.Proofs.Ytjalkjeldlchoaa.X
def b0 (s : ByteArray) : Nat := UInt8.toNat (List.getD (Array.toList (ByteArray.data (ByteArray.extract s 0 1))) 0 0)
end Go.Proofs.Ytjalkjeldlchoaa.X
namespace Go.Proofs.Ytjalkjeldlchoaa.Ex
open Go
set_option linter.unusedVariables false
def frDpE (lv : Value) : Fr := frOf 30 [(3, lv)]
section
variable (s : ByteArray) (b : Bool) (hs : (↑(ByteArray.size s) : Int) < 1)
include s b hs
theorem dpts_e_p : go (exec (Try.prog) (8) (63) ([at_ 0 0]) ([.own 89 [.string s, .bool b]])) [(20, .dec true)] = some (.mk (sN) [.own 89 [.string s, .bool true]] [0], true, [decide ((↑(ByteArray.size s) : Int) < 1) = true]) := by kernel_rfl
theorem dpts_e (R : Res) (k_p : Res.le (.mk (sN) [.own 89 [.string s, .bool true]] [0]) R) : CallSpec (Try.prog) (63) ([at_ 0 0]) ([.own 89 [.string s, .bool b]]) R := by
  exact (CallSpec.id (go_ok (exec_ok tnamed tcalm tmixed _ _ _ _) (dpts_e_p s b hs ) (aC dO aN))).le (k_p )
end
section
variable (s t : ByteArray) (b d : Bool) (hs : 1 ≤ ByteArray.size s ∧ ByteArray.size s ≤ 140737488351232) (hL : CodeSpec Try.prog 1 dp_lC (frDp slN (↑(X.b0 s) : Int)) [.own 89 [.string (ByteArray.extract s 1 (ByteArray.size s)), .bool b]] (Out.mk (Xt.exit 0) (frDpE slN) [.own 89 [.string t, .bool d]] [0]))
include s t b d hs hL
theorem dpts_0_p : go (exec (Try.prog) (8) (63) ([at_ 0 0]) ([.own 89 [.string s, .bool b]])) [(20, .dec false), (7, Itm.must), (11, Itm.must), (14, Itm.must), (3, Itm.loop [0, 3, 4] (Out.mk (Xt.exit 0) (frOf 30 [(3, sN)]) [.own 89 [.string t, .bool d]] [0]))] = some (.mk (sN) [.own 89 [.string t, .bool d]] [0, 0], true, [decide ((↑(ByteArray.size s) : Int) < 1) = false, upto 1 (ByteArray.size s) = true, upto 1 (ByteArray.size s) = true, inside 0 (ByteArray.size (ByteArray.extract s 0 1)) = true, type_of% hL]) := by kernel_rfl
theorem dpts_0 (R : Res) (k_p : Res.le (.mk (sN) [.own 89 [.string t, .bool d]] [0, 0]) R) : CallSpec (Try.prog) (63) ([at_ 0 0]) ([.own 89 [.string s, .bool b]]) R := by
  exact (CallSpec.id (go_ok (exec_ok tnamed tcalm tmixed _ _ _ _) (dpts_0_p s t b d hs hL ) (aC dN (aC (upto_of (by omega)) (aC (upto_of (by omega)) (aC (inside_of (by simp only [ByteArray.size_append, ByteArray.size_extract] <;> omega)) (aC (hL) aN))))))).le (k_p )
end
section
variable (s t : ByteArray) (b d : Bool) (j : Nat) (cs : List Value) (hs : 1 ≤ ByteArray.size s ∧ ByteArray.size s ≤ 140737488351232) (hL : CodeSpec Try.prog 1 dp_lC (frDp slN (↑(X.b0 s) : Int)) [.own 89 [.string (ByteArray.extract s 1 (ByteArray.size s)), .bool b]] (Out.mk (Xt.exit 0) (frDpE (slB 1 j j)) [.own 89 [.string t, .bool d], .own 39 cs] [0]))
include s t b d j cs hs hL
theorem dpts_1_p : go (exec (Try.prog) (8) (63) ([at_ 0 0]) ([.own 89 [.string s, .bool b]])) [(20, .dec false), (7, Itm.must), (11, Itm.must), (14, Itm.must), (3, Itm.loop [0, 3, 4] (Out.mk (Xt.exit 0) (frOf 30 [(3, (sB 1 j j))]) [.own 89 [.string t, .bool d], .own 39 cs] [0]))] = some (.mk ((sB 1 j j)) [.own 89 [.string t, .bool d], .own 39 cs] [0, 0], true, [decide ((↑(ByteArray.size s) : Int) < 1) = false, upto 1 (ByteArray.size s) = true, upto 1 (ByteArray.size s) = true, inside 0 (ByteArray.size (ByteArray.extract s 0 1)) = true, type_of% hL]) := by kernel_rfl
theorem dpts_1 (R : Res) (k_p : Res.le (.mk ((sB 1 j j)) [.own 89 [.string t, .bool d], .own 39 cs] [0, 0]) R) : CallSpec (Try.prog) (63) ([at_ 0 0]) ([.own 89 [.string s, .bool b]]) R := by
  exact (CallSpec.id (go_ok (exec_ok tnamed tcalm tmixed _ _ _ _) (dpts_1_p s t b d j cs hs hL ) (aC dN (aC (upto_of (by omega)) (aC (upto_of (by omega)) (aC (inside_of (by simp only [ByteArray.size_append, ByteArray.size_extract] <;> omega)) (aC (hL) aN))))))).le (k_p )
end
end Go.Proofs.Ytjalkjeldlchoaa.Ex
end
section
set_option linter.unusedSectionVars false
set_option linter.unusedSimpArgs false
set_option linter.unusedVariables false
namespace Go.Proofs.Ytjalkjeldlchoaa.X
open Go Go.Proofs.Ytjalkjeldlchoaa.Ex
def rdP : Nat → ByteArray → Bool → List S23 × ByteArray × Bool
  | 0, s, b => ([], s, b)
  | n + 1, s, b => if b = true then ([], s, b) else (⟨numV s, numV (numR s)⟩ :: (rdP n (numR (numR s)) (numB (numR s) (numB s b))).1, (rdP n (numR (numR s)) (numB (numR s) (numB s b))).2)
end Go.Proofs.Ytjalkjeldlchoaa.X
namespace Go.Proofs.Ytjalkjeldlchoaa.Ex
open Go Go.RowKit Go.Proofs.Ytjalkjeldlchoaa.X
set_option linter.unusedVariables false
theorem rdP_len : ∀ (n : Nat) (s : ByteArray) (b : Bool), (rdP n s b).1.length ≤ n
  | 0, s, b => Nat.le_refl 0
  | n + 1, s, b => by
    rw [rdP]
    split
    · exact Nat.zero_le _
    · have := rdP_len n (numR (numR s)) (numB (numR s) (numB s b))
      simp only [List.length_cons]
      omega
theorem rdP_size : ∀ (n : Nat) (s : ByteArray) (b : Bool), (rdP n s b).2.1.size ≤ s.size
  | 0, s, b => Nat.le_refl _
  | n + 1, s, b => by
    rw [rdP]
    split
    · exact Nat.le_refl _
    · have := rdP_size n (numR (numR s)) (numB (numR s) (numB s b))
      have h1 := numR_size s
      have h2 := numR_size (numR s)
      show (rdP n _ _).2.1.size ≤ _
      omega
theorem pc_app (a b : List S23) : pc (a ++ b) = pc a ++ pc b := by unfold pc; rw [List.flatMap_append]
theorem dp_loop1 : ∀ (n : Nat) (s : ByteArray) (b : Bool) (a : List S23), s.size ≤ 140737488351232 → 1 ≤ a.length → a.length + n ≤ 256 →
    LoopSpec Try.prog 1 dp_l (frDp (slB 1 a.length a.length) n) [.own 89 [.string s, .bool b], .own 39 (pc a)] ⟨.exit 0, frDpE (slB 1 (a ++ (rdP n s b).1).length (a ++ (rdP n s b).1).length), [.own 89 [.string (rdP n s b).2.1, .bool (rdP n s b).2.2], .own 39 (pc (a ++ (rdP n s b).1))], [0]⟩
  | 0, s, b, a, hs, h1, h2 => by
    refine .last (dp_round1 s b _ a.length (pc a) (pc_len a) ⟨h1, by omega⟩ hs (Nat.le_trans (numR_size s) hs) ⟨by omega, by omega⟩ _ (fun h => absurd h (by simp)) (fun h => absurd h (by simp)) (fun _ => ?_)) (by intro h; cases h)
    rw [rdP, List.append_nil]
    exact ⟨rfl, rfl, rfl, fun j hj => by cases hj⟩
  | n + 1, s, b, a, hs, h1, h2 => by
    have h3 := Nat.le_trans (numR_size s) hs
    have h4 := Nat.le_trans (numR_size (numR s)) h3
    cases b with
    | true =>
      refine .last (dp_round1 s true _ a.length (pc a) (pc_len a) ⟨h1, by omega⟩ hs h3 ⟨by omega, by omega⟩ _ (fun _ h => absurd h (by simp)) (fun _ _ => ?_) (fun h => absurd (by omega) h)) (by intro h; cases h)
      rw [rdP, if_pos rfl, List.append_nil]
      exact ⟨rfl, rfl, rfl, fun j hj => by cases hj⟩
    | false =>
      have ih := dp_loop1 n (numR (numR s)) (numB (numR s) (numB s false)) (a ++ [⟨numV s, numV (numR s)⟩]) h4 (by simp) (by simp; omega)
      rw [List.append_assoc, List.singleton_append] at ih
      rw [rdP, if_neg Bool.false_ne_true]
      refine .more (o1 := ⟨.normal, frDp (slB 1 (a ++ [(⟨numV s, numV (numR s)⟩ : S23)]).length (a ++ [(⟨numV s, numV (numR s)⟩ : S23)]).length) n, [.own 89 [.string (numR (numR s)), .bool (numB (numR s) (numB s false))], .own 39 (pc (a ++ [⟨numV s, numV (numR s)⟩]))], [0]⟩) (dp_round1 s false _ a.length (pc a) (pc_len a) ⟨h1, by omega⟩ hs h3 ⟨by omega, by omega⟩ _ (fun _ _ => ?_) (fun _ h => absurd rfl h) (fun h => absurd (by omega) h)) rfl ih (fun j hj _ => hj)
      rw [pc_app, List.length_append]
      refine ⟨rfl, ?_, rfl, fun j hj => by simpa using hj⟩
      show frOf 30 _ = frOf 30 _
      rw [show (((n + 1 : Nat) : Int) - 1) = (n : Int) by omega]
      rfl
theorem dp_loop0 (n : Nat) (s : ByteArray) (b : Bool) (hs : s.size ≤ 140737488351232) (hn : n ≤ 255) :
    ((rdP n s b).1 = [] → CodeSpec Try.prog 1 dp_lC (frDp slN n) [.own 89 [.string s, .bool b]] ⟨.exit 0, frDpE slN, [.own 89 [.string (rdP n s b).2.1, .bool (rdP n s b).2.2]], [0]⟩) ∧
    ((rdP n s b).1 ≠ [] → CodeSpec Try.prog 1 dp_lC (frDp slN n) [.own 89 [.string s, .bool b]] ⟨.exit 0, frDpE (slB 1 (rdP n s b).1.length (rdP n s b).1.length), [.own 89 [.string (rdP n s b).2.1, .bool (rdP n s b).2.2], .own 39 (pc (rdP n s b).1)], [0]⟩) := by
  have h3 := Nat.le_trans (numR_size s) hs
  have h4 := Nat.le_trans (numR_size (numR s)) h3
  cases n with
  | zero =>
    refine ⟨fun _ => (LoopSpec.last (dp_round0 s b _ hs h3 ⟨by omega, by omega⟩ _ (fun h => absurd h (by simp)) (fun h => absurd h (by simp)) (fun _ => ?_)) (by intro h; cases h)).code, fun h => absurd rfl h⟩
    exact ⟨rfl, rfl, rfl, fun j hj => by cases hj⟩
  | succ n =>
    cases b with
    | true =>
      refine ⟨fun _ => (LoopSpec.last (dp_round0 s true _ hs h3 ⟨by omega, by omega⟩ _ (fun _ h => absurd h (by simp)) (fun _ _ => ?_) (fun h => absurd (by omega) h)) (by intro h; cases h)).code, fun h => absurd (by rw [rdP, if_pos rfl]) h⟩
      rw [rdP, if_pos rfl]
      exact ⟨rfl, rfl, rfl, fun j hj => by cases hj⟩
    | false =>
      have ih := dp_loop1 n (numR (numR s)) (numB (numR s) (numB s false)) [⟨numV s, numV (numR s)⟩] h4 (Nat.le_refl 1) (by simp; omega)
      rw [rdP, if_neg Bool.false_ne_true]
      refine ⟨(fun h => by cases h), fun _ => ?_⟩
      refine (LoopSpec.more (o1 := ⟨.normal, frDp (slB 1 1 1) n, [.own 89 [.string (numR (numR s)), .bool (numB (numR s) (numB s false))], .own 39 (pc [⟨numV s, numV (numR s)⟩])], [0]⟩) (dp_round0 s false _ hs h3 ⟨by omega, by omega⟩ _ (fun _ _ => ?_) (fun _ h => absurd rfl h) (fun h => absurd (by omega) h)) rfl ih (fun j hj _ => hj)).code
      refine ⟨rfl, ?_, rfl, fun j hj => by simpa using hj⟩
      show frOf 30 _ = frOf 30 _
      rw [show (((n + 1 : Nat) : Int) - 1) = (n : Int) by omega]
      rfl
end Go.Proofs.Ytjalkjeldlchoaa.Ex
end
section
set_option linter.unusedSectionVars false
set_option linter.unusedSimpArgs false
set_option linter.unusedVariables false
namespace Go.Proofs.Ytjalkjeldlchoaa.X
open Go Go.Proofs.Ytjalkjeldlchoaa.Ex
def rdA (s : ByteArray) (b : Bool) : List S23 × ByteArray × Bool := if (s.size : Int) < 1 then ([], s, true) else rdP (b0 s) (s.extract 1 s.size) b
end Go.Proofs.Ytjalkjeldlchoaa.X
namespace Go.Proofs.Ytjalkjeldlchoaa.Ex
open Go Go.RowKit Go.Proofs.Ytjalkjeldlchoaa.X
set_option linter.unusedVariables false
theorem b0_le (s : ByteArray) : b0 s ≤ 255 := by
  unfold b0
  have := UInt8.toNat_lt (List.getD (Array.toList (ByteArray.data (ByteArray.extract s 0 1))) 0 0)
  omega
theorem rdA_size (s : ByteArray) (b : Bool) : (rdA s b).2.1.size ≤ s.size := by
  unfold rdA
  split
  · exact Nat.le_refl _
  · refine Nat.le_trans (rdP_size _ _ _) ?_
    rw [ByteArray.size_extract]; omega
theorem rdA_len (s : ByteArray) (b : Bool) : (rdA s b).1.length ≤ 255 := by
  unfold rdA
  split
  · exact Nat.zero_le _
  · exact Nat.le_trans (rdP_len _ _ _) (b0_le s)
theorem pts_done {s : ByteArray} (b : Bool) (hs : s.size ≤ 140737488351232) :
    ((rdA s b).1 = [] → CallSpec Try.prog 63 [at_ 0 0] [.own 89 [.string s, .bool b]] ⟨slN, [.own 89 [.string (rdA s b).2.1, .bool (rdA s b).2.2]], [0]⟩) ∧
    ((rdA s b).1 ≠ [] → CallSpec Try.prog 63 [at_ 0 0] [.own 89 [.string s, .bool b]] ⟨slB 1 (rdA s b).1.length (rdA s b).1.length, [.own 89 [.string (rdA s b).2.1, .bool (rdA s b).2.2], .own 39 (pc (rdA s b).1)], [0]⟩) := by
  unfold rdA
  by_cases h : (s.size : Int) < 1
  · rw [if_pos h]
    exact ⟨fun _ => dpts_e s b h _ res_refl, fun g => absurd rfl g⟩
  · rw [if_neg h]
    have k := dp_loop0 (b0 s) (s.extract 1 s.size) b (by rw [ByteArray.size_extract]; omega) (b0_le s)
    exact ⟨fun g => dpts_0 s _ b _ ⟨by omega, hs⟩ (k.1 g) _ ⟨rfl, rfl, fun j hj => by simpa using hj⟩, fun g => dpts_1 s _ b _ _ _ ⟨by omega, hs⟩ (k.2 g) _ ⟨rfl, rfl, fun j hj => by simpa using hj⟩⟩
end Go.Proofs.Ytjalkjeldlchoaa.Ex
end
section
set_option linter.unusedSectionVars false
set_option linter.unusedSimpArgs false
set_option linter.unusedVariables false
namespace Go.Proofs.Ytjalkjeldlchoaa.Ex
open Go
set_option linter.unusedVariables false
section
variable (s s1 s2 s3 s4 : ByteArray) (d1 d2 d3 d4 : Bool) (fl ce e : Int) (kP : CallSpec Try.prog 63 [at_ 0 0] [.own 89 [.string s, .bool false]] (.mk slN [.own 89 [.string s1, .bool d1]] [0])) (kN : CallSpec Try.prog 64 [at_ 0 0] [.own 89 [.string s1, .bool d1]] (.mk (.int .i64 fl) [.own 89 [.string s2, .bool d2]] [0])) (kM : CallSpec Try.prog 64 [at_ 0 0] [.own 89 [.string s2, .bool d2]] (.mk (.int .i64 ce) [.own 89 [.string s3, .bool d3]] [0])) (kQ : CallSpec Try.prog 63 [at_ 0 0] [.own 89 [.string s3, .bool d3]] (.mk slN [.own 89 [.string s4, .bool d4]] [0])) (kC : CallSpec Try.prog 18 [fV slN fl ce slN] [] (.mk (.int .i64 e) [] []))
include s s1 s2 s3 s4 d1 d2 d3 d4 fl ce e kP kN kM kQ kC
theorem dec_00_pt : go (exec (Try.prog) (8) (29) ([.string s]) ([])) [(18, .call (.mk (sN) [.own 89 [.string s1, .bool d1]] [0])), (16, .call (.mk (.int .i64 fl) [.own 89 [.string s2, .bool d2]] [0])), (9, .call (.mk (.int .i64 ce) [.own 89 [.string s3, .bool d3]] [0])), (9, .call (.mk (sN) [.own 89 [.string s4, .bool d4]] [0])), (15, .dec true), (0, .dec true), (0, .dec true), (0, .dec true), (0, .dec true), (0, .dec true)] = some (.mk (.tuple #[.agg #[sN, .int .i64 0, .int .i64 0, sN], .int .i64 3]) [] [], true, [type_of% kP, type_of% kN, type_of% kM, type_of% kQ, d4 = true, d4 = true, d4 = true, d4 = true, d4 = true, d4 = true]) := by kernel_rfl
theorem dec_00_pft : go (exec (Try.prog) (8) (29) ([.string s]) ([])) [(18, .call (.mk (sN) [.own 89 [.string s1, .bool d1]] [0])), (16, .call (.mk (.int .i64 fl) [.own 89 [.string s2, .bool d2]] [0])), (9, .call (.mk (.int .i64 ce) [.own 89 [.string s3, .bool d3]] [0])), (9, .call (.mk (sN) [.own 89 [.string s4, .bool d4]] [0])), (15, .dec false), (1, .dec false), (1, .dec false), (1, .dec false), (3, .dec false), (1, .dec false), (2, .dec true)] = some (.mk (.tuple #[.agg #[sN, .int .i64 0, .int .i64 0, sN], .int .i64 3]) [] [], true, [type_of% kP, type_of% kN, type_of% kM, type_of% kQ, d4 = false, d4 = false, d4 = false, d4 = false, d4 = false, d4 = false, (!ByteArray.toList s4 == ByteArray.toList (ByteArray.mk #[])) = true]) := by kernel_rfl
theorem dec_00_pfft : go (exec (Try.prog) (8) (29) ([.string s]) ([])) [(18, .call (.mk (sN) [.own 89 [.string s1, .bool d1]] [0])), (16, .call (.mk (.int .i64 fl) [.own 89 [.string s2, .bool d2]] [0])), (9, .call (.mk (.int .i64 ce) [.own 89 [.string s3, .bool d3]] [0])), (9, .call (.mk (sN) [.own 89 [.string s4, .bool d4]] [0])), (15, .dec false), (1, .dec false), (1, .dec false), (1, .dec false), (3, .dec false), (1, .dec false), (2, .dec false), (2, .call (.mk (.int .i64 e) [] [])), (7, .dec true)] = some (.mk (.tuple #[.agg #[sN, .int .i64 0, .int .i64 0, sN], .int .i64 e]) [] [], true, [type_of% kP, type_of% kN, type_of% kM, type_of% kQ, d4 = false, d4 = false, d4 = false, d4 = false, d4 = false, d4 = false, (!ByteArray.toList s4 == ByteArray.toList (ByteArray.mk #[])) = false, type_of% kC, (!decide (e = 0)) = true]) := by kernel_rfl
theorem dec_00_pfff : go (exec (Try.prog) (8) (29) ([.string s]) ([])) [(18, .call (.mk (sN) [.own 89 [.string s1, .bool d1]] [0])), (16, .call (.mk (.int .i64 fl) [.own 89 [.string s2, .bool d2]] [0])), (9, .call (.mk (.int .i64 ce) [.own 89 [.string s3, .bool d3]] [0])), (9, .call (.mk (sN) [.own 89 [.string s4, .bool d4]] [0])), (15, .dec false), (1, .dec false), (1, .dec false), (1, .dec false), (3, .dec false), (1, .dec false), (2, .dec false), (2, .call (.mk (.int .i64 e) [] [])), (7, .dec false)] = some (.mk (.tuple #[.agg #[sN, .int .i64 fl, .int .i64 ce, sN], .int .i64 0]) [] [], true, [type_of% kP, type_of% kN, type_of% kM, type_of% kQ, d4 = false, d4 = false, d4 = false, d4 = false, d4 = false, d4 = false, (!ByteArray.toList s4 == ByteArray.toList (ByteArray.mk #[])) = false, type_of% kC, (!decide (e = 0)) = false]) := by kernel_rfl
theorem dec_00 (R : Res) (k_pt : (h0 : d4 = true) → Res.le (.mk (.tuple #[.agg #[sN, .int .i64 0, .int .i64 0, sN], .int .i64 3]) [] []) R) (k_pft : (h0 : ¬ (d4 = true)) → (h1 : (!ByteArray.toList s4 == ByteArray.toList (ByteArray.mk #[])) = true) → Res.le (.mk (.tuple #[.agg #[sN, .int .i64 0, .int .i64 0, sN], .int .i64 3]) [] []) R) (k_pfft : (h0 : ¬ (d4 = true)) → (h1 : ¬ ((!ByteArray.toList s4 == ByteArray.toList (ByteArray.mk #[])) = true)) → (h2 : ¬e = 0) → Res.le (.mk (.tuple #[.agg #[sN, .int .i64 0, .int .i64 0, sN], .int .i64 e]) [] []) R) (k_pfff : (h0 : ¬ (d4 = true)) → (h1 : ¬ ((!ByteArray.toList s4 == ByteArray.toList (ByteArray.mk #[])) = true)) → (h2 : ¬ (¬e = 0)) → Res.le (.mk (.tuple #[.agg #[sN, .int .i64 fl, .int .i64 ce, sN], .int .i64 0]) [] []) R) : CallSpec (Try.prog) (29) ([.string s]) ([]) R := by
  by_cases h0 : d4 = true
  · exact (CallSpec.id (go_ok (exec_ok tnamed tcalm tmixed _ _ _ _) (dec_00_pt s s1 s2 s3 s4 d1 d2 d3 d4 fl ce e kP kN kM kQ kC ) (aC (kP) (aC (kN) (aC (kM) (aC (kQ) (aC (h0) (aC (h0) (aC (h0) (aC (h0) (aC (h0) (aC (h0) aN)))))))))))).le (k_pt h0)
  · by_cases h1 : (!ByteArray.toList s4 == ByteArray.toList (ByteArray.mk #[])) = true
    · exact (CallSpec.id (go_ok (exec_ok tnamed tcalm tmixed _ _ _ _) (dec_00_pft s s1 s2 s3 s4 d1 d2 d3 d4 fl ce e kP kN kM kQ kC ) (aC (kP) (aC (kN) (aC (kM) (aC (kQ) (aC ((bF h0)) (aC ((bF h0)) (aC ((bF h0)) (aC ((bF h0)) (aC ((bF h0)) (aC ((bF h0)) (aC (h1) aN))))))))))))).le (k_pft h0 h1)
    · by_cases h2 : ¬e = 0
      · exact (CallSpec.id (go_ok (exec_ok tnamed tcalm tmixed _ _ _ _) (dec_00_pfft s s1 s2 s3 s4 d1 d2 d3 d4 fl ce e kP kN kM kQ kC ) (aC (kP) (aC (kN) (aC (kM) (aC (kQ) (aC ((bF h0)) (aC ((bF h0)) (aC ((bF h0)) (aC ((bF h0)) (aC ((bF h0)) (aC ((bF h0)) (aC ((bF h1)) (aC (kC) (aC ((by simpa using h2)) aN))))))))))))))).le (k_pfft h0 h1 h2)
      · exact (CallSpec.id (go_ok (exec_ok tnamed tcalm tmixed _ _ _ _) (dec_00_pfff s s1 s2 s3 s4 d1 d2 d3 d4 fl ce e kP kN kM kQ kC ) (aC (kP) (aC (kN) (aC (kM) (aC (kQ) (aC ((bF h0)) (aC ((bF h0)) (aC ((bF h0)) (aC ((bF h0)) (aC ((bF h0)) (aC ((bF h0)) (aC ((bF h1)) (aC (kC) (aC ((by simpa using h2)) aN))))))))))))))).le (k_pfff h0 h1 h2)
end
section
variable (s s1 s2 s3 s4 : ByteArray) (d1 d2 d3 d4 : Bool) (fl ce e : Int) (m : Nat) (rs : List Value) (hrs : List.length rs = m * 2) (hm : 1 ≤ m ∧ m ≤ 255) (kP : CallSpec Try.prog 63 [at_ 0 0] [.own 89 [.string s, .bool false]] (.mk slN [.own 89 [.string s1, .bool d1]] [0])) (kN : CallSpec Try.prog 64 [at_ 0 0] [.own 89 [.string s1, .bool d1]] (.mk (.int .i64 fl) [.own 89 [.string s2, .bool d2]] [0])) (kM : CallSpec Try.prog 64 [at_ 0 0] [.own 89 [.string s2, .bool d2]] (.mk (.int .i64 ce) [.own 89 [.string s3, .bool d3]] [0])) (kQ : CallSpec Try.prog 63 [at_ 0 0] [.own 89 [.string s3, .bool d3]] (.mk (slB 1 m m) [.own 89 [.string s4, .bool d4], .own 39 rs] [0])) (kC : CallSpec Try.prog 18 [fV slN fl ce (slB 0 m m)] [.own 39 rs] (.mk (.int .i64 e) [.own 39 rs] []))
include s s1 s2 s3 s4 d1 d2 d3 d4 fl ce e m rs hrs hm kP kN kM kQ kC
theorem dec_01_pt : go (exec (Try.prog) (8) (29) ([.string s]) ([])) [(18, .call (.mk (sN) [.own 89 [.string s1, .bool d1]] [0])), (16, .call (.mk (.int .i64 fl) [.own 89 [.string s2, .bool d2]] [0])), (9, .call (.mk (.int .i64 ce) [.own 89 [.string s3, .bool d3]] [0])), (9, .call (.mk ((sB 1 m m)) [.own 89 [.string s4, .bool d4], .own 39 rs] [0])), (15, .dec true), (0, .dec true), (0, .dec true), (0, .dec true), (0, .dec true), (0, .dec true)] = some (.mk (.tuple #[.agg #[sN, .int .i64 0, .int .i64 0, sN], .int .i64 3]) [] [], true, [type_of% kP, type_of% kN, type_of% kM, type_of% kQ, d4 = true, d4 = true, d4 = true, d4 = true, d4 = true, d4 = true]) := by kernel_rfl
theorem dec_01_pft : go (exec (Try.prog) (8) (29) ([.string s]) ([])) [(18, .call (.mk (sN) [.own 89 [.string s1, .bool d1]] [0])), (16, .call (.mk (.int .i64 fl) [.own 89 [.string s2, .bool d2]] [0])), (9, .call (.mk (.int .i64 ce) [.own 89 [.string s3, .bool d3]] [0])), (9, .call (.mk ((sB 1 m m)) [.own 89 [.string s4, .bool d4], .own 39 rs] [0])), (15, .dec false), (1, .dec false), (1, .dec false), (1, .dec false), (3, .dec false), (1, .dec false), (2, .dec true)] = some (.mk (.tuple #[.agg #[sN, .int .i64 0, .int .i64 0, sN], .int .i64 3]) [] [], true, [type_of% kP, type_of% kN, type_of% kM, type_of% kQ, d4 = false, d4 = false, d4 = false, d4 = false, d4 = false, d4 = false, (!ByteArray.toList s4 == ByteArray.toList (ByteArray.mk #[])) = true]) := by kernel_rfl
theorem dec_01_pfft : go (exec (Try.prog) (8) (29) ([.string s]) ([])) [(18, .call (.mk (sN) [.own 89 [.string s1, .bool d1]] [0])), (16, .call (.mk (.int .i64 fl) [.own 89 [.string s2, .bool d2]] [0])), (9, .call (.mk (.int .i64 ce) [.own 89 [.string s3, .bool d3]] [0])), (9, .call (.mk ((sB 1 m m)) [.own 89 [.string s4, .bool d4], .own 39 rs] [0])), (15, .dec false), (1, .dec false), (1, .dec false), (1, .dec false), (3, .dec false), (1, .dec false), (2, .dec false), (2, .call (.mk (.int .i64 e) [.own 39 rs] [])), (7, .dec true)] = some (.mk (.tuple #[.agg #[sN, .int .i64 0, .int .i64 0, sN], .int .i64 e]) [] [], true, [type_of% kP, type_of% kN, type_of% kM, type_of% kQ, d4 = false, d4 = false, d4 = false, d4 = false, d4 = false, d4 = false, (!ByteArray.toList s4 == ByteArray.toList (ByteArray.mk #[])) = false, type_of% kC, (!decide (e = 0)) = true]) := by kernel_rfl
theorem dec_01_pfff : go (exec (Try.prog) (8) (29) ([.string s]) ([])) [(18, .call (.mk (sN) [.own 89 [.string s1, .bool d1]] [0])), (16, .call (.mk (.int .i64 fl) [.own 89 [.string s2, .bool d2]] [0])), (9, .call (.mk (.int .i64 ce) [.own 89 [.string s3, .bool d3]] [0])), (9, .call (.mk ((sB 1 m m)) [.own 89 [.string s4, .bool d4], .own 39 rs] [0])), (15, .dec false), (1, .dec false), (1, .dec false), (1, .dec false), (3, .dec false), (1, .dec false), (2, .dec false), (2, .call (.mk (.int .i64 e) [.own 39 rs] [])), (7, .dec false)] = some (.mk (.tuple #[.agg #[sN, .int .i64 fl, .int .i64 ce, (sB 0 m m)], .int .i64 0]) [.own 39 rs] [], true, [type_of% kP, type_of% kN, type_of% kM, type_of% kQ, d4 = false, d4 = false, d4 = false, d4 = false, d4 = false, d4 = false, (!ByteArray.toList s4 == ByteArray.toList (ByteArray.mk #[])) = false, type_of% kC, (!decide (e = 0)) = false]) := by kernel_rfl
theorem dec_01 (R : Res) (k_pt : (h0 : d4 = true) → Res.le (.mk (.tuple #[.agg #[sN, .int .i64 0, .int .i64 0, sN], .int .i64 3]) [] []) R) (k_pft : (h0 : ¬ (d4 = true)) → (h1 : (!ByteArray.toList s4 == ByteArray.toList (ByteArray.mk #[])) = true) → Res.le (.mk (.tuple #[.agg #[sN, .int .i64 0, .int .i64 0, sN], .int .i64 3]) [] []) R) (k_pfft : (h0 : ¬ (d4 = true)) → (h1 : ¬ ((!ByteArray.toList s4 == ByteArray.toList (ByteArray.mk #[])) = true)) → (h2 : ¬e = 0) → Res.le (.mk (.tuple #[.agg #[sN, .int .i64 0, .int .i64 0, sN], .int .i64 e]) [] []) R) (k_pfff : (h0 : ¬ (d4 = true)) → (h1 : ¬ ((!ByteArray.toList s4 == ByteArray.toList (ByteArray.mk #[])) = true)) → (h2 : ¬ (¬e = 0)) → Res.le (.mk (.tuple #[.agg #[sN, .int .i64 fl, .int .i64 ce, (sB 0 m m)], .int .i64 0]) [.own 39 rs] []) R) : CallSpec (Try.prog) (29) ([.string s]) ([]) R := by
  by_cases h0 : d4 = true
  · exact (CallSpec.id (go_ok (exec_ok tnamed tcalm tmixed _ _ _ _) (dec_01_pt s s1 s2 s3 s4 d1 d2 d3 d4 fl ce e m rs hrs hm kP kN kM kQ kC ) (aC (kP) (aC (kN) (aC (kM) (aC (kQ) (aC (h0) (aC (h0) (aC (h0) (aC (h0) (aC (h0) (aC (h0) aN)))))))))))).le (k_pt h0)
  · by_cases h1 : (!ByteArray.toList s4 == ByteArray.toList (ByteArray.mk #[])) = true
    · exact (CallSpec.id (go_ok (exec_ok tnamed tcalm tmixed _ _ _ _) (dec_01_pft s s1 s2 s3 s4 d1 d2 d3 d4 fl ce e m rs hrs hm kP kN kM kQ kC ) (aC (kP) (aC (kN) (aC (kM) (aC (kQ) (aC ((bF h0)) (aC ((bF h0)) (aC ((bF h0)) (aC ((bF h0)) (aC ((bF h0)) (aC ((bF h0)) (aC (h1) aN))))))))))))).le (k_pft h0 h1)
    · by_cases h2 : ¬e = 0
      · exact (CallSpec.id (go_ok (exec_ok tnamed tcalm tmixed _ _ _ _) (dec_01_pfft s s1 s2 s3 s4 d1 d2 d3 d4 fl ce e m rs hrs hm kP kN kM kQ kC ) (aC (kP) (aC (kN) (aC (kM) (aC (kQ) (aC ((bF h0)) (aC ((bF h0)) (aC ((bF h0)) (aC ((bF h0)) (aC ((bF h0)) (aC ((bF h0)) (aC ((bF h1)) (aC (kC) (aC ((by simpa using h2)) aN))))))))))))))).le (k_pfft h0 h1 h2)
      · exact (CallSpec.id (go_ok (exec_ok tnamed tcalm tmixed _ _ _ _) (dec_01_pfff s s1 s2 s3 s4 d1 d2 d3 d4 fl ce e m rs hrs hm kP kN kM kQ kC ) (aC (kP) (aC (kN) (aC (kM) (aC (kQ) (aC ((bF h0)) (aC ((bF h0)) (aC ((bF h0)) (aC ((bF h0)) (aC ((bF h0)) (aC ((bF h0)) (aC ((bF h1)) (aC (kC) (aC ((by simpa using h2)) aN))))))))))))))).le (k_pfff h0 h1 h2)
end
section
variable (s s1 s2 s3 s4 : ByteArray) (d1 d2 d3 d4 : Bool) (fl ce e : Int) (n : Nat) (cs : List Value) (hcs : List.length cs = n * 2) (hn : 1 ≤ n ∧ n ≤ 255) (kP : CallSpec Try.prog 63 [at_ 0 0] [.own 89 [.string s, .bool false]] (.mk (slB 1 n n) [.own 89 [.string s1, .bool d1], .own 39 cs] [0])) (kN : CallSpec Try.prog 64 [at_ 0 0] [.own 89 [.string s1, .bool d1]] (.mk (.int .i64 fl) [.own 89 [.string s2, .bool d2]] [0])) (kM : CallSpec Try.prog 64 [at_ 0 0] [.own 89 [.string s2, .bool d2]] (.mk (.int .i64 ce) [.own 89 [.string s3, .bool d3]] [0])) (kQ : CallSpec Try.prog 63 [at_ 0 0] [.own 89 [.string s3, .bool d3]] (.mk slN [.own 89 [.string s4, .bool d4]] [0])) (kC : CallSpec Try.prog 18 [fV (slB 0 n n) fl ce slN] [.own 39 cs] (.mk (.int .i64 e) [.own 39 cs] []))
include s s1 s2 s3 s4 d1 d2 d3 d4 fl ce e n cs hcs hn kP kN kM kQ kC
theorem dec_10_pt : go (exec (Try.prog) (8) (29) ([.string s]) ([])) [(18, .call (.mk ((sB 1 n n)) [.own 89 [.string s1, .bool d1], .own 39 cs] [0])), (16, .call (.mk (.int .i64 fl) [.own 89 [.string s2, .bool d2]] [0])), (9, .call (.mk (.int .i64 ce) [.own 89 [.string s3, .bool d3]] [0])), (9, .call (.mk (sN) [.own 89 [.string s4, .bool d4]] [0])), (15, .dec true), (0, .dec true), (0, .dec true), (0, .dec true), (0, .dec true), (0, .dec true)] = some (.mk (.tuple #[.agg #[sN, .int .i64 0, .int .i64 0, sN], .int .i64 3]) [] [], true, [type_of% kP, type_of% kN, type_of% kM, type_of% kQ, d4 = true, d4 = true, d4 = true, d4 = true, d4 = true, d4 = true]) := by kernel_rfl
theorem dec_10_pft : go (exec (Try.prog) (8) (29) ([.string s]) ([])) [(18, .call (.mk ((sB 1 n n)) [.own 89 [.string s1, .bool d1], .own 39 cs] [0])), (16, .call (.mk (.int .i64 fl) [.own 89 [.string s2, .bool d2]] [0])), (9, .call (.mk (.int .i64 ce) [.own 89 [.string s3, .bool d3]] [0])), (9, .call (.mk (sN) [.own 89 [.string s4, .bool d4]] [0])), (15, .dec false), (1, .dec false), (1, .dec false), (1, .dec false), (3, .dec false), (1, .dec false), (2, .dec true)] = some (.mk (.tuple #[.agg #[sN, .int .i64 0, .int .i64 0, sN], .int .i64 3]) [] [], true, [type_of% kP, type_of% kN, type_of% kM, type_of% kQ, d4 = false, d4 = false, d4 = false, d4 = false, d4 = false, d4 = false, (!ByteArray.toList s4 == ByteArray.toList (ByteArray.mk #[])) = true]) := by kernel_rfl
theorem dec_10_pfft : go (exec (Try.prog) (8) (29) ([.string s]) ([])) [(18, .call (.mk ((sB 1 n n)) [.own 89 [.string s1, .bool d1], .own 39 cs] [0])), (16, .call (.mk (.int .i64 fl) [.own 89 [.string s2, .bool d2]] [0])), (9, .call (.mk (.int .i64 ce) [.own 89 [.string s3, .bool d3]] [0])), (9, .call (.mk (sN) [.own 89 [.string s4, .bool d4]] [0])), (15, .dec false), (1, .dec false), (1, .dec false), (1, .dec false), (3, .dec false), (1, .dec false), (2, .dec false), (2, .call (.mk (.int .i64 e) [.own 39 cs] [])), (7, .dec true)] = some (.mk (.tuple #[.agg #[sN, .int .i64 0, .int .i64 0, sN], .int .i64 e]) [] [], true, [type_of% kP, type_of% kN, type_of% kM, type_of% kQ, d4 = false, d4 = false, d4 = false, d4 = false, d4 = false, d4 = false, (!ByteArray.toList s4 == ByteArray.toList (ByteArray.mk #[])) = false, type_of% kC, (!decide (e = 0)) = true]) := by kernel_rfl
theorem dec_10_pfff : go (exec (Try.prog) (8) (29) ([.string s]) ([])) [(18, .call (.mk ((sB 1 n n)) [.own 89 [.string s1, .bool d1], .own 39 cs] [0])), (16, .call (.mk (.int .i64 fl) [.own 89 [.string s2, .bool d2]] [0])), (9, .call (.mk (.int .i64 ce) [.own 89 [.string s3, .bool d3]] [0])), (9, .call (.mk (sN) [.own 89 [.string s4, .bool d4]] [0])), (15, .dec false), (1, .dec false), (1, .dec false), (1, .dec false), (3, .dec false), (1, .dec false), (2, .dec false), (2, .call (.mk (.int .i64 e) [.own 39 cs] [])), (7, .dec false)] = some (.mk (.tuple #[.agg #[(sB 0 n n), .int .i64 fl, .int .i64 ce, sN], .int .i64 0]) [.own 39 cs] [], true, [type_of% kP, type_of% kN, type_of% kM, type_of% kQ, d4 = false, d4 = false, d4 = false, d4 = false, d4 = false, d4 = false, (!ByteArray.toList s4 == ByteArray.toList (ByteArray.mk #[])) = false, type_of% kC, (!decide (e = 0)) = false]) := by kernel_rfl
theorem dec_10 (R : Res) (k_pt : (h0 : d4 = true) → Res.le (.mk (.tuple #[.agg #[sN, .int .i64 0, .int .i64 0, sN], .int .i64 3]) [] []) R) (k_pft : (h0 : ¬ (d4 = true)) → (h1 : (!ByteArray.toList s4 == ByteArray.toList (ByteArray.mk #[])) = true) → Res.le (.mk (.tuple #[.agg #[sN, .int .i64 0, .int .i64 0, sN], .int .i64 3]) [] []) R) (k_pfft : (h0 : ¬ (d4 = true)) → (h1 : ¬ ((!ByteArray.toList s4 == ByteArray.toList (ByteArray.mk #[])) = true)) → (h2 : ¬e = 0) → Res.le (.mk (.tuple #[.agg #[sN, .int .i64 0, .int .i64 0, sN], .int .i64 e]) [] []) R) (k_pfff : (h0 : ¬ (d4 = true)) → (h1 : ¬ ((!ByteArray.toList s4 == ByteArray.toList (ByteArray.mk #[])) = true)) → (h2 : ¬ (¬e = 0)) → Res.le (.mk (.tuple #[.agg #[(sB 0 n n), .int .i64 fl, .int .i64 ce, sN], .int .i64 0]) [.own 39 cs] []) R) : CallSpec (Try.prog) (29) ([.string s]) ([]) R := by
  by_cases h0 : d4 = true
  · exact (CallSpec.id (go_ok (exec_ok tnamed tcalm tmixed _ _ _ _) (dec_10_pt s s1 s2 s3 s4 d1 d2 d3 d4 fl ce e n cs hcs hn kP kN kM kQ kC ) (aC (kP) (aC (kN) (aC (kM) (aC (kQ) (aC (h0) (aC (h0) (aC (h0) (aC (h0) (aC (h0) (aC (h0) aN)))))))))))).le (k_pt h0)
  · by_cases h1 : (!ByteArray.toList s4 == ByteArray.toList (ByteArray.mk #[])) = true
    · exact (CallSpec.id (go_ok (exec_ok tnamed tcalm tmixed _ _ _ _) (dec_10_pft s s1 s2 s3 s4 d1 d2 d3 d4 fl ce e n cs hcs hn kP kN kM kQ kC ) (aC (kP) (aC (kN) (aC (kM) (aC (kQ) (aC ((bF h0)) (aC ((bF h0)) (aC ((bF h0)) (aC ((bF h0)) (aC ((bF h0)) (aC ((bF h0)) (aC (h1) aN))))))))))))).le (k_pft h0 h1)
    · by_cases h2 : ¬e = 0
      · exact (CallSpec.id (go_ok (exec_ok tnamed tcalm tmixed _ _ _ _) (dec_10_pfft s s1 s2 s3 s4 d1 d2 d3 d4 fl ce e n cs hcs hn kP kN kM kQ kC ) (aC (kP) (aC (kN) (aC (kM) (aC (kQ) (aC ((bF h0)) (aC ((bF h0)) (aC ((bF h0)) (aC ((bF h0)) (aC ((bF h0)) (aC ((bF h0)) (aC ((bF h1)) (aC (kC) (aC ((by simpa using h2)) aN))))))))))))))).le (k_pfft h0 h1 h2)
      · exact (CallSpec.id (go_ok (exec_ok tnamed tcalm tmixed _ _ _ _) (dec_10_pfff s s1 s2 s3 s4 d1 d2 d3 d4 fl ce e n cs hcs hn kP kN kM kQ kC ) (aC (kP) (aC (kN) (aC (kM) (aC (kQ) (aC ((bF h0)) (aC ((bF h0)) (aC ((bF h0)) (aC ((bF h0)) (aC ((bF h0)) (aC ((bF h0)) (aC ((bF h1)) (aC (kC) (aC ((by simpa using h2)) aN))))))))))))))).le (k_pfff h0 h1 h2)
end
section
variable (s s1 s2 s3 s4 : ByteArray) (d1 d2 d3 d4 : Bool) (fl ce e : Int) (n : Nat) (cs : List Value) (hcs : List.length cs = n * 2) (hn : 1 ≤ n ∧ n ≤ 255) (m : Nat) (rs : List Value) (hrs : List.length rs = m * 2) (hm : 1 ≤ m ∧ m ≤ 255) (kP : CallSpec Try.prog 63 [at_ 0 0] [.own 89 [.string s, .bool false]] (.mk (slB 1 n n) [.own 89 [.string s1, .bool d1], .own 39 cs] [0])) (kN : CallSpec Try.prog 64 [at_ 0 0] [.own 89 [.string s1, .bool d1]] (.mk (.int .i64 fl) [.own 89 [.string s2, .bool d2]] [0])) (kM : CallSpec Try.prog 64 [at_ 0 0] [.own 89 [.string s2, .bool d2]] (.mk (.int .i64 ce) [.own 89 [.string s3, .bool d3]] [0])) (kQ : CallSpec Try.prog 63 [at_ 0 0] [.own 89 [.string s3, .bool d3]] (.mk (slB 1 m m) [.own 89 [.string s4, .bool d4], .own 39 rs] [0])) (kC : CallSpec Try.prog 18 [fV (slB 0 n n) fl ce (slB 1 m m)] [.own 39 cs, .own 39 rs] (.mk (.int .i64 e) [.own 39 cs, .own 39 rs] []))
include s s1 s2 s3 s4 d1 d2 d3 d4 fl ce e n cs hcs hn m rs hrs hm kP kN kM kQ kC
theorem dec_11_pt : go (exec (Try.prog) (8) (29) ([.string s]) ([])) [(18, .call (.mk ((sB 1 n n)) [.own 89 [.string s1, .bool d1], .own 39 cs] [0])), (16, .call (.mk (.int .i64 fl) [.own 89 [.string s2, .bool d2]] [0])), (9, .call (.mk (.int .i64 ce) [.own 89 [.string s3, .bool d3]] [0])), (9, .call (.mk ((sB 1 m m)) [.own 89 [.string s4, .bool d4], .own 39 rs] [0])), (15, .dec true), (0, .dec true), (0, .dec true), (0, .dec true), (0, .dec true), (0, .dec true)] = some (.mk (.tuple #[.agg #[sN, .int .i64 0, .int .i64 0, sN], .int .i64 3]) [] [], true, [type_of% kP, type_of% kN, type_of% kM, type_of% kQ, d4 = true, d4 = true, d4 = true, d4 = true, d4 = true, d4 = true]) := by kernel_rfl
theorem dec_11_pft : go (exec (Try.prog) (8) (29) ([.string s]) ([])) [(18, .call (.mk ((sB 1 n n)) [.own 89 [.string s1, .bool d1], .own 39 cs] [0])), (16, .call (.mk (.int .i64 fl) [.own 89 [.string s2, .bool d2]] [0])), (9, .call (.mk (.int .i64 ce) [.own 89 [.string s3, .bool d3]] [0])), (9, .call (.mk ((sB 1 m m)) [.own 89 [.string s4, .bool d4], .own 39 rs] [0])), (15, .dec false), (1, .dec false), (1, .dec false), (1, .dec false), (3, .dec false), (1, .dec false), (2, .dec true)] = some (.mk (.tuple #[.agg #[sN, .int .i64 0, .int .i64 0, sN], .int .i64 3]) [] [], true, [type_of% kP, type_of% kN, type_of% kM, type_of% kQ, d4 = false, d4 = false, d4 = false, d4 = false, d4 = false, d4 = false, (!ByteArray.toList s4 == ByteArray.toList (ByteArray.mk #[])) = true]) := by kernel_rfl
theorem dec_11_pfft : go (exec (Try.prog) (8) (29) ([.string s]) ([])) [(18, .call (.mk ((sB 1 n n)) [.own 89 [.string s1, .bool d1], .own 39 cs] [0])), (16, .call (.mk (.int .i64 fl) [.own 89 [.string s2, .bool d2]] [0])), (9, .call (.mk (.int .i64 ce) [.own 89 [.string s3, .bool d3]] [0])), (9, .call (.mk ((sB 1 m m)) [.own 89 [.string s4, .bool d4], .own 39 rs] [0])), (15, .dec false), (1, .dec false), (1, .dec false), (1, .dec false), (3, .dec false), (1, .dec false), (2, .dec false), (2, .call (.mk (.int .i64 e) [.own 39 cs, .own 39 rs] [])), (7, .dec true)] = some (.mk (.tuple #[.agg #[sN, .int .i64 0, .int .i64 0, sN], .int .i64 e]) [] [], true, [type_of% kP, type_of% kN, type_of% kM, type_of% kQ, d4 = false, d4 = false, d4 = false, d4 = false, d4 = false, d4 = false, (!ByteArray.toList s4 == ByteArray.toList (ByteArray.mk #[])) = false, type_of% kC, (!decide (e = 0)) = true]) := by kernel_rfl
theorem dec_11_pfff : go (exec (Try.prog) (8) (29) ([.string s]) ([])) [(18, .call (.mk ((sB 1 n n)) [.own 89 [.string s1, .bool d1], .own 39 cs] [0])), (16, .call (.mk (.int .i64 fl) [.own 89 [.string s2, .bool d2]] [0])), (9, .call (.mk (.int .i64 ce) [.own 89 [.string s3, .bool d3]] [0])), (9, .call (.mk ((sB 1 m m)) [.own 89 [.string s4, .bool d4], .own 39 rs] [0])), (15, .dec false), (1, .dec false), (1, .dec false), (1, .dec false), (3, .dec false), (1, .dec false), (2, .dec false), (2, .call (.mk (.int .i64 e) [.own 39 cs, .own 39 rs] [])), (7, .dec false)] = some (.mk (.tuple #[.agg #[(sB 0 n n), .int .i64 fl, .int .i64 ce, (sB 1 m m)], .int .i64 0]) [.own 39 cs, .own 39 rs] [], true, [type_of% kP, type_of% kN, type_of% kM, type_of% kQ, d4 = false, d4 = false, d4 = false, d4 = false, d4 = false, d4 = false, (!ByteArray.toList s4 == ByteArray.toList (ByteArray.mk #[])) = false, type_of% kC, (!decide (e = 0)) = false]) := by kernel_rfl
theorem dec_11 (R : Res) (k_pt : (h0 : d4 = true) → Res.le (.mk (.tuple #[.agg #[sN, .int .i64 0, .int .i64 0, sN], .int .i64 3]) [] []) R) (k_pft : (h0 : ¬ (d4 = true)) → (h1 : (!ByteArray.toList s4 == ByteArray.toList (ByteArray.mk #[])) = true) → Res.le (.mk (.tuple #[.agg #[sN, .int .i64 0, .int .i64 0, sN], .int .i64 3]) [] []) R) (k_pfft : (h0 : ¬ (d4 = true)) → (h1 : ¬ ((!ByteArray.toList s4 == ByteArray.toList (ByteArray.mk #[])) = true)) → (h2 : ¬e = 0) → Res.le (.mk (.tuple #[.agg #[sN, .int .i64 0, .int .i64 0, sN], .int .i64 e]) [] []) R) (k_pfff : (h0 : ¬ (d4 = true)) → (h1 : ¬ ((!ByteArray.toList s4 == ByteArray.toList (ByteArray.mk #[])) = true)) → (h2 : ¬ (¬e = 0)) → Res.le (.mk (.tuple #[.agg #[(sB 0 n n), .int .i64 fl, .int .i64 ce, (sB 1 m m)], .int .i64 0]) [.own 39 cs, .own 39 rs] []) R) : CallSpec (Try.prog) (29) ([.string s]) ([]) R := by
  by_cases h0 : d4 = true
  · exact (CallSpec.id (go_ok (exec_ok tnamed tcalm tmixed _ _ _ _) (dec_11_pt s s1 s2 s3 s4 d1 d2 d3 d4 fl ce e n cs hcs hn m rs hrs hm kP kN kM kQ kC ) (aC (kP) (aC (kN) (aC (kM) (aC (kQ) (aC (h0) (aC (h0) (aC (h0) (aC (h0) (aC (h0) (aC (h0) aN)))))))))))).le (k_pt h0)
  · by_cases h1 : (!ByteArray.toList s4 == ByteArray.toList (ByteArray.mk #[])) = true
    · exact (CallSpec.id (go_ok (exec_ok tnamed tcalm tmixed _ _ _ _) (dec_11_pft s s1 s2 s3 s4 d1 d2 d3 d4 fl ce e n cs hcs hn m rs hrs hm kP kN kM kQ kC ) (aC (kP) (aC (kN) (aC (kM) (aC (kQ) (aC ((bF h0)) (aC ((bF h0)) (aC ((bF h0)) (aC ((bF h0)) (aC ((bF h0)) (aC ((bF h0)) (aC (h1) aN))))))))))))).le (k_pft h0 h1)
    · by_cases h2 : ¬e = 0
      · exact (CallSpec.id (go_ok (exec_ok tnamed tcalm tmixed _ _ _ _) (dec_11_pfft s s1 s2 s3 s4 d1 d2 d3 d4 fl ce e n cs hcs hn m rs hrs hm kP kN kM kQ kC ) (aC (kP) (aC (kN) (aC (kM) (aC (kQ) (aC ((bF h0)) (aC ((bF h0)) (aC ((bF h0)) (aC ((bF h0)) (aC ((bF h0)) (aC ((bF h0)) (aC ((bF h1)) (aC (kC) (aC ((by simpa using h2)) aN))))))))))))))).le (k_pfft h0 h1 h2)
      · exact (CallSpec.id (go_ok (exec_ok tnamed tcalm tmixed _ _ _ _) (dec_11_pfff s s1 s2 s3 s4 d1 d2 d3 d4 fl ce e n cs hcs hn m rs hrs hm kP kN kM kQ kC ) (aC (kP) (aC (kN) (aC (kM) (aC (kQ) (aC ((bF h0)) (aC ((bF h0)) (aC ((bF h0)) (aC ((bF h0)) (aC ((bF h0)) (aC ((bF h0)) (aC ((bF h1)) (aC (kC) (aC ((by simpa using h2)) aN))))))))))))))).le (k_pfff h0 h1 h2)
end
end Go.Proofs.Ytjalkjeldlchoaa.Ex
end
section
set_option linter.unusedSectionVars false
set_option linter.unusedSimpArgs false
set_option linter.unusedVariables false
namespace Go.Proofs.Ytjalkjeldlchoaa.X
open Go Go.Proofs.Ytjalkjeldlchoaa.Ex
def dA (s : ByteArray) : List S23 × ByteArray × Bool := rdA s false
def dF (s : ByteArray) : Int := numV (dA s).2.1
def s2 (s : ByteArray) : ByteArray := numR (dA s).2.1
def d2 (s : ByteArray) : Bool := numB (dA s).2.1 (dA s).2.2
def dC (s : ByteArray) : Int := numV (s2 s)
def dB (s : ByteArray) : List S23 × ByteArray × Bool := rdA (numR (s2 s)) (numB (s2 s) (d2 s))
def decE (s : ByteArray) : Int := if (dB s).2.2 = true then 3 else if (!(dB s).2.1.toList == (ByteArray.mk #[]).toList) = true then 3 else checkV (dA s).1 (dB s).1 (dF s) (dC s)
end Go.Proofs.Ytjalkjeldlchoaa.X
namespace Go.Proofs.Ytjalkjeldlchoaa.Ex
open Go Go.RowKit Go.Proofs.Ytjalkjeldlchoaa.X
set_option linter.unusedVariables false
theorem dec_done (s : ByteArray) (hs : s.size ≤ 140737488351232) :
    (decE s ≠ 0 → CallSpec Try.prog 29 [.string s] [] ⟨.tuple #[fV slN 0 0 slN, .int .i64 (decE s)], [], []⟩) ∧
    (decE s = 0 → (dB s).1 = [] → CallSpec Try.prog 29 [.string s] [] ⟨.tuple #[fV (slB 0 (dA s).1.length (dA s).1.length) (dF s) (dC s) slN, .int .i64 0], [.own 39 (pc (dA s).1)], []⟩) ∧
    (decE s = 0 → (dB s).1 ≠ [] → CallSpec Try.prog 29 [.string s] [] ⟨.tuple #[fV (slB 0 (dA s).1.length (dA s).1.length) (dF s) (dC s) (slB 1 (dB s).1.length (dB s).1.length), .int .i64 0], [.own 39 (pc (dA s).1), .own 39 (pc (dB s).1)], []⟩) := by
  have z1 : (dA s).2.1.size ≤ 140737488351232 := Nat.le_trans (rdA_size s false) hs
  have z2 : (s2 s).size ≤ 140737488351232 := Nat.le_trans (numR_size _) z1
  have z3 : (numR (s2 s)).size ≤ 140737488351232 := Nat.le_trans (numR_size _) z2
  have kA := pts_done (s := s) false hs
  have kN := num_done (s := (dA s).2.1) (dA s).2.2 z1
  have kM := num_done (s := s2 s) (d2 s) z2
  have kB := pts_done (s := numR (s2 s)) (numB (s2 s) (d2 s)) z3
  have hA : (dA s).1.length ≤ 255 := rdA_len s false
  have hB : (dB s).1.length ≤ 255 := rdA_len _ _
  have nl : ∀ {l : List S23}, l ≠ [] → 1 ≤ l.length := fun h => List.length_pos_iff.2 h
  have ns : checkV [] (dB s).1 (dF s) (dC s) ≠ 0 := by unfold checkV; rw [if_neg (by decide)]; decide
  have e1 : (dB s).2.2 = true → decE s = 3 := fun h => by rw [decE, if_pos h]
  have e2 : ¬ ((dB s).2.2 = true) → (!(dB s).2.1.toList == (ByteArray.mk #[]).toList) = true → decE s = 3 := fun h g => by rw [decE, if_neg h, if_pos g]
  have e3 : ¬ ((dB s).2.2 = true) → ¬ ((!(dB s).2.1.toList == (ByteArray.mk #[]).toList) = true) → decE s = checkV (dA s).1 (dB s).1 (dF s) (dC s) := fun h g => by rw [decE, if_neg h, if_neg g]
  by_cases hL : (dA s).1 = []
  · have hE : (dB s).2.2 = false → (!(dB s).2.1.toList == (ByteArray.mk #[]).toList) = false → checkV (dA s).1 (dB s).1 (dF s) (dC s) ≠ 0 := fun _ _ => by rw [hL]; exact ns
    have nz : decE s ≠ 0 := by
      unfold decE
      split
      · decide
      · split
        · decide
        · rw [hL]; exact ns
    refine ⟨fun _ => ?_, fun h => absurd h nz, fun h => absurd h nz⟩
    by_cases hR : (dB s).1 = []
    · have kC : CallSpec Try.prog 18 [fV slN (dF s) (dC s) slN] [] ⟨.int .i64 (checkV (dA s).1 (dB s).1 (dF s) (dC s)), [], []⟩ := by rw [hL, hR]; exact check_nn _ _
      refine dec_00 s _ _ _ _ _ _ _ _ _ _ _ (kA.1 hL) kN kM (kB.1 hR) kC _ (fun (h : (dB s).2.2 = true) => ?_) (fun (h : ¬ ((dB s).2.2 = true)) (g : (!(dB s).2.1.toList == (ByteArray.mk #[]).toList) = true) => ?_) (fun (h : ¬ ((dB s).2.2 = true)) (g : ¬ ((!(dB s).2.1.toList == (ByteArray.mk #[]).toList) = true)) k => ?_) (fun (h : ¬ ((dB s).2.2 = true)) (g : ¬ ((!(dB s).2.1.toList == (ByteArray.mk #[]).toList) = true)) k => ?_)
      · rw [decE, if_pos h]; exact res_refl
      · rw [decE, if_neg h, if_pos g]; exact res_refl
      · rw [decE, if_neg h, if_neg g]; exact res_refl
      · exact absurd (by rw [decE, if_neg h, if_neg g]; omega) nz
    · have kC : CallSpec Try.prog 18 [fV slN (dF s) (dC s) (slB 0 (dB s).1.length (dB s).1.length)] [.own 39 (pc (dB s).1)] ⟨.int .i64 (checkV (dA s).1 (dB s).1 (dF s) (dC s)), [.own 39 (pc (dB s).1)], []⟩ := by
        rw [hL]
        exact CallSpec.softer (hp' := [.own 39 (pc (dB s).1)]) (check_nb (dB s).1 _ _ _) rfl rfl (soft_cons soft_own (soft_same []))
      refine dec_01 s _ _ _ _ _ _ _ _ _ _ _ _ _ (pc_len _) ⟨nl hR, hB⟩ (kA.1 hL) kN kM (kB.2 hR) kC _ (fun (h : (dB s).2.2 = true) => ?_) (fun (h : ¬ ((dB s).2.2 = true)) (g : (!(dB s).2.1.toList == (ByteArray.mk #[]).toList) = true) => ?_) (fun (h : ¬ ((dB s).2.2 = true)) (g : ¬ ((!(dB s).2.1.toList == (ByteArray.mk #[]).toList) = true)) k => ?_) (fun (h : ¬ ((dB s).2.2 = true)) (g : ¬ ((!(dB s).2.1.toList == (ByteArray.mk #[]).toList) = true)) k => ?_)
      · rw [decE, if_pos h]; exact res_refl
      · rw [decE, if_neg h, if_pos g]; exact res_refl
      · rw [decE, if_neg h, if_neg g]; exact res_refl
      · exact absurd (by rw [decE, if_neg h, if_neg g]; omega) nz
  · by_cases hR : (dB s).1 = []
    · have kC : CallSpec Try.prog 18 [fV (slB 0 (dA s).1.length (dA s).1.length) (dF s) (dC s) slN] [.own 39 (pc (dA s).1)] ⟨.int .i64 (checkV (dA s).1 (dB s).1 (dF s) (dC s)), [.own 39 (pc (dA s).1)], []⟩ := by
        rw [hR]
        exact CallSpec.softer (hp' := [.own 39 (pc (dA s).1)]) (check_bn (l := (dA s).1) (c := (dA s).1.length) (fl := dF s) (ce := dC s) (by omega)) rfl rfl (soft_cons soft_own (soft_same []))
      have main : ∀ R : Res, _ → _ → _ → _ → CallSpec Try.prog 29 [.string s] [] R := dec_10 s _ _ _ _ _ _ _ _ _ _ _ (dA s).1.length (pc (dA s).1) (pc_len _) ⟨nl hL, hA⟩ (kA.2 hL) kN kM (kB.1 hR) kC
      refine ⟨fun nz => ?_, fun ez _ => ?_, fun _ h => absurd hR h⟩
      · refine main _ (fun (h : (dB s).2.2 = true) => ?_) (fun (h : ¬ ((dB s).2.2 = true)) (g : (!(dB s).2.1.toList == (ByteArray.mk #[]).toList) = true) => ?_) (fun (h : ¬ ((dB s).2.2 = true)) (g : ¬ ((!(dB s).2.1.toList == (ByteArray.mk #[]).toList) = true)) k => ?_) (fun (h : ¬ ((dB s).2.2 = true)) (g : ¬ ((!(dB s).2.1.toList == (ByteArray.mk #[]).toList) = true)) k => ?_)
        · rw [decE, if_pos h]; exact res_refl
        · rw [decE, if_neg h, if_pos g]; exact res_refl
        · rw [decE, if_neg h, if_neg g]; exact res_refl
        · exact absurd (by rw [decE, if_neg h, if_neg g]; omega) nz
      · refine main _ ?_ ?_ ?_ ?_
        · intro h; have := e1 h; omega
        · intro h g; have := e2 h g; omega
        · intro h g k; have := e3 h g; omega
        · intro h g k; exact res_refl
    · have kC : CallSpec Try.prog 18 [fV (slB 0 (dA s).1.length (dA s).1.length) (dF s) (dC s) (slB 1 (dB s).1.length (dB s).1.length)] [.own 39 (pc (dA s).1), .own 39 (pc (dB s).1)] ⟨.int .i64 (checkV (dA s).1 (dB s).1 (dF s) (dC s)), [.own 39 (pc (dA s).1), .own 39 (pc (dB s).1)], []⟩ :=
        CallSpec.softer (hp' := [.own 39 (pc (dA s).1), .own 39 (pc (dB s).1)]) (check_bb (l := (dA s).1) (r := (dB s).1) (c := (dA s).1.length) (d := (dB s).1.length) (fl := dF s) (ce := dC s) (by omega)) rfl rfl (soft_cons soft_own (soft_cons soft_own (soft_same [])))
      have main : ∀ R : Res, _ → _ → _ → _ → CallSpec Try.prog 29 [.string s] [] R := dec_11 s _ _ _ _ _ _ _ _ _ _ _ (dA s).1.length (pc (dA s).1) (pc_len _) ⟨nl hL, hA⟩ (dB s).1.length (pc (dB s).1) (pc_len _) ⟨nl hR, hB⟩ (kA.2 hL) kN kM (kB.2 hR) kC
      refine ⟨fun nz => ?_, fun _ h => absurd h hR, fun ez _ => ?_⟩
      · refine main _ (fun (h : (dB s).2.2 = true) => ?_) (fun (h : ¬ ((dB s).2.2 = true)) (g : (!(dB s).2.1.toList == (ByteArray.mk #[]).toList) = true) => ?_) (fun (h : ¬ ((dB s).2.2 = true)) (g : ¬ ((!(dB s).2.1.toList == (ByteArray.mk #[]).toList) = true)) k => ?_) (fun (h : ¬ ((dB s).2.2 = true)) (g : ¬ ((!(dB s).2.1.toList == (ByteArray.mk #[]).toList) = true)) k => ?_)
        · rw [decE, if_pos h]; exact res_refl
        · rw [decE, if_neg h, if_pos g]; exact res_refl
        · rw [decE, if_neg h, if_neg g]; exact res_refl
        · exact absurd (by rw [decE, if_neg h, if_neg g]; omega) nz
      · refine main _ ?_ ?_ ?_ ?_
        · intro h; have := e1 h; omega
        · intro h g; have := e2 h g; omega
        · intro h g k; have := e3 h g; omega
        · intro h g k; exact res_refl
end Go.Proofs.Ytjalkjeldlchoaa.Ex
end
section
set_option linter.unusedSectionVars false
set_option linter.unusedSimpArgs false
set_option linter.unusedVariables false
namespace Go.Proofs.Ytjalkjeldlchoaa.Ex
open Go
set_option linter.unusedVariables false
section
variable (s : ByteArray) (e : Int) (he : e ≠ 0) (kA : CallSpec Try.prog 17 [] [] (.mk (.bool true) [] [])) (kD : CallSpec Try.prog 29 [.string s] [] (.mk (.tuple #[fV slN 0 0 slN, .int .i64 e]) [] []))
include s e he kA kD
theorem there_e_p : go (exec (Try.prog) (8) (13) ([.string s]) ([])) [(4, .call (.mk (.tuple #[.agg #[sN, .int .i64 0, .int .i64 0, sN], .int .i64 e]) [] [])), (17, .dec true), (0, .call (.mk (.bool true) [] []))] = some (.mk (.bool true) [] [], true, [type_of% kD, (!decide (e = 0)) = true, type_of% kA]) := by kernel_rfl
theorem there_e (R : Res) (k_p : Res.le (.mk (.bool true) [] []) R) : CallSpec (Try.prog) (13) ([.string s]) ([]) R := by
  exact (CallSpec.id (go_ok (exec_ok tnamed tcalm tmixed _ _ _ _) (there_e_p s e he kA kD ) (aC (kD) (aC (congrArg not dN) (aC (kA) aN))))).le (k_p )
end
section
variable (s : ByteArray) (fl ce : Int) (n : Nat) (cs : List Value) (kA : CallSpec Try.prog 17 [] [] (.mk (.bool true) [] [])) (kD : CallSpec Try.prog 29 [.string s] [] (.mk (.tuple #[fV (slB 0 n n) fl ce slN, .int .i64 0]) [.own 39 cs] [])) (kE : CallSpec Try.prog 27 [fV (slB 0 n n) fl ce slN] [.own 39 cs] (.mk (.tuple #[.string s, .int .i64 0]) [.own 39 cs] [])) (kC : CallSpec Try.prog 18 [fV (slB 0 n n) fl ce slN] [.own 39 cs] (.mk (.int .i64 0) [.own 39 cs] [])) (kS : CallSpec Try.prog 38 [slB 0 n n] [.own 39 cs] (.mk (.int .i64 0) [.own 39 cs] []))
include s fl ce n cs kA kD kE kC kS
theorem there_0_p : go (exec (Try.prog) (8) (13) ([.string s]) ([])) [(4, .call (.mk (.tuple #[.agg #[(sB 0 n n), .int .i64 fl, .int .i64 ce, sN], .int .i64 0]) [.own 39 cs] [])), (20, .call (.mk (.tuple #[.string s, .int .i64 0]) [.own 39 cs] [])), (8, .call (.mk (.bool true) [] [])), (19, .dec true), (2, .dec true), (0, .call (.mk (.int .i64 0) [.own 39 cs] [])), (2, .dec true), (1, .dec true), (8, .call (.mk (.int .i64 0) [.own 39 cs] []))] = some (.mk (.bool true) [] [], true, [type_of% kD, type_of% kE, type_of% kA, (ByteArray.toList s == ByteArray.toList s) = true, (ByteArray.toList s == ByteArray.toList s) = true, type_of% kC, (ByteArray.toList s == ByteArray.toList s) = true, (ByteArray.toList s == ByteArray.toList s) = true, type_of% kS]) := by kernel_rfl
theorem there_0 (R : Res) (k_p : Res.le (.mk (.bool true) [] []) R) : CallSpec (Try.prog) (13) ([.string s]) ([]) R := by
  exact (CallSpec.id (go_ok (exec_ok tnamed tcalm tmixed _ _ _ _) (there_0_p s fl ce n cs kA kD kE kC kS ) (aC (kD) (aC (kE) (aC (kA) (aC ((by simp; done)) (aC ((by simp; done)) (aC (kC) (aC ((by simp; done)) (aC ((by simp; done)) (aC (kS) aN))))))))))).le (k_p )
end
section
variable (s : ByteArray) (fl ce : Int) (n : Nat) (cs : List Value) (m : Nat) (rs : List Value) (kA : CallSpec Try.prog 17 [] [] (.mk (.bool true) [] [])) (kD : CallSpec Try.prog 29 [.string s] [] (.mk (.tuple #[fV (slB 0 n n) fl ce (slB 1 m m), .int .i64 0]) [.own 39 cs, .own 39 rs] [])) (kE : CallSpec Try.prog 27 [fV (slB 0 n n) fl ce (slB 1 m m)] [.own 39 cs, .own 39 rs] (.mk (.tuple #[.string s, .int .i64 0]) [.own 39 cs, .own 39 rs] [])) (kC : CallSpec Try.prog 18 [fV (slB 0 n n) fl ce (slB 1 m m)] [.own 39 cs, .own 39 rs] (.mk (.int .i64 0) [.own 39 cs, .own 39 rs] [])) (kS : CallSpec Try.prog 38 [slB 0 n n] [.own 39 cs] (.mk (.int .i64 0) [.own 39 cs] []))
include s fl ce n cs m rs kA kD kE kC kS
theorem there_1_p : go (exec (Try.prog) (8) (13) ([.string s]) ([])) [(4, .call (.mk (.tuple #[.agg #[(sB 0 n n), .int .i64 fl, .int .i64 ce, (sB 1 m m)], .int .i64 0]) [.own 39 cs, .own 39 rs] [])), (20, .call (.mk (.tuple #[.string s, .int .i64 0]) [.own 39 cs, .own 39 rs] [])), (8, .call (.mk (.bool true) [] [])), (19, .dec true), (2, .dec true), (0, .call (.mk (.int .i64 0) [.own 39 cs, .own 39 rs] [])), (2, .dec true), (1, .dec true), (8, .call (.mk (.int .i64 0) [.own 39 cs] []))] = some (.mk (.bool true) [] [], true, [type_of% kD, type_of% kE, type_of% kA, (ByteArray.toList s == ByteArray.toList s) = true, (ByteArray.toList s == ByteArray.toList s) = true, type_of% kC, (ByteArray.toList s == ByteArray.toList s) = true, (ByteArray.toList s == ByteArray.toList s) = true, type_of% kS]) := by kernel_rfl
theorem there_1 (R : Res) (k_p : Res.le (.mk (.bool true) [] []) R) : CallSpec (Try.prog) (13) ([.string s]) ([]) R := by
  exact (CallSpec.id (go_ok (exec_ok tnamed tcalm tmixed _ _ _ _) (there_1_p s fl ce n cs m rs kA kD kE kC kS ) (aC (kD) (aC (kE) (aC (kA) (aC ((by simp; done)) (aC ((by simp; done)) (aC (kC) (aC ((by simp; done)) (aC ((by simp; done)) (aC (kS) aN))))))))))).le (k_p )
end
end Go.Proofs.Ytjalkjeldlchoaa.Ex
end
section
set_option linter.unusedSectionVars false
set_option linter.unusedSimpArgs false
set_option linter.unusedVariables false
namespace Go.Proofs.Ytjalkjeldlchoaa.Ex
open Go Go.RowKit Go.Proofs.Ytjalkjeldlchoaa.X
set_option linter.unusedVariables false
theorem bor_add {k a b : Nat} (ha : a < 2 ^ k) (h : 2 ^ k * b + a < 4294967296) : F.bor .u32 (a : Int) ((2 ^ k * b : Nat) : Int) = ((2 ^ k * b + a : Nat) : Int) := by
  unfold F.bor
  rw [BitVec.ofInt_natCast, BitVec.ofInt_natCast, BitVec.toNat_or, BitVec.toNat_ofNat, BitVec.toNat_ofNat]
  have e : (2 : Nat) ^ IntKind.bits .u32 = 4294967296 := rfl
  rw [e, Nat.mod_eq_of_lt (by omega), Nat.mod_eq_of_lt (by omega), Nat.or_comm, ← Nat.two_pow_add_eq_or_of_lt ha]
  exact Go.IntWalk.u32_in _ (by omega)
theorem bor4 {a b c d : Nat} (ha : a < 256) (hb : b < 256) (hc : c < 256) (hd : d < 256) :
    F.bor .u32 (F.bor .u32 (F.bor .u32 (a : Int) ((b : Int) * 256)) ((c : Int) * 65536)) ((d : Int) * 16777216) = ((a + 256 * b + 65536 * c + 16777216 * d : Nat) : Int) := by
  have e1 : F.bor .u32 (a : Int) ((b : Int) * 256) = ((2 ^ 8 * b + a : Nat) : Int) := by
    rw [← bor_add (k := 8) (by omega) (by omega)]
    congr 1
    omega
  have e2 : F.bor .u32 ((2 ^ 8 * b + a : Nat) : Int) ((c : Int) * 65536) = ((2 ^ 16 * c + (2 ^ 8 * b + a) : Nat) : Int) := by
    rw [← bor_add (k := 16) (by omega) (by omega)]
    congr 1
    omega
  have e3 : F.bor .u32 ((2 ^ 16 * c + (2 ^ 8 * b + a) : Nat) : Int) ((d : Int) * 16777216) = ((2 ^ 24 * d + (2 ^ 16 * c + (2 ^ 8 * b + a)) : Nat) : Int) := by
    rw [← bor_add (k := 24) (by omega) (by omega)]
    congr 1
    omega
  rw [e1, e2, e3]
  congr 1
  omega
def bys (s : ByteArray) : List Value := s.data.toList.map fun b => .int .u8 b.toNat
theorem bys_ext (s : ByteArray) (i : Nat) : bys (s.extract i s.size) = (bys s).drop i := by
  unfold bys
  rw [ByteArray.data_extract, Array.toList_extract, ← List.map_drop, List.extract_eq_take_drop]
  congr 1
  rw [List.take_of_length_le]
  rw [List.length_drop]
  exact Nat.le_refl _
theorem strB_bys (s : ByteArray) : strB (bys s) = s := by
  unfold strB bys
  rw [List.map_map]
  have : (unbyte ∘ fun b : UInt8 => Value.int .u8 b.toNat) = id := by
    funext b
    show UInt8.ofNat (Int.toNat (b.toNat : Int)) = b
    rw [Int.toNat_natCast]
    exact UInt8.ofNat_toNat
  rw [this, List.map_id]
end Go.Proofs.Ytjalkjeldlchoaa.Ex
end
section
set_option linter.unusedSectionVars false
set_option linter.unusedSimpArgs false
set_option linter.unusedVariables false
namespace Go.Proofs.Ytjalkjeldlchoaa.Ex
open Go Go.RowKit Go.Proofs.Ytjalkjeldlchoaa.X
set_option linter.unusedVariables false
theorem u4_of {s : ByteArray} {x0 x1 x2 x3 : UInt8} {r : List UInt8} (h : s.data.toList = x0 :: x1 :: x2 :: x3 :: r) : u4 s 0 = (x0.toNat : Int) ∧ u4 s 1 = (x1.toNat : Int) ∧ u4 s 2 = (x2.toNat : Int) ∧ u4 s 3 = (x3.toNat : Int) := by
  have e : (s.extract 0 4).data.toList = [x0, x1, x2, x3] := by
    rw [ByteArray.data_extract, Array.toList_extract, h]
    rfl
  unfold u4
  rw [e]
  have b0 := x0.toNat_lt
  have b1 := x1.toNat_lt
  have b2 := x2.toNat_lt
  have b3 := x3.toNat_lt
  refine ⟨?_, ?_, ?_, ?_⟩
  · exact Go.IntWalk.u32_in _ (by show 0 ≤ ((x0.toNat : Nat) : Int) ∧ ((x0.toNat : Nat) : Int) ≤ _; omega)
  · exact Go.IntWalk.u32_in _ (by show 0 ≤ ((x1.toNat : Nat) : Int) ∧ ((x1.toNat : Nat) : Int) ≤ _; omega)
  · exact Go.IntWalk.u32_in _ (by show 0 ≤ ((x2.toNat : Nat) : Int) ∧ ((x2.toNat : Nat) : Int) ≤ _; omega)
  · exact Go.IntWalk.u32_in _ (by show 0 ≤ ((x3.toNat : Nat) : Int) ∧ ((x3.toNat : Nat) : Int) ≤ _; omega)
theorem num4_of {s : ByteArray} {x0 x1 x2 x3 : UInt8} {r : List UInt8} (h : s.data.toList = x0 :: x1 :: x2 :: x3 :: r) : num4 s = IntKind.wrap .i32 ((x0.toNat + 256 * x1.toNat + 65536 * x2.toNat + 16777216 * x3.toNat : Nat) : Int) := by
  obtain ⟨h0, h1, h2, h3⟩ := u4_of h
  have b0 := x0.toNat_lt
  have b1 := x1.toNat_lt
  have b2 := x2.toNat_lt
  have b3 := x3.toNat_lt
  unfold num4
  rw [h0, h1, h2, h3, Go.IntWalk.u32_in ((x1.toNat : Int) * 256) (by omega), Go.IntWalk.u32_in ((x2.toNat : Int) * 65536) (by omega), Go.IntWalk.u32_in ((x3.toNat : Int) * 16777216) (by omega), bor4 (by omega) (by omega) (by omega) (by omega)]
  refine Go.IntWalk.i64_in _ ?_
  rw [IntKind.wrap_i32]
  omega
theorem num_bytes {s : ByteArray} (h : ¬ (s.size : Int) < 4) : bys s = b4 (num4 s) ++ (bys s).drop 4 := by
  have hl : s.data.toList.length = s.size := by rw [Array.length_toList]; rfl
  match e : s.data.toList, hl with
  | x0 :: x1 :: x2 :: x3 :: r, hl =>
    have b0 := x0.toNat_lt
    have b1 := x1.toNat_lt
    have b2 := x2.toNat_lt
    have b3 := x3.toNat_lt
    have n := num4_of e
    rw [IntKind.wrap_i32] at n
    unfold bys b4
    rw [e]
    show _ = [Value.int .u8 _, Value.int .u8 _, Value.int .u8 _, Value.int .u8 _] ++ r.map _
    have f0 : IntKind.wrap .u8 (num4 s) = x0.toNat := by rw [IntKind.wrap_u8]; omega
    have f1 : IntKind.wrap .u8 (num4 s / 256) = x1.toNat := by rw [IntKind.wrap_u8]; omega
    have f2 : IntKind.wrap .u8 (num4 s / 65536) = x2.toNat := by rw [IntKind.wrap_u8]; omega
    have f3 : IntKind.wrap .u8 (num4 s / 16777216) = x3.toNat := by rw [IntKind.wrap_u8]; omega
    rw [f0, f1, f2, f3]
    rfl
  | [], hl => simp at hl; omega
  | [_], hl => simp at hl; omega
  | [_, _], hl => simp at hl; omega
  | [_, _, _], hl => simp at hl; omega
theorem numB_false {s : ByteArray} {b : Bool} (h : numB s b = false) : b = false ∧ bys s = b4 (numV s) ++ bys (numR s) := by
  unfold numB at h
  by_cases c : (s.size : Int) < 4
  · rw [if_pos c] at h; cases h
  · rw [if_neg c] at h
    refine ⟨h, ?_⟩
    unfold numV numR
    rw [if_neg c, if_neg c, bys_ext]
    exact num_bytes c
theorem rdP_false : ∀ {n : Nat} {s : ByteArray} {b : Bool}, (rdP n s b).2.2 = false → b = false ∧ (rdP n s b).1.length = n ∧ bys s = pbs (rdP n s b).1 ++ bys (rdP n s b).2.1
  | 0, s, b, h => ⟨h, rfl, rfl⟩
  | n + 1, s, b, h => by
    by_cases c : b = true
    · rw [rdP, if_pos c] at h
      rw [c] at h
      cases h
    · rw [rdP, if_neg c] at h ⊢
      obtain ⟨h1, h2, h3⟩ := rdP_false (n := n) (s := numR (numR s)) (b := numB (numR s) (numB s b)) h
      obtain ⟨k1, k2⟩ := numB_false h1
      obtain ⟨j1, j2⟩ := numB_false k1
      refine ⟨j1, by rw [List.length_cons, h2], ?_⟩
      show _ = (b4 (numV s) ++ b4 (numV (numR s)) ++ pbs _) ++ _
      rw [j2, k2, h3]
      simp only [List.append_assoc]
theorem rdA_false {s : ByteArray} {b : Bool} (h : (rdA s b).2.2 = false) : b = false ∧ bys s = pb (rdA s b).1 ++ bys (rdA s b).2.1 := by
  unfold rdA at h ⊢
  by_cases c : (s.size : Int) < 1
  · rw [if_pos c] at h; cases h
  · rw [if_neg c] at h ⊢
    obtain ⟨h1, h2, h3⟩ := rdP_false h
    refine ⟨h1, ?_⟩
    unfold pb
    rw [h2, List.append_assoc, ← h3, bys_ext]
    have hl : s.data.toList.length = s.size := by rw [Array.length_toList]; rfl
    match e : s.data.toList, hl with
    | [], hl => simp at hl; omega
    | x :: r, hl =>
      have bx := x.toNat_lt
      have eb : b0 s = x.toNat := by
        unfold b0
        have : (s.extract 0 1).data.toList = [x] := by
          rw [ByteArray.data_extract, Array.toList_extract, e]
          rfl
        rw [this]
        rfl
      unfold bys b1
      rw [e, eb, Go.IntWalk.u8_in _ (by omega)]
      rfl
theorem loop_len (s : ByteArray) : ∀ (m i : Nat) (r : List UInt8), s.size - i = m → (ByteArray.toList.loop s i r).length = r.length + m
  | 0, i, r, h => by
    rw [ByteArray.toList.loop, if_neg (by omega), List.length_reverse]
    rfl
  | m + 1, i, r, h => by
    rw [ByteArray.toList.loop, if_pos (by omega), loop_len s m (i + 1) _ (by omega), List.length_cons]
    omega
theorem toList_nil {s : ByteArray} (h : s.toList = []) : s.data.toList = [] := by
  have k := loop_len s s.size 0 [] (by omega)
  rw [show ByteArray.toList.loop s 0 [] = s.toList from rfl, h] at k
  have hl : s.data.toList.length = s.size := by rw [Array.length_toList]; rfl
  exact List.length_eq_zero_iff.1 (by rw [hl]; simpa using k.symm)
theorem enc_dec {s : ByteArray} (h : decE s = 0) : encT (dA s).1 (dB s).1 (dF s) (dC s) = s ∧ checkV (dA s).1 (dB s).1 (dF s) (dC s) = 0 := by
  have h1 : (dB s).2.2 = false := by
    cases e : (dB s).2.2 with
    | false => rfl
    | true => rw [decE, if_pos e] at h; cases h
  have h2 : (!(dB s).2.1.toList == (ByteArray.mk #[]).toList) = false := by
    cases e : (!(dB s).2.1.toList == (ByteArray.mk #[]).toList) with
    | false => rfl
    | true => rw [decE, if_neg (by rw [h1]; exact Bool.false_ne_true), if_pos e] at h; cases h
  rw [decE, if_neg (by rw [h1]; exact Bool.false_ne_true), if_neg (by rw [h2]; exact Bool.false_ne_true)] at h
  refine ⟨?_, h⟩
  obtain ⟨k1, e4⟩ := rdA_false (s := numR (s2 s)) h1
  obtain ⟨k2, e3⟩ := numB_false k1
  obtain ⟨k3, e2⟩ := numB_false (s := (dA s).2.1) k2
  obtain ⟨_, e1⟩ := rdA_false (s := s) (b := false) k3
  have e5 : bys (dB s).2.1 = [] := by
    have : (dB s).2.1.toList = [] := by
      have g : (dB s).2.1.toList == (ByteArray.mk #[]).toList := by simpa using h2
      rw [beq_iff_eq] at g
      rw [g]
      exact ByteArray.toList_empty
    unfold bys
    rw [toList_nil this]
    rfl
  rw [encT, if_pos h]
  have e : encV (dA s).1 (dB s).1 (dF s) (dC s) = bys s := by
    unfold encV
    show _ = bys s
    rw [e1]
    show _ = pb (dA s).1 ++ bys (dA s).2.1
    rw [e2]
    show _ = pb (dA s).1 ++ (b4 (dF s) ++ bys (s2 s))
    rw [e3]
    show _ = pb (dA s).1 ++ (b4 (dF s) ++ (b4 (dC s) ++ bys (numR (s2 s))))
    rw [e4]
    show _ = pb (dA s).1 ++ (b4 (dF s) ++ (b4 (dC s) ++ (pb (dB s).1 ++ bys (dB s).2.1)))
    rw [e5, List.append_nil]
    simp only [List.append_assoc]
  rw [e]
  exact strB_bys s
end Go.Proofs.Ytjalkjeldlchoaa.Ex
end
section
set_option linter.unusedSectionVars false
set_option linter.unusedSimpArgs false
set_option linter.unusedVariables false
namespace Go.Proofs.Ytjalkjeldlchoaa.Ex
open Go Go.RowKit Go.Proofs.Ytjalkjeldlchoaa.X
set_option linter.unusedVariables false
theorem there_law (kA : CallSpec Try.prog 17 [] [] ⟨.bool true, [], []⟩) (s : ByteArray) (hs : s.size ≤ 140737488351232) : CallSpec Try.prog 13 [.string s] [] ⟨.bool true, [], []⟩ := by
  have d := dec_done s hs
  by_cases hE : decE s = 0
  · obtain ⟨hT, hC⟩ := enc_dec hE
    have hm : (dA s).1.length ≤ 9223372036854775807 := Nat.le_trans (rdA_len s false) (by omega)
    have kS : CallSpec Try.prog 38 [slB 0 (dA s).1.length (dA s).1.length] [.own 39 (pc (dA s).1)] ⟨.int .i64 0, [.own 39 (pc (dA s).1)], []⟩ := by
      have h := CallSpec.softer (hp' := [.own 39 (pc (dA s).1)]) (rsimple_done (dA s).1 (dA s).1.length) rfl rfl (soft_cons soft_own (soft_same []))
      rw [refV_simple, (checkV_zero hC).1] at h
      exact h
    by_cases hR : (dB s).1 = []
    · have hT' := hT
      have hC' := hC
      rw [hR] at hT' hC'
      have kE : CallSpec Try.prog 27 [fV (slB 0 (dA s).1.length (dA s).1.length) (dF s) (dC s) slN] [.own 39 (pc (dA s).1)] ⟨.tuple #[.string s, .int .i64 0], [.own 39 (pc (dA s).1)], []⟩ := by
        have h := CallSpec.softer (hp' := [.own 39 (pc (dA s).1)]) (encode_bn (l := (dA s).1) (c := (dA s).1.length) (fl := dF s) (ce := dC s) hm) rfl rfl (soft_cons soft_own (soft_same []))
        rw [hT', hC'] at h
        exact h
      have kC : CallSpec Try.prog 18 [fV (slB 0 (dA s).1.length (dA s).1.length) (dF s) (dC s) slN] [.own 39 (pc (dA s).1)] ⟨.int .i64 0, [.own 39 (pc (dA s).1)], []⟩ := by
        have h := CallSpec.softer (hp' := [.own 39 (pc (dA s).1)]) (check_bn (l := (dA s).1) (c := (dA s).1.length) (fl := dF s) (ce := dC s) hm) rfl rfl (soft_cons soft_own (soft_same []))
        rw [hC'] at h
        exact h
      exact there_0 s _ _ _ _ kA (d.2.1 hE hR) kE kC kS _ res_refl
    · have kE : CallSpec Try.prog 27 [fV (slB 0 (dA s).1.length (dA s).1.length) (dF s) (dC s) (slB 1 (dB s).1.length (dB s).1.length)] [.own 39 (pc (dA s).1), .own 39 (pc (dB s).1)] ⟨.tuple #[.string s, .int .i64 0], [.own 39 (pc (dA s).1), .own 39 (pc (dB s).1)], []⟩ := by
        have h := CallSpec.softer (hp' := [.own 39 (pc (dA s).1), .own 39 (pc (dB s).1)]) (encode_bb (l := (dA s).1) (r := (dB s).1) (c := (dA s).1.length) (d := (dB s).1.length) (fl := dF s) (ce := dC s) hm) rfl rfl (soft_cons soft_own (soft_cons soft_own (soft_same [])))
        rw [hT, hC] at h
        exact h
      have kC : CallSpec Try.prog 18 [fV (slB 0 (dA s).1.length (dA s).1.length) (dF s) (dC s) (slB 1 (dB s).1.length (dB s).1.length)] [.own 39 (pc (dA s).1), .own 39 (pc (dB s).1)] ⟨.int .i64 0, [.own 39 (pc (dA s).1), .own 39 (pc (dB s).1)], []⟩ := by
        have h := CallSpec.softer (hp' := [.own 39 (pc (dA s).1), .own 39 (pc (dB s).1)]) (check_bb (l := (dA s).1) (r := (dB s).1) (c := (dA s).1.length) (d := (dB s).1.length) (fl := dF s) (ce := dC s) hm) rfl rfl (soft_cons soft_own (soft_cons soft_own (soft_same [])))
        rw [hC] at h
        exact h
      exact there_1 s _ _ _ _ _ _ kA (d.2.2 hE hR) kE kC kS _ res_refl
  · exact there_e s _ hE kA (d.1 hE) _ res_refl
end Go.Proofs.Ytjalkjeldlchoaa.Ex
end
