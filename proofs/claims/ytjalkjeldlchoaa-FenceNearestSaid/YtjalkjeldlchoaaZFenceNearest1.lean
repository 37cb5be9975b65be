import Derived.Test.YtjalkjeldlchoaaZFnc5
section
set_option linter.unusedSectionVars false
set_option linter.unusedSimpArgs false
set_option linter.unusedVariables false
namespace Go.Proofs.Ytjalkjeldlchoaa.Ex
open Go Go.RowKit Go.Proofs.Ytjalkjeldlchoaa.X
set_option linter.unusedVariables false
theorem touch_mono {a0 a1 b0 b1 x0 x1 y0 y1 u0 u1 v0 v1 : Int} (h : TouchI a0 a1 b0 b1 u0 u1 v0 v1) (hu : u0 ≤ u1) (hv : v0 ≤ v1) (hx : x0 ≤ u0 ∧ u1 ≤ x1) (hy : y0 ≤ v0 ∧ v1 ≤ y1) : TouchI a0 a1 b0 b1 x0 x1 y0 y1 := by
  obtain ⟨h1, h2, h3, h4⟩ := h
  refine ⟨by unfold Ov at *; omega, by unfold Ov at *; omega, fun g => h3 ?_, fun g => h4 ?_⟩
  · have low : ∀ {p q : Int}, InR p q x0 x1 y0 y1 → crossI a0 a1 b0 b1 p q > 0 := fun hp => by
      obtain ⟨X, Y, hX, hY, e⟩ := cross_low (a0 := a0) (a1 := a1) (b0 := b0) (b1 := b1) hp
      have := all_pos g hX hY
      omega
    refine ⟨low ?_, low ?_, low ?_, low ?_⟩ <;> (unfold InR; omega)
  · have high : ∀ {p q : Int}, InR p q x0 x1 y0 y1 → crossI a0 a1 b0 b1 p q < 0 := fun hp => by
      obtain ⟨X, Y, hX, hY, e⟩ := cross_high (a0 := a0) (a1 := a1) (b0 := b0) (b1 := b1) hp
      have := all_neg g hX hY
      omega
    refine ⟨high ?_, high ?_, high ?_, high ?_⟩ <;> (unfold InR; omega)
theorem within_sub {l : List S23} {x0 x1 y0 y1 u0 u1 v0 v1 : Int} (hl : simpleV l = 0) (h : withinV l x0 x1 y0 y1 = true) (hu : u0 ≤ u1) (hv : v0 ≤ v1) (hx : x0 ≤ u0 ∧ u1 ≤ x1) (hy : y0 ≤ v0 ∧ v1 ≤ y1) : withinV l u0 u1 v0 v1 = true := by
  have hs := within_point hl h (p := u1) (q := v1) (by unfold InR; omega)
  obtain ⟨h1, h2, h3, h4⟩ := (withinV_iff hl).1 h
  have b1 : InB u0 ∧ InB u1 := by unfold InB at *; omega
  have b2 : InB v0 ∧ InB v1 := by unfold InB at *; omega
  exact (withinV_iff hl).2 ⟨b1, b2, fun i hi g => h3 i hi ((touchAt_iff hl h1 h2 (by omega) (by omega) hi).2 (touch_mono ((touchAt_iff hl b1 b2 hu hv hi).1 g) hu hv hx hy)), hs⟩
theorem no_vertex {l : List S23} {x0 x1 y0 y1 : Int} (hl : simpleV l = 0) (h : withinV l x0 x1 y0 y1 = true) {i : Nat} (hi : i < l.length) : ¬ InR (pt l i).f0 (pt l i).f1 x0 x1 y0 y1 := fun g => by
  obtain ⟨h1, h2, h3, h4⟩ := (withinV_iff hl).1 h
  have g' := g
  unfold InR at g'
  refine h3 i hi ((touchAt_iff hl h1 h2 (by omega) (by omega) hi).2 ⟨?_, ?_, (in_sides g).1, (in_sides g).2⟩)
  · unfold Ov; omega
  · unfold Ov; omega
end Go.Proofs.Ytjalkjeldlchoaa.Ex
end
section
set_option linter.unusedSectionVars false
set_option linter.unusedSimpArgs false
set_option linter.unusedVariables false
namespace Go.Proofs.Ytjalkjeldlchoaa.Ex
open Go Go.RowKit Go.Proofs.Ytjalkjeldlchoaa.X
set_option linter.unusedVariables false
theorem mn_comm (a b : Int) : mn a b = mn b a := by unfold mn; split <;> split <;> omega
theorem mx_comm (a b : Int) : mx a b = mx b a := by unfold mx; split <;> split <;> omega
theorem quad_comm (a0 a1 b0 b1 : Int) : quad b0 b1 a0 a1 = quad a0 a1 b0 b1 := by unfold quad; rw [Bool.and_comm]
theorem laneE_comm {l r : List S23} {fl ce a0 a1 b0 b1 k : Int} : LaneE l r fl ce b0 b1 a0 a1 k = LaneE l r fl ce a0 a1 b0 b1 k := by unfold LaneE; rw [quad_comm]
theorem laneV_comm {l : List S23} {a0 a1 b0 b1 k : Int} : laneV l b0 b1 a0 a1 k = laneV l a0 a1 b0 b1 k := by unfold laneV; rw [mn_comm b0, mx_comm b0, mn_comm b1, mx_comm b1]
theorem laneB_comm {l r : List S23} {fl ce a0 a1 b0 b1 k : Int} : LaneB l r fl ce b0 b1 a0 a1 k = LaneB l r fl ce a0 a1 b0 b1 k := by unfold LaneB; rw [laneE_comm, laneV_comm]
theorem laneE_zero {l r : List S23} {fl ce a0 a1 b0 b1 k : Int} : LaneE l r fl ce a0 a1 b0 b1 k = 0 ↔ checkV l r fl ce = 0 ∧ quad a0 a1 b0 b1 = true ∧ 0 ≤ k := by
  unfold LaneE
  constructor
  · intro h
    split at h
    · split at h
      · split at h
        · cases h
        · exact ⟨by assumption, by assumption, by omega⟩
      · cases h
    · exact absurd h (by assumption)
  · rintro ⟨h1, h2, h3⟩
    rw [if_pos h1, if_pos h2, if_neg (by omega)]
theorem laned {l r : List S23} {fl ce a0 a1 b0 b1 k : Int} (h : LaneB l r fl ce a0 a1 b0 b1 k = true) : checkV l r fl ce = 0 ∧ simpleV l = 0 ∧ LaneE l r fl ce a0 a1 b0 b1 k = 0 ∧ ((-536870912 ≤ a0 ∧ a0 ≤ 536870912 ∧ -536870912 ≤ a1 ∧ a1 ≤ 536870912) ∧ (-536870912 ≤ b0 ∧ b0 ≤ 536870912 ∧ -536870912 ≤ b1 ∧ b1 ≤ 536870912)) ∧ (0 ≤ k ∧ k ≤ 1073741824) ∧ withinV l (mn a0 b0 - k) (mx a0 b0 + k) (mn a1 b1 - k) (mx a1 b1 + k) = true := by
  unfold LaneB at h
  rw [Bool.and_eq_true, decide_eq_true_eq] at h
  obtain ⟨hE, hl⟩ := h
  obtain ⟨hc, hq, hk⟩ := laneE_zero.1 hE
  have hs := (checkV_zero hc).1
  unfold laneV at hl
  have w := (withinV_iff hs).1 hl
  obtain ⟨⟨q1, q2⟩, q3, q4⟩ := quad_in hq
  unfold InB at q1 q2 q3 q4
  have hk' : k ≤ 1073741824 := by
    have w1 := w.1
    unfold InB mn mx roomV at w1
    omega
  have e : roomV k = k := by unfold roomV; rw [if_neg (by omega)]
  rw [e] at hl
  exact ⟨hc, hs, hE, by omega, by omega, hl⟩
theorem lane_half {l r : List S23} {fl ce a0 a1 b0 b1 k : Int} (h : LaneB l r fl ce a0 a1 b0 b1 k = true) : LaneB l r fl ce a0 a1 b0 b1 (k / 2) = true ∧ LaneE l r fl ce a0 a1 b0 b1 (k / 2) = 0 := by
  obtain ⟨hc, hs, hE, hq, hk, hw⟩ := laned h
  have z := laneE_zero.1 hE
  have hE' : LaneE l r fl ce a0 a1 b0 b1 (k / 2) = 0 := laneE_zero.2 ⟨z.1, z.2.1, by omega⟩
  refine ⟨?_, hE'⟩
  unfold LaneB laneV
  rw [decide_eq_true hE', show roomV (k / 2) = k / 2 by unfold roomV; rw [if_neg (by omega)], Bool.true_and]
  have h0 : mn a0 b0 ≤ mx a0 b0 := by unfold mn mx; split <;> split <;> omega
  have h1 : mn a1 b1 ≤ mx a1 b1 := by unfold mn mx; split <;> split <;> omega
  exact within_sub hs hw (by omega) (by omega) (by omega) (by omega)
end Go.Proofs.Ytjalkjeldlchoaa.Ex
end
section
set_option linter.unusedSectionVars false
set_option linter.unusedSimpArgs false
set_option linter.unusedVariables false
namespace Go.Proofs.Ytjalkjeldlchoaa.Ex
open Go
set_option linter.unusedVariables false
noncomputable def ne_l : Code := loopAt Try.prog 12 0
theorem ne_l_calm : calmC ne_l = true := loopAt_calm tcalm 12 0
noncomputable def ne_lC : Code := .loop ne_l
def frNe (k t i : Int) : Fr := frOf 125 [(2, .int .i64 k), (3, at_ 2 0), (4, at_ 3 0), (7, .int .i64 t), (9, .int .i64 i)]
def keepNe : Xt → List Nat
  | .ret => [6]
  | _ => [2, 3, 4, 7, 9]
def hpNe (n m : Nat) (cs rs : List Value) (fl ce p q : Int) : Hp := [.ro 39 cs, .ro 39 rs, .own 24 [slB 0 n n, .int .i64 fl, .int .i64 ce, slB 1 m m], .own 39 [.int .i64 p, .int .i64 q]]
section
variable (ps qs : List Value) (fl ce p q k e : Int) (he : e ≠ 0) (kL : CallSpec Try.prog 16 [fV slN fl ce slN] [] (.mk (fV (lentV 0 0) fl ce (lentV 1 0)) [.own 39 ps, .own 39 qs] [])) (kA : CallSpec Try.prog 17 [] [] (.mk (.bool true) [] [])) (kC : CallSpec Try.prog 25 [fV (lentV 0 0) fl ce (lentV 1 0), pV p q, .int .i64 k] [.own 39 ps, .own 39 qs] (.mk (.tuple #[.int .i64 0, .int .i64 e]) [.own 39 ps, .own 39 qs] []))
include ps qs fl ce p q k e he kL kA kC
theorem lnearA_nn_p : go (exec (Try.prog) (8) (12) ([fV slN fl ce slN, pV p q, .int .i64 k]) ([])) [(11, .call (.mk (.agg #[(sB 0 0 1), .int .i64 fl, .int .i64 ce, (sB 1 0 1)]) [.own 39 ps, .own 39 qs] [])), (5, .call (.mk (.tuple #[.int .i64 0, .int .i64 e]) [.own 39 ps, .own 39 qs] [])), (11, .dec true), (0, .call (.mk (.bool true) [] []))] = some (.mk (.bool true) [] [], true, [type_of% kL, type_of% kC, (!decide (e = 0)) = true, type_of% kA]) := by kernel_rfl
theorem lnearA_nn (R : Res) (k_p : Res.le (.mk (.bool true) [] []) R) : CallSpec (Try.prog) (12) ([fV slN fl ce slN, pV p q, .int .i64 k]) ([]) R := by
  exact (CallSpec.id (go_ok (exec_ok tnamed tcalm tmixed _ _ _ _) (lnearA_nn_p ps qs fl ce p q k e he kL kA kC ) (aC (kL) (aC (kC) (aC (congrArg not dN) (aC (kA) aN)))))).le (k_p )
end
section
variable (ps qs : List Value) (fl ce p q k e : Int) (he : e ≠ 0) (kL : CallSpec Try.prog 16 [fV slN fl ce (slD 0)] [.dead] (.mk (fV (lentV 1 0) fl ce (lentV 2 0)) [.dead, .own 39 ps, .own 39 qs] [])) (kA : CallSpec Try.prog 17 [] [] (.mk (.bool true) [] [])) (kC : CallSpec Try.prog 25 [fV (lentV 0 0) fl ce (lentV 1 0), pV p q, .int .i64 k] [.own 39 ps, .own 39 qs] (.mk (.tuple #[.int .i64 0, .int .i64 e]) [.own 39 ps, .own 39 qs] []))
include ps qs fl ce p q k e he kL kA kC
theorem lnearA_nd_p : go (exec (Try.prog) (8) (12) ([fV slN fl ce (slD 0), pV p q, .int .i64 k]) ([.dead])) [(11, .call (.mk (.agg #[(sB 1 0 1), .int .i64 fl, .int .i64 ce, (sB 2 0 1)]) [.dead, .own 39 ps, .own 39 qs] [])), (5, .call (.mk (.tuple #[.int .i64 0, .int .i64 e]) [.own 39 ps, .own 39 qs] [])), (11, .dec true), (0, .call (.mk (.bool true) [] []))] = some (.mk (.bool true) [.dead] [], true, [type_of% kL, type_of% kC, (!decide (e = 0)) = true, type_of% kA]) := by kernel_rfl
theorem lnearA_nd (R : Res) (k_p : Res.le (.mk (.bool true) [.dead] []) R) : CallSpec (Try.prog) (12) ([fV slN fl ce (slD 0), pV p q, .int .i64 k]) ([.dead]) R := by
  exact (CallSpec.id (go_ok (exec_ok tnamed tcalm tmixed _ _ _ _) (lnearA_nd_p ps qs fl ce p q k e he kL kA kC ) (aC (kL) (aC (kC) (aC (congrArg not dN) (aC (kA) aN)))))).le (k_p )
end
section
variable (m : Nat) (rs ps qs : List Value) (fl ce p q k e : Int) (he : e ≠ 0) (kL : CallSpec Try.prog 16 [fV slN fl ce (slB 0 m m)] [.ro 39 rs] (.mk (fV (lentV 1 0) fl ce (lentV 2 m)) [.ro 39 rs, .own 39 ps, .own 39 qs] [])) (kA : CallSpec Try.prog 17 [] [] (.mk (.bool true) [] [])) (kC : CallSpec Try.prog 25 [fV (lentV 0 0) fl ce (lentV 1 m), pV p q, .int .i64 k] [.own 39 ps, .own 39 qs] (.mk (.tuple #[.int .i64 0, .int .i64 e]) [.own 39 ps, .own 39 qs] []))
include m rs ps qs fl ce p q k e he kL kA kC
theorem lnearA_nb_p : go (exec (Try.prog) (8) (12) ([fV slN fl ce (slB 0 m m), pV p q, .int .i64 k]) ([.ro 39 rs])) [(11, .call (.mk (.agg #[.slice (some (.mk (List.length [Blk.ro 39 rs]) 0 none)) 0 1, .int .i64 fl, .int .i64 ce, .slice (some (.mk (List.length [Blk.ro 39 rs] + 1) 0 none)) m (m + 1)]) [.ro 39 rs, .own 39 ps, .own 39 qs] [])), (5, .call (.mk (.tuple #[.int .i64 0, .int .i64 e]) [.own 39 ps, .own 39 qs] [])), (11, .dec true), (0, .call (.mk (.bool true) [] []))] = some (.mk (.bool true) [.ro 39 rs] [], true, [type_of% kL, type_of% kC, (!decide (e = 0)) = true, type_of% kA]) := by kernel_rfl
theorem lnearA_nb (R : Res) (k_p : Res.le (.mk (.bool true) [.ro 39 rs] []) R) : CallSpec (Try.prog) (12) ([fV slN fl ce (slB 0 m m), pV p q, .int .i64 k]) ([.ro 39 rs]) R := by
  exact (CallSpec.id (go_ok (exec_ok tnamed tcalm tmixed _ _ _ _) (lnearA_nb_p m rs ps qs fl ce p q k e he kL kA kC ) (aC (kL) (aC (kC) (aC (congrArg not dN) (aC (kA) aN)))))).le (k_p )
end
section
variable (ps qs : List Value) (fl ce p q k e : Int) (he : e ≠ 0) (kL : CallSpec Try.prog 16 [fV (slD 0) fl ce slN] [.dead] (.mk (fV (lentV 1 0) fl ce (lentV 2 0)) [.dead, .own 39 ps, .own 39 qs] [])) (kA : CallSpec Try.prog 17 [] [] (.mk (.bool true) [] [])) (kC : CallSpec Try.prog 25 [fV (lentV 0 0) fl ce (lentV 1 0), pV p q, .int .i64 k] [.own 39 ps, .own 39 qs] (.mk (.tuple #[.int .i64 0, .int .i64 e]) [.own 39 ps, .own 39 qs] []))
include ps qs fl ce p q k e he kL kA kC
theorem lnearA_dn_p : go (exec (Try.prog) (8) (12) ([fV (slD 0) fl ce slN, pV p q, .int .i64 k]) ([.dead])) [(11, .call (.mk (.agg #[(sB 1 0 1), .int .i64 fl, .int .i64 ce, (sB 2 0 1)]) [.dead, .own 39 ps, .own 39 qs] [])), (5, .call (.mk (.tuple #[.int .i64 0, .int .i64 e]) [.own 39 ps, .own 39 qs] [])), (11, .dec true), (0, .call (.mk (.bool true) [] []))] = some (.mk (.bool true) [.dead] [], true, [type_of% kL, type_of% kC, (!decide (e = 0)) = true, type_of% kA]) := by kernel_rfl
theorem lnearA_dn (R : Res) (k_p : Res.le (.mk (.bool true) [.dead] []) R) : CallSpec (Try.prog) (12) ([fV (slD 0) fl ce slN, pV p q, .int .i64 k]) ([.dead]) R := by
  exact (CallSpec.id (go_ok (exec_ok tnamed tcalm tmixed _ _ _ _) (lnearA_dn_p ps qs fl ce p q k e he kL kA kC ) (aC (kL) (aC (kC) (aC (congrArg not dN) (aC (kA) aN)))))).le (k_p )
end
section
variable (ps qs : List Value) (fl ce p q k e : Int) (he : e ≠ 0) (kL : CallSpec Try.prog 16 [fV (slD 0) fl ce (slD 1)] [.dead, .dead] (.mk (fV (lentV 2 0) fl ce (lentV 3 0)) [.dead, .dead, .own 39 ps, .own 39 qs] [])) (kA : CallSpec Try.prog 17 [] [] (.mk (.bool true) [] [])) (kC : CallSpec Try.prog 25 [fV (lentV 0 0) fl ce (lentV 1 0), pV p q, .int .i64 k] [.own 39 ps, .own 39 qs] (.mk (.tuple #[.int .i64 0, .int .i64 e]) [.own 39 ps, .own 39 qs] []))
include ps qs fl ce p q k e he kL kA kC
theorem lnearA_dd_p : go (exec (Try.prog) (8) (12) ([fV (slD 0) fl ce (slD 1), pV p q, .int .i64 k]) ([.dead, .dead])) [(11, .call (.mk (.agg #[(sB 2 0 1), .int .i64 fl, .int .i64 ce, (sB 3 0 1)]) [.dead, .dead, .own 39 ps, .own 39 qs] [])), (5, .call (.mk (.tuple #[.int .i64 0, .int .i64 e]) [.own 39 ps, .own 39 qs] [])), (11, .dec true), (0, .call (.mk (.bool true) [] []))] = some (.mk (.bool true) [.dead, .dead] [], true, [type_of% kL, type_of% kC, (!decide (e = 0)) = true, type_of% kA]) := by kernel_rfl
theorem lnearA_dd (R : Res) (k_p : Res.le (.mk (.bool true) [.dead, .dead] []) R) : CallSpec (Try.prog) (12) ([fV (slD 0) fl ce (slD 1), pV p q, .int .i64 k]) ([.dead, .dead]) R := by
  exact (CallSpec.id (go_ok (exec_ok tnamed tcalm tmixed _ _ _ _) (lnearA_dd_p ps qs fl ce p q k e he kL kA kC ) (aC (kL) (aC (kC) (aC (congrArg not dN) (aC (kA) aN)))))).le (k_p )
end
section
variable (m : Nat) (rs ps qs : List Value) (fl ce p q k e : Int) (he : e ≠ 0) (kL : CallSpec Try.prog 16 [fV (slD 0) fl ce (slB 1 m m)] [.dead, .ro 39 rs] (.mk (fV (lentV 2 0) fl ce (lentV 3 m)) [.dead, .ro 39 rs, .own 39 ps, .own 39 qs] [])) (kA : CallSpec Try.prog 17 [] [] (.mk (.bool true) [] [])) (kC : CallSpec Try.prog 25 [fV (lentV 0 0) fl ce (lentV 1 m), pV p q, .int .i64 k] [.own 39 ps, .own 39 qs] (.mk (.tuple #[.int .i64 0, .int .i64 e]) [.own 39 ps, .own 39 qs] []))
include m rs ps qs fl ce p q k e he kL kA kC
theorem lnearA_db_p : go (exec (Try.prog) (8) (12) ([fV (slD 0) fl ce (slB 1 m m), pV p q, .int .i64 k]) ([.dead, .ro 39 rs])) [(11, .call (.mk (.agg #[.slice (some (.mk (List.length [Blk.dead, Blk.ro 39 rs]) 0 none)) 0 1, .int .i64 fl, .int .i64 ce, .slice (some (.mk (List.length [Blk.dead, Blk.ro 39 rs] + 1) 0 none)) m (m + 1)]) [.dead, .ro 39 rs, .own 39 ps, .own 39 qs] [])), (5, .call (.mk (.tuple #[.int .i64 0, .int .i64 e]) [.own 39 ps, .own 39 qs] [])), (11, .dec true), (0, .call (.mk (.bool true) [] []))] = some (.mk (.bool true) [.dead, .ro 39 rs] [], true, [type_of% kL, type_of% kC, (!decide (e = 0)) = true, type_of% kA]) := by kernel_rfl
theorem lnearA_db (R : Res) (k_p : Res.le (.mk (.bool true) [.dead, .ro 39 rs] []) R) : CallSpec (Try.prog) (12) ([fV (slD 0) fl ce (slB 1 m m), pV p q, .int .i64 k]) ([.dead, .ro 39 rs]) R := by
  exact (CallSpec.id (go_ok (exec_ok tnamed tcalm tmixed _ _ _ _) (lnearA_db_p m rs ps qs fl ce p q k e he kL kA kC ) (aC (kL) (aC (kC) (aC (congrArg not dN) (aC (kA) aN)))))).le (k_p )
end
section
variable (n : Nat) (cs ps qs : List Value) (fl ce p q k e : Int) (he : e ≠ 0) (kL : CallSpec Try.prog 16 [fV (slB 0 n n) fl ce slN] [.ro 39 cs] (.mk (fV (lentV 1 n) fl ce (lentV 2 0)) [.ro 39 cs, .own 39 ps, .own 39 qs] [])) (kA : CallSpec Try.prog 17 [] [] (.mk (.bool true) [] [])) (kC : CallSpec Try.prog 25 [fV (lentV 0 n) fl ce (lentV 1 0), pV p q, .int .i64 k] [.own 39 ps, .own 39 qs] (.mk (.tuple #[.int .i64 0, .int .i64 e]) [.own 39 ps, .own 39 qs] []))
include n cs ps qs fl ce p q k e he kL kA kC
theorem lnearA_bn_p : go (exec (Try.prog) (8) (12) ([fV (slB 0 n n) fl ce slN, pV p q, .int .i64 k]) ([.ro 39 cs])) [(11, .call (.mk (.agg #[.slice (some (.mk (List.length [Blk.ro 39 cs]) 0 none)) n (n + 1), .int .i64 fl, .int .i64 ce, .slice (some (.mk (List.length [Blk.ro 39 cs] + 1) 0 none)) 0 1]) [.ro 39 cs, .own 39 ps, .own 39 qs] [])), (5, .call (.mk (.tuple #[.int .i64 0, .int .i64 e]) [.own 39 ps, .own 39 qs] [])), (11, .dec true), (0, .call (.mk (.bool true) [] []))] = some (.mk (.bool true) [.ro 39 cs] [], true, [type_of% kL, type_of% kC, (!decide (e = 0)) = true, type_of% kA]) := by kernel_rfl
theorem lnearA_bn (R : Res) (k_p : Res.le (.mk (.bool true) [.ro 39 cs] []) R) : CallSpec (Try.prog) (12) ([fV (slB 0 n n) fl ce slN, pV p q, .int .i64 k]) ([.ro 39 cs]) R := by
  exact (CallSpec.id (go_ok (exec_ok tnamed tcalm tmixed _ _ _ _) (lnearA_bn_p n cs ps qs fl ce p q k e he kL kA kC ) (aC (kL) (aC (kC) (aC (congrArg not dN) (aC (kA) aN)))))).le (k_p )
end
section
variable (n : Nat) (cs ps qs : List Value) (fl ce p q k e : Int) (he : e ≠ 0) (kL : CallSpec Try.prog 16 [fV (slB 0 n n) fl ce (slD 1)] [.ro 39 cs, .dead] (.mk (fV (lentV 2 n) fl ce (lentV 3 0)) [.ro 39 cs, .dead, .own 39 ps, .own 39 qs] [])) (kA : CallSpec Try.prog 17 [] [] (.mk (.bool true) [] [])) (kC : CallSpec Try.prog 25 [fV (lentV 0 n) fl ce (lentV 1 0), pV p q, .int .i64 k] [.own 39 ps, .own 39 qs] (.mk (.tuple #[.int .i64 0, .int .i64 e]) [.own 39 ps, .own 39 qs] []))
include n cs ps qs fl ce p q k e he kL kA kC
theorem lnearA_bd_p : go (exec (Try.prog) (8) (12) ([fV (slB 0 n n) fl ce (slD 1), pV p q, .int .i64 k]) ([.ro 39 cs, .dead])) [(11, .call (.mk (.agg #[.slice (some (.mk (List.length [Blk.ro 39 cs, Blk.dead]) 0 none)) n (n + 1), .int .i64 fl, .int .i64 ce, .slice (some (.mk (List.length [Blk.ro 39 cs, Blk.dead] + 1) 0 none)) 0 1]) [.ro 39 cs, .dead, .own 39 ps, .own 39 qs] [])), (5, .call (.mk (.tuple #[.int .i64 0, .int .i64 e]) [.own 39 ps, .own 39 qs] [])), (11, .dec true), (0, .call (.mk (.bool true) [] []))] = some (.mk (.bool true) [.ro 39 cs, .dead] [], true, [type_of% kL, type_of% kC, (!decide (e = 0)) = true, type_of% kA]) := by kernel_rfl
theorem lnearA_bd (R : Res) (k_p : Res.le (.mk (.bool true) [.ro 39 cs, .dead] []) R) : CallSpec (Try.prog) (12) ([fV (slB 0 n n) fl ce (slD 1), pV p q, .int .i64 k]) ([.ro 39 cs, .dead]) R := by
  exact (CallSpec.id (go_ok (exec_ok tnamed tcalm tmixed _ _ _ _) (lnearA_bd_p n cs ps qs fl ce p q k e he kL kA kC ) (aC (kL) (aC (kC) (aC (congrArg not dN) (aC (kA) aN)))))).le (k_p )
end
section
variable (n : Nat) (cs : List Value) (m : Nat) (rs ps qs : List Value) (fl ce p q k e : Int) (he : e ≠ 0) (kL : CallSpec Try.prog 16 [fV (slB 0 n n) fl ce (slB 1 m m)] [.ro 39 cs, .ro 39 rs] (.mk (fV (lentV 2 n) fl ce (lentV 3 m)) [.ro 39 cs, .ro 39 rs, .own 39 ps, .own 39 qs] [])) (kA : CallSpec Try.prog 17 [] [] (.mk (.bool true) [] [])) (kC : CallSpec Try.prog 25 [fV (lentV 0 n) fl ce (lentV 1 m), pV p q, .int .i64 k] [.own 39 ps, .own 39 qs] (.mk (.tuple #[.int .i64 0, .int .i64 e]) [.own 39 ps, .own 39 qs] []))
include n cs m rs ps qs fl ce p q k e he kL kA kC
theorem lnearA_bb_p : go (exec (Try.prog) (8) (12) ([fV (slB 0 n n) fl ce (slB 1 m m), pV p q, .int .i64 k]) ([.ro 39 cs, .ro 39 rs])) [(11, .call (.mk (.agg #[.slice (some (.mk (List.length [Blk.ro 39 cs, Blk.ro 39 rs]) 0 none)) n (n + 1), .int .i64 fl, .int .i64 ce, .slice (some (.mk (List.length [Blk.ro 39 cs, Blk.ro 39 rs] + 1) 0 none)) m (m + 1)]) [.ro 39 cs, .ro 39 rs, .own 39 ps, .own 39 qs] [])), (5, .call (.mk (.tuple #[.int .i64 0, .int .i64 e]) [.own 39 ps, .own 39 qs] [])), (11, .dec true), (0, .call (.mk (.bool true) [] []))] = some (.mk (.bool true) [.ro 39 cs, .ro 39 rs] [], true, [type_of% kL, type_of% kC, (!decide (e = 0)) = true, type_of% kA]) := by kernel_rfl
theorem lnearA_bb (R : Res) (k_p : Res.le (.mk (.bool true) [.ro 39 cs, .ro 39 rs] []) R) : CallSpec (Try.prog) (12) ([fV (slB 0 n n) fl ce (slB 1 m m), pV p q, .int .i64 k]) ([.ro 39 cs, .ro 39 rs]) R := by
  exact (CallSpec.id (go_ok (exec_ok tnamed tcalm tmixed _ _ _ _) (lnearA_bb_p n cs m rs ps qs fl ce p q k e he kL kA kC ) (aC (kL) (aC (kC) (aC (congrArg not dN) (aC (kA) aN)))))).le (k_p )
end
section
variable (n : Nat) (cs ps qs : List Value) (fl ce p q k : Int) (kL : CallSpec Try.prog 16 [fV (slB 0 n n) fl ce slN] [.ro 39 cs] (.mk (fV (lentV 1 n) fl ce (lentV 2 0)) [.ro 39 cs, .own 39 ps, .own 39 qs] [])) (kA : CallSpec Try.prog 17 [] [] (.mk (.bool true) [] [])) (kC : CallSpec Try.prog 25 [fV (lentV 0 n) fl ce (lentV 1 0), pV p q, .int .i64 k] [.own 39 ps, .own 39 qs] (.mk (.tuple #[.int .i64 (-1), .int .i64 0]) [.own 39 ps, .own 39 qs] []))
include n cs ps qs fl ce p q k kL kA kC
theorem lnearB_bn_p : go (exec (Try.prog) (8) (12) ([fV (slB 0 n n) fl ce slN, pV p q, .int .i64 k]) ([.ro 39 cs])) [(11, .call (.mk (.agg #[.slice (some (.mk (List.length [Blk.ro 39 cs]) 0 none)) n (n + 1), .int .i64 fl, .int .i64 ce, .slice (some (.mk (List.length [Blk.ro 39 cs] + 1) 0 none)) 0 1]) [.ro 39 cs, .own 39 ps, .own 39 qs] [])), (5, .call (.mk (.tuple #[.int .i64 (-1), .int .i64 0]) [.own 39 ps, .own 39 qs] [])), (41, .call (.mk (.bool true) [] []))] = some (.mk (.bool true) [.ro 39 cs] [], true, [type_of% kL, type_of% kC, type_of% kA]) := by kernel_rfl
theorem lnearB_bn (R : Res) (k_p : Res.le (.mk (.bool true) [.ro 39 cs] []) R) : CallSpec (Try.prog) (12) ([fV (slB 0 n n) fl ce slN, pV p q, .int .i64 k]) ([.ro 39 cs]) R := by
  exact (CallSpec.id (go_ok (exec_ok tnamed tcalm tmixed _ _ _ _) (lnearB_bn_p n cs ps qs fl ce p q k kL kA kC ) (aC (kL) (aC (kC) (aC (kA) aN))))).le (k_p )
end
section
variable (n : Nat) (cs ps qs : List Value) (fl ce p q k : Int) (kL : CallSpec Try.prog 16 [fV (slB 0 n n) fl ce (slD 1)] [.ro 39 cs, .dead] (.mk (fV (lentV 2 n) fl ce (lentV 3 0)) [.ro 39 cs, .dead, .own 39 ps, .own 39 qs] [])) (kA : CallSpec Try.prog 17 [] [] (.mk (.bool true) [] [])) (kC : CallSpec Try.prog 25 [fV (lentV 0 n) fl ce (lentV 1 0), pV p q, .int .i64 k] [.own 39 ps, .own 39 qs] (.mk (.tuple #[.int .i64 (-1), .int .i64 0]) [.own 39 ps, .own 39 qs] []))
include n cs ps qs fl ce p q k kL kA kC
theorem lnearB_bd_p : go (exec (Try.prog) (8) (12) ([fV (slB 0 n n) fl ce (slD 1), pV p q, .int .i64 k]) ([.ro 39 cs, .dead])) [(11, .call (.mk (.agg #[.slice (some (.mk (List.length [Blk.ro 39 cs, Blk.dead]) 0 none)) n (n + 1), .int .i64 fl, .int .i64 ce, .slice (some (.mk (List.length [Blk.ro 39 cs, Blk.dead] + 1) 0 none)) 0 1]) [.ro 39 cs, .dead, .own 39 ps, .own 39 qs] [])), (5, .call (.mk (.tuple #[.int .i64 (-1), .int .i64 0]) [.own 39 ps, .own 39 qs] [])), (41, .call (.mk (.bool true) [] []))] = some (.mk (.bool true) [.ro 39 cs, .dead] [], true, [type_of% kL, type_of% kC, type_of% kA]) := by kernel_rfl
theorem lnearB_bd (R : Res) (k_p : Res.le (.mk (.bool true) [.ro 39 cs, .dead] []) R) : CallSpec (Try.prog) (12) ([fV (slB 0 n n) fl ce (slD 1), pV p q, .int .i64 k]) ([.ro 39 cs, .dead]) R := by
  exact (CallSpec.id (go_ok (exec_ok tnamed tcalm tmixed _ _ _ _) (lnearB_bd_p n cs ps qs fl ce p q k kL kA kC ) (aC (kL) (aC (kC) (aC (kA) aN))))).le (k_p )
end
section
variable (n : Nat) (cs : List Value) (m : Nat) (rs ps qs : List Value) (fl ce p q k t i x y : Int) (hi : 0 ≤ i ∧ i ≤ (↑m : Int)) (hm : m ≤ 8) (hl : List.length rs = m * 2) (hA : i < (↑m : Int) → ptAt rs i x y) (tx ty ft fi : Int) (hT : i < (↑m : Int) → ptAt rs t tx ty) (ht : i < (↑m : Int) → (0 ≤ t ∧ t < (↑m : Int)) ∧ ft ≤ fi ∧ (fi = ft → t ≤ i)) (kL : CallSpec Try.prog 16 [fV (slB 0 n n) fl ce (slB 1 m m)] [.ro 39 cs, .ro 39 rs] (.mk (fV (lentV 2 n) fl ce (lentV 3 m)) [.ro 39 cs, .ro 39 rs, .own 39 ps, .own 39 qs] [])) (kN : i < (↑m : Int) → CallSpec Try.prog 23 [fV (lentV 0 n) fl ce (lentV 1 m), pV p q, (a2 x y), .int .i64 k] [.own 39 ps, .own 39 qs] (.mk (.tuple #[.bool true, .int .i64 0]) [.own 39 ps, .own 39 qs] [])) (kF : i < (↑m : Int) → CallSpec Try.prog 37 [pV p q, (a2 tx ty)] [] (.mk (.tuple #[.int .i64 ft, .int .i64 0]) [] [])) (kG : i < (↑m : Int) → CallSpec Try.prog 37 [pV p q, (a2 x y)] [] (.mk (.tuple #[.int .i64 fi, .int .i64 0]) [] []))
include n cs m rs ps qs fl ce p q k t i x y hi hm hl hA tx ty ft fi hT ht kL kN kF kG
theorem lnearT_pttt : go (body (Try.prog) (8) (2) (8) (keepNe) (ne_l) (frNe k t i) (hpNe n m cs rs fl ce p q)) [(7, .dec true), (2, .call (.mk (.agg #[.slice (some (.mk (List.length [Blk.ro 39 cs, Blk.ro 39 rs]) 0 none)) n (n + 1), .int .i64 fl, .int .i64 ce, .slice (some (.mk (List.length [Blk.ro 39 cs, Blk.ro 39 rs] + 1) 0 none)) m (m + 1)]) [.ro 39 cs, .ro 39 rs, .own 39 ps, .own 39 qs] [])), (8, Itm.must), (1, Itm.must), (0, Itm.val ((a2 x y))), (1, .call (.mk (.tuple #[.bool true, .int .i64 0]) [.own 39 ps, .own 39 qs] [])), (19, .dec true), (1, .dec true), (2, .dec true), (10, .dec false), (1, .dec false), (8, .dec true), (1, .dec true), (9, Itm.must), (1, Itm.must), (0, Itm.val ((a2 x y))), (0, .call (.mk (.tuple #[.int .i64 fi, .int .i64 0]) [] [])), (14, Itm.must), (1, Itm.must), (0, Itm.val ((a2 tx ty))), (0, .call (.mk (.tuple #[.int .i64 ft, .int .i64 0]) [] [])), (27, .dec false), (1, .dec false), (1, .dec false), (1, .dec false), (1, .dec true), (1, .dec true), (1, .dec true), (1, .dec false), (0, .dec true), (1, .dec false), (2, .dec false), (1, Itm.val (.int .i64 (i + 1)))] = some (Out.mk Xt.normal (frOf 125 [(2, .int .i64 k), (3, (pA 2)), (4, (pA 3)), (7, .int .i64 t), (9, .int .i64 (i + 1))]) [.ro 39 cs, .ro 39 rs, .own 24 [(sB 0 n n), .int .i64 fl, .int .i64 ce, (sB 1 m m)], .own 39 [.int .i64 p, .int .i64 q]] [], true, [decide (i < (↑m : Int)) = true, type_of% kL, inside i m = true, decide (0 + Int.toNat i * 2 + 2 ≤ List.length rs) = true, Value.agg (List.toArray (List.take 2 (List.drop (0 + Int.toNat i * 2) rs))) = (a2 x y), CallSpec Try.prog 23 [.agg #[(sB 0 n (n + 1)), .int .i64 fl, .int .i64 ce, (sB 1 m (m + 1))], (a2 p q), (a2 x y), .int .i64 k] [.own 39 ps, .own 39 qs] (.mk (.tuple #[.bool true, .int .i64 0]) [.own 39 ps, .own 39 qs] []), decide (i = t) = true, decide (i = t) = true, decide (i = t) = true, decide (t < 0) = false, decide (t < 0) = false, decide (t ≥ 0) = true, decide (t ≥ 0) = true, inside i m = true, decide (0 + Int.toNat i * 2 + 2 ≤ List.length rs) = true, Value.agg (List.toArray (List.take 2 (List.drop (0 + Int.toNat i * 2) rs))) = (a2 x y), CallSpec Try.prog 37 [(a2 p q), (a2 x y)] [] (.mk (.tuple #[.int .i64 fi, .int .i64 0]) [] []), inside t m = true, decide (0 + Int.toNat t * 2 + 2 ≤ List.length rs) = true, Value.agg (List.toArray (List.take 2 (List.drop (0 + Int.toNat t * 2) rs))) = (a2 tx ty), CallSpec Try.prog 37 [(a2 p q), (a2 tx ty)] [] (.mk (.tuple #[.int .i64 ft, .int .i64 0]) [] []), decide (fi < ft) = false, decide (fi < ft) = false, decide (fi < ft) = false, decide (fi < ft) = false, decide (fi = ft) = true, decide (fi = ft) = true, decide (fi = ft) = true, decide (fi < ft) = false, decide (fi = ft) = true, decide (fi < ft) = false, decide (i < t) = false, Value.int .i64 (IntKind.wrap .i64 (i + 1)) = .int .i64 (i + 1)]) := by kernel_rfl
theorem lnearT_pttf : go (body (Try.prog) (8) (2) (8) (keepNe) (ne_l) (frNe k t i) (hpNe n m cs rs fl ce p q)) [(7, .dec true), (2, .call (.mk (.agg #[.slice (some (.mk (List.length [Blk.ro 39 cs, Blk.ro 39 rs]) 0 none)) n (n + 1), .int .i64 fl, .int .i64 ce, .slice (some (.mk (List.length [Blk.ro 39 cs, Blk.ro 39 rs] + 1) 0 none)) m (m + 1)]) [.ro 39 cs, .ro 39 rs, .own 39 ps, .own 39 qs] [])), (8, Itm.must), (1, Itm.must), (0, Itm.val ((a2 x y))), (1, .call (.mk (.tuple #[.bool true, .int .i64 0]) [.own 39 ps, .own 39 qs] [])), (19, .dec true), (1, .dec true), (2, .dec true), (10, .dec false), (1, .dec false), (8, .dec true), (1, .dec true), (9, Itm.must), (1, Itm.must), (0, Itm.val ((a2 x y))), (0, .call (.mk (.tuple #[.int .i64 fi, .int .i64 0]) [] [])), (14, Itm.must), (1, Itm.must), (0, Itm.val ((a2 tx ty))), (0, .call (.mk (.tuple #[.int .i64 ft, .int .i64 0]) [] [])), (27, .dec false), (1, .dec false), (1, .dec false), (1, .dec false), (1, .dec false), (0, .dec false), (0, .dec false), (0, .dec false), (0, .dec false), (1, .dec false), (4, Itm.val (.int .i64 (i + 1)))] = some (Out.mk Xt.normal (frOf 125 [(2, .int .i64 k), (3, (pA 2)), (4, (pA 3)), (7, .int .i64 t), (9, .int .i64 (i + 1))]) [.ro 39 cs, .ro 39 rs, .own 24 [(sB 0 n n), .int .i64 fl, .int .i64 ce, (sB 1 m m)], .own 39 [.int .i64 p, .int .i64 q]] [], true, [decide (i < (↑m : Int)) = true, type_of% kL, inside i m = true, decide (0 + Int.toNat i * 2 + 2 ≤ List.length rs) = true, Value.agg (List.toArray (List.take 2 (List.drop (0 + Int.toNat i * 2) rs))) = (a2 x y), CallSpec Try.prog 23 [.agg #[(sB 0 n (n + 1)), .int .i64 fl, .int .i64 ce, (sB 1 m (m + 1))], (a2 p q), (a2 x y), .int .i64 k] [.own 39 ps, .own 39 qs] (.mk (.tuple #[.bool true, .int .i64 0]) [.own 39 ps, .own 39 qs] []), decide (i = t) = true, decide (i = t) = true, decide (i = t) = true, decide (t < 0) = false, decide (t < 0) = false, decide (t ≥ 0) = true, decide (t ≥ 0) = true, inside i m = true, decide (0 + Int.toNat i * 2 + 2 ≤ List.length rs) = true, Value.agg (List.toArray (List.take 2 (List.drop (0 + Int.toNat i * 2) rs))) = (a2 x y), CallSpec Try.prog 37 [(a2 p q), (a2 x y)] [] (.mk (.tuple #[.int .i64 fi, .int .i64 0]) [] []), inside t m = true, decide (0 + Int.toNat t * 2 + 2 ≤ List.length rs) = true, Value.agg (List.toArray (List.take 2 (List.drop (0 + Int.toNat t * 2) rs))) = (a2 tx ty), CallSpec Try.prog 37 [(a2 p q), (a2 tx ty)] [] (.mk (.tuple #[.int .i64 ft, .int .i64 0]) [] []), decide (fi < ft) = false, decide (fi < ft) = false, decide (fi < ft) = false, decide (fi < ft) = false, decide (fi = ft) = false, decide (fi = ft) = false, decide (fi = ft) = false, decide (fi < ft) = false, decide (fi = ft) = false, decide (fi < ft) = false, Value.int .i64 (IntKind.wrap .i64 (i + 1)) = .int .i64 (i + 1)]) := by kernel_rfl
theorem lnearT_ptft : go (body (Try.prog) (8) (2) (8) (keepNe) (ne_l) (frNe k t i) (hpNe n m cs rs fl ce p q)) [(7, .dec true), (2, .call (.mk (.agg #[.slice (some (.mk (List.length [Blk.ro 39 cs, Blk.ro 39 rs]) 0 none)) n (n + 1), .int .i64 fl, .int .i64 ce, .slice (some (.mk (List.length [Blk.ro 39 cs, Blk.ro 39 rs] + 1) 0 none)) m (m + 1)]) [.ro 39 cs, .ro 39 rs, .own 39 ps, .own 39 qs] [])), (8, Itm.must), (1, Itm.must), (0, Itm.val ((a2 x y))), (1, .call (.mk (.tuple #[.bool true, .int .i64 0]) [.own 39 ps, .own 39 qs] [])), (19, .dec false), (0, .dec false), (1, .dec false), (10, .dec false), (1, .dec false), (8, .dec true), (1, .dec true), (9, Itm.must), (1, Itm.must), (0, Itm.val ((a2 x y))), (0, .call (.mk (.tuple #[.int .i64 fi, .int .i64 0]) [] [])), (14, Itm.must), (1, Itm.must), (0, Itm.val ((a2 tx ty))), (0, .call (.mk (.tuple #[.int .i64 ft, .int .i64 0]) [] [])), (27, .dec false), (1, .dec false), (1, .dec false), (1, .dec false), (1, .dec true), (1, .dec true), (1, .dec true), (1, .dec false), (0, .dec true), (1, .dec false), (2, .dec false), (1, Itm.val (.int .i64 (i + 1)))] = some (Out.mk Xt.normal (frOf 125 [(2, .int .i64 k), (3, (pA 2)), (4, (pA 3)), (7, .int .i64 t), (9, .int .i64 (i + 1))]) [.ro 39 cs, .ro 39 rs, .own 24 [(sB 0 n n), .int .i64 fl, .int .i64 ce, (sB 1 m m)], .own 39 [.int .i64 p, .int .i64 q]] [], true, [decide (i < (↑m : Int)) = true, type_of% kL, inside i m = true, decide (0 + Int.toNat i * 2 + 2 ≤ List.length rs) = true, Value.agg (List.toArray (List.take 2 (List.drop (0 + Int.toNat i * 2) rs))) = (a2 x y), CallSpec Try.prog 23 [.agg #[(sB 0 n (n + 1)), .int .i64 fl, .int .i64 ce, (sB 1 m (m + 1))], (a2 p q), (a2 x y), .int .i64 k] [.own 39 ps, .own 39 qs] (.mk (.tuple #[.bool true, .int .i64 0]) [.own 39 ps, .own 39 qs] []), decide (i = t) = false, decide (i = t) = false, decide (i = t) = false, decide (t < 0) = false, decide (t < 0) = false, decide (t ≥ 0) = true, decide (t ≥ 0) = true, inside i m = true, decide (0 + Int.toNat i * 2 + 2 ≤ List.length rs) = true, Value.agg (List.toArray (List.take 2 (List.drop (0 + Int.toNat i * 2) rs))) = (a2 x y), CallSpec Try.prog 37 [(a2 p q), (a2 x y)] [] (.mk (.tuple #[.int .i64 fi, .int .i64 0]) [] []), inside t m = true, decide (0 + Int.toNat t * 2 + 2 ≤ List.length rs) = true, Value.agg (List.toArray (List.take 2 (List.drop (0 + Int.toNat t * 2) rs))) = (a2 tx ty), CallSpec Try.prog 37 [(a2 p q), (a2 tx ty)] [] (.mk (.tuple #[.int .i64 ft, .int .i64 0]) [] []), decide (fi < ft) = false, decide (fi < ft) = false, decide (fi < ft) = false, decide (fi < ft) = false, decide (fi = ft) = true, decide (fi = ft) = true, decide (fi = ft) = true, decide (fi < ft) = false, decide (fi = ft) = true, decide (fi < ft) = false, decide (i < t) = false, Value.int .i64 (IntKind.wrap .i64 (i + 1)) = .int .i64 (i + 1)]) := by kernel_rfl
theorem lnearT_ptff : go (body (Try.prog) (8) (2) (8) (keepNe) (ne_l) (frNe k t i) (hpNe n m cs rs fl ce p q)) [(7, .dec true), (2, .call (.mk (.agg #[.slice (some (.mk (List.length [Blk.ro 39 cs, Blk.ro 39 rs]) 0 none)) n (n + 1), .int .i64 fl, .int .i64 ce, .slice (some (.mk (List.length [Blk.ro 39 cs, Blk.ro 39 rs] + 1) 0 none)) m (m + 1)]) [.ro 39 cs, .ro 39 rs, .own 39 ps, .own 39 qs] [])), (8, Itm.must), (1, Itm.must), (0, Itm.val ((a2 x y))), (1, .call (.mk (.tuple #[.bool true, .int .i64 0]) [.own 39 ps, .own 39 qs] [])), (19, .dec false), (0, .dec false), (1, .dec false), (10, .dec false), (1, .dec false), (8, .dec true), (1, .dec true), (9, Itm.must), (1, Itm.must), (0, Itm.val ((a2 x y))), (0, .call (.mk (.tuple #[.int .i64 fi, .int .i64 0]) [] [])), (14, Itm.must), (1, Itm.must), (0, Itm.val ((a2 tx ty))), (0, .call (.mk (.tuple #[.int .i64 ft, .int .i64 0]) [] [])), (27, .dec false), (1, .dec false), (1, .dec false), (1, .dec false), (1, .dec false), (0, .dec false), (0, .dec false), (0, .dec false), (0, .dec false), (1, .dec false), (4, Itm.val (.int .i64 (i + 1)))] = some (Out.mk Xt.normal (frOf 125 [(2, .int .i64 k), (3, (pA 2)), (4, (pA 3)), (7, .int .i64 t), (9, .int .i64 (i + 1))]) [.ro 39 cs, .ro 39 rs, .own 24 [(sB 0 n n), .int .i64 fl, .int .i64 ce, (sB 1 m m)], .own 39 [.int .i64 p, .int .i64 q]] [], true, [decide (i < (↑m : Int)) = true, type_of% kL, inside i m = true, decide (0 + Int.toNat i * 2 + 2 ≤ List.length rs) = true, Value.agg (List.toArray (List.take 2 (List.drop (0 + Int.toNat i * 2) rs))) = (a2 x y), CallSpec Try.prog 23 [.agg #[(sB 0 n (n + 1)), .int .i64 fl, .int .i64 ce, (sB 1 m (m + 1))], (a2 p q), (a2 x y), .int .i64 k] [.own 39 ps, .own 39 qs] (.mk (.tuple #[.bool true, .int .i64 0]) [.own 39 ps, .own 39 qs] []), decide (i = t) = false, decide (i = t) = false, decide (i = t) = false, decide (t < 0) = false, decide (t < 0) = false, decide (t ≥ 0) = true, decide (t ≥ 0) = true, inside i m = true, decide (0 + Int.toNat i * 2 + 2 ≤ List.length rs) = true, Value.agg (List.toArray (List.take 2 (List.drop (0 + Int.toNat i * 2) rs))) = (a2 x y), CallSpec Try.prog 37 [(a2 p q), (a2 x y)] [] (.mk (.tuple #[.int .i64 fi, .int .i64 0]) [] []), inside t m = true, decide (0 + Int.toNat t * 2 + 2 ≤ List.length rs) = true, Value.agg (List.toArray (List.take 2 (List.drop (0 + Int.toNat t * 2) rs))) = (a2 tx ty), CallSpec Try.prog 37 [(a2 p q), (a2 tx ty)] [] (.mk (.tuple #[.int .i64 ft, .int .i64 0]) [] []), decide (fi < ft) = false, decide (fi < ft) = false, decide (fi < ft) = false, decide (fi < ft) = false, decide (fi = ft) = false, decide (fi = ft) = false, decide (fi = ft) = false, decide (fi < ft) = false, decide (fi = ft) = false, decide (fi < ft) = false, Value.int .i64 (IntKind.wrap .i64 (i + 1)) = .int .i64 (i + 1)]) := by kernel_rfl
theorem lnearT_pf : go (body (Try.prog) (8) (2) (8) (keepNe) (ne_l) (frNe k t i) (hpNe n m cs rs fl ce p q)) [(7, .dec false)] = some (Out.mk (Xt.exit 0) (frOf 125 [(2, .int .i64 k), (3, (pA 2)), (4, (pA 3)), (7, .int .i64 t), (9, .int .i64 i)]) [.ro 39 cs, .ro 39 rs, .own 24 [(sB 0 n n), .int .i64 fl, .int .i64 ce, (sB 1 m m)], .own 39 [.int .i64 p, .int .i64 q]] [], true, [decide (i < (↑m : Int)) = false]) := by kernel_rfl
theorem lnearT (R : Out) (k_pttt : (h0 : i < (↑m : Int)) → (h1 : i = t) → (h2 : fi = ft) → Out.le (Out.mk Xt.normal (frOf 125 [(2, .int .i64 k), (3, (pA 2)), (4, (pA 3)), (7, .int .i64 t), (9, .int .i64 (i + 1))]) [.ro 39 cs, .ro 39 rs, .own 24 [(sB 0 n n), .int .i64 fl, .int .i64 ce, (sB 1 m m)], .own 39 [.int .i64 p, .int .i64 q]] []) R) (k_pttf : (h0 : i < (↑m : Int)) → (h1 : i = t) → (h2 : ¬ (fi = ft)) → Out.le (Out.mk Xt.normal (frOf 125 [(2, .int .i64 k), (3, (pA 2)), (4, (pA 3)), (7, .int .i64 t), (9, .int .i64 (i + 1))]) [.ro 39 cs, .ro 39 rs, .own 24 [(sB 0 n n), .int .i64 fl, .int .i64 ce, (sB 1 m m)], .own 39 [.int .i64 p, .int .i64 q]] []) R) (k_ptft : (h0 : i < (↑m : Int)) → (h1 : ¬ (i = t)) → (h2 : fi = ft) → Out.le (Out.mk Xt.normal (frOf 125 [(2, .int .i64 k), (3, (pA 2)), (4, (pA 3)), (7, .int .i64 t), (9, .int .i64 (i + 1))]) [.ro 39 cs, .ro 39 rs, .own 24 [(sB 0 n n), .int .i64 fl, .int .i64 ce, (sB 1 m m)], .own 39 [.int .i64 p, .int .i64 q]] []) R) (k_ptff : (h0 : i < (↑m : Int)) → (h1 : ¬ (i = t)) → (h2 : ¬ (fi = ft)) → Out.le (Out.mk Xt.normal (frOf 125 [(2, .int .i64 k), (3, (pA 2)), (4, (pA 3)), (7, .int .i64 t), (9, .int .i64 (i + 1))]) [.ro 39 cs, .ro 39 rs, .own 24 [(sB 0 n n), .int .i64 fl, .int .i64 ce, (sB 1 m m)], .own 39 [.int .i64 p, .int .i64 q]] []) R) (k_pf : (h0 : ¬ (i < (↑m : Int))) → Out.le (Out.mk (Xt.exit 0) (frOf 125 [(2, .int .i64 k), (3, (pA 2)), (4, (pA 3)), (7, .int .i64 t), (9, .int .i64 i)]) [.ro 39 cs, .ro 39 rs, .own 24 [(sB 0 n n), .int .i64 fl, .int .i64 ce, (sB 1 m m)], .own 39 [.int .i64 p, .int .i64 q]] []) R) : CodeSpec (Try.prog) (2) (ne_l) (frNe k t i) (hpNe n m cs rs fl ce p q) R := by
  by_cases h0 : i < (↑m : Int)
  · by_cases h1 : i = t
    · by_cases h2 : fi = ft
      · exact (CodeSpec.id (go_ok (body_ok tnamed tcalm tmixed _ _ _ _ _ _ ne_l_calm) (lnearT_pttt n cs m rs ps qs fl ce p q k t i x y hi hm hl hA tx ty ft fi hT ht kL kN kF kG ) (aC (dT h0) (aC (kL) (aC (inside_of (by omega)) (aC dO (aC ((hA (by omega))) (aC (kN (by omega)) (aC (dT h1) (aC (dT h1) (aC (dT h1) (aC dN (aC dN (aC dO (aC dO (aC (inside_of (by omega)) (aC dO (aC ((hA (by omega))) (aC (kG (by omega)) (aC (inside_of (by omega)) (aC dO (aC ((hT (by omega))) (aC (kF (by omega)) (aC dN (aC dN (aC dN (aC dN (aC (dT h2) (aC (dT h2) (aC (dT h2) (aC dN (aC (dT h2) (aC dN (aC dN (aC (congrArg (Value.int _) (Go.IntWalk.i64_in _ (by omega))) aN))))))))))))))))))))))))))))))))))).le (k_pttt h0 h1 h2)
      · exact (CodeSpec.id (go_ok (body_ok tnamed tcalm tmixed _ _ _ _ _ _ ne_l_calm) (lnearT_pttf n cs m rs ps qs fl ce p q k t i x y hi hm hl hA tx ty ft fi hT ht kL kN kF kG ) (aC (dT h0) (aC (kL) (aC (inside_of (by omega)) (aC dO (aC ((hA (by omega))) (aC (kN (by omega)) (aC (dT h1) (aC (dT h1) (aC (dT h1) (aC dN (aC dN (aC dO (aC dO (aC (inside_of (by omega)) (aC dO (aC ((hA (by omega))) (aC (kG (by omega)) (aC (inside_of (by omega)) (aC dO (aC ((hT (by omega))) (aC (kF (by omega)) (aC dN (aC dN (aC dN (aC dN (aC (dF h2) (aC (dF h2) (aC (dF h2) (aC dN (aC (dF h2) (aC dN (aC (congrArg (Value.int _) (Go.IntWalk.i64_in _ (by omega))) aN)))))))))))))))))))))))))))))))))).le (k_pttf h0 h1 h2)
    · by_cases h2 : fi = ft
      · exact (CodeSpec.id (go_ok (body_ok tnamed tcalm tmixed _ _ _ _ _ _ ne_l_calm) (lnearT_ptft n cs m rs ps qs fl ce p q k t i x y hi hm hl hA tx ty ft fi hT ht kL kN kF kG ) (aC (dT h0) (aC (kL) (aC (inside_of (by omega)) (aC dO (aC ((hA (by omega))) (aC (kN (by omega)) (aC (dF h1) (aC (dF h1) (aC (dF h1) (aC dN (aC dN (aC dO (aC dO (aC (inside_of (by omega)) (aC dO (aC ((hA (by omega))) (aC (kG (by omega)) (aC (inside_of (by omega)) (aC dO (aC ((hT (by omega))) (aC (kF (by omega)) (aC dN (aC dN (aC dN (aC dN (aC (dT h2) (aC (dT h2) (aC (dT h2) (aC dN (aC (dT h2) (aC dN (aC dN (aC (congrArg (Value.int _) (Go.IntWalk.i64_in _ (by omega))) aN))))))))))))))))))))))))))))))))))).le (k_ptft h0 h1 h2)
      · exact (CodeSpec.id (go_ok (body_ok tnamed tcalm tmixed _ _ _ _ _ _ ne_l_calm) (lnearT_ptff n cs m rs ps qs fl ce p q k t i x y hi hm hl hA tx ty ft fi hT ht kL kN kF kG ) (aC (dT h0) (aC (kL) (aC (inside_of (by omega)) (aC dO (aC ((hA (by omega))) (aC (kN (by omega)) (aC (dF h1) (aC (dF h1) (aC (dF h1) (aC dN (aC dN (aC dO (aC dO (aC (inside_of (by omega)) (aC dO (aC ((hA (by omega))) (aC (kG (by omega)) (aC (inside_of (by omega)) (aC dO (aC ((hT (by omega))) (aC (kF (by omega)) (aC dN (aC dN (aC dN (aC dN (aC (dF h2) (aC (dF h2) (aC (dF h2) (aC dN (aC (dF h2) (aC dN (aC (congrArg (Value.int _) (Go.IntWalk.i64_in _ (by omega))) aN)))))))))))))))))))))))))))))))))).le (k_ptff h0 h1 h2)
  · exact (CodeSpec.id (go_ok (body_ok tnamed tcalm tmixed _ _ _ _ _ _ ne_l_calm) (lnearT_pf n cs m rs ps qs fl ce p q k t i x y hi hm hl hA tx ty ft fi hT ht kL kN kF kG ) (aC (dF h0) aN))).le (k_pf h0)
end
section
variable (n : Nat) (cs : List Value) (m : Nat) (rs ps qs : List Value) (fl ce p q k t i x y : Int) (hi : 0 ≤ i ∧ i ≤ (↑m : Int)) (hm : m ≤ 8) (hl : List.length rs = m * 2) (hA : i < (↑m : Int) → ptAt rs i x y) (ht : i < (↑m : Int) → i ≠ t) (kL : CallSpec Try.prog 16 [fV (slB 0 n n) fl ce (slB 1 m m)] [.ro 39 cs, .ro 39 rs] (.mk (fV (lentV 2 n) fl ce (lentV 3 m)) [.ro 39 cs, .ro 39 rs, .own 39 ps, .own 39 qs] [])) (kN : i < (↑m : Int) → CallSpec Try.prog 23 [fV (lentV 0 n) fl ce (lentV 1 m), pV p q, (a2 x y), .int .i64 k] [.own 39 ps, .own 39 qs] (.mk (.tuple #[.bool false, .int .i64 0]) [.own 39 ps, .own 39 qs] []))
include n cs m rs ps qs fl ce p q k t i x y hi hm hl hA ht kL kN
theorem lnearF_ptt : go (body (Try.prog) (8) (2) (8) (keepNe) (ne_l) (frNe k t i) (hpNe n m cs rs fl ce p q)) [(7, .dec true), (2, .call (.mk (.agg #[.slice (some (.mk (List.length [Blk.ro 39 cs, Blk.ro 39 rs]) 0 none)) n (n + 1), .int .i64 fl, .int .i64 ce, .slice (some (.mk (List.length [Blk.ro 39 cs, Blk.ro 39 rs] + 1) 0 none)) m (m + 1)]) [.ro 39 cs, .ro 39 rs, .own 39 ps, .own 39 qs] [])), (8, Itm.must), (1, Itm.must), (0, Itm.val ((a2 x y))), (1, .call (.mk (.tuple #[.bool false, .int .i64 0]) [.own 39 ps, .own 39 qs] [])), (19, .dec false), (0, .dec false), (1, .dec false), (10, .dec true), (2, .dec true), (8, .dec false), (0, .dec false), (4, Itm.val (.int .i64 (i + 1)))] = some (Out.mk Xt.normal (frOf 125 [(2, .int .i64 k), (3, (pA 2)), (4, (pA 3)), (7, .int .i64 t), (9, .int .i64 (i + 1))]) [.ro 39 cs, .ro 39 rs, .own 24 [(sB 0 n n), .int .i64 fl, .int .i64 ce, (sB 1 m m)], .own 39 [.int .i64 p, .int .i64 q]] [], true, [decide (i < (↑m : Int)) = true, type_of% kL, inside i m = true, decide (0 + Int.toNat i * 2 + 2 ≤ List.length rs) = true, Value.agg (List.toArray (List.take 2 (List.drop (0 + Int.toNat i * 2) rs))) = (a2 x y), CallSpec Try.prog 23 [.agg #[(sB 0 n (n + 1)), .int .i64 fl, .int .i64 ce, (sB 1 m (m + 1))], (a2 p q), (a2 x y), .int .i64 k] [.own 39 ps, .own 39 qs] (.mk (.tuple #[.bool false, .int .i64 0]) [.own 39 ps, .own 39 qs] []), decide (i = t) = false, decide (i = t) = false, decide (i = t) = false, decide (t < 0) = true, decide (t < 0) = true, decide (t ≥ 0) = false, decide (t ≥ 0) = false, Value.int .i64 (IntKind.wrap .i64 (i + 1)) = .int .i64 (i + 1)]) := by kernel_rfl
theorem lnearF_ptf : go (body (Try.prog) (8) (2) (8) (keepNe) (ne_l) (frNe k t i) (hpNe n m cs rs fl ce p q)) [(7, .dec true), (2, .call (.mk (.agg #[.slice (some (.mk (List.length [Blk.ro 39 cs, Blk.ro 39 rs]) 0 none)) n (n + 1), .int .i64 fl, .int .i64 ce, .slice (some (.mk (List.length [Blk.ro 39 cs, Blk.ro 39 rs] + 1) 0 none)) m (m + 1)]) [.ro 39 cs, .ro 39 rs, .own 39 ps, .own 39 qs] [])), (8, Itm.must), (1, Itm.must), (0, Itm.val ((a2 x y))), (1, .call (.mk (.tuple #[.bool false, .int .i64 0]) [.own 39 ps, .own 39 qs] [])), (19, .dec false), (0, .dec false), (1, .dec false), (10, .dec false), (1, .dec false), (8, .dec true), (1, .dec true), (4, Itm.val (.int .i64 (i + 1)))] = some (Out.mk Xt.normal (frOf 125 [(2, .int .i64 k), (3, (pA 2)), (4, (pA 3)), (7, .int .i64 t), (9, .int .i64 (i + 1))]) [.ro 39 cs, .ro 39 rs, .own 24 [(sB 0 n n), .int .i64 fl, .int .i64 ce, (sB 1 m m)], .own 39 [.int .i64 p, .int .i64 q]] [], true, [decide (i < (↑m : Int)) = true, type_of% kL, inside i m = true, decide (0 + Int.toNat i * 2 + 2 ≤ List.length rs) = true, Value.agg (List.toArray (List.take 2 (List.drop (0 + Int.toNat i * 2) rs))) = (a2 x y), CallSpec Try.prog 23 [.agg #[(sB 0 n (n + 1)), .int .i64 fl, .int .i64 ce, (sB 1 m (m + 1))], (a2 p q), (a2 x y), .int .i64 k] [.own 39 ps, .own 39 qs] (.mk (.tuple #[.bool false, .int .i64 0]) [.own 39 ps, .own 39 qs] []), decide (i = t) = false, decide (i = t) = false, decide (i = t) = false, decide (t < 0) = false, decide (t < 0) = false, decide (t ≥ 0) = true, decide (t ≥ 0) = true, Value.int .i64 (IntKind.wrap .i64 (i + 1)) = .int .i64 (i + 1)]) := by kernel_rfl
theorem lnearF_pf : go (body (Try.prog) (8) (2) (8) (keepNe) (ne_l) (frNe k t i) (hpNe n m cs rs fl ce p q)) [(7, .dec false)] = some (Out.mk (Xt.exit 0) (frOf 125 [(2, .int .i64 k), (3, (pA 2)), (4, (pA 3)), (7, .int .i64 t), (9, .int .i64 i)]) [.ro 39 cs, .ro 39 rs, .own 24 [(sB 0 n n), .int .i64 fl, .int .i64 ce, (sB 1 m m)], .own 39 [.int .i64 p, .int .i64 q]] [], true, [decide (i < (↑m : Int)) = false]) := by kernel_rfl
theorem lnearF (R : Out) (k_ptt : (h0 : i < (↑m : Int)) → (h1 : t < 0) → Out.le (Out.mk Xt.normal (frOf 125 [(2, .int .i64 k), (3, (pA 2)), (4, (pA 3)), (7, .int .i64 t), (9, .int .i64 (i + 1))]) [.ro 39 cs, .ro 39 rs, .own 24 [(sB 0 n n), .int .i64 fl, .int .i64 ce, (sB 1 m m)], .own 39 [.int .i64 p, .int .i64 q]] []) R) (k_ptf : (h0 : i < (↑m : Int)) → (h1 : ¬ (t < 0)) → Out.le (Out.mk Xt.normal (frOf 125 [(2, .int .i64 k), (3, (pA 2)), (4, (pA 3)), (7, .int .i64 t), (9, .int .i64 (i + 1))]) [.ro 39 cs, .ro 39 rs, .own 24 [(sB 0 n n), .int .i64 fl, .int .i64 ce, (sB 1 m m)], .own 39 [.int .i64 p, .int .i64 q]] []) R) (k_pf : (h0 : ¬ (i < (↑m : Int))) → Out.le (Out.mk (Xt.exit 0) (frOf 125 [(2, .int .i64 k), (3, (pA 2)), (4, (pA 3)), (7, .int .i64 t), (9, .int .i64 i)]) [.ro 39 cs, .ro 39 rs, .own 24 [(sB 0 n n), .int .i64 fl, .int .i64 ce, (sB 1 m m)], .own 39 [.int .i64 p, .int .i64 q]] []) R) : CodeSpec (Try.prog) (2) (ne_l) (frNe k t i) (hpNe n m cs rs fl ce p q) R := by
  by_cases h0 : i < (↑m : Int)
  · by_cases h1 : t < 0
    · exact (CodeSpec.id (go_ok (body_ok tnamed tcalm tmixed _ _ _ _ _ _ ne_l_calm) (lnearF_ptt n cs m rs ps qs fl ce p q k t i x y hi hm hl hA ht kL kN ) (aC (dT h0) (aC (kL) (aC (inside_of (by omega)) (aC dO (aC ((hA (by omega))) (aC (kN (by omega)) (aC dN (aC dN (aC dN (aC (dT h1) (aC (dT h1) (aC dN (aC dN (aC (congrArg (Value.int _) (Go.IntWalk.i64_in _ (by omega))) aN)))))))))))))))).le (k_ptt h0 h1)
    · exact (CodeSpec.id (go_ok (body_ok tnamed tcalm tmixed _ _ _ _ _ _ ne_l_calm) (lnearF_ptf n cs m rs ps qs fl ce p q k t i x y hi hm hl hA ht kL kN ) (aC (dT h0) (aC (kL) (aC (inside_of (by omega)) (aC dO (aC ((hA (by omega))) (aC (kN (by omega)) (aC dN (aC dN (aC dN (aC (dF h1) (aC (dF h1) (aC dO (aC dO (aC (congrArg (Value.int _) (Go.IntWalk.i64_in _ (by omega))) aN)))))))))))))))).le (k_ptf h0 h1)
  · exact (CodeSpec.id (go_ok (body_ok tnamed tcalm tmixed _ _ _ _ _ _ ne_l_calm) (lnearF_pf n cs m rs ps qs fl ce p q k t i x y hi hm hl hA ht kL kN ) (aC (dF h0) aN))).le (k_pf h0)
end
section
variable (n : Nat) (cs : List Value) (m : Nat) (rs ps qs : List Value) (fl ce p q k t : Int) (ht : -1 ≤ t ∧ t < (↑m : Int)) (kL : CallSpec Try.prog 16 [fV (slB 0 n n) fl ce (slB 1 m m)] [.ro 39 cs, .ro 39 rs] (.mk (fV (lentV 2 n) fl ce (lentV 3 m)) [.ro 39 cs, .ro 39 rs, .own 39 ps, .own 39 qs] [])) (kA : CallSpec Try.prog 17 [] [] (.mk (.bool true) [] [])) (kC : CallSpec Try.prog 25 [fV (lentV 0 n) fl ce (lentV 1 m), pV p q, .int .i64 k] [.own 39 ps, .own 39 qs] (.mk (.tuple #[.int .i64 t, .int .i64 0]) [.own 39 ps, .own 39 qs] [])) (hL : CodeSpec Try.prog 2 ne_lC (frNe k t 0) (hpNe n m cs rs fl ce p q) (Out.mk (Xt.exit 0) (frNe k t (↑m : Int)) (hpNe n m cs rs fl ce p q) []))
include n cs m rs ps qs fl ce p q k t ht kL kA kC hL
theorem lnearB_bb_p : go (exec (Try.prog) (8) (12) ([fV (slB 0 n n) fl ce (slB 1 m m), pV p q, .int .i64 k]) ([.ro 39 cs, .ro 39 rs])) [(11, .call (.mk (.agg #[.slice (some (.mk (List.length [Blk.ro 39 cs, Blk.ro 39 rs]) 0 none)) n (n + 1), .int .i64 fl, .int .i64 ce, .slice (some (.mk (List.length [Blk.ro 39 cs, Blk.ro 39 rs] + 1) 0 none)) m (m + 1)]) [.ro 39 cs, .ro 39 rs, .own 39 ps, .own 39 qs] [])), (5, .call (.mk (.tuple #[.int .i64 t, .int .i64 0]) [.own 39 ps, .own 39 qs] [])), (15, .dec false), (1, .dec false), (1, .dec false), (2, .dec false), (1, .dec false), (1, .dec false), (2, .dec false), (2, Itm.loop [2, 3, 4, 7, 9] (Out.mk (Xt.exit 0) (frOf 125 [(2, .int .i64 k), (3, (pA 2)), (4, (pA 3)), (7, .int .i64 t), (9, .int .i64 (↑m : Int))]) [.ro 39 cs, .ro 39 rs, .own 24 [(sB 0 n n), .int .i64 fl, .int .i64 ce, (sB 1 m m)], .own 39 [.int .i64 p, .int .i64 q]] [])), (0, .call (.mk (.bool true) [] []))] = some (.mk (.bool true) [.ro 39 cs, .ro 39 rs] [], true, [type_of% kL, type_of% kC, decide (t < -1) = false, decide (t < -1) = false, decide (t < -1) = false, decide (t < -1) = false, decide (t < -1) = false, decide (t < -1) = false, decide (t ≥ (↑m : Int)) = false, type_of% hL, type_of% kA]) := by kernel_rfl
theorem lnearB_bb (R : Res) (k_p : Res.le (.mk (.bool true) [.ro 39 cs, .ro 39 rs] []) R) : CallSpec (Try.prog) (12) ([fV (slB 0 n n) fl ce (slB 1 m m), pV p q, .int .i64 k]) ([.ro 39 cs, .ro 39 rs]) R := by
  exact (CallSpec.id (go_ok (exec_ok tnamed tcalm tmixed _ _ _ _) (lnearB_bb_p n cs m rs ps qs fl ce p q k t ht kL kA kC hL ) (aC (kL) (aC (kC) (aC dN (aC dN (aC dN (aC dN (aC dN (aC dN (aC dN (aC (hL) (aC (kA) aN))))))))))))).le (k_p )
end
end Go.Proofs.Ytjalkjeldlchoaa.Ex
end
section
set_option linter.unusedSectionVars false
set_option linter.unusedSimpArgs false
set_option linter.unusedVariables false
namespace Go.Proofs.Ytjalkjeldlchoaa.Ex
open Go Go.RowKit Go.Proofs.Ytjalkjeldlchoaa.X
set_option linter.unusedVariables false
abbrev farAt (p q : Int) (R : List S23) (u : Nat) : Int := farA p q (pt R u).f0 (pt R u).f1
def NearI (L : S23 → Bool) (p q : Int) (R : List S23) (i : Nat) (s : Int × Int) : Prop :=
  (s.1 = -1 ∧ ∀ u, u < i → L (pt R u) = false) ∨
  ∃ t : Nat, s.1 = t ∧ t < i ∧ L (pt R t) = true ∧ s.2 = farAt p q R t ∧ ∀ u, u < i → L (pt R u) = true → s.2 ≤ farAt p q R u ∧ (farAt p q R u = s.2 → t ≤ u)
theorem near_inv {L : S23 → Bool} {p q : Int} {R : List S23} : ∀ (j i : Nat) (s : Int × Int), i + j = R.length → NearI L p q R i s → NearI L p q R R.length (nearV L p q (R.drop i) i s)
  | 0, i, s, hi, h => by
    obtain rfl : i = R.length := by omega
    rw [List.drop_length]
    exact h
  | j + 1, i, s, hi, h => by
    rw [drop_pt (by omega), nearV]
    refine near_inv j (i + 1) _ (by omega) ?_
    by_cases c : (s.1 < 0 ∨ farA p q (pt R i).f0 (pt R i).f1 < s.2) ∧ L (pt R i) = true
    · rw [if_pos c]
      refine .inr ⟨i, rfl, by omega, c.2, rfl, fun u hu hL => ?_⟩
      show farAt p q R i ≤ farAt p q R u ∧ (farAt p q R u = farAt p q R i → i ≤ u)
      by_cases e : u = i
      · subst e
        exact ⟨Int.le_refl _, fun _ => Nat.le_refl _⟩
      rcases h with ⟨h1, h2⟩ | ⟨t, h1, h2, h3, h4, h5⟩
      · rw [h2 u (by omega)] at hL
        cases hL
      · have k := h5 u (by omega) hL
        have d : farAt p q R i < s.2 := by
          rcases c.1 with c | c
          · omega
          · exact c
        exact ⟨by omega, fun g => by omega⟩
    · rw [if_neg c]
      rcases h with ⟨h1, h2⟩ | ⟨t, h1, h2, h3, h4, h5⟩
      · refine .inl ⟨h1, fun u hu => ?_⟩
        by_cases e : u = i
        · subst e
          cases g : L (pt R u) with
          | false => rfl
          | true => exact absurd ⟨.inl (by omega), g⟩ c
        · exact h2 u (by omega)
      · refine .inr ⟨t, h1, by omega, h3, h4, fun u hu hL => ?_⟩
        by_cases e : u = i
        · subst e
          have d : ¬ farAt p q R u < s.2 := fun g => c ⟨.inr g, hL⟩
          exact ⟨by omega, fun _ => by omega⟩
        · exact h5 u (by omega) hL
theorem near_is (L : S23 → Bool) (p q : Int) (R : List S23) : NearI L p q R R.length (nearV L p q R 0 (-1, 0)) :=
  near_inv R.length 0 (-1, 0) (by omega) (.inl ⟨rfl, fun u hu => by omega⟩)
theorem rallyE_zero {l r : List S23} {fl ce p q k : Int} : RallyE l r fl ce p q k = 0 ↔ checkV l r fl ce = 0 ∧ (inQ p && inQ q) = true ∧ 0 ≤ k := by
  unfold RallyE
  constructor
  · intro h
    split at h
    · split at h
      · split at h
        · cases h
        · exact ⟨by assumption, by assumption, by omega⟩
      · cases h
    · exact absurd h (by assumption)
  · rintro ⟨h1, h2, h3⟩
    rw [if_pos h1, if_pos h2, if_neg (by omega)]
theorem farE_ok {p q x y : Int} (hp : (inQ p && inQ q) = true) (hx : InB x ∧ InB y) : farE p q x y = 0 := by
  rw [Bool.and_eq_true, inQ_iff, inQ_iff] at hp
  unfold farE
  rw [if_neg (by rw [(outP_eq _ _).2 hp, (outP_eq _ _).2 hx]; simp)]
theorem lane_ok' {l r : List S23} {fl ce p q k : Int} (h : RallyE l r fl ce p q k = 0) {i : Nat} (hi : i < r.length) : LaneE l r fl ce p q (pt r i).f0 (pt r i).f1 k = 0 ∧ LaneB l r fl ce p q (pt r i).f0 (pt r i).f1 k = laneV l p q (pt r i).f0 (pt r i).f1 k ∧ InB (pt r i).f0 ∧ InB (pt r i).f1 := by
  obtain ⟨hc, hp, hk⟩ := rallyE_zero.1 h
  have b := rallyV_in (checkV_zero hc).2.2 i hi
  have hE : LaneE l r fl ce p q (pt r i).f0 (pt r i).f1 k = 0 := laneE_zero.2 ⟨hc, by unfold quad; rw [hp, inQ_iff.2 b.1, inQ_iff.2 b.2]; rfl, hk⟩
  refine ⟨hE, ?_, b⟩
  unfold LaneB
  rw [decide_eq_true hE, Bool.true_and]
end Go.Proofs.Ytjalkjeldlchoaa.Ex
end
section
set_option linter.unusedSectionVars false
set_option linter.unusedSimpArgs false
set_option linter.unusedVariables false
namespace Go.Proofs.Ytjalkjeldlchoaa.Ex
open Go Go.RowKit Go.Proofs.Ytjalkjeldlchoaa.X
set_option linter.unusedVariables false
theorem ne_told {l r : List S23} {fl ce p q k t : Int} (hl : l.length * 16 ≤ 140737488351232) (hr : r.length * 16 ≤ 140737488351232) (hE : RallyE l r fl ce p q k = 0) (hm : r.length ≤ 8) (s : Int × Int) (ht : s.1 = t) (hI : NearI (fun x => laneV l p q x.f0 x.f1 k) p q r r.length s)
    (kL : CallSpec Try.prog 16 [fV (slB 0 l.length l.length) fl ce (slB 1 r.length r.length)] [.ro 39 (pc l), .ro 39 (pc r)] ⟨fV (lentV 2 l.length) fl ce (lentV 3 r.length), [.ro 39 (pc l), .ro 39 (pc r), lentB l, lentB r], []⟩) :
    CodeSpec Try.prog 2 ne_lC (frNe k t 0) (hpNe l.length r.length (pc l) (pc r) fl ce p q) ⟨.exit 0, frNe k t r.length, hpNe l.length r.length (pc l) (pc r) fl ce p q, []⟩ := by
  obtain ⟨hc, hp, hk⟩ := rallyE_zero.1 hE
  have kF : ∀ u, u < r.length → CallSpec Try.prog 37 [pV p q, .agg #[.int .i64 (pt r u).f0, .int .i64 (pt r u).f1]] [] ⟨.tuple #[.int .i64 (farAt p q r u), .int .i64 0], [], []⟩ := fun u hu => by
    have h := gfar_done p q (pt r u).f0 (pt r u).f1
    rw [farE_ok hp (lane_ok' hE hu).2.2] at h
    exact h
  have kN : ∀ u, u < r.length → CallSpec Try.prog 23 [fV (lentV 0 l.length) fl ce (lentV 1 r.length), pV p q, .agg #[.int .i64 (pt r u).f0, .int .i64 (pt r u).f1], .int .i64 k] [lentB l, lentB r] ⟨.tuple #[.bool (laneV l p q (pt r u).f0 (pt r u).f1 k), .int .i64 0], [lentB l, lentB r], []⟩ := fun u hu => by
    have h := CallSpec.wide (hp' := ownH (.pts l) (.pts r)) (Lane_bb (l := l) (r := r) (c := l.length + 1) (d := r.length + 1) (fl := fl) (ce := ce) (by omega) p q (pt r u).f0 (pt r u).f1 k) rfl rfl (wide_lent (.pts l) (.pts r))
    rw [(lane_ok' hE hu).1, (lane_ok' hE hu).2.1] at h
    exact h
  have rnd : ∀ u, u < r.length → CodeSpec Try.prog 2 ne_l (frNe k t u) (hpNe l.length r.length (pc l) (pc r) fl ce p q) ⟨.normal, frNe k t ((u + 1 : Nat) : Int), hpNe l.length r.length (pc l) (pc r) fl ce p q, []⟩ := fun u hu => by
    have kN := kN u hu
    cases hL : laneV l p q (pt r u).f0 (pt r u).f1 k with
    | true =>
      rw [hL] at kN
      rcases hI with ⟨h1, h2⟩ | ⟨v, h1, h2, h3, h4, h5⟩
      · have := h2 u hu
        rw [show (fun x : S23 => laneV l p q x.f0 x.f1 k) (pt r u) = laneV l p q (pt r u).f0 (pt r u).f1 k from rfl, hL] at this
        cases this
      · obtain rfl : t = (v : Int) := by omega
        have g := h5 u hu hL
        rw [h4] at g
        exact lnearT _ _ _ _ _ _ _ _ _ _ _ _ _ _ _ ⟨by omega, by omega⟩ hm (pc_len r) (fun _ => ptAt_of hu) _ _ _ _ (fun _ => ptAt_of h2) (fun _ => ⟨⟨by omega, by omega⟩, g.1, fun e => by have := g.2 e; omega⟩) kL (fun _ => kN) (fun _ => kF v h2) (fun _ => kF u hu) _ (fun _ _ _ => out_eq) (fun _ _ _ => out_eq) (fun _ _ _ => out_eq) (fun _ _ _ => out_eq) (fun h => absurd (by omega) h)
    | false =>
      rw [hL] at kN
      have hne : (u : Int) ≠ t := fun e => by
        rcases hI with ⟨h1, h2⟩ | ⟨v, h1, h2, h3, h4, h5⟩
        · omega
        · obtain rfl : v = u := by omega
          rw [show (fun x : S23 => laneV l p q x.f0 x.f1 k) (pt r v) = laneV l p q (pt r v).f0 (pt r v).f1 k from rfl, hL] at h3
          cases h3
      exact lnearF _ _ _ _ _ _ _ _ _ _ _ _ _ _ _ ⟨by omega, by omega⟩ hm (pc_len r) (fun _ => ptAt_of hu) (fun _ => hne) kL (fun _ => kN) _ (fun _ _ => out_eq) (fun _ _ => out_eq) (fun h => absurd (by omega) h)
  have h := any_rounds (P := Try.prog) (m0 := 2) (c := ne_l) (fr := frNe k t) (hp := hpNe l.length r.length (pc l) (pc r) fl ce p q) (rt := ⟨.ret, frOf 125 [], [], []⟩) (ex := ⟨.exit 0, frNe k t r.length, hpNe l.length r.length (pc l) (pc r) fl ce p q, []⟩) (f := fun _ => false) (n := r.length) (lo := 0) (by intro h; cases h) (by intro h; cases h)
    (fun i _ hi h => by cases h) (fun i _ hi _ => rnd i hi)
    (lnearF l.length (pc l) r.length (pc r) _ _ fl ce p q k t r.length 0 0 ⟨by omega, by omega⟩ hm (pc_len r) (fun h => by omega) (fun h => by omega) kL (fun h => by omega) _ (fun h => by omega) (fun h => by omega) (fun _ => out_eq))
    r.length 0 (Nat.le_refl _) (by omega)
  exact (h.2 (anyF_of_not fun i hi g => by cases g)).code
theorem near_law (kA : CallSpec Try.prog 17 [] [] ⟨.bool true, [], []⟩) (P R : Pk) (fl ce p q k : Int) (hP : P.Fits) (hR : R.Fits) : CallSpec Try.prog 12 [fA P R fl ce, pV p q, .int .i64 k] (fH P R) ⟨.bool true, fH P R, []⟩ := by
  have kL := lent_done P R fl ce hP hR
  have kC := CallSpec.wide (hp' := ownH P R) (rally_bb (l := P.list) (r := R.list) (c := P.list.length + 1) (d := R.list.length + 1) (fl := fl) (ce := ce) hP.m p q k) rfl rfl (wide_lent P R)
  by_cases hE : RallyE P.list R.list fl ce p q k = 0
  · rw [hE, RallyA, if_pos hE] at kC
    have hc := (rallyE_zero.1 hE).1
    have hs := (checkV_zero hc).1
    have hm := limV_le (checkV_zero hc).2.1
    cases P with
    | nil => exact absurd hs not_simple_nil
    | emp => exact absurd hs not_simple_nil
    | pts l =>
      cases R with
      | nil => exact lnearB_bn _ _ _ _ _ _ _ _ _ kL kA kC _ res_refl
      | emp => exact lnearB_bd _ _ _ _ _ _ _ _ _ kL kA kC _ res_refl
      | pts r =>
        have hI := near_is (fun x => laneV l p q x.f0 x.f1 k) p q r
        have ht : -1 ≤ (nearV (fun x => laneV l p q x.f0 x.f1 k) p q r 0 (-1, 0)).1 ∧ (nearV (fun x => laneV l p q x.f0 x.f1 k) p q r 0 (-1, 0)).1 < r.length := by
          rcases hI with ⟨h1, h2⟩ | ⟨v, h1, h2, _⟩ <;> omega
        have hL := ne_told hP hR hE hm _ rfl hI kL
        exact lnearB_bb _ _ _ _ _ _ _ _ _ _ _ _ ht kL kA kC hL _ res_refl
  · have he := hE
    rw [RallyA, if_neg hE] at kC
    cases P <;> cases R
    · exact lnearA_nn _ _ _ _ _ _ _ _ he kL kA kC _ res_refl
    · exact lnearA_nd _ _ _ _ _ _ _ _ he kL kA kC _ res_refl
    · exact lnearA_nb _ _ _ _ _ _ _ _ _ _ he kL kA kC _ res_refl
    · exact lnearA_dn _ _ _ _ _ _ _ _ he kL kA kC _ res_refl
    · exact lnearA_dd _ _ _ _ _ _ _ _ he kL kA kC _ res_refl
    · exact lnearA_db _ _ _ _ _ _ _ _ _ _ he kL kA kC _ res_refl
    · exact lnearA_bn _ _ _ _ _ _ _ _ _ _ he kL kA kC _ res_refl
    · exact lnearA_bd _ _ _ _ _ _ _ _ _ _ he kL kA kC _ res_refl
    · exact lnearA_bb _ _ _ _ _ _ _ _ _ _ _ _ he kL kA kC _ res_refl
end Go.Proofs.Ytjalkjeldlchoaa.Ex
end
