/- Near a corner: no other side comes near it; and the local identity there. -/
import Derived.Test.YtannklfnfacpeaaXMEdge
import Derived.Test.YtannklfnfacpeaaXMSpike
namespace Go.Proofs.Ytannklfnfacpeaa.X
open Go.RowKit
set_option linter.unusedVariables false
set_option linter.unusedSimpArgs false
/-- A number beyond all that a polygon's crosses can be. -/
def BIG : Int := 1180591620717411303424
theorem mul_small {x y m : Int} (hm : 0 ≤ m) (hx : -m ≤ x ∧ x ≤ m) (hy : -m ≤ y ∧ y ≤ m) : -(m * m) ≤ x * y ∧ x * y ≤ m * m := by
  have h1 := Int.mul_nonneg (a := m - x) (b := m + y) (by omega) (by omega)
  have h2 := Int.mul_nonneg (a := m + x) (b := m - y) (by omega) (by omega)
  have h3 := Int.mul_nonneg (a := m - x) (b := m - y) (by omega) (by omega)
  have h4 := Int.mul_nonneg (a := m + x) (b := m + y) (by omega) (by omega)
  rw [Int.sub_mul, Int.mul_add, Int.mul_add] at h1
  rw [Int.add_mul, Int.mul_sub, Int.mul_sub] at h2
  rw [Int.sub_mul, Int.mul_sub, Int.mul_sub] at h3
  rw [Int.add_mul, Int.mul_add, Int.mul_add] at h4
  omega
/-- The cross of a scaled side and a point near a scaled point. -/
theorem cross_near (K a0 a1 b0 b1 v0 v1 e0 e1 : Int) : crossI (K * a0) (K * a1) (K * b0) (K * b1) (K * v0 + e0) (K * v1 + e1) = K * (K * crossI a0 a1 b0 b1 v0 v1 + ((b0 - a0) * e1 - (b1 - a1) * e0)) := by
  unfold crossI
  simp only [Int.mul_sub, Int.sub_mul, Int.mul_add, Int.add_mul, Int.mul_assoc, Int.mul_comm, Int.mul_left_comm]
  omega
def InC (x : Int) : Prop := -1073741824 ≤ x ∧ x ≤ 1073741824
/-- A side that does not hold v keeps away from what is near v. -/
theorem far_near {a0 a1 b0 b1 v0 v1 d0 d1 e0 e1 : Int} (ha : InC a0 ∧ InC a1) (hb : InC b0 ∧ InC b1) (hv : InC v0 ∧ InC v1) (hd : (-2147483648 ≤ d0 ∧ d0 ≤ 2147483648) ∧ (-2147483648 ≤ d1 ∧ d1 ≤ 2147483648)) (he : (-2147483648 ≤ e0 ∧ e0 ≤ 2147483648) ∧ (-2147483648 ≤ e1 ∧ e1 ≤ 2147483648))
    (hn : ¬ OnI a0 a1 b0 b1 v0 v1) : ¬ GeoI (BIG * a0) (BIG * a1) (BIG * b0) (BIG * b1) (BIG * v0 + d0) (BIG * v1 + d1) (BIG * v0 + e0) (BIG * v1 + e1) := by
  rintro ⟨ox, oy, s, _⟩
  unfold InC at ha hb hv
  by_cases c : crossI a0 a1 b0 b1 v0 v1 = 0
  · have hb' : ¬ (Btw a0 b0 v0 ∧ Btw a1 b1 v1) := fun h => hn ⟨c, h.1, h.2⟩
    clear s hn c
    unfold Btw at hb'
    unfold Ov BIG at ox oy
    omega
  · rw [cross_near, cross_near] at s
    have k1 := mul_small (x := b0 - a0) (y := d1) (m := 2147483648) (by omega) (by omega) (by omega)
    have k2 := mul_small (x := b1 - a1) (y := d0) (m := 2147483648) (by omega) (by omega) (by omega)
    have k3 := mul_small (x := b0 - a0) (y := e1) (m := 2147483648) (by omega) (by omega) (by omega)
    have k4 := mul_small (x := b1 - a1) (y := e0) (m := 2147483648) (by omega) (by omega) (by omega)
    clear ox oy hn ha hb hv hd he
    generalize (b0 - a0) * d1 = t1 at *
    generalize (b1 - a1) * d0 = t2 at *
    generalize (b0 - a0) * e1 = t3 at *
    generalize (b1 - a1) * e0 = t4 at *
    generalize crossI a0 a1 b0 b1 v0 v1 = x at *
    apply s
    unfold Same BIG
    omega
/-- Does a side go up (or lie and go left)? -/
def upw (a0 a1 b0 b1 : Int) : Int := if a1 < b1 ∨ (a1 = b1 ∧ b0 < a0) then 1 else 0
theorem cross_arm (K x y z t : Int) : crossI x y z t (K * x) (K * y) = -((K - 1) * (x * t - y * z)) ∧ crossI x y z t (K * z) (K * t) = -((K - 1) * (x * t - y * z)) ∧
    crossI (K * x) (K * y) 0 0 z t = -(K * (x * t - y * z)) ∧ crossI 0 0 (K * z) (K * t) x y = -(K * (x * t - y * z)) := by
  unfold crossI
  simp only [Int.mul_sub, Int.sub_mul, Int.mul_assoc, Int.mul_comm, Int.mul_left_comm, Int.zero_sub, Int.sub_zero, Int.zero_mul, Int.mul_zero, Int.mul_neg, Int.neg_mul, Int.mul_one, Int.one_mul]
  refine ⟨?_, ?_, ?_, ?_⟩ <;> omega
theorem no_spike_sign {x y z t : Int} (hs : x * t - y * z = 0 → x * z + y * t < 0) : x * t - y * z = 0 → ¬ (0 < y ∧ 0 < t) ∧ ¬ (y < 0 ∧ t < 0) := by
  intro h
  have hd := hs h
  have e : (x * z) * (y * t) = (x * t) * (x * t) := by
    calc (x * z) * (y * t) = (x * t) * (y * z) := by simp only [Int.mul_assoc, Int.mul_comm, Int.mul_left_comm]
      _ = (x * t) * (x * t) := by rw [show y * z = x * t by omega]
  have sq : 0 ≤ (x * t) * (x * t) := by
    by_cases g : 0 ≤ x * t
    · exact Int.mul_nonneg g g
    · rw [← Int.neg_mul_neg]; exact Int.mul_nonneg (by omega) (by omega)
  have key : ¬ (0 < y * t) := by
    intro g
    have := Int.mul_neg_of_neg_of_pos (show x * z < 0 by omega) g
    omega
  refine ⟨fun g => key (Int.mul_pos g.1 g.2), fun g => key ?_⟩
  rw [← Int.neg_mul_neg]
  exact Int.mul_pos (by omega) (by omega)
theorem sign_mul {u v : Int} (hv : 0 < v) : (0 < u * v ↔ 0 < u) ∧ (u * v < 0 ↔ u < 0) := by
  obtain ⟨k1, k2, k3, k4⟩ := mul_sg (u := u) hv
  exact ⟨⟨fun h => by by_cases c : 0 < u; exact c; have := k4 (by omega); omega, k1⟩, ⟨fun h => by by_cases c : u < 0; exact c; have := k3 (by omega); omega, k2⟩⟩
/-- The corner at 0 between the arms from (x, y) and to (z, t): what the two sides that meet there leave over. -/
theorem corner_up {x y z t : Int} (hy : -2147483648 ≤ y ∧ y ≤ 2147483648) (ht : -2147483648 ≤ t ∧ t ≤ 2147483648) (hyt : y ≤ t) (h1 : ¬ (x = 0 ∧ y = 0)) (h2 : ¬ (z = 0 ∧ t = 0)) (hs : x * t - y * z = 0 → x * z + y * t < 0) :
    pot x y z t (BIG * x) (BIG * y) - pot x y z t (BIG * z) (BIG * t) - wst z t (BIG * x) (BIG * y) 0 0 + wst x y 0 0 (BIG * z) (BIG * t) = upw 0 0 z t - upw x y 0 0 := by
  obtain ⟨c1, c2, c3, c4⟩ := cross_arm BIG x y z t
  unfold pot wst upw
  rw [c1, c2, c3, c4]
  have hns := no_spike_sign hs
  have hz : y = 0 → t = 0 → (x < 0 ∧ 0 < z) ∨ (0 < x ∧ z < 0) := by
    intro e1 e2
    have := hs (by rw [e1, e2]; simp)
    rw [e1, Int.zero_mul, Int.add_zero] at this
    by_cases cx : 0 < x
    · by_cases cz : 0 < z
      · have := Int.mul_pos cx cz; omega
      · exact .inr ⟨cx, by omega⟩
    · by_cases cz : z < 0
      · have := Int.mul_nonneg (show 0 ≤ -x by omega) (show 0 ≤ -z by omega); rw [Int.neg_mul_neg] at this; omega
      · exact .inl ⟨by omega, by omega⟩
  have hl : y = 0 → 0 < t → (0 < x * t - y * z ↔ 0 < x) ∧ (x * t - y * z < 0 ↔ x < 0) := by
    intro e g
    rw [e, Int.zero_mul, Int.sub_zero]
    exact sign_mul g
  have hr : t = 0 → y < 0 → (0 < x * t - y * z ↔ 0 < z) ∧ (x * t - y * z < 0 ↔ z < 0) := by
    intro e g
    have := sign_mul (u := z) (show 0 < -y by omega)
    rw [Int.mul_neg, Int.mul_comm] at this
    rw [e, Int.mul_zero, Int.zero_sub]
    exact this
  have h00 : y = 0 → t = 0 → x * t - y * z = 0 := by intro e1 e2; rw [e1, e2]; simp
  clear c1 c2 c3 c4 hs
  generalize x * t - y * z = D at *
  have b1 : (-((BIG - 1) * D) < 0) ↔ 0 < D := by unfold BIG; omega
  have b2 : (-(BIG * D) > 0) ↔ D < 0 := by unfold BIG; omega
  have b3 : (-(BIG * D) < 0) ↔ 0 < D := by unfold BIG; omega
  have ey : (y < BIG * y ↔ 0 < y) ∧ (BIG * y ≤ t ↔ (y < 0 ∨ (y = 0 ∧ 0 ≤ t))) ∧ (BIG * y > t ↔ (0 < y ∨ (y = 0 ∧ t < 0))) := by unfold BIG; omega
  have et : (y < BIG * t ↔ (0 < t ∨ (t = 0 ∧ y < 0))) ∧ (BIG * t ≤ t ↔ t ≤ 0) ∧ (BIG * t > y ↔ (0 < t ∨ (t = 0 ∧ y < 0))) ∧ (BIG * t ≤ y ↔ (t < 0 ∨ (t = 0 ∧ 0 ≤ y))) := by unfold BIG; omega
  simp only [b1, b2, b3, ey.1, ey.2.1, ey.2.2, et.1, et.2.1, et.2.2.1, et.2.2.2]
  clear b1 b2 b3 ey et hy ht
  have yc : y < 0 ∨ y = 0 ∨ 0 < y := by omega
  have tc : t < 0 ∨ t = 0 ∨ 0 < t := by omega
  rcases yc with gy | gy | gy <;> rcases tc with gt | gt | gt
  · have dn : D ≠ 0 := fun e => (hns e).2 ⟨gy, gt⟩
    clear hz hl hr h00 hns h1 h2
    simp only [gt_iff_lt, eq_true (show y < 0 by omega), eq_true (show y ≤ 0 by omega), eq_false (show ¬ (0 < y) by omega), eq_false (show ¬ (y = 0) by omega), eq_false (show ¬ (0 ≤ y) by omega), eq_false (show ¬ (0 = y) by omega), eq_true (show t < 0 by omega), eq_true (show t ≤ 0 by omega), eq_false (show ¬ (0 < t) by omega), eq_false (show ¬ (t = 0) by omega), eq_false (show ¬ (0 ≤ t) by omega), eq_false (show ¬ (0 = t) by omega), true_or, or_true, false_or, or_false, and_true, true_and, false_and, and_false, if_true, if_false, not_true_eq_false, not_false_eq_true]
    repeat' split
    all_goals omega
  · have k := hr gt gy
    clear hz hl hr h00 hns
    simp only [gt_iff_lt, eq_true (show y < 0 by omega), eq_true (show y ≤ 0 by omega), eq_false (show ¬ (0 < y) by omega), eq_false (show ¬ (y = 0) by omega), eq_false (show ¬ (0 ≤ y) by omega), eq_false (show ¬ (0 = y) by omega), eq_true (show t = 0 by omega), eq_true (show t ≤ 0 by omega), eq_true (show 0 ≤ t by omega), eq_true (show 0 = t by omega), eq_false (show ¬ (t < 0) by omega), eq_false (show ¬ (0 < t) by omega), true_or, or_true, false_or, or_false, and_true, true_and, false_and, and_false, if_true, if_false, not_true_eq_false, not_false_eq_true]
    repeat' split
    all_goals omega
  · clear hz hl hr h00 hns h1 h2
    simp only [gt_iff_lt, eq_true (show y < 0 by omega), eq_true (show y ≤ 0 by omega), eq_false (show ¬ (0 < y) by omega), eq_false (show ¬ (y = 0) by omega), eq_false (show ¬ (0 ≤ y) by omega), eq_false (show ¬ (0 = y) by omega), eq_true (show 0 < t by omega), eq_true (show 0 ≤ t by omega), eq_false (show ¬ (t < 0) by omega), eq_false (show ¬ (t = 0) by omega), eq_false (show ¬ (t ≤ 0) by omega), eq_false (show ¬ (0 = t) by omega), true_or, or_true, false_or, or_false, and_true, true_and, false_and, and_false, if_true, if_false, not_true_eq_false, not_false_eq_true]
    repeat' split
    all_goals omega
  · omega
  · have k := hz gy gt
    have d := h00 gy gt
    clear hz hl hr h00 hns h1 h2
    simp only [gt_iff_lt, eq_true (show y = 0 by omega), eq_true (show y ≤ 0 by omega), eq_true (show 0 ≤ y by omega), eq_true (show 0 = y by omega), eq_false (show ¬ (y < 0) by omega), eq_false (show ¬ (0 < y) by omega), eq_true (show t = 0 by omega), eq_true (show t ≤ 0 by omega), eq_true (show 0 ≤ t by omega), eq_true (show 0 = t by omega), eq_false (show ¬ (t < 0) by omega), eq_false (show ¬ (0 < t) by omega), true_or, or_true, false_or, or_false, and_true, true_and, false_and, and_false, if_true, if_false, not_true_eq_false, not_false_eq_true]
    repeat' split
    all_goals omega
  · have k := hl gy gt
    clear hz hl hr h00 hns
    simp only [gt_iff_lt, eq_true (show y = 0 by omega), eq_true (show y ≤ 0 by omega), eq_true (show 0 ≤ y by omega), eq_true (show 0 = y by omega), eq_false (show ¬ (y < 0) by omega), eq_false (show ¬ (0 < y) by omega), eq_true (show 0 < t by omega), eq_true (show 0 ≤ t by omega), eq_false (show ¬ (t < 0) by omega), eq_false (show ¬ (t = 0) by omega), eq_false (show ¬ (t ≤ 0) by omega), eq_false (show ¬ (0 = t) by omega), true_or, or_true, false_or, or_false, and_true, true_and, false_and, and_false, if_true, if_false, not_true_eq_false, not_false_eq_true]
    repeat' split
    all_goals omega
  · omega
  · omega
  · have dn : D ≠ 0 := fun e => (hns e).1 ⟨gy, gt⟩
    clear hz hl hr h00 hns h1 h2
    simp only [gt_iff_lt, eq_true (show 0 < y by omega), eq_true (show 0 ≤ y by omega), eq_false (show ¬ (y < 0) by omega), eq_false (show ¬ (y = 0) by omega), eq_false (show ¬ (y ≤ 0) by omega), eq_false (show ¬ (0 = y) by omega), eq_true (show 0 < t by omega), eq_true (show 0 ≤ t by omega), eq_false (show ¬ (t < 0) by omega), eq_false (show ¬ (t = 0) by omega), eq_false (show ¬ (t ≤ 0) by omega), eq_false (show ¬ (0 = t) by omega), true_or, or_true, false_or, or_false, and_true, true_and, false_and, and_false, if_true, if_false, not_true_eq_false, not_false_eq_true]
    repeat' split
    all_goals omega
/-- The same, whichever of the two points is the higher one. -/
theorem corner_same {x y z t : Int} (hy : -2147483648 ≤ y ∧ y ≤ 2147483648) (ht : -2147483648 ≤ t ∧ t ≤ 2147483648) (hty : t ≤ y) (h1 : ¬ (x = 0 ∧ y = 0)) (h2 : ¬ (z = 0 ∧ t = 0)) (hs : x * t - y * z = 0 → x * z + y * t < 0) :
    pot z t x y (BIG * x) (BIG * y) - pot z t x y (BIG * z) (BIG * t) - wst x y 0 0 (BIG * z) (BIG * t) + wst z t (BIG * x) (BIG * y) 0 0 = -(upw 0 0 z t - upw x y 0 0) := by
  have h := corner_up (x := z) (y := t) (z := x) (t := y) ht hy hty h2 h1 (fun e => by
    have := hs (by rw [Int.mul_comm x t, Int.mul_comm y z]; omega)
    rw [Int.mul_comm z x, Int.mul_comm t y]
    exact this)
  rw [wst_back x y 0 0, wst_back z t (BIG * x)] at h
  have u : ∀ g k : Int, ¬ (g = 0 ∧ k = 0) → upw g k 0 0 = 1 - upw 0 0 g k := by
    intro g k hgk
    unfold upw
    repeat' split
    all_goals omega
  have u1 := u x y h1
  have u2 := u z t h2
  omega
end Go.Proofs.Ytannklfnfacpeaa.X
/- Winding sums of a closed polygon; past a corner the winding on the left of the way stays. -/
namespace Go.Proofs.Ytannklfnfacpeaa.X
open Go.RowKit
set_option linter.unusedVariables false
set_option linter.unusedSimpArgs false
def sm (h : Nat → Int) : Nat → Int
  | 0 => 0
  | k + 1 => sm h k + h k
theorem sm_congr {h g : Nat → Int} : ∀ n, (∀ k, k < n → h k = g k) → sm h n = sm g n
  | 0, _ => rfl
  | n + 1, he => by rw [sm, sm, sm_congr n fun k hk => he k (by omega), he n (by omega)]
theorem sm_sub (h g : Nat → Int) : ∀ n, sm (fun k => h k - g k) n = sm h n - sm g n
  | 0 => rfl
  | n + 1 => by rw [sm, sm, sm, sm_sub h g n]; omega
theorem sm_tele (f : Nat → Int) : ∀ n, sm (fun k => f (k + 1) - f k) n = f n - f 0
  | 0 => by rw [sm]; omega
  | n + 1 => by rw [sm, sm_tele f n]; omega
theorem sm_two (h : Nat → Int) : ∀ n, 2 ≤ n → (∀ k, 2 ≤ k → k < n → h k = 0) → sm h n = h 0 + h 1
  | 0, h2, _ => by omega
  | 1, h2, _ => by omega
  | 2, _, _ => by rw [sm, sm, sm]; omega
  | n + 3, _, hz => by
    rw [sm, sm_two h (n + 2) (by omega) fun k h1 h2 => hz k h1 (by omega), hz (n + 2) (by omega) (by omega)]
    omega
theorem sm_first (h : Nat → Int) : ∀ n, sm h (n + 1) = h 0 + sm (fun k => h (k + 1)) n
  | 0 => by rw [sm, sm, sm]; omega
  | n + 1 => by rw [sm, sm_first h n, sm]; omega
theorem sm_shift1 {h : Nat → Int} {n : Nat} (hp : h n = h 0) : sm (fun k => h (k + 1)) n = sm h n := by
  have := sm_first h n
  rw [sm] at this
  omega
theorem sm_shift {h : Nat → Int} {n : Nat} (hp : ∀ k, h (k + n) = h k) : ∀ s, sm (fun k => h (k + s)) n = sm h n
  | 0 => rfl
  | s + 1 => by
    rw [← sm_shift hp s]
    have := sm_shift1 (h := fun k => h (k + s)) (n := n) (by show h (n + s) = h (0 + s); rw [Nat.add_comm n s, hp, Nat.zero_add])
    rw [← this]
    exact sm_congr n fun k _ => by show h (k + (s + 1)) = h (k + 1 + s); congr 1; omega
theorem crossI_tr (u0 u1 a0 a1 b0 b1 p0 p1 : Int) : crossI (u0 + a0) (u1 + a1) (u0 + b0) (u1 + b1) (u0 + p0) (u1 + p1) = crossI a0 a1 b0 b1 p0 p1 := by
  unfold crossI
  rw [show u0 + b0 - (u0 + a0) = b0 - a0 by omega, show u1 + p1 - (u1 + a1) = p1 - a1 by omega, show u1 + b1 - (u1 + a1) = b1 - a1 by omega, show u0 + p0 - (u0 + a0) = p0 - a0 by omega]
theorem wst_tr (u0 u1 p0 p1 a0 a1 b0 b1 : Int) : wst (u0 + p0) (u1 + p1) (u0 + a0) (u1 + a1) (u0 + b0) (u1 + b1) = wst p0 p1 a0 a1 b0 b1 := by
  unfold wst
  rw [crossI_tr]
  generalize crossI a0 a1 b0 b1 p0 p1 = A
  repeat' split
  all_goals omega
theorem pot_tr (u0 u1 p0 p1 q0 q1 v0 v1 : Int) : pot (u0 + p0) (u1 + p1) (u0 + q0) (u1 + q1) (u0 + v0) (u1 + v1) = pot p0 p1 q0 q1 v0 v1 := by
  unfold pot
  rw [crossI_tr]
  generalize crossI p0 p1 q0 q1 v0 v1 = A
  repeat' split
  all_goals omega
/-- A closed polygon whose sides meet at its corners alone. -/
structure Simp (n : Nat) (X Y : Nat → Int) : Prop where
  three : 3 ≤ n
  perX : ∀ i, X (i + n) = X i
  perY : ∀ i, Y (i + n) = Y i
  far : ∀ i d, 2 ≤ d → d + 2 ≤ n → ¬ GeoI (X i) (Y i) (X (i + 1)) (Y (i + 1)) (X (i + d)) (Y (i + d)) (X (i + d + 1)) (Y (i + d + 1))
  ne : ∀ i, ¬ (X i = X (i + 1) ∧ Y i = Y (i + 1))
  sp1 : ∀ i, ¬ OnI (X i) (Y i) (X (i + 1)) (Y (i + 1)) (X (i + 2)) (Y (i + 2))
  sp2 : ∀ i, ¬ OnI (X (i + 1)) (Y (i + 1)) (X (i + 2)) (Y (i + 2)) (X i) (Y i)
  inb : ∀ i, InC (X i) ∧ InC (Y i)
/-- How often the polygon, scaled by M, winds about a point (right of it, where it lies on a side). -/
def WN (n : Nat) (X Y : Nat → Int) (M p q : Int) : Int := sm (fun k => wst p q (M * X k) (M * Y k) (M * X (k + 1)) (M * Y (k + 1))) n
theorem Simp.shift {n : Nat} {X Y : Nat → Int} (h : Simp n X Y) (s : Nat) : Simp n (fun k => X (k + s)) (fun k => Y (k + s)) := by
  have e : ∀ i d : Nat, i + d + s = i + s + d := fun i d => by omega
  refine ⟨h.three, fun i => ?_, fun i => ?_, fun i d h1 h2 => ?_, fun i => ?_, fun i => ?_, fun i => ?_, fun i => h.inb _⟩
  · show X (i + n + s) = X (i + s); rw [e, h.perX]
  · show Y (i + n + s) = Y (i + s); rw [e, h.perY]
  · have := h.far (i + s) d h1 h2
    show ¬ GeoI (X (i + s)) (Y (i + s)) (X (i + 1 + s)) (Y (i + 1 + s)) (X (i + d + s)) (Y (i + d + s)) (X (i + d + 1 + s)) (Y (i + d + 1 + s))
    rw [e i 1, e i d, show i + d + 1 + s = i + s + d + 1 by omega]
    exact this
  · show ¬ (X (i + s) = X (i + 1 + s) ∧ Y (i + s) = Y (i + 1 + s)); rw [e]; exact h.ne _
  · show ¬ OnI (X (i + s)) (Y (i + s)) (X (i + 1 + s)) (Y (i + 1 + s)) (X (i + 2 + s)) (Y (i + 2 + s)); rw [e, e]; exact h.sp1 _
  · show ¬ OnI (X (i + 1 + s)) (Y (i + 1 + s)) (X (i + 2 + s)) (Y (i + 2 + s)) (X (i + s)) (Y (i + s)); rw [e, e]; exact h.sp2 _
theorem WN_shift {n : Nat} {X Y : Nat → Int} (h : Simp n X Y) (M p q : Int) (s : Nat) : WN n (fun k => X (k + s)) (fun k => Y (k + s)) M p q = WN n X Y M p q := by
  have := sm_shift (h := fun k => wst p q (M * X k) (M * Y k) (M * X (k + 1)) (M * Y (k + 1))) (n := n) (fun k => by
    show wst p q (M * X (k + n)) (M * Y (k + n)) (M * X (k + n + 1)) (M * Y (k + n + 1)) = _
    rw [show k + n + 1 = k + 1 + n by omega, h.perX, h.perY, h.perX, h.perY]) s
  unfold WN
  rw [← this]
  exact sm_congr n fun k _ => by
    show wst p q (M * X (k + s)) (M * Y (k + s)) (M * X (k + 1 + s)) (M * Y (k + 1 + s)) = wst p q (M * X (k + s)) (M * Y (k + s)) (M * X (k + s + 1)) (M * Y (k + s + 1))
    rw [show k + 1 + s = k + s + 1 by omega]
/-- No side but the two at a corner holds it. -/
theorem Simp.clear1 {n : Nat} {X Y : Nat → Int} (h : Simp n X Y) {k : Nat} (h2 : 2 ≤ k) (hk : k < n) : ¬ OnI (X k) (Y k) (X (k + 1)) (Y (k + 1)) (X 1) (Y 1) := by
  intro ho
  by_cases c : k + 2 ≤ n
  · have ho' : OnI (X (0 + k)) (Y (0 + k)) (X (0 + k + 1)) (Y (0 + k + 1)) (X 1) (Y 1) := by simpa only [Nat.zero_add] using ho
    exact h.far 0 k h2 c (ref_geo (.inr (.inr (.inr (.inl ho')))))
  · obtain rfl : k = n - 1 := by omega
    by_cases c3 : n = 3
    · subst c3
      have e3 : X 3 = X 0 := by have := h.perX 0; rwa [Nat.zero_add] at this
      have := h.sp2 1
      exact this ho
    · have := h.far 1 (n - 2) (by omega) (by omega)
      rw [show 1 + (n - 2) = n - 1 by omega] at this
      exact this (ref_geo (.inr (.inr (.inl ho))))
theorem no_spike {x y z t : Int} (h1 : ¬ (x = 0 ∧ y = 0)) (h2 : ¬ (z = 0 ∧ t = 0)) (hd : ¬ (x * t - y * z = 0 ∧ x * z + y * t > 0)) : x * t - y * z = 0 → x * z + y * t < 0 := by
  intro hc
  by_cases h0 : x * z + y * t = 0
  · exfalso
    have p1 : 0 < x * x + y * y := by
      have a := sq_nn x
      have b := sq_nn y
      by_cases c : x * x = 0
      · by_cases d : y * y = 0
        · exact absurd ⟨(Int.mul_eq_zero.1 c).elim id id, (Int.mul_eq_zero.1 d).elim id id⟩ h1
        · omega
      · omega
    have ez : z * (x * x + y * y) = 0 := by
      calc z * (x * x + y * y) = x * (x * z + y * t) - y * (x * t - y * z) := by
            simp only [Int.mul_add, Int.mul_sub, Int.mul_assoc, Int.mul_comm, Int.mul_left_comm]; omega
        _ = 0 := by rw [h0, hc]; simp
    have et : t * (x * x + y * y) = 0 := by
      calc t * (x * x + y * y) = y * (x * z + y * t) + x * (x * t - y * z) := by
            simp only [Int.mul_add, Int.mul_sub, Int.mul_assoc, Int.mul_comm, Int.mul_left_comm]; omega
        _ = 0 := by rw [h0, hc]; simp
    rcases Int.mul_eq_zero.1 ez with e | e
    · rcases Int.mul_eq_zero.1 et with e' | e'
      · exact h2 ⟨e, e'⟩
      · omega
    · omega
  · omega
theorem arm_zero (K x y : Int) : wst x y (K * x) (K * y) 0 0 = 0 ∧ wst x y 0 0 (K * x) (K * y) = 0 := by
  have e1 : crossI (K * x) (K * y) 0 0 x y = 0 := by
    unfold crossI
    simp only [Int.mul_sub, Int.sub_mul, Int.mul_assoc, Int.mul_comm, Int.mul_left_comm, Int.zero_sub, Int.sub_zero, Int.neg_mul, Int.mul_neg]
    omega
  have e2 : crossI 0 0 (K * x) (K * y) x y = 0 := by
    unfold crossI
    simp only [Int.mul_sub, Int.sub_mul, Int.mul_assoc, Int.mul_comm, Int.mul_left_comm, Int.zero_sub, Int.sub_zero, Int.neg_mul, Int.mul_neg]
    omega
  unfold wst
  rw [e1, e2]
  refine ⟨?_, ?_⟩
  · rw [if_neg (fun g => by omega), if_neg (fun g => by omega)]
  · rw [if_neg (fun g => by omega), if_neg (fun g => by omega)]
theorem upw_tr (a0 a1 b0 b1 : Int) : upw a0 a1 b0 b1 = upw (a0 - b0) (a1 - b1) 0 0 ∧ upw a0 a1 b0 b1 = upw 0 0 (b0 - a0) (b1 - a1) := by
  unfold upw
  refine ⟨?_, ?_⟩ <;> (repeat' split) <;> omega
theorem two_sides {n : Nat} {X Y : Nat → Int} (h : Simp n X Y) {p0 p1 q0 q1 : Int} (hpq : p1 ≤ q1) (hn : ∀ k, 2 ≤ k → k < n → ¬ GeoI (BIG * X k) (BIG * Y k) (BIG * X (k + 1)) (BIG * Y (k + 1)) p0 p1 q0 q1) :
    WN n X Y BIG p0 p1 - WN n X Y BIG q0 q1 = (wst p0 p1 (BIG * X 0) (BIG * Y 0) (BIG * X 1) (BIG * Y 1) - wst q0 q1 (BIG * X 0) (BIG * Y 0) (BIG * X 1) (BIG * Y 1)) + (wst p0 p1 (BIG * X 1) (BIG * Y 1) (BIG * X 2) (BIG * Y 2) - wst q0 q1 (BIG * X 1) (BIG * Y 1) (BIG * X 2) (BIG * Y 2)) +
      pot p0 p1 q0 q1 (BIG * X 0) (BIG * Y 0) - pot p0 p1 q0 q1 (BIG * X 2) (BIG * Y 2) := by
  have h3 := h.three
  have h2 := sm_two (fun k => (wst p0 p1 (BIG * X k) (BIG * Y k) (BIG * X (k + 1)) (BIG * Y (k + 1)) - wst q0 q1 (BIG * X k) (BIG * Y k) (BIG * X (k + 1)) (BIG * Y (k + 1))) - ((fun i => pot p0 p1 q0 q1 (BIG * X i) (BIG * Y i)) (k + 1) - (fun i => pot p0 p1 q0 q1 (BIG * X i) (BIG * Y i)) k)) n (by omega) (fun k h2 hk => by
    have := edge_same hpq (hn k h2 hk)
    show (wst p0 p1 (BIG * X k) (BIG * Y k) (BIG * X (k + 1)) (BIG * Y (k + 1)) - wst q0 q1 (BIG * X k) (BIG * Y k) (BIG * X (k + 1)) (BIG * Y (k + 1))) - (pot p0 p1 q0 q1 (BIG * X (k + 1)) (BIG * Y (k + 1)) - pot p0 p1 q0 q1 (BIG * X k) (BIG * Y k)) = 0
    omega)
  rw [sm_sub, sm_sub, sm_tele (fun i => pot p0 p1 q0 q1 (BIG * X i) (BIG * Y i))] at h2
  have ep : X n = X 0 ∧ Y n = Y 0 := by
    have a := h.perX 0
    have b := h.perY 0
    rw [Nat.zero_add] at a b
    exact ⟨a, b⟩
  simp only [ep.1, ep.2, Nat.zero_add, Nat.reduceAdd] at h2
  unfold WN
  omega
/-- The winding on the left of the way is the same before and behind the corner 1. -/
theorem past_corner {n : Nat} {X Y : Nat → Int} (h : Simp n X Y) :
    WN n X Y BIG (BIG * X 1 + (X 0 - X 1)) (BIG * Y 1 + (Y 0 - Y 1)) + upw (X 0) (Y 0) (X 1) (Y 1) = WN n X Y BIG (BIG * X 1 + (X 2 - X 1)) (BIG * Y 1 + (Y 2 - Y 1)) + upw (X 1) (Y 1) (X 2) (Y 2) := by
  rw [(upw_tr (X 0) (Y 0) (X 1) (Y 1)).1, (upw_tr (X 1) (Y 1) (X 2) (Y 2)).2]
  have n1 := h.ne 0
  have n2 := h.ne 1
  have b0 := h.inb 0
  have b1 := h.inb 1
  have b2 := h.inb 2
  have s1 := h.sp1 0
  have s2 := h.sp2 0
  simp only [Nat.zero_add, Nat.reduceAdd] at n1 n2 s1 s2
  have hsp : ¬ ((X 0 - X 1) * (Y 2 - Y 1) - (Y 0 - Y 1) * (X 2 - X 1) = 0 ∧ (X 0 - X 1) * (X 2 - X 1) + (Y 0 - Y 1) * (Y 2 - Y 1) > 0) := by
    rintro ⟨g1, g2⟩
    have hc : crossI (X 0) (Y 0) (X 1) (Y 1) (X 2) (Y 2) = 0 := by
      have : crossI (X 0) (Y 0) (X 1) (Y 1) (X 2) (Y 2) = -((X 0 - X 1) * (Y 2 - Y 1) - (Y 0 - Y 1) * (X 2 - X 1)) := by
        unfold crossI
        simp only [Int.mul_sub, Int.sub_mul, Int.mul_comm]
        omega
      rw [this, g1]
      rfl
    rcases (spike_iff n1 n2).1 ⟨hc, g2⟩ with g | g
    · exact s1 g
    · exact s2 g
  have hs := no_spike (x := X 0 - X 1) (y := Y 0 - Y 1) (z := X 2 - X 1) (t := Y 2 - Y 1) (by omega) (by omega) hsp
  have e0 : BIG * X 0 = BIG * X 1 + BIG * (X 0 - X 1) ∧ BIG * Y 0 = BIG * Y 1 + BIG * (Y 0 - Y 1) := by rw [Int.mul_sub, Int.mul_sub]; omega
  have e1 : BIG * X 1 = BIG * X 1 + 0 ∧ BIG * Y 1 = BIG * Y 1 + 0 := by omega
  have e2 : BIG * X 2 = BIG * X 1 + BIG * (X 2 - X 1) ∧ BIG * Y 2 = BIG * Y 1 + BIG * (Y 2 - Y 1) := by rw [Int.mul_sub, Int.mul_sub]; omega
  have near : ∀ d0 d1 e0 e1 : Int, (-2147483648 ≤ d0 ∧ d0 ≤ 2147483648) ∧ (-2147483648 ≤ d1 ∧ d1 ≤ 2147483648) → (-2147483648 ≤ e0 ∧ e0 ≤ 2147483648) ∧ (-2147483648 ≤ e1 ∧ e1 ≤ 2147483648) →
      ∀ k, 2 ≤ k → k < n → ¬ GeoI (BIG * X k) (BIG * Y k) (BIG * X (k + 1)) (BIG * Y (k + 1)) (BIG * X 1 + d0) (BIG * Y 1 + d1) (BIG * X 1 + e0) (BIG * Y 1 + e1) :=
    fun d0 d1 e0 e1 hd he k h2 hk => far_near (h.inb k) (h.inb (k + 1)) (h.inb 1) hd he (h.clear1 h2 hk)
  unfold InC at b0 b1 b2
  have hx : (-2147483648 ≤ X 0 - X 1 ∧ X 0 - X 1 ≤ 2147483648) ∧ (-2147483648 ≤ Y 0 - Y 1 ∧ Y 0 - Y 1 ≤ 2147483648) := by omega
  have hz : (-2147483648 ≤ X 2 - X 1 ∧ X 2 - X 1 ≤ 2147483648) ∧ (-2147483648 ≤ Y 2 - Y 1 ∧ Y 2 - Y 1 ≤ 2147483648) := by omega
  have z1 : ¬ (X 0 - X 1 = 0 ∧ Y 0 - Y 1 = 0) := by omega
  have z2 : ¬ (X 2 - X 1 = 0 ∧ Y 2 - Y 1 = 0) := by omega
  have ha := arm_zero BIG (X 0 - X 1) (Y 0 - Y 1)
  have hc := arm_zero BIG (X 2 - X 1) (Y 2 - Y 1)
  clear n1 n2 s1 s2 hsp b0 b1 b2
  by_cases hyt : Y 0 - Y 1 ≤ Y 2 - Y 1
  · have k := two_sides h (p0 := BIG * X 1 + (X 0 - X 1)) (p1 := BIG * Y 1 + (Y 0 - Y 1)) (q0 := BIG * X 1 + (X 2 - X 1)) (q1 := BIG * Y 1 + (Y 2 - Y 1)) (by omega) (near _ _ _ _ hx hz)
    have c := corner_up hx.2 hz.2 hyt z1 z2 hs
    have t1 := wst_tr (BIG * X 1) (BIG * Y 1) (X 0 - X 1) (Y 0 - Y 1) (BIG * (X 0 - X 1)) (BIG * (Y 0 - Y 1)) 0 0
    have t2 := wst_tr (BIG * X 1) (BIG * Y 1) (X 2 - X 1) (Y 2 - Y 1) (BIG * (X 0 - X 1)) (BIG * (Y 0 - Y 1)) 0 0
    have t3 := wst_tr (BIG * X 1) (BIG * Y 1) (X 0 - X 1) (Y 0 - Y 1) 0 0 (BIG * (X 2 - X 1)) (BIG * (Y 2 - Y 1))
    have t4 := wst_tr (BIG * X 1) (BIG * Y 1) (X 2 - X 1) (Y 2 - Y 1) 0 0 (BIG * (X 2 - X 1)) (BIG * (Y 2 - Y 1))
    have t5 := pot_tr (BIG * X 1) (BIG * Y 1) (X 0 - X 1) (Y 0 - Y 1) (X 2 - X 1) (Y 2 - Y 1) (BIG * (X 0 - X 1)) (BIG * (Y 0 - Y 1))
    have t6 := pot_tr (BIG * X 1) (BIG * Y 1) (X 0 - X 1) (Y 0 - Y 1) (X 2 - X 1) (Y 2 - Y 1) (BIG * (X 2 - X 1)) (BIG * (Y 2 - Y 1))
    rw [← e0.1, ← e0.2, ← e1.1, ← e1.2] at t1 t2
    rw [← e1.1, ← e1.2, ← e2.1, ← e2.2] at t3 t4
    rw [← e0.1, ← e0.2] at t5
    rw [← e2.1, ← e2.2] at t6
    rw [t1, t2, t3, t4, t5, t6, ha.1, hc.2] at k
    clear t1 t2 t3 t4 t5 t6 e0 e1 e2 ha hc hs near hx hz z1 z2
    omega
  · have k := two_sides h (p0 := BIG * X 1 + (X 2 - X 1)) (p1 := BIG * Y 1 + (Y 2 - Y 1)) (q0 := BIG * X 1 + (X 0 - X 1)) (q1 := BIG * Y 1 + (Y 0 - Y 1)) (by omega) (near _ _ _ _ hz hx)
    have c := corner_same hx.2 hz.2 (by omega) z1 z2 hs
    have t1 := wst_tr (BIG * X 1) (BIG * Y 1) (X 0 - X 1) (Y 0 - Y 1) (BIG * (X 0 - X 1)) (BIG * (Y 0 - Y 1)) 0 0
    have t2 := wst_tr (BIG * X 1) (BIG * Y 1) (X 2 - X 1) (Y 2 - Y 1) (BIG * (X 0 - X 1)) (BIG * (Y 0 - Y 1)) 0 0
    have t3 := wst_tr (BIG * X 1) (BIG * Y 1) (X 0 - X 1) (Y 0 - Y 1) 0 0 (BIG * (X 2 - X 1)) (BIG * (Y 2 - Y 1))
    have t4 := wst_tr (BIG * X 1) (BIG * Y 1) (X 2 - X 1) (Y 2 - Y 1) 0 0 (BIG * (X 2 - X 1)) (BIG * (Y 2 - Y 1))
    have t5 := pot_tr (BIG * X 1) (BIG * Y 1) (X 2 - X 1) (Y 2 - Y 1) (X 0 - X 1) (Y 0 - Y 1) (BIG * (X 0 - X 1)) (BIG * (Y 0 - Y 1))
    have t6 := pot_tr (BIG * X 1) (BIG * Y 1) (X 2 - X 1) (Y 2 - Y 1) (X 0 - X 1) (Y 0 - Y 1) (BIG * (X 2 - X 1)) (BIG * (Y 2 - Y 1))
    rw [← e0.1, ← e0.2, ← e1.1, ← e1.2] at t1 t2
    rw [← e1.1, ← e1.2, ← e2.1, ← e2.2] at t3 t4
    rw [← e0.1, ← e0.2] at t5
    rw [← e2.1, ← e2.2] at t6
    rw [t1, t2, t3, t4, t5, t6, ha.1, hc.2] at k
    clear t1 t2 t3 t4 t5 t6 e0 e1 e2 ha hc hs near hx hz z1 z2
    omega
end Go.Proofs.Ytannklfnfacpeaa.X
/- A part of a side meets what the side meets; a part of a side that leaves out a corner does not meet the other side there. -/
namespace Go.Proofs.Ytannklfnfacpeaa.X
open Go.RowKit
set_option linter.unusedVariables false
set_option linter.unusedSimpArgs false
theorem aff (a0 a1 b0 b1 s0 s1 c0 c1 d0 d1 : Int) :
    (b0 - a0) * crossI c0 c1 d0 d1 s0 s1 = (b0 - s0) * crossI c0 c1 d0 d1 a0 a1 + (s0 - a0) * crossI c0 c1 d0 d1 b0 b1 + (d0 - c0) * crossI a0 a1 b0 b1 s0 s1 ∧
    (b1 - a1) * crossI c0 c1 d0 d1 s0 s1 = (b1 - s1) * crossI c0 c1 d0 d1 a0 a1 + (s1 - a1) * crossI c0 c1 d0 d1 b0 b1 + (d1 - c1) * crossI a0 a1 b0 b1 s0 s1 := by
  unfold crossI
  simp only [Int.mul_sub, Int.sub_mul, Int.mul_add, Int.add_mul, Int.mul_assoc, Int.mul_comm, Int.mul_left_comm]
  refine ⟨?_, ?_⟩ <;> omega
/-- On a line: the cross of a part of it and the cross of the whole. -/
theorem part_cross (a0 a1 b0 b1 s0 s1 t0 t1 c0 c1 : Int) (hs : crossI a0 a1 b0 b1 s0 s1 = 0) (ht : crossI a0 a1 b0 b1 t0 t1 = 0) :
    (t0 - s0) * crossI a0 a1 b0 b1 c0 c1 = (b0 - a0) * crossI s0 s1 t0 t1 c0 c1 ∧ (t1 - s1) * crossI a0 a1 b0 b1 c0 c1 = (b1 - a1) * crossI s0 s1 t0 t1 c0 c1 := by
  have e0 : (t0 - s0) * crossI a0 a1 b0 b1 c0 c1 - (b0 - a0) * crossI s0 s1 t0 t1 c0 c1 = (c0 - s0) * crossI a0 a1 b0 b1 t0 t1 - (c0 - t0) * crossI a0 a1 b0 b1 s0 s1 := by
    unfold crossI
    simp only [Int.mul_sub, Int.sub_mul, Int.mul_add, Int.add_mul, Int.mul_assoc, Int.mul_comm, Int.mul_left_comm]
    omega
  have e1 : (t1 - s1) * crossI a0 a1 b0 b1 c0 c1 - (b1 - a1) * crossI s0 s1 t0 t1 c0 c1 = (c1 - s1) * crossI a0 a1 b0 b1 t0 t1 - (c1 - t1) * crossI a0 a1 b0 b1 s0 s1 := by
    unfold crossI
    simp only [Int.mul_sub, Int.sub_mul, Int.mul_add, Int.add_mul, Int.mul_assoc, Int.mul_comm, Int.mul_left_comm]
    omega
  rw [hs, ht, Int.mul_zero, Int.mul_zero] at e0 e1
  omega
/-- Between two ends with one sign: that sign. -/
theorem same_between {a b s A B S : Int} (h : (b - a) * S = (b - s) * A + (s - a) * B) (hb : Btw a b s) (hne : a ≠ b) (hs : Same A B) : Same A S := by
  have key : ∀ a b s A B S : Int, (b - a) * S = (b - s) * A + (s - a) * B → a ≤ s → s ≤ b → a < b → 0 < A → 0 < B → 0 < S := by
    intro a b s A B S h h1 h2 h3 hA hB
    have k1 := Int.mul_nonneg (show 0 ≤ b - s by omega) (Int.le_of_lt hA)
    have k2 := Int.mul_nonneg (show 0 ≤ s - a by omega) (Int.le_of_lt hB)
    have k3 : 0 < (b - a) * S := by
      by_cases c : s = b
      · have := Int.mul_pos (show 0 < s - a by omega) hB
        omega
      · have := Int.mul_pos (show 0 < b - s by omega) hA
        omega
    by_cases c : 0 < S
    · exact c
    · have := Int.mul_nonneg (show 0 ≤ b - a by omega) (show 0 ≤ -S by omega)
      rw [Int.mul_neg] at this
      omega
  have h' : (a - b) * S = (a - s) * B + (s - b) * A := by
    rw [show a - b = -(b - a) by omega, show a - s = -(s - a) by omega, show s - b = -(b - s) by omega, Int.neg_mul, Int.neg_mul, Int.neg_mul]
    omega
  unfold Same at *
  unfold Btw at hb
  rcases hs with ⟨hA, hB⟩ | ⟨hA, hB⟩
  · rcases hb with ⟨g1, g2⟩ | ⟨g1, g2⟩
    · exact .inl ⟨hA, key a b s A B S h g1 g2 (by omega) hA hB⟩
    · exact .inl ⟨hA, key b a s B A S h' g1 g2 (by omega) hB hA⟩
  · rcases hb with ⟨g1, g2⟩ | ⟨g1, g2⟩
    · have := key a b s (-A) (-B) (-S) (by rw [Int.mul_neg, Int.mul_neg, Int.mul_neg]; omega) g1 g2 (by omega) (by omega) (by omega)
      exact .inr ⟨hA, by omega⟩
    · have := key b a s (-B) (-A) (-S) (by rw [Int.mul_neg, Int.mul_neg, Int.mul_neg]; omega) g1 g2 (by omega) (by omega) (by omega)
      exact .inr ⟨hA, by omega⟩
/-- The sign of a part's cross, where the part is not a point. -/
theorem same_scale {u v A B A' B' : Int} (h1 : u * A = v * A') (h2 : u * B = v * B') (hu : u ≠ 0) (hs : Same A B) : Same A' B' := by
  have pos : ∀ u v A A' : Int, u * A = v * A' → 0 < u → A ≠ 0 → v ≠ 0 := by
    intro u v A A' h hu hA e
    rw [e, Int.zero_mul] at h
    rcases Int.mul_eq_zero.1 h with g | g <;> omega
  have key : ∀ u v A A' : Int, u * A = v * A' → 0 < u → 0 < v → (0 < A → 0 < A') ∧ (A < 0 → A' < 0) := by
    intro u v A A' h hu hv
    have a := mul_sg (u := A) hu
    have b := mul_sg (u := A') hv
    rw [Int.mul_comm A u] at a
    rw [Int.mul_comm A' v] at b
    refine ⟨fun g => ?_, fun g => ?_⟩
    · have := a.1 g
      by_cases c : 0 < A'
      · exact c
      · have := b.2.2.2 (by omega); omega
    · have := a.2.1 g
      by_cases c : A' < 0
      · exact c
      · have := b.2.2.1 (by omega); omega
  have hv : v ≠ 0 := by
    intro e
    rw [e, Int.zero_mul] at h1
    unfold Same at hs
    rcases Int.mul_eq_zero.1 h1 with g | g
    · exact hu g
    · omega
  have n1 : (-u) * A = (-v) * A' := by rw [Int.neg_mul, Int.neg_mul, h1]
  have n2 : (-u) * B = (-v) * B' := by rw [Int.neg_mul, Int.neg_mul, h2]
  have m1 : u * A = (-v) * (-A') := by rw [Int.neg_mul_neg, h1]
  have m2 : u * B = (-v) * (-B') := by rw [Int.neg_mul_neg, h2]
  have o1 : (-u) * A = v * (-A') := by rw [Int.neg_mul, Int.mul_neg, h1]
  have o2 : (-u) * B = v * (-B') := by rw [Int.neg_mul, Int.mul_neg, h2]
  unfold Same at *
  by_cases cu : 0 < u
  · by_cases cv : 0 < v
    · have k1 := key u v A A' h1 cu cv
      have k2 := key u v B B' h2 cu cv
      rcases hs with ⟨a, b⟩ | ⟨a, b⟩
      · exact .inl ⟨k1.1 a, k2.1 b⟩
      · exact .inr ⟨k1.2 a, k2.2 b⟩
    · have k1 := key u (-v) A (-A') m1 cu (by omega)
      have k2 := key u (-v) B (-B') m2 cu (by omega)
      rcases hs with ⟨a, b⟩ | ⟨a, b⟩
      · have := k1.1 a; have := k2.1 b; exact .inr ⟨by omega, by omega⟩
      · have := k1.2 a; have := k2.2 b; exact .inl ⟨by omega, by omega⟩
  · by_cases cv : 0 < v
    · have k1 := key (-u) v A (-A') o1 (by omega) cv
      have k2 := key (-u) v B (-B') o2 (by omega) cv
      rcases hs with ⟨a, b⟩ | ⟨a, b⟩
      · have := k1.1 a; have := k2.1 b; exact .inr ⟨by omega, by omega⟩
      · have := k1.2 a; have := k2.2 b; exact .inl ⟨by omega, by omega⟩
    · have k1 := key (-u) (-v) A A' n1 (by omega) (by omega)
      have k2 := key (-u) (-v) B B' n2 (by omega) (by omega)
      rcases hs with ⟨a, b⟩ | ⟨a, b⟩
      · exact .inl ⟨k1.1 a, k2.1 b⟩
      · exact .inr ⟨k1.2 a, k2.2 b⟩
theorem btw_ne {a b s t : Int} (hs : Btw a b s) (ht : Btw a b t) (h : s ≠ t) : a ≠ b := by unfold Btw at *; omega
theorem ov_part {a b s t c d : Int} (hs : Btw a b s) (ht : Btw a b t) (h : Ov c d s t) : Ov c d a b := by unfold Ov Btw at *; omega
theorem same_join {A S T : Int} (h1 : Same A S) (h2 : Same A T) : Same S T := by unfold Same at *; omega
/-- What meets a part of a side meets the side. -/
theorem sub_meet {a0 a1 b0 b1 s0 s1 t0 t1 c0 c1 d0 d1 : Int} (hs : OnI a0 a1 b0 b1 s0 s1) (ht : OnI a0 a1 b0 b1 t0 t1) (hst : ¬ (s0 = t0 ∧ s1 = t1)) (h : GeoI c0 c1 d0 d1 s0 s1 t0 t1) : GeoI c0 c1 d0 d1 a0 a1 b0 b1 := by
  obtain ⟨ox, oy, f, g⟩ := h
  obtain ⟨zs, sx, sy⟩ := hs
  obtain ⟨zt, tx, ty⟩ := ht
  refine ⟨ov_part sx tx ox, ov_part sy ty oy, fun hS => f ?_, fun hS => g ?_⟩
  · have as := aff a0 a1 b0 b1 s0 s1 c0 c1 d0 d1
    have at_ := aff a0 a1 b0 b1 t0 t1 c0 c1 d0 d1
    rw [zs, Int.mul_zero, Int.mul_zero, Int.add_zero, Int.add_zero] at as
    rw [zt, Int.mul_zero, Int.mul_zero, Int.add_zero, Int.add_zero] at at_
    by_cases c : s0 = t0
    · have ne := btw_ne sy ty (fun e => hst ⟨c, e⟩)
      exact same_join (same_between as.2 sy ne hS) (same_between at_.2 ty ne hS)
    · have ne := btw_ne sx tx c
      exact same_join (same_between as.1 sx ne hS) (same_between at_.1 tx ne hS)
  · have pc := part_cross a0 a1 b0 b1 s0 s1 t0 t1 c0 c1 zs zt
    have pd := part_cross a0 a1 b0 b1 s0 s1 t0 t1 d0 d1 zs zt
    by_cases c : s0 = t0
    · exact same_scale pc.2 pd.2 (fun e => hst ⟨c, by omega⟩) hS
    · exact same_scale pc.1 pd.1 (fun e => c (by omega)) hS
/-- One point of a side alone. -/
theorem sub_meet1 {a0 a1 b0 b1 s0 s1 c0 c1 d0 d1 : Int} (hs : OnI a0 a1 b0 b1 s0 s1) (h : OnI c0 c1 d0 d1 s0 s1) : GeoI c0 c1 d0 d1 a0 a1 b0 b1 := by
  obtain ⟨zs, sx, sy⟩ := hs
  obtain ⟨z, cx, cy⟩ := h
  have cb : ∀ a b c d s : Int, Btw a b s → Btw c d s → Ov c d a b := by intro a b c d s h1 h2; unfold Btw at *; unfold Ov; omega
  have key : ∀ a0 a1 b0 b1 s0 s1 c0 c1 d0 d1 : Int, crossI a0 a1 b0 b1 s0 s1 = 0 → Btw a0 b0 s0 → Btw a1 b1 s1 → crossI c0 c1 d0 d1 s0 s1 = 0 → ¬ Same (crossI c0 c1 d0 d1 a0 a1) (crossI c0 c1 d0 d1 b0 b1) := by
    intro a0 a1 b0 b1 s0 s1 c0 c1 d0 d1 zs sx sy z hS
    have as := aff a0 a1 b0 b1 s0 s1 c0 c1 d0 d1
    rw [zs, Int.mul_zero, Int.mul_zero, Int.add_zero, Int.add_zero] at as
    have no : ∀ A B : Int, Same A B → ¬ Same A 0 := by intro A B h1 h2; unfold Same at h2; omega
    by_cases c : a0 = b0
    · by_cases cq : a1 = b1
      · have e : crossI c0 c1 d0 d1 a0 a1 = 0 := by
          rw [show a0 = s0 by unfold Btw at sx; omega, show a1 = s1 by unfold Btw at sy; omega]; exact z
        rw [e] at hS
        unfold Same at hS
        omega
      · have := same_between as.2 sy cq hS
        rw [z] at this
        exact no _ _ hS this
    · have := same_between as.1 sx c hS
      rw [z] at this
      exact no _ _ hS this
  exact ⟨cb _ _ _ _ _ sx cx, cb _ _ _ _ _ sy cy, key _ _ _ _ _ _ _ _ _ _ zs sx sy z, key _ _ _ _ _ _ _ _ _ _ z cx cy zs⟩
theorem dot_sign {x y z t : Int} (hs : x * t - y * z = 0 → x * z + y * t < 0) (h : x * t - y * z = 0) : (¬ (0 < y ∧ 0 < t) ∧ ¬ (y < 0 ∧ t < 0)) ∧ (¬ (0 < x ∧ 0 < z) ∧ ¬ (x < 0 ∧ z < 0)) :=
  ⟨no_spike_sign hs h, no_spike_sign (x := y) (y := x) (z := t) (t := z) (fun e => by have := hs (by omega); omega) (by omega)⟩
/-- Strictly inside a side, seen from its end b. -/
theorem off_end {a0 a1 b0 b1 s0 s1 : Int} (hs : OnI a0 a1 b0 b1 s0 s1) (hb : ¬ (s0 = b0 ∧ s1 = b1)) : (a0 ≠ b0 → s0 ≠ b0) ∧ (a1 ≠ b1 → s1 ≠ b1) := by
  obtain ⟨z, _, _⟩ := hs
  unfold crossI at z
  refine ⟨fun h e => ?_, fun h e => ?_⟩
  · have : (b0 - a0) * (s1 - b1) = 0 := by
      rw [e] at z
      have : (b0 - a0) * (s1 - b1) = (b0 - a0) * (s1 - a1) - (b1 - a1) * (b0 - a0) := by rw [Int.mul_comm (b1 - a1), ← Int.mul_sub]; congr 1; omega
      omega
    rcases Int.mul_eq_zero.1 this with g | g
    · omega
    · exact hb ⟨e, by omega⟩
  · have : (b1 - a1) * (s0 - b0) = 0 := by
      rw [e] at z
      have : (b1 - a1) * (s0 - b0) = (b1 - a1) * (s0 - a0) - (b0 - a0) * (b1 - a1) := by rw [Int.mul_comm (b0 - a0), ← Int.mul_sub]; congr 1; omega
      omega
    rcases Int.mul_eq_zero.1 this with g | g
    · omega
    · exact hb ⟨by omega, e⟩
theorem ov_apart {a b c s t : Int} (h1 : ¬ (0 < a - b ∧ 0 < c - b)) (h2 : ¬ (a - b < 0 ∧ c - b < 0)) (hs : Btw a b s) (ht : Btw a b t) (hn : a ≠ b) (ns : s ≠ b) (nt : t ≠ b) : ¬ Ov b c s t := by
  unfold Ov Btw at *; omega
/-- A part of the side ab without its corner b does not meet the side bc. -/
theorem adj {a0 a1 b0 b1 c0 c1 s0 s1 t0 t1 : Int} (hd : (a0 - b0) * (c1 - b1) - (a1 - b1) * (c0 - b0) = 0 → (a0 - b0) * (c0 - b0) + (a1 - b1) * (c1 - b1) < 0) (hab : ¬ (a0 = b0 ∧ a1 = b1))
    (hs : OnI a0 a1 b0 b1 s0 s1) (ht : OnI a0 a1 b0 b1 t0 t1) (ns : ¬ (s0 = b0 ∧ s1 = b1)) (nt : ¬ (t0 = b0 ∧ t1 = b1)) : ¬ GeoI b0 b1 c0 c1 s0 s1 t0 t1 := by
  rintro ⟨ox, oy, f, _⟩
  have es := off_end hs ns
  have et := off_end ht nt
  obtain ⟨zs, sx, sy⟩ := hs
  obtain ⟨zt, tx, ty⟩ := ht
  by_cases z : crossI b0 b1 c0 c1 a0 a1 = 0
  · have hc : (a0 - b0) * (c1 - b1) - (a1 - b1) * (c0 - b0) = 0 := by
      unfold crossI at z
      rw [Int.mul_comm (a0 - b0), Int.mul_comm (a1 - b1)]
      omega
    have g := dot_sign hd hc
    by_cases c : a0 = b0
    · have cq : a1 ≠ b1 := fun e => hab ⟨c, e⟩
      exact ov_apart g.1.1 g.1.2 sy ty cq (es.2 cq) (et.2 cq) oy
    · exact ov_apart g.2.1 g.2.2 sx tx c (es.1 c) (et.1 c) ox
  · apply f
    have zb : crossI b0 b1 c0 c1 b0 b1 = 0 := by unfold crossI; simp
    have key : ∀ r0 r1 : Int, crossI a0 a1 b0 b1 r0 r1 = 0 → Btw a0 b0 r0 → Btw a1 b1 r1 → (a0 ≠ b0 → r0 ≠ b0) ∧ (a1 ≠ b1 → r1 ≠ b1) → Same (crossI b0 b1 c0 c1 a0 a1) (crossI b0 b1 c0 c1 r0 r1) := by
      intro r0 r1 zr rx ry er
      have as := aff a0 a1 b0 b1 r0 r1 b0 b1 c0 c1
      rw [zr, zb, Int.mul_zero, Int.mul_zero, Int.mul_zero, Int.mul_zero, Int.add_zero, Int.add_zero, Int.add_zero, Int.add_zero] at as
      clear zr zb es et ns nt ox oy f zs zt sx sy tx ty hd
      have pos : ∀ a b r A S : Int, (b - a) * S = (b - r) * A → Btw a b r → a ≠ b → r ≠ b → A ≠ 0 → Same A S := by
        intro a b r A S e h1 h2 h3 hA
        have one : ∀ u v A S : Int, u * S = v * A → 0 < u → 0 < v → A ≠ 0 → Same A S := by
          intro u v A S e hu hv hA
          have a := mul_sg (u := A) hv
          have b := mul_sg (u := S) hu
          rw [Int.mul_comm A v] at a
          rw [Int.mul_comm S u] at b
          unfold Same
          by_cases g : 0 < A
          · have := a.1 g
            by_cases k : 0 < S
            · exact .inl ⟨g, k⟩
            · have := b.2.2.2 (by omega); omega
          · have := a.2.1 (by omega)
            by_cases k : S < 0
            · exact .inr ⟨by omega, k⟩
            · have := b.2.2.1 (by omega); omega
        unfold Btw at h1
        by_cases g : a < b
        · exact one (b - a) (b - r) A S e (by omega) (by omega) hA
        · refine one (a - b) (r - b) A S ?_ (by omega) (by omega) hA
          rw [show a - b = -(b - a) by omega, show r - b = -(b - r) by omega, Int.neg_mul, Int.neg_mul, e]
      by_cases c : a0 = b0
      · have cq : a1 ≠ b1 := fun e => hab ⟨c, e⟩
        exact pos _ _ _ _ _ as.2 ry cq (er.2 cq) z
      · exact pos _ _ _ _ _ as.1 rx c (er.1 c) z
    exact same_join (key s0 s1 zs sx sy es) (key t0 t1 zt tx ty et)
end Go.Proofs.Ytannklfnfacpeaa.X
/- The winding on the left of the way is the same all along the polygon, at every scale. -/
namespace Go.Proofs.Ytannklfnfacpeaa.X
open Go.RowKit
set_option linter.unusedVariables false
set_option linter.unusedSimpArgs false
theorem cross_scale (M a0 a1 b0 b1 p0 p1 : Int) : crossI (M * a0) (M * a1) (M * b0) (M * b1) (M * p0) (M * p1) = M * M * crossI a0 a1 b0 b1 p0 p1 := by
  unfold crossI
  simp only [Int.mul_sub, Int.sub_mul, Int.mul_assoc, Int.mul_comm, Int.mul_left_comm]
theorem scale_sg {M A : Int} (hM : 0 < M) : (0 < M * M * A ↔ 0 < A) ∧ (M * M * A < 0 ↔ A < 0) := by
  have := sign_mul (u := A) (Int.mul_pos hM hM)
  rwa [Int.mul_comm A] at this
theorem same_scaled {M A B : Int} (hM : 0 < M) : Same (M * M * A) (M * M * B) ↔ Same A B := by
  have a := scale_sg (A := A) hM
  have b := scale_sg (A := B) hM
  unfold Same
  simp only [gt_iff_lt, a, b]
theorem sc_le {M a b : Int} (hM : 0 < M) : M * a ≤ M * b ↔ a ≤ b := Int.mul_le_mul_left hM
theorem sc_lt {M a b : Int} (hM : 0 < M) : M * a < M * b ↔ a < b := Int.mul_lt_mul_left hM
theorem sc_eq {M a b : Int} (hM : 0 < M) : M * a = M * b ↔ a = b := Int.mul_eq_mul_left_iff (by omega)
theorem geo_scale {M a0 a1 b0 b1 c0 c1 d0 d1 : Int} (hM : 0 < M) : GeoI (M * a0) (M * a1) (M * b0) (M * b1) (M * c0) (M * c1) (M * d0) (M * d1) ↔ GeoI a0 a1 b0 b1 c0 c1 d0 d1 := by
  unfold GeoI Ov
  simp only [cross_scale, same_scaled hM, sc_le hM]
theorem wst_scale {M p0 p1 a0 a1 b0 b1 : Int} (hM : 0 < M) : wst (M * p0) (M * p1) (M * a0) (M * a1) (M * b0) (M * b1) = wst p0 p1 a0 a1 b0 b1 := by
  have s := scale_sg (A := crossI a0 a1 b0 b1 p0 p1) hM
  unfold wst
  simp only [cross_scale, sc_le hM, sc_lt hM, gt_iff_lt, s]
/-- A closed polygon whose sides meet at its corners alone: with no bound. -/
structure Poly (n : Nat) (X Y : Nat → Int) : Prop where
  three : 3 ≤ n
  perX : ∀ i, X (i + n) = X i
  perY : ∀ i, Y (i + n) = Y i
  far : ∀ i d, 2 ≤ d → d + 2 ≤ n → ¬ GeoI (X i) (Y i) (X (i + 1)) (Y (i + 1)) (X (i + d)) (Y (i + d)) (X (i + d + 1)) (Y (i + d + 1))
  ne : ∀ i, ¬ (X i = X (i + 1) ∧ Y i = Y (i + 1))
  dot : ∀ i, (X i - X (i + 1)) * (Y (i + 2) - Y (i + 1)) - (Y i - Y (i + 1)) * (X (i + 2) - X (i + 1)) = 0 → (X i - X (i + 1)) * (X (i + 2) - X (i + 1)) + (Y i - Y (i + 1)) * (Y (i + 2) - Y (i + 1)) < 0
theorem Simp.poly {n : Nat} {X Y : Nat → Int} (h : Simp n X Y) : Poly n X Y := by
  refine ⟨h.three, h.perX, h.perY, h.far, h.ne, fun i => ?_⟩
  have n1 := h.ne i
  have n2 := h.ne (i + 1)
  have s1 := h.sp1 i
  have s2 := h.sp2 i
  rw [show i + 1 + 1 = i + 2 by omega] at n2
  refine no_spike (x := X i - X (i + 1)) (y := Y i - Y (i + 1)) (z := X (i + 2) - X (i + 1)) (t := Y (i + 2) - Y (i + 1)) (by omega) (by omega) ?_
  rintro ⟨g1, g2⟩
  have hc : crossI (X i) (Y i) (X (i + 1)) (Y (i + 1)) (X (i + 2)) (Y (i + 2)) = 0 := by
    have : crossI (X i) (Y i) (X (i + 1)) (Y (i + 1)) (X (i + 2)) (Y (i + 2)) = -((X i - X (i + 1)) * (Y (i + 2) - Y (i + 1)) - (Y i - Y (i + 1)) * (X (i + 2) - X (i + 1))) := by
      unfold crossI
      simp only [Int.mul_sub, Int.sub_mul, Int.mul_comm]
      omega
    rw [this, g1]
    rfl
  rcases (spike_iff n1 n2).1 ⟨hc, g2⟩ with g | g
  · exact s1 g
  · exact s2 g
theorem Poly.scale {n : Nat} {X Y : Nat → Int} (h : Poly n X Y) {M : Int} (hM : 0 < M) : Poly n (fun k => M * X k) (fun k => M * Y k) := by
  refine ⟨h.three, fun i => ?_, fun i => ?_, fun i d h1 h2 => ?_, fun i => ?_, fun i => ?_⟩
  · show M * X (i + n) = M * X i; rw [h.perX]
  · show M * Y (i + n) = M * Y i; rw [h.perY]
  · exact fun g => h.far i d h1 h2 ((geo_scale hM).1 g)
  · have := h.ne i
    show ¬ (M * X i = M * X (i + 1) ∧ M * Y i = M * Y (i + 1))
    rw [sc_eq hM, sc_eq hM]
    exact this
  · have := h.dot i
    show (M * X i - M * X (i + 1)) * (M * Y (i + 2) - M * Y (i + 1)) - (M * Y i - M * Y (i + 1)) * (M * X (i + 2) - M * X (i + 1)) = 0 → (M * X i - M * X (i + 1)) * (M * X (i + 2) - M * X (i + 1)) + (M * Y i - M * Y (i + 1)) * (M * Y (i + 2) - M * Y (i + 1)) < 0
    have k : ∀ u v : Int, (M * u) * (M * v) = M * M * (u * v) := fun u v => by simp only [Int.mul_assoc, Int.mul_left_comm]
    simp only [← Int.mul_sub, k, ← Int.mul_add]
    intro g
    rw [(scale_sg hM).2]
    refine this ?_
    rcases Int.mul_eq_zero.1 g with g | g
    · have := Int.mul_pos hM hM; omega
    · exact g
theorem Poly.shift {n : Nat} {X Y : Nat → Int} (h : Poly n X Y) (s : Nat) : Poly n (fun k => X (k + s)) (fun k => Y (k + s)) := by
  have e : ∀ i d : Nat, i + d + s = i + s + d := fun i d => by omega
  refine ⟨h.three, fun i => ?_, fun i => ?_, fun i d h1 h2 => ?_, fun i => ?_, fun i => ?_⟩
  · show X (i + n + s) = X (i + s); rw [e, h.perX]
  · show Y (i + n + s) = Y (i + s); rw [e, h.perY]
  · have := h.far (i + s) d h1 h2
    show ¬ GeoI (X (i + s)) (Y (i + s)) (X (i + 1 + s)) (Y (i + 1 + s)) (X (i + d + s)) (Y (i + d + s)) (X (i + d + 1 + s)) (Y (i + d + 1 + s))
    rw [e i 1, e i d, show i + d + 1 + s = i + s + d + 1 by omega]
    exact this
  · show ¬ (X (i + s) = X (i + 1 + s) ∧ Y (i + s) = Y (i + 1 + s)); rw [e]; exact h.ne _
  · have := h.dot (i + s)
    show (X (i + s) - X (i + 1 + s)) * (Y (i + 2 + s) - Y (i + 1 + s)) - (Y (i + s) - Y (i + 1 + s)) * (X (i + 2 + s) - X (i + 1 + s)) = 0 → (X (i + s) - X (i + 1 + s)) * (X (i + 2 + s) - X (i + 1 + s)) + (Y (i + s) - Y (i + 1 + s)) * (Y (i + 2 + s) - Y (i + 1 + s)) < 0
    rw [e, e]
    exact this
/-- The winding of a polygon. -/
def W0 (n : Nat) (X Y : Nat → Int) (p q : Int) : Int := sm (fun k => wst p q (X k) (Y k) (X (k + 1)) (Y (k + 1))) n
theorem WN_W0 (n : Nat) (X Y : Nat → Int) (M p q : Int) : WN n X Y M p q = W0 n (fun k => M * X k) (fun k => M * Y k) p q := rfl
theorem W0_shift {n : Nat} {X Y : Nat → Int} (h : Poly n X Y) (p q : Int) (s : Nat) : W0 n (fun k => X (k + s)) (fun k => Y (k + s)) p q = W0 n X Y p q := by
  have := sm_shift (h := fun k => wst p q (X k) (Y k) (X (k + 1)) (Y (k + 1))) (n := n) (fun k => by
    show wst p q (X (k + n)) (Y (k + n)) (X (k + n + 1)) (Y (k + n + 1)) = _
    rw [show k + n + 1 = k + 1 + n by omega, h.perX, h.perY, h.perX, h.perY]) s
  unfold W0
  rw [← this]
  exact sm_congr n fun k _ => by
    show wst p q (X (k + s)) (Y (k + s)) (X (k + 1 + s)) (Y (k + 1 + s)) = wst p q (X (k + s)) (Y (k + s)) (X (k + s + 1)) (Y (k + s + 1))
    rw [show k + 1 + s = k + s + 1 by omega]
theorem W0_scale {n : Nat} {X Y : Nat → Int} {M : Int} (hM : 0 < M) (p q : Int) : W0 n (fun k => M * X k) (fun k => M * Y k) (M * p) (M * q) = W0 n X Y p q :=
  sm_congr n fun k _ => wst_scale hM
theorem on_rev {a0 a1 b0 b1 s0 s1 : Int} (h : OnI a0 a1 b0 b1 s0 s1) : OnI b0 b1 a0 a1 s0 s1 := by
  obtain ⟨z, x, y⟩ := h
  have := cross_back a0 a1 b0 b1 s0 s1
  refine ⟨by omega, ?_, ?_⟩
  · unfold Btw at *; omega
  · unfold Btw at *; omega
theorem sm_one (h : Nat → Int) : ∀ n, 1 ≤ n → (∀ k, 1 ≤ k → k < n → h k = 0) → sm h n = h 0
  | 0, h1, _ => by omega
  | 1, _, _ => by rw [sm, sm]; omega
  | n + 2, _, hz => by rw [sm, sm_one h (n + 1) (by omega) fun k h1 h2 => hz k h1 (by omega), hz (n + 1) (by omega) (by omega)]; omega
/-- Strictly inside the side ab. -/
def Mid (a0 a1 b0 b1 s0 s1 : Int) : Prop := OnI a0 a1 b0 b1 s0 s1 ∧ ¬ (s0 = a0 ∧ s1 = a1) ∧ ¬ (s0 = b0 ∧ s1 = b1)
/-- No other side meets a part of the side 0 without its ends. -/
theorem Poly.mid_meet {n : Nat} {X Y : Nat → Int} (h : Poly n X Y) {s0 s1 t0 t1 : Int} (hs : Mid (X 0) (Y 0) (X 1) (Y 1) s0 s1) (ht : Mid (X 0) (Y 0) (X 1) (Y 1) t0 t1) :
    ∀ k, 1 ≤ k → k < n → ¬ GeoI (X k) (Y k) (X (k + 1)) (Y (k + 1)) s0 s1 t0 t1 := by
  intro k h1 hk
  have h3 := h.three
  by_cases c1 : k = 1
  · subst c1
    exact adj (h.dot 0) (h.ne 0) hs.1 ht.1 hs.2.2 ht.2.2
  · by_cases c2 : k = n - 1
    · subst c2
      have ep : X (n - 1 + 1) = X 0 ∧ Y (n - 1 + 1) = Y 0 ∧ X (n - 1 + 2) = X 1 ∧ Y (n - 1 + 2) = Y 1 := by
        rw [show n - 1 + 1 = 0 + n by omega, show n - 1 + 2 = 1 + n by omega, h.perX, h.perY, h.perX, h.perY]
        exact ⟨rfl, rfl, rfl, rfl⟩
      have d := h.dot (n - 1)
      rw [ep.1, ep.2.1] at *
      rw [ep.2.2.1, ep.2.2.2] at d
      have n0 := h.ne 0
      rw [Nat.zero_add] at n0
      intro g
      refine adj (a0 := X 1) (a1 := Y 1) (b0 := X 0) (b1 := Y 0) (c0 := X (n - 1)) (c1 := Y (n - 1)) ?_ (by omega) (on_rev hs.1) (on_rev ht.1) hs.2.1 ht.2.1 (geo_turn2 (geo_swap (geo_turn2 g)))
      intro e
      rw [Int.mul_comm (X 1 - X 0) (X (n - 1) - X 0), Int.mul_comm (Y 1 - Y 0) (Y (n - 1) - Y 0)]
      refine d ?_
      rw [Int.mul_comm (X (n - 1) - X 0), Int.mul_comm (Y (n - 1) - Y 0)]
      omega
    · have f := h.far 0 k (by omega) (by omega)
      rw [Nat.zero_add, Nat.zero_add] at f
      intro g
      by_cases e : s0 = t0 ∧ s1 = t1
      · rw [← e.1, ← e.2] at g
        have hon : OnI (X k) (Y k) (X (k + 1)) (Y (k + 1)) s0 s1 := by
          rcases geo_ref g with g | g | g | g | g
          · exact g
          · exact g
          · obtain ⟨_, g2, g3⟩ := g
            have e1 : X k = s0 := by unfold Btw at g2; omega
            have e2 : Y k = s1 := by unfold Btw at g3; omega
            rw [e1, e2]
            refine ⟨by unfold crossI; simp, ?_, ?_⟩
            · unfold Btw; omega
            · unfold Btw; omega
          · obtain ⟨_, g2, g3⟩ := g
            have e1 : X (k + 1) = s0 := by unfold Btw at g2; omega
            have e2 : Y (k + 1) = s1 := by unfold Btw at g3; omega
            rw [e1, e2]
            refine ⟨by unfold crossI; rw [Int.mul_comm]; omega, ?_, ?_⟩
            · unfold Btw; omega
            · unfold Btw; omega
          · have := g.1
            unfold Opp at this
            omega
        exact f (geo_turn2 (sub_meet1 hs.1 hon))
      · exact f (geo_turn2 (sub_meet hs.1 ht.1 e g))
theorem own_zero {a0 a1 b0 b1 s0 s1 t0 t1 : Int} (hab : ¬ (a0 = b0 ∧ a1 = b1)) (hs : OnI a0 a1 b0 b1 s0 s1) (ht : OnI a0 a1 b0 b1 t0 t1) :
    wst s0 s1 a0 a1 b0 b1 = 0 ∧ pot s0 s1 t0 t1 a0 a1 = 0 ∧ pot s0 s1 t0 t1 b0 b1 = 0 := by
  have za : crossI a0 a1 b0 b1 a0 a1 = 0 := by unfold crossI; simp
  have zb : crossI a0 a1 b0 b1 b0 b1 = 0 := by unfold crossI; rw [Int.mul_comm]; omega
  have pa := part_cross a0 a1 b0 b1 s0 s1 t0 t1 a0 a1 hs.1 ht.1
  have pb := part_cross a0 a1 b0 b1 s0 s1 t0 t1 b0 b1 hs.1 ht.1
  rw [za, Int.mul_zero, Int.mul_zero] at pa
  rw [zb, Int.mul_zero, Int.mul_zero] at pb
  have key : ∀ z : Int, 0 = (b0 - a0) * z → 0 = (b1 - a1) * z → z = 0 := by
    intro z h1 h2
    rcases Int.mul_eq_zero.1 h1.symm with g | g
    · rcases Int.mul_eq_zero.1 h2.symm with k | k
      · exact absurd ⟨by omega, by omega⟩ hab
      · exact k
    · exact g
  have ca := key _ pa.1 pa.2
  have cb := key _ pb.1 pb.2
  have hz := hs.1
  unfold wst pot
  rw [hz, ca, cb]
  refine ⟨?_, ?_, ?_⟩
  · rw [if_neg (fun g => by omega), if_neg (fun g => by omega)]
  · rw [if_neg (fun g => by omega)]
  · rw [if_neg (fun g => by omega)]
theorem Poly.along_up {n : Nat} {X Y : Nat → Int} (h : Poly n X Y) {s0 s1 t0 t1 : Int} (hs : Mid (X 0) (Y 0) (X 1) (Y 1) s0 s1) (ht : Mid (X 0) (Y 0) (X 1) (Y 1) t0 t1) (hst : s1 ≤ t1) :
    W0 n X Y s0 s1 = W0 n X Y t0 t1 := by
  have h3 := h.three
  have n0 := h.ne 0
  rw [Nat.zero_add] at n0
  have k1 := sm_one (fun k => (wst s0 s1 (X k) (Y k) (X (k + 1)) (Y (k + 1)) - wst t0 t1 (X k) (Y k) (X (k + 1)) (Y (k + 1))) - ((fun i => pot s0 s1 t0 t1 (X i) (Y i)) (k + 1) - (fun i => pot s0 s1 t0 t1 (X i) (Y i)) k)) n (by omega) (fun k h1 hk => by
    have := edge_same hst (h.mid_meet hs ht k h1 hk)
    show (wst s0 s1 (X k) (Y k) (X (k + 1)) (Y (k + 1)) - wst t0 t1 (X k) (Y k) (X (k + 1)) (Y (k + 1))) - (pot s0 s1 t0 t1 (X (k + 1)) (Y (k + 1)) - pot s0 s1 t0 t1 (X k) (Y k)) = 0
    omega)
  rw [sm_sub, sm_sub, sm_tele (fun i => pot s0 s1 t0 t1 (X i) (Y i))] at k1
  have ep : X n = X 0 ∧ Y n = Y 0 := by
    have a := h.perX 0
    have b := h.perY 0
    rw [Nat.zero_add] at a b
    exact ⟨a, b⟩
  have o := own_zero n0 hs.1 ht.1
  have o2 := own_zero n0 ht.1 hs.1
  simp only [ep.1, ep.2, Nat.zero_add, o.1, o.2.1, o.2.2, o2.1] at k1
  unfold W0
  omega
theorem Poly.along {n : Nat} {X Y : Nat → Int} (h : Poly n X Y) (i : Nat) {s0 s1 t0 t1 : Int} (hs : Mid (X i) (Y i) (X (i + 1)) (Y (i + 1)) s0 s1) (ht : Mid (X i) (Y i) (X (i + 1)) (Y (i + 1)) t0 t1) :
    W0 n X Y s0 s1 = W0 n X Y t0 t1 := by
  have hs' : Mid (X (0 + i)) (Y (0 + i)) (X (1 + i)) (Y (1 + i)) s0 s1 := by rw [Nat.zero_add, Nat.add_comm 1 i]; exact hs
  have ht' : Mid (X (0 + i)) (Y (0 + i)) (X (1 + i)) (Y (1 + i)) t0 t1 := by rw [Nat.zero_add, Nat.add_comm 1 i]; exact ht
  rw [← W0_shift h s0 s1 i, ← W0_shift h t0 t1 i]
  by_cases c : s1 ≤ t1
  · exact (h.shift i).along_up hs' ht' c
  · exact ((h.shift i).along_up ht' hs' (by omega)).symm
end Go.Proofs.Ytannklfnfacpeaa.X
/- A simple polygon winds about a point off it at most once. -/
namespace Go.Proofs.Ytannklfnfacpeaa.X
open Go.RowKit
set_option linter.unusedVariables false
set_option linter.unusedSimpArgs false
theorem mid_near {a0 a1 b0 b1 : Int} (h : ¬ (a0 = b0 ∧ a1 = b1)) : Mid (BIG * a0) (BIG * a1) (BIG * b0) (BIG * b1) (BIG * a0 + (b0 - a0)) (BIG * a1 + (b1 - a1)) ∧ Mid (BIG * a0) (BIG * a1) (BIG * b0) (BIG * b1) (BIG * b0 + (a0 - b0)) (BIG * b1 + (a1 - b1)) := by
  have e1 := cross_near BIG a0 a1 b0 b1 a0 a1 (b0 - a0) (b1 - a1)
  have e2 := cross_near BIG a0 a1 b0 b1 b0 b1 (a0 - b0) (a1 - b1)
  have za : crossI a0 a1 b0 b1 a0 a1 = 0 := by unfold crossI; simp
  have zb : crossI a0 a1 b0 b1 b0 b1 = 0 := by unfold crossI; rw [Int.mul_comm]; omega
  rw [za, Int.mul_zero, Int.zero_add, Int.mul_comm (b0 - a0), Int.sub_self, Int.mul_zero] at e1
  have z : (b0 - a0) * (a1 - b1) - (b1 - a1) * (a0 - b0) = 0 := by
    rw [show a1 - b1 = -(b1 - a1) by omega, show a0 - b0 = -(b0 - a0) by omega, Int.mul_neg, Int.mul_neg, Int.mul_comm]
    omega
  rw [zb, Int.mul_zero, Int.zero_add, z, Int.mul_zero] at e2
  have b : ∀ a b : Int, Btw (BIG * a) (BIG * b) (BIG * a + (b - a)) ∧ Btw (BIG * a) (BIG * b) (BIG * b + (a - b)) := by
    intro a b; unfold Btw BIG; omega
  refine ⟨⟨⟨e1, (b _ _).1, (b _ _).1⟩, ?_, ?_⟩, ⟨⟨e2, (b _ _).2, (b _ _).2⟩, ?_, ?_⟩⟩
  all_goals unfold BIG; omega
theorem on_scale {M a0 a1 b0 b1 s0 s1 : Int} (hM : 0 < M) : OnI (M * a0) (M * a1) (M * b0) (M * b1) (M * s0) (M * s1) ↔ OnI a0 a1 b0 b1 s0 s1 := by
  have s := scale_sg (A := crossI a0 a1 b0 b1 s0 s1) hM
  unfold OnI Btw
  simp only [cross_scale, sc_le hM]
  refine ⟨fun h => ⟨?_, h.2⟩, fun h => ⟨by rw [h.1, Int.mul_zero], h.2⟩⟩
  have := h.1
  omega
theorem mid_scale {M a0 a1 b0 b1 s0 s1 : Int} (hM : 0 < M) : Mid (M * a0) (M * a1) (M * b0) (M * b1) (M * s0) (M * s1) ↔ Mid a0 a1 b0 b1 s0 s1 := by
  unfold Mid
  rw [on_scale hM]
  simp only [sc_eq hM]
/-- The winding on the left is one number, at every side and at every scale. -/
theorem left_const {n : Nat} {X Y : Nat → Int} (h : Simp n X Y) : ∃ L, ∀ H : Int, 0 < H → ∀ i s0 s1, Mid (H * (BIG * X i)) (H * (BIG * Y i)) (H * (BIG * X (i + 1))) (H * (BIG * Y (i + 1))) s0 s1 →
    W0 n (fun k => H * (BIG * X k)) (fun k => H * (BIG * Y k)) s0 s1 + upw (X i) (Y i) (X (i + 1)) (Y (i + 1)) = L := by
  have hB : 0 < BIG := by unfold BIG; omega
  have hb := h.poly.scale hB
  have st : ∀ i, W0 n (fun k => BIG * X k) (fun k => BIG * Y k) (BIG * X i + (X (i + 1) - X i)) (BIG * Y i + (Y (i + 1) - Y i)) + upw (X i) (Y i) (X (i + 1)) (Y (i + 1)) =
      W0 n (fun k => BIG * X k) (fun k => BIG * Y k) (BIG * X (i + 1) + (X (i + 1 + 1) - X (i + 1))) (BIG * Y (i + 1) + (Y (i + 1 + 1) - Y (i + 1))) + upw (X (i + 1)) (Y (i + 1)) (X (i + 1 + 1)) (Y (i + 1 + 1)) := by
    intro i
    have m := mid_near (h.ne i)
    have a := hb.along i m.1 m.2
    have p := past_corner (h.shift i)
    rw [WN_shift h, WN_shift h, WN_W0, WN_W0] at p
    simp only [Nat.zero_add] at p
    rw [show 1 + i = i + 1 by omega, show 2 + i = i + 1 + 1 by omega] at p
    rw [a]
    exact p
  have all : ∀ i, W0 n (fun k => BIG * X k) (fun k => BIG * Y k) (BIG * X i + (X (i + 1) - X i)) (BIG * Y i + (Y (i + 1) - Y i)) + upw (X i) (Y i) (X (i + 1)) (Y (i + 1)) =
      W0 n (fun k => BIG * X k) (fun k => BIG * Y k) (BIG * X 0 + (X (0 + 1) - X 0)) (BIG * Y 0 + (Y (0 + 1) - Y 0)) + upw (X 0) (Y 0) (X (0 + 1)) (Y (0 + 1)) := by
    intro i
    induction i with
    | zero => rfl
    | succ i ih => rw [← st i, ih]
  refine ⟨W0 n (fun k => BIG * X k) (fun k => BIG * Y k) (BIG * X 0 + (X (0 + 1) - X 0)) (BIG * Y 0 + (Y (0 + 1) - Y 0)) + upw (X 0) (Y 0) (X (0 + 1)) (Y (0 + 1)), fun H hH i s0 s1 hs => ?_⟩
  rw [← all i]
  have m := (mid_scale hH).2 (mid_near (h.ne i)).1
  rw [(hb.scale hH).along i hs m, W0_scale hH]
/-- A number that each rise divides. -/
def hts (Y : Nat → Int) : Nat → Int
  | 0 => 1
  | k + 1 => hts Y k * (if Y (k + 1) = Y k then 1 else (Y (k + 1) - Y k) * (Y (k + 1) - Y k))
theorem hts_pos (Y : Nat → Int) : ∀ n, 0 < hts Y n
  | 0 => by rw [hts]; omega
  | n + 1 => by
    rw [hts]
    refine Int.mul_pos (hts_pos Y n) ?_
    split
    · omega
    · by_cases c : 0 < Y (n + 1) - Y n
      · exact Int.mul_pos c c
      · rw [← Int.neg_mul_neg]; exact Int.mul_pos (by omega) (by omega)
theorem hts_dvd (Y : Nat → Int) : ∀ n k, k < n → Y (k + 1) ≠ Y k → ∃ z, hts Y n = (Y (k + 1) - Y k) * z
  | 0, k, h, _ => by omega
  | n + 1, k, h, hne => by
    by_cases c : k = n
    · subst c
      refine ⟨hts Y k * (Y (k + 1) - Y k), ?_⟩
      rw [hts, if_neg hne, Int.mul_left_comm]
    · obtain ⟨z, hz⟩ := hts_dvd Y n k (by omega) hne
      refine ⟨z * (if Y (n + 1) = Y n then 1 else (Y (n + 1) - Y n) * (Y (n + 1) - Y n)), ?_⟩
      rw [hts, hz, Int.mul_assoc]
theorem sm_bound (c : Nat → Int) : ∀ n, ∃ B, ∀ k, k < n → c k ≤ B
  | 0 => ⟨0, fun k h => by omega⟩
  | n + 1 => by
    obtain ⟨B, hB⟩ := sm_bound c n
    by_cases g : c n ≤ B
    · refine ⟨B, fun k h => ?_⟩
      by_cases e : k = n
      · subst e; exact g
      · exact hB k (by omega)
    · refine ⟨c n, fun k h => ?_⟩
      by_cases e : k = n
      · subst e; exact Int.le_refl _
      · have := hB k (by omega); omega
theorem sm_zero (h : Nat → Int) : ∀ n, (∀ k, k < n → h k = 0) → sm h n = 0
  | 0, _ => rfl
  | n + 1, hz => by rw [sm, sm_zero h n fun k hk => hz k (by omega), hz n (by omega)]; omega
theorem sm_at (h : Nat → Int) : ∀ n i, i < n → (∀ k, k < n → k ≠ i → h k = 0) → sm h n = h i
  | 0, i, hi, _ => by omega
  | n + 1, i, hi, hz => by
    rw [sm]
    by_cases c : i = n
    · subst c
      rw [sm_zero h i fun k hk => hz k (by omega) (by omega)]
      omega
    · rw [sm_at h n i (by omega) fun k hk hne => hz k (by omega) hne, hz n (by omega) (by omega)]
      omega
theorem wst_flat {p0 p1 a0 a1 b0 b1 : Int} (h : (p1 < a1 ∧ p1 < b1) ∨ (a1 < p1 ∧ b1 < p1)) : wst p0 p1 a0 a1 b0 b1 = 0 := by
  unfold wst
  rw [if_neg (fun g => by omega), if_neg (fun g => by omega)]
/-- A side that crosses a height between its ends: where it crosses, seen from x. -/
theorem wst_cross {a0 a1 b0 b1 q c : Int} (x : Int) (hf : crossI a0 a1 b0 b1 x q = (b1 - a1) * (c - x)) :
    (a1 < q → q < b1 → wst x q a0 a1 b0 b1 = if x < c then 1 else 0) ∧ (b1 < q → q < a1 → wst x q a0 a1 b0 b1 = if x < c then -1 else 0) := by
  unfold wst
  rw [hf]
  refine ⟨fun h1 h2 => ?_, fun h1 h2 => ?_⟩
  · have k := sign_mul (u := c - x) (v := b1 - a1) (by omega)
    rw [Int.mul_comm] at k
    rw [if_neg (c := b1 ≤ q ∧ a1 > q ∧ (b1 - a1) * (c - x) < 0) (fun g => by omega)]
    by_cases g : x < c
    · rw [if_pos g, if_pos ⟨by omega, by omega, k.1.2 (by omega)⟩]
    · rw [if_neg g, if_neg (fun e => g (by have := k.1.1 e.2.2; omega))]
  · have k := sign_mul (u := c - x) (v := a1 - b1) (by omega)
    rw [Int.mul_comm] at k
    have e : (b1 - a1) * (c - x) = -((a1 - b1) * (c - x)) := by rw [← Int.neg_mul]; congr 1; omega
    rw [e]
    rw [if_neg (c := a1 ≤ q ∧ b1 > q ∧ -((a1 - b1) * (c - x)) > 0) (fun g => by omega)]
    by_cases g : x < c
    · rw [if_pos g, if_pos ⟨by omega, by omega, by have := k.1.2 (by omega); omega⟩]
    · rw [if_neg g, if_neg (fun e => g (by have := k.1.1 (by omega); omega))]
theorem on_height {a0 a1 b0 b1 s0 s1 : Int} (hz : crossI a0 a1 b0 b1 s0 s1 = 0) (hy : Btw a1 b1 s1) (hne : a1 ≠ b1) : OnI a0 a1 b0 b1 s0 s1 := by
  refine ⟨hz, ?_, hy⟩
  have up : ∀ a0 a1 b0 b1 s0 s1 : Int, crossI a0 a1 b0 b1 s0 s1 = 0 → a1 ≤ s1 → s1 ≤ b1 → a1 < b1 → Btw a0 b0 s0 := by
    intro a0 a1 b0 b1 s0 s1 hz h1 h2 h3
    unfold crossI at hz
    have e1 : (s0 - a0) * (b1 - a1) = (b0 - a0) * (s1 - a1) := by rw [Int.mul_comm (s0 - a0)]; omega
    have e2 : (b0 - s0) * (b1 - a1) = (b0 - a0) * (b1 - s1) := by
      have k1 := Int.sub_mul (b0 - a0) (s0 - a0) (b1 - a1)
      have k2 := Int.mul_sub (b0 - a0) (b1 - a1) (s1 - a1)
      rw [show b0 - a0 - (s0 - a0) = b0 - s0 by omega] at k1
      rw [show b1 - a1 - (s1 - a1) = b1 - s1 by omega] at k2
      omega
    have m1 := mul_sg (u := s0 - a0) (show 0 < b1 - a1 by omega)
    have m2 := mul_sg (u := b0 - s0) (show 0 < b1 - a1 by omega)
    have m3 := mul_sg0 (u := b0 - a0) (show 0 ≤ s1 - a1 by omega)
    have m4 := mul_sg0 (u := b0 - a0) (show 0 ≤ b1 - s1 by omega)
    rw [e1] at m1
    rw [e2] at m2
    clear e1 e2 hz h1 h2 h3
    generalize (b0 - a0) * (s1 - a1) = t1 at *
    generalize (b0 - a0) * (b1 - s1) = t2 at *
    unfold Btw
    by_cases c : a0 ≤ b0
    · refine .inl ⟨?_, ?_⟩
      · by_cases g : a0 ≤ s0
        · exact g
        · have := m1.2.1 (by omega); have := m3.1 (by omega); omega
      · by_cases g : s0 ≤ b0
        · exact g
        · have := m2.2.1 (by omega); have := m4.1 (by omega); omega
    · refine .inr ⟨?_, ?_⟩
      · by_cases g : b0 ≤ s0
        · exact g
        · have := m2.1 (by omega); have := m4.2 (by omega); omega
      · by_cases g : s0 ≤ a0
        · exact g
        · have := m1.1 (by omega); have := m3.2 (by omega); omega
  have hy' := hy
  unfold Btw at hy
  rcases hy with g | g
  · exact up _ _ _ _ _ _ hz g.1 g.2 (by omega)
  · have := up _ _ _ _ _ _ (show crossI b0 b1 a0 a1 s0 s1 = 0 by rw [cross_back]; omega) g.1 g.2 (by omega)
    unfold Btw at *
    omega
end Go.Proofs.Ytannklfnfacpeaa.X
/- Along a height that holds no corner: a simple polygon winds about each point by 0 or by one and the same number of 1, -1. -/
namespace Go.Proofs.Ytannklfnfacpeaa.X
open Go.RowKit
set_option linter.unusedVariables false
set_option linter.unusedSimpArgs false
/-- Where the side k crosses the height. -/
def crs (X Y : Nat → Int) (H h : Int) (k : Nat) : Int := H * (BIG * X k) + (X (k + 1) - X k) * (H / (Y (k + 1) - Y k)) * (h - BIG * Y k)
theorem crs_cross {X Y : Nat → Int} {n k : Nat} (hk : k < n) (hne : Y (k + 1) ≠ Y k) (h x : Int) :
    crossI (hts Y n * (BIG * X k)) (hts Y n * (BIG * Y k)) (hts Y n * (BIG * X (k + 1))) (hts Y n * (BIG * Y (k + 1))) x (hts Y n * h) =
      (hts Y n * (BIG * Y (k + 1)) - hts Y n * (BIG * Y k)) * (crs X Y (hts Y n) h k - x) := by
  obtain ⟨z, hz⟩ := hts_dvd Y n k hk hne
  unfold crs
  generalize hts Y n = H at *
  have hd : H / (Y (k + 1) - Y k) = z := by rw [hz]; exact Int.mul_ediv_cancel_left z (by omega)
  rw [hd]
  unfold crossI
  have e : H * (BIG * X (k + 1)) - H * (BIG * X k) = (Y (k + 1) - Y k) * (z * (BIG * (X (k + 1) - X k))) := by
    rw [← Int.mul_sub, ← Int.mul_sub, hz, Int.mul_assoc]
  have e2 : H * (BIG * Y (k + 1)) - H * (BIG * Y k) = H * (BIG * (Y (k + 1) - Y k)) := by rw [← Int.mul_sub, ← Int.mul_sub]
  have e3 : H * h - H * (BIG * Y k) = H * (h - BIG * Y k) := by rw [← Int.mul_sub]
  rw [e, e2, e3]
  have e4 : H * (BIG * X k) + (X (k + 1) - X k) * z * (h - BIG * Y k) - x = (X (k + 1) - X k) * z * (h - BIG * Y k) - (x - H * (BIG * X k)) := by omega
  rw [e4]
  clear e e2 e3 e4 hd hz
  generalize x - H * (BIG * X k) = R
  generalize h - BIG * Y k = G
  generalize Y (k + 1) - Y k = D
  generalize X (k + 1) - X k = E
  rw [Int.mul_sub]
  congr 1
  simp only [Int.mul_assoc, Int.mul_comm, Int.mul_left_comm]
/-- Sides at the height q: above, below, up through it, or down through it. -/
theorem no_corner {H h : Int} (hH : 0 < H) (hh : ∀ y, BIG * y ≠ h) (y : Int) : H * (BIG * y) < H * h ∨ H * h < H * (BIG * y) := by
  have := hh y
  rw [sc_lt hH, sc_lt hH]
  omega
theorem ite_step (x c v : Int) : (if x < c then v else 0) - (if x + 1 < c then v else 0) = if x = c - 1 then v else 0 := by
  repeat' split
  all_goals omega
theorem one_side {a0 a1 b0 b1 q c : Int} (hc : b1 ≠ a1 → ∀ x, crossI a0 a1 b0 b1 x q = (b1 - a1) * (c - x)) (x : Int) :
    ((a1 < q ∧ b1 < q) ∨ (q < a1 ∧ q < b1) → wst x q a0 a1 b0 b1 = 0 ∧ wst x q a0 a1 b0 b1 - wst (x + 1) q a0 a1 b0 b1 = 0) ∧
    (a1 < q ∧ q < b1 → (c ≤ x → wst x q a0 a1 b0 b1 = 0) ∧ (x ≠ c - 1 → wst x q a0 a1 b0 b1 - wst (x + 1) q a0 a1 b0 b1 = 0) ∧ (x = c - 1 → Mid a0 a1 b0 b1 (x + 1) q ∧ wst x q a0 a1 b0 b1 - wst (x + 1) q a0 a1 b0 b1 = 1)) ∧
    (b1 < q ∧ q < a1 → (c ≤ x → wst x q a0 a1 b0 b1 = 0) ∧ (x ≠ c - 1 → wst x q a0 a1 b0 b1 - wst (x + 1) q a0 a1 b0 b1 = 0) ∧ (x = c - 1 → Mid a0 a1 b0 b1 (x + 1) q ∧ wst x q a0 a1 b0 b1 - wst (x + 1) q a0 a1 b0 b1 = -1)) := by
  have mid : Btw a1 b1 q → b1 ≠ a1 → a1 ≠ q → b1 ≠ q → x = c - 1 → Mid a0 a1 b0 b1 (x + 1) q := by
    intro g hne n1 n2 e
    have z := hc hne (x + 1)
    rw [show c - (x + 1) = 0 by omega, Int.mul_zero] at z
    exact ⟨on_height z g (fun h => hne h.symm), fun h => n1 h.2.symm, fun h => n2 h.2.symm⟩
  refine ⟨fun g => ?_, fun g => ?_, fun g => ?_⟩
  · have f : ∀ x, wst x q a0 a1 b0 b1 = 0 := fun x => wst_flat (by omega)
    rw [f, f]
    exact ⟨rfl, rfl⟩
  · have hne : b1 ≠ a1 := by omega
    have w1 := (wst_cross x (hc hne x)).1 g.1 g.2
    have w2 := (wst_cross (x + 1) (hc hne (x + 1))).1 g.1 g.2
    have st := ite_step x c 1
    rw [← w1, ← w2] at st
    refine ⟨fun l => ?_, fun l => ?_, fun l => ⟨mid (.inl ⟨Int.le_of_lt g.1, Int.le_of_lt g.2⟩) hne (Int.ne_of_lt g.1) (fun h => by omega) l, ?_⟩⟩
    · rw [w1, if_neg (by omega)]
    · rw [st, if_neg l]
    · rw [st, if_pos l]
  · have hne : b1 ≠ a1 := by omega
    have w1 := (wst_cross x (hc hne x)).2 g.1 g.2
    have w2 := (wst_cross (x + 1) (hc hne (x + 1))).2 g.1 g.2
    have st := ite_step x c (-1)
    rw [← w1, ← w2] at st
    refine ⟨fun l => ?_, fun l => ?_, fun l => ⟨mid (.inr ⟨Int.le_of_lt g.1, Int.le_of_lt g.2⟩) hne (fun h => by omega) (Int.ne_of_lt g.1) l, ?_⟩⟩
    · rw [w1, if_neg (by omega)]
    · rw [st, if_neg l]
    · rw [st, if_pos l]
theorem upw_up {a0 a1 b0 b1 : Int} (h : a1 < b1) : upw a0 a1 b0 b1 = 1 := by unfold upw; rw [if_pos (.inl h)]
theorem upw_dn {a0 a1 b0 b1 : Int} (h : b1 < a1) : upw a0 a1 b0 b1 = 0 := by unfold upw; rw [if_neg (by omega)]
theorem sweep {n : Nat} {X Y : Nat → Int} (hp : Simp n X Y) {L : Int}
    (hL : ∀ H : Int, 0 < H → ∀ i s0 s1, Mid (H * (BIG * X i)) (H * (BIG * Y i)) (H * (BIG * X (i + 1))) (H * (BIG * Y (i + 1))) s0 s1 →
      W0 n (fun k => H * (BIG * X k)) (fun k => H * (BIG * Y k)) s0 s1 + upw (X i) (Y i) (X (i + 1)) (Y (i + 1)) = L)
    {h : Int} (hh : ∀ y, BIG * y ≠ h) :
    (∀ x, W0 n (fun k => hts Y n * (BIG * X k)) (fun k => hts Y n * (BIG * Y k)) x (hts Y n * h) = 0 ∨
      ((L = 0 ∨ L = 1) ∧ W0 n (fun k => hts Y n * (BIG * X k)) (fun k => hts Y n * (BIG * Y k)) x (hts Y n * h) = 2 * L - 1)) ∧
    (∀ i x, i < n → x = crs X Y (hts Y n) h i - 1 → ((hts Y n * (BIG * Y i) < hts Y n * h ∧ hts Y n * h < hts Y n * (BIG * Y (i + 1))) ∨ (hts Y n * (BIG * Y (i + 1)) < hts Y n * h ∧ hts Y n * h < hts Y n * (BIG * Y i))) →
      W0 n (fun k => hts Y n * (BIG * X k)) (fun k => hts Y n * (BIG * Y k)) x (hts Y n * h) ≠ W0 n (fun k => hts Y n * (BIG * X k)) (fun k => hts Y n * (BIG * Y k)) (x + 1) (hts Y n * h)) := by
  have hH := hts_pos Y n
  have hB : 0 < BIG := by unfold BIG; omega
  have hpo := (hp.poly.scale hB).scale hH
  replace hL := hL _ hH
  have cc := fun k (hk : k < n) (hne : Y (k + 1) ≠ Y k) x => crs_cross (X := X) hk hne h x
  have nc := no_corner hH hh
  obtain ⟨B, bB⟩ := sm_bound (crs X Y (hts Y n) h) n
  have cmp : ∀ i j : Nat, (hts Y n * (BIG * Y i) < hts Y n * (BIG * Y j)) ↔ Y i < Y j := fun i j => by rw [sc_lt hH, sc_lt hB]
  generalize hA : (fun k => hts Y n * (BIG * X k)) = A at *
  generalize hC : (fun k => hts Y n * (BIG * Y k)) = C at *
  have eA : ∀ k, hts Y n * (BIG * X k) = A k := fun k => congrFun hA k
  have eC : ∀ k, hts Y n * (BIG * Y k) = C k := fun k => congrFun hC k
  simp only [eA, eC] at hL cc cmp hpo
  simp only [eC]
  have nc' : ∀ k, C k < hts Y n * h ∨ hts Y n * h < C k := fun k => by rw [← eC]; exact nc _
  clear nc hA hC eA eC hh
  generalize hts Y n * h = q at *
  generalize crs X Y (hts Y n) h = c at *
  -- one side
  have cases : ∀ k, ((C k < q ∧ C (k + 1) < q) ∨ (q < C k ∧ q < C (k + 1))) ∨ (C k < q ∧ q < C (k + 1)) ∨ (C (k + 1) < q ∧ q < C k) := fun k => by
    have a := nc' k
    have b := nc' (k + 1)
    clear cc cmp bB hL
    omega
  have sid := fun k (hk : k < n) x => one_side (a0 := A k) (a1 := C k) (b0 := A (k + 1)) (b1 := C (k + 1)) (q := q) (c := c k) (fun hne x => cc k hk (fun e => hne (by
    have m1 := cmp k (k + 1)
    have m2 := cmp (k + 1) k
    clear cc bB hL cases nc'
    omega)) x) x
  have ups : ∀ k, (C k < q ∧ q < C (k + 1) → upw (X k) (Y k) (X (k + 1)) (Y (k + 1)) = 1) ∧ (C (k + 1) < q ∧ q < C k → upw (X k) (Y k) (X (k + 1)) (Y (k + 1)) = 0) := fun k =>
    ⟨fun g => upw_up ((cmp k (k + 1)).1 (Int.lt_trans g.1 g.2)), fun g => upw_dn ((cmp (k + 1) k).1 (Int.lt_trans g.1 g.2))⟩
  have one : ∀ k, k < n → ∀ x, (x ≠ c k - 1 ∨ ((C k < q ∧ C (k + 1) < q) ∨ (q < C k ∧ q < C (k + 1))) → wst x q (A k) (C k) (A (k + 1)) (C (k + 1)) - wst (x + 1) q (A k) (C k) (A (k + 1)) (C (k + 1)) = 0) ∧
      (c k ≤ x → wst x q (A k) (C k) (A (k + 1)) (C (k + 1)) = 0) ∧
      (x = c k - 1 → ((C k < q ∧ q < C (k + 1)) ∨ (C (k + 1) < q ∧ q < C k)) →
        Mid (A k) (C k) (A (k + 1)) (C (k + 1)) (x + 1) q ∧ wst x q (A k) (C k) (A (k + 1)) (C (k + 1)) - wst (x + 1) q (A k) (C k) (A (k + 1)) (C (k + 1)) = 2 * upw (X k) (Y k) (X (k + 1)) (Y (k + 1)) - 1) := by
    intro k hk x
    have s := sid k hk x
    have u := ups k
    have cs := cases k
    clear sid ups cases cc cmp bB hL nc'
    refine ⟨fun g => ?_, fun g => ?_, fun g f => ?_⟩
    · rcases cs with f | f | f
      · exact (s.1 f).2
      · rcases g with g | g
        · exact (s.2.1 f).2.1 g
        · clear s u; omega
      · rcases g with g | g
        · exact (s.2.2 f).2.1 g
        · clear s u; omega
    · rcases cs with f | f | f
      · exact (s.1 f).1
      · exact (s.2.1 f).1 g
      · exact (s.2.2 f).1 g
    · rcases f with f | f
      · rw [u.1 f]
        exact (s.2.1 f).2.2 g
      · rw [u.2 f]
        exact (s.2.2 f).2.2 g
  have far : ∀ x, B ≤ x → W0 n A C x q = 0 := fun x hx => sm_zero _ n fun k hk => (one k hk x).2.1 (by have := bB k hk; omega)
  -- one step to the left
  have step : ∀ x, (W0 n A C x q = W0 n A C (x + 1) q ∧ ¬ ∃ i, i < n ∧ x = c i - 1 ∧ ((C i < q ∧ q < C (i + 1)) ∨ (C (i + 1) < q ∧ q < C i))) ∨ ∃ u, (u = 0 ∨ u = 1) ∧ W0 n A C (x + 1) q + u = L ∧ W0 n A C x q = W0 n A C (x + 1) q + (2 * u - 1) := by
    intro x
    have sub := sm_sub (fun k => wst x q (A k) (C k) (A (k + 1)) (C (k + 1))) (fun k => wst (x + 1) q (A k) (C k) (A (k + 1)) (C (k + 1))) n
    by_cases ex : ∃ i, i < n ∧ x = c i - 1 ∧ ((C i < q ∧ q < C (i + 1)) ∨ (C (i + 1) < q ∧ q < C i))
    · obtain ⟨i, hi, e, g⟩ := ex
      have o := (one i hi x).2.2 e g
      refine .inr ⟨upw (X i) (Y i) (X (i + 1)) (Y (i + 1)), ?_, hL i _ _ o.1, ?_⟩
      · unfold upw; split <;> omega
      · have at_ := sm_at (fun k => wst x q (A k) (C k) (A (k + 1)) (C (k + 1)) - wst (x + 1) q (A k) (C k) (A (k + 1)) (C (k + 1))) n i hi (fun k hk hne => by
          have ok := one k hk x
          by_cases g2 : x = c k - 1
          · by_cases fl : (C k < q ∧ C (k + 1) < q) ∨ (q < C k ∧ q < C (k + 1))
            · exact ok.1 (.inr fl)
            · exfalso
              have ok2 := ok.2.2 g2 ((cases k).resolve_left fl)
              have hs : Mid (A (0 + i)) (C (0 + i)) (A (1 + i)) (C (1 + i)) (x + 1) q := by rw [Nat.zero_add, Nat.add_comm 1 i]; exact o.1
              have geo := ref_geo (.inl ok2.1.1 : RefI (A k) (C k) (A (k + 1)) (C (k + 1)) (x + 1) q (x + 1) q)
              by_cases lt : i < k
              · have mm := (hpo.shift i).mid_meet hs hs (k - i) (by omega) (by omega)
                apply mm
                show GeoI (A (k - i + i)) (C (k - i + i)) (A (k - i + 1 + i)) (C (k - i + 1 + i)) (x + 1) q (x + 1) q
                rw [show k - i + i = k by omega, show k - i + 1 + i = k + 1 by omega]
                exact geo
              · have mm := (hpo.shift i).mid_meet hs hs (k + n - i) (by omega) (by omega)
                apply mm
                show GeoI (A (k + n - i + i)) (C (k + n - i + i)) (A (k + n - i + 1 + i)) (C (k + n - i + 1 + i)) (x + 1) q (x + 1) q
                have pa := hpo.perX k
                have pb := hpo.perX (k + 1)
                have pc := hpo.perY k
                have pd := hpo.perY (k + 1)
                rw [show k + n - i + i = k + n by omega, show k + n - i + 1 + i = k + 1 + n by omega, pa, pb, pc, pd]
                exact geo
          · exact ok.1 (.inl g2))
        rw [sub] at at_
        have := o.2
        unfold W0
        omega
    · refine .inl ⟨?_, ex⟩
      have z := sm_zero (fun k => wst x q (A k) (C k) (A (k + 1)) (C (k + 1)) - wst (x + 1) q (A k) (C k) (A (k + 1)) (C (k + 1))) n (fun k hk => by
        have ok := one k hk x
        by_cases g2 : x = c k - 1
        · by_cases fl : (C k < q ∧ C (k + 1) < q) ∨ (q < C k ∧ q < C (k + 1))
          · exact ok.1 (.inr fl)
          · exact absurd ⟨k, hk, g2, (cases k).resolve_left fl⟩ ex
        · exact ok.1 (.inl g2))
      rw [sub] at z
      unfold W0
      omega
  clear one sid ups cases cc cmp hL hpo bB nc' hp hH hB
  have down : ∀ m : Nat, W0 n A C (B - m) q = 0 ∨ ((L = 0 ∨ L = 1) ∧ W0 n A C (B - m) q = 2 * L - 1) := by
    intro m
    induction m with
    | zero => exact .inl (far _ (by omega))
    | succ m ih =>
      have s := step (B - (m + 1 : Nat))
      rw [show B - (m + 1 : Nat) + 1 = B - m by omega] at s
      rcases s with ⟨s, _⟩ | ⟨u, hu, s1, s2⟩
      · rw [s]; exact ih
      · rw [s2]
        generalize W0 n A C (B - m) q = w at *
        omega
  refine ⟨fun x => ?_, fun i x hi e g => ?_⟩
  · by_cases hx : B ≤ x
    · exact .inl (far x hx)
    · have := down (B - x).toNat
      rwa [show B - ((B - x).toNat : Int) = x by omega] at this
  · rcases step x with ⟨_, s⟩ | ⟨u, hu, _, s2⟩
    · exact absurd ⟨i, hi, e, g⟩ s
    · generalize W0 n A C (x + 1) q = w at *
      omega
/-- Off a simple polygon the winding is 0, or one and the same of 1, -1. -/
theorem wind_one {n : Nat} {X Y : Nat → Int} (h : Simp n X Y) : ∃ L, ∀ p0 p1, InC p0 ∧ InC p1 → (∀ k, k < n → ¬ OnI (X k) (Y k) (X (k + 1)) (Y (k + 1)) p0 p1) →
    W0 n X Y p0 p1 = 0 ∨ ((L = 0 ∨ L = 1) ∧ W0 n X Y p0 p1 = 2 * L - 1) := by
  obtain ⟨L, hL⟩ := left_const h
  refine ⟨L, fun p0 p1 hp hn => ?_⟩
  have hB : 0 < BIG := by unfold BIG; omega
  have s := (sweep h hL (h := BIG * p1 + 1) (fun y e => by unfold BIG at e; omega)).1 (hts Y n * (BIG * p0 + 0))
  have sc := W0_scale (n := n) (X := fun k => BIG * X k) (Y := fun k => BIG * Y k) (hts_pos Y n) (BIG * p0 + 0) (BIG * p1 + 1)
  rw [sc] at s
  have near : W0 n (fun k => BIG * X k) (fun k => BIG * Y k) (BIG * p0 + 0) (BIG * p1 + 0) = W0 n (fun k => BIG * X k) (fun k => BIG * Y k) (BIG * p0 + 0) (BIG * p1 + 1) := by
    have z := sm_zero (fun k => (wst (BIG * p0 + 0) (BIG * p1 + 0) (BIG * X k) (BIG * Y k) (BIG * X (k + 1)) (BIG * Y (k + 1)) - wst (BIG * p0 + 0) (BIG * p1 + 1) (BIG * X k) (BIG * Y k) (BIG * X (k + 1)) (BIG * Y (k + 1))) -
        ((fun i => pot (BIG * p0 + 0) (BIG * p1 + 0) (BIG * p0 + 0) (BIG * p1 + 1) (BIG * X i) (BIG * Y i)) (k + 1) - (fun i => pot (BIG * p0 + 0) (BIG * p1 + 0) (BIG * p0 + 0) (BIG * p1 + 1) (BIG * X i) (BIG * Y i)) k)) n (fun k hk => by
      have f := far_near (d0 := 0) (d1 := 0) (e0 := 0) (e1 := 1) (h.inb k) (h.inb (k + 1)) hp (by omega) (by omega) (hn k hk)
      have := edge_same (by omega) f
      show (wst (BIG * p0 + 0) (BIG * p1 + 0) (BIG * X k) (BIG * Y k) (BIG * X (k + 1)) (BIG * Y (k + 1)) - wst (BIG * p0 + 0) (BIG * p1 + 1) (BIG * X k) (BIG * Y k) (BIG * X (k + 1)) (BIG * Y (k + 1))) -
        (pot (BIG * p0 + 0) (BIG * p1 + 0) (BIG * p0 + 0) (BIG * p1 + 1) (BIG * X (k + 1)) (BIG * Y (k + 1)) - pot (BIG * p0 + 0) (BIG * p1 + 0) (BIG * p0 + 0) (BIG * p1 + 1) (BIG * X k) (BIG * Y k)) = 0
      omega)
    rw [sm_sub, sm_sub, sm_tele (fun i => pot (BIG * p0 + 0) (BIG * p1 + 0) (BIG * p0 + 0) (BIG * p1 + 1) (BIG * X i) (BIG * Y i))] at z
    have ep : X n = X 0 ∧ Y n = Y 0 := by
      have a := h.perX 0
      have b := h.perY 0
      rw [Nat.zero_add] at a b
      exact ⟨a, b⟩
    simp only [ep.1, ep.2] at z
    rw [Int.sub_self, Int.sub_zero] at z
    exact Int.eq_of_sub_eq_zero z
  rw [← near, Int.add_zero, Int.add_zero, W0_scale hB] at s
  exact s
end Go.Proofs.Ytannklfnfacpeaa.X
/- Twice the area of a simple polygon is the sum of its windings: it is not 0, and not too large. -/
namespace Go.Proofs.Ytannklfnfacpeaa.X
open Go.RowKit
set_option linter.unusedVariables false
set_option linter.unusedSimpArgs false
theorem sm_add (h g : Nat → Int) : ∀ n, sm (fun k => h k + g k) n = sm h n + sm g n
  | 0 => rfl
  | n + 1 => by rw [sm, sm, sm, sm_add h g n]; omega
theorem sm_mul (c : Int) (h : Nat → Int) : ∀ n, sm (fun k => c * h k) n = c * sm h n
  | 0 => by rw [sm, sm, Int.mul_zero]
  | n + 1 => by rw [sm, sm, sm_mul c h n, Int.mul_add]
theorem sm_swap (f : Nat → Nat → Int) (n : Nat) : ∀ m, sm (fun i => sm (f i) n) m = sm (fun j => sm (fun i => f i j) m) n
  | 0 => (sm_zero _ n fun _ _ => rfl).symm
  | m + 1 => by
    rw [sm, sm_swap f n m, ← sm_add]
    rfl
theorem sm_bd (h : Nat → Int) (hi : Int) : ∀ n, (∀ k, k < n → 0 ≤ h k ∧ h k ≤ hi) → 0 ≤ sm h n ∧ sm h n ≤ n * hi
  | 0, _ => by rw [sm]; exact ⟨by omega, by simp⟩
  | n + 1, H => by
    have ih := sm_bd h hi n fun k hk => H k (by omega)
    have hn := H n (by omega)
    rw [sm, Int.natCast_succ, Int.add_mul, Int.one_mul]
    omega
theorem sm_pos (h : Nat → Int) : ∀ n i, i < n → (∀ k, k < n → 0 ≤ h k) → 1 ≤ h i → 1 ≤ sm h n
  | 0, i, hi, _, _ => by omega
  | n + 1, i, hi, H, h1 => by
    rw [sm]
    have hn := H n (by omega)
    by_cases c : i = n
    · subst c
      have := (sm_bd (fun k => h k) (sm h i + 1) 0 fun k hk => by omega)
      have nn : ∀ m, m ≤ i → 0 ≤ sm h m := by
        intro m
        induction m with
        | zero => intro _; rw [sm]; omega
        | succ m ih => intro hm; rw [sm]; have := H m (by omega); have := ih (by omega); omega
      have := nn i (Nat.le_refl _)
      omega
    · have := sm_pos h n i (by omega) (fun k hk => H k (by omega)) h1
      omega
theorem sm_below (B0 c v : Int) (h : B0 ≤ c) : ∀ N : Nat, sm (fun i => if B0 + (i : Int) < c then v else 0) N = v * (if B0 + (N : Int) ≤ c then (N : Int) else c - B0)
  | 0 => by
    rw [sm, if_pos (by omega)]
    simp
  | N + 1 => by
    rw [sm, sm_below B0 c v h N]
    by_cases a : B0 + (N : Int) < c
    · rw [if_pos (c := B0 + (N : Int) ≤ c) (by omega), if_pos a, if_pos (by omega), Int.natCast_succ, Int.mul_add, Int.mul_one]
    · rw [if_neg a, Int.add_zero]
      by_cases e : B0 + (N : Int) ≤ c
      · rw [if_pos e, if_neg (by omega), show c - B0 = (N : Int) by omega]
      · rw [if_neg e, if_neg (by omega)]
theorem sm_row {B0 c v : Int} {N : Nat} (h : B0 ≤ c) (h2 : c ≤ B0 + N) : sm (fun i => if B0 + (i : Int) < c then v else 0) N = v * (c - B0) := by
  rw [sm_below B0 c v h]
  by_cases e : B0 + (N : Int) ≤ c
  · rw [if_pos e, show c - B0 = (N : Int) by omega]
  · rw [if_neg e]
def cl (y0 p q : Int) (M : Nat) : Int := if y0 + (M : Int) ≤ p then 0 else if y0 + (M : Int) ≤ q then y0 + M - p else q - p
theorem sm_range (y0 p q α β : Int) (hp : y0 ≤ p) (hpq : p ≤ q) : ∀ M : Nat,
    sm (fun j => if p ≤ y0 + (j : Int) ∧ y0 + (j : Int) < q then α + β * (2 * (y0 + (j : Int) - p) + 1) else 0) M = cl y0 p q M * α + β * (cl y0 p q M * cl y0 p q M)
  | 0 => by
    have : cl y0 p q 0 = 0 := by unfold cl; rw [if_pos (by omega)]
    rw [sm, this]
    simp
  | M + 1 => by
    rw [sm, sm_range y0 p q α β hp hpq M]
    by_cases c : p ≤ y0 + (M : Int) ∧ y0 + (M : Int) < q
    · have e1 : cl y0 p q M = y0 + M - p := by unfold cl; repeat' split <;> omega
      have e2 : cl y0 p q (M + 1) = y0 + M - p + 1 := by unfold cl; repeat' split <;> omega
      rw [if_pos c, e1, e2]
      generalize y0 + (M : Int) - p = m
      rw [show (m + 1) * (m + 1) = m * m + (2 * m + 1) by rw [Int.add_mul, Int.mul_add]; omega, Int.mul_add β (m * m) (2 * m + 1), Int.mul_add β (2 * m) 1, Int.mul_one, Int.add_mul m 1 α, Int.one_mul]
      omega
    · have e : cl y0 p q (M + 1) = cl y0 p q M := by unfold cl; repeat' split <;> omega
      rw [if_neg c, e, Int.add_zero]
theorem sm_range_all {y0 p q α β : Int} {M : Nat} (hp : y0 ≤ p) (hpq : p ≤ q) (hq : q ≤ y0 + M) :
    sm (fun j => if p ≤ y0 + (j : Int) ∧ y0 + (j : Int) < q then α + β * (2 * (y0 + (j : Int) - p) + 1) else 0) M = (q - p) * α + β * ((q - p) * (q - p)) := by
  rw [sm_range y0 p q α β hp hpq]
  have e : cl y0 p q M = q - p := by unfold cl; repeat' split <;> omega
  rw [e]
/-- The middle of a row. -/
def HBIG : Int := 590295810358705651712
def midl (y : Int) : Int := BIG * y + HBIG
theorem midl_lt (a y : Int) : (BIG * a < midl y ↔ a ≤ y) ∧ (midl y < BIG * a ↔ y < a) := by
  unfold midl BIG HBIG
  omega
theorem midl_off (y z : Int) : BIG * z ≠ midl y := by
  unfold midl BIG HBIG
  omega
theorem conv_bd {Q u a b m : Int} (h0 : 0 ≤ u) (h1 : u ≤ Q) (ha : -m ≤ a ∧ a ≤ m) (hb : -m ≤ b ∧ b ≤ m) : -(Q * m) ≤ Q * a + (b - a) * u ∧ Q * a + (b - a) * u ≤ Q * m := by
  have k1 := Int.mul_nonneg (a := Q - u) (b := m - a) (by omega) (by omega)
  have k2 := Int.mul_nonneg (a := Q - u) (b := m + a) (by omega) (by omega)
  have k3 := Int.mul_nonneg (a := u) (b := m - b) (by omega) (by omega)
  have k4 := Int.mul_nonneg (a := u) (b := m + b) (by omega) (by omega)
  rw [Int.sub_mul, Int.mul_sub, Int.mul_sub] at k1
  rw [Int.sub_mul, Int.mul_add, Int.mul_add] at k2
  rw [Int.mul_sub] at k3
  rw [Int.mul_add] at k4
  rw [Int.sub_mul, Int.mul_comm b u, Int.mul_comm a u]
  omega
/-- Where a side crosses a row. -/
theorem crs_form {X Y : Nat → Int} {n k : Nat} (hk : k < n) (hne : Y (k + 1) ≠ Y k) (y : Int) : ∃ z, hts Y n = (Y (k + 1) - Y k) * z ∧
    crs X Y (hts Y n) (midl y) k = hts Y n * (BIG * X k) + (X (k + 1) - X k) * z * HBIG * (2 * (y - Y k) + 1) := by
  obtain ⟨z, hz⟩ := hts_dvd Y n k hk hne
  refine ⟨z, hz, ?_⟩
  unfold crs
  have hd : hts Y n / (Y (k + 1) - Y k) = z := by rw [hz]; exact Int.mul_ediv_cancel_left z (by omega)
  rw [hd, Int.mul_assoc _ HBIG]
  congr 2
  unfold midl BIG HBIG
  omega
theorem crs_bd {X Y : Nat → Int} {n k : Nat} (hk : k < n) {m : Int} (hX : ∀ i, -m ≤ X i ∧ X i ≤ m) {y : Int} (hy : (Y k ≤ y ∧ y < Y (k + 1)) ∨ (Y (k + 1) ≤ y ∧ y < Y k)) :
    -(hts Y n * BIG * m) ≤ crs X Y (hts Y n) (midl y) k ∧ crs X Y (hts Y n) (midl y) k ≤ hts Y n * BIG * m := by
  obtain ⟨z, hz, e⟩ := crs_form (X := X) (Y := Y) hk (show Y (k + 1) ≠ Y k by omega) y
  have hH := hts_pos Y n
  rw [e]
  have e2 : (X (k + 1) - X k) * z * HBIG * (2 * (y - Y k) + 1) = (X (k + 1) - X k) * (z * HBIG * (2 * (y - Y k) + 1)) := by simp only [Int.mul_assoc]
  rw [e2, ← Int.mul_assoc]
  have eQ : hts Y n * BIG = z * HBIG * (2 * (Y (k + 1) - Y k)) := by
    rw [hz, show BIG = 2 * HBIG by rfl]
    simp only [Int.mul_assoc, Int.mul_comm, Int.mul_left_comm]
  have hb : (0 : Int) < HBIG := by unfold HBIG; omega
  refine conv_bd ?_ ?_ (hX k) (hX (k + 1))
  · rcases hy with hy | hy
    · have hzp : 0 ≤ z := by
        apply Classical.byContradiction
        intro hc
        have := Int.mul_nonneg (a := Y (k + 1) - Y k) (b := -z) (by omega) (by omega)
        rw [Int.mul_neg] at this
        omega
      exact Int.mul_nonneg (Int.mul_nonneg hzp (by omega)) (by omega)
    · have hzn : z ≤ 0 := by
        apply Classical.byContradiction
        intro hc
        have := Int.mul_nonneg (a := Y k - Y (k + 1)) (b := z) (by omega) (by omega)
        rw [← Int.neg_sub, Int.neg_mul] at this
        omega
      have := Int.mul_nonneg (a := -z * HBIG) (b := -(2 * (y - Y k) + 1)) (Int.mul_nonneg (by omega) (by omega)) (by omega)
      rw [Int.neg_mul, Int.neg_mul_neg] at this
      exact this
  · rw [eQ]
    rcases hy with hy | hy
    · have hzp : 0 ≤ z := by
        apply Classical.byContradiction
        intro hc
        have := Int.mul_nonneg (a := Y (k + 1) - Y k) (b := -z) (by omega) (by omega)
        rw [Int.mul_neg] at this
        omega
      exact Int.mul_le_mul_of_nonneg_left (by omega) (Int.mul_nonneg hzp (by omega))
    · have hzn : z ≤ 0 := by
        apply Classical.byContradiction
        intro hc
        have := Int.mul_nonneg (a := Y k - Y (k + 1)) (b := z) (by omega) (by omega)
        rw [← Int.neg_sub, Int.neg_mul] at this
        omega
      have := Int.mul_nonneg (a := -z * HBIG) (b := (2 * (y - Y k) + 1) - 2 * (Y (k + 1) - Y k)) (Int.mul_nonneg (by omega) (by omega)) (by omega)
      rw [Int.mul_sub, Int.neg_mul, Int.neg_mul, Int.neg_mul] at this
      omega
/-- A side's windings of a row of points. -/
theorem row_side {X Y : Nat → Int} {n k : Nat} (hk : k < n) {y B0 : Int} {N : Nat}
    (hc : (Y k ≤ y ∧ y < Y (k + 1)) ∨ (Y (k + 1) ≤ y ∧ y < Y k) → B0 ≤ crs X Y (hts Y n) (midl y) k ∧ crs X Y (hts Y n) (midl y) k ≤ B0 + N) :
    sm (fun i => wst (B0 + (i : Int)) (hts Y n * midl y) (hts Y n * (BIG * X k)) (hts Y n * (BIG * Y k)) (hts Y n * (BIG * X (k + 1))) (hts Y n * (BIG * Y (k + 1)))) N =
      if Y k ≤ y ∧ y < Y (k + 1) then crs X Y (hts Y n) (midl y) k - B0 else if Y (k + 1) ≤ y ∧ y < Y k then -(crs X Y (hts Y n) (midl y) k - B0) else 0 := by
  have hH := hts_pos Y n
  have l1 : ∀ i : Nat, (hts Y n * (BIG * Y i) < hts Y n * midl y ↔ Y i ≤ y) ∧ (hts Y n * midl y < hts Y n * (BIG * Y i) ↔ y < Y i) := fun i => by
    rw [sc_lt hH, sc_lt hH]
    exact midl_lt _ _
  by_cases c1 : Y k ≤ y ∧ y < Y (k + 1)
  · rw [if_pos c1]
    have b := hc (.inl c1)
    rw [← Int.one_mul (crs X Y (hts Y n) (midl y) k - B0), ← sm_row b.1 b.2]
    refine sm_congr N fun i _ => ?_
    exact (wst_cross _ (crs_cross hk (by omega) (midl y) _)).1 ((l1 k).1.2 c1.1) ((l1 (k + 1)).2.2 c1.2)
  · by_cases c2 : Y (k + 1) ≤ y ∧ y < Y k
    · rw [if_neg c1, if_pos c2]
      have b := hc (.inr c2)
      rw [← Int.neg_one_mul (crs X Y (hts Y n) (midl y) k - B0), ← sm_row b.1 b.2]
      refine sm_congr N fun i _ => ?_
      exact (wst_cross _ (crs_cross hk (by omega) (midl y) _)).2 ((l1 (k + 1)).1.2 c2.1) ((l1 k).2.2 c2.2)
    · rw [if_neg c1, if_neg c2]
      refine sm_zero _ N fun i _ => wst_flat ?_
      have a := l1 k
      have b := l1 (k + 1)
      rw [a.1, b.1, a.2, b.2]
      omega
/-- .. and of all rows. -/
theorem all_side {X Y : Nat → Int} {n k : Nat} (hk : k < n) {B0 y0 : Int} {M : Nat} (h0 : ∀ i, y0 ≤ Y i ∧ Y i ≤ y0 + M) :
    2 * sm (fun j => if Y k ≤ y0 + (j : Int) ∧ y0 + (j : Int) < Y (k + 1) then crs X Y (hts Y n) (midl (y0 + (j : Int))) k - B0 else if Y (k + 1) ≤ y0 + (j : Int) ∧ y0 + (j : Int) < Y k then -(crs X Y (hts Y n) (midl (y0 + (j : Int))) k - B0) else 0) M =
      hts Y n * BIG * ((Y (k + 1) - Y k) * (X k + X (k + 1))) - 2 * B0 * (Y (k + 1) - Y k) := by
  have i0 := h0 k
  have i1 := h0 (k + 1)
  by_cases hne : Y (k + 1) = Y k
  · rw [hne, sm_zero _ M fun j _ => by rw [if_neg (by omega), if_neg (by omega)]]
    simp
  · obtain ⟨z, hz, _⟩ := crs_form (X := X) hk hne 0
    have form : ∀ y, crs X Y (hts Y n) (midl y) k = hts Y n * (BIG * X k) + (X (k + 1) - X k) * z * HBIG * (2 * (y - Y k) + 1) := by
      intro y
      obtain ⟨z', hz', e⟩ := crs_form (X := X) hk hne y
      have : z' = z := by
        have : (Y (k + 1) - Y k) * z' = (Y (k + 1) - Y k) * z := by rw [← hz', ← hz]
        exact Int.eq_of_mul_eq_mul_left (by omega) this
      rw [e, this]
    simp only [form]
    have fin : (2 : Int) * ((Y (k + 1) - Y k) * (hts Y n * (BIG * X k) - B0) + (X (k + 1) - X k) * z * HBIG * ((Y (k + 1) - Y k) * (Y (k + 1) - Y k))) = hts Y n * BIG * ((Y (k + 1) - Y k) * (X k + X (k + 1))) - 2 * B0 * (Y (k + 1) - Y k) := by
      have e1 : (2 : Int) * ((X (k + 1) - X k) * z * HBIG * ((Y (k + 1) - Y k) * (Y (k + 1) - Y k))) = hts Y n * BIG * ((Y (k + 1) - Y k) * (X (k + 1) - X k)) := by
        rw [hz, show BIG = 2 * HBIG by rfl]
        simp only [Int.mul_assoc, Int.mul_comm, Int.mul_left_comm]
      rw [Int.mul_add, e1]
      generalize Y (k + 1) - Y k = D
      generalize hts Y n = H
      rw [show X k + X (k + 1) = 2 * X k + (X (k + 1) - X k) by omega, Int.mul_add D, Int.mul_add (H * BIG), Int.mul_sub, Int.mul_sub]
      have e2 : (2 : Int) * (D * (H * (BIG * X k))) = H * BIG * (D * (2 * X k)) := by simp only [Int.mul_assoc, Int.mul_comm, Int.mul_left_comm]
      have e3 : (2 : Int) * (D * B0) = 2 * B0 * D := by simp only [Int.mul_assoc, Int.mul_comm, Int.mul_left_comm]
      rw [e2, e3]
      omega
    rw [← fin]
    congr 1
    rcases Int.lt_or_gt_of_ne hne with hlt | hgt
    · have s := sm_range_all (y0 := y0) (p := Y (k + 1)) (q := Y k) (α := -(hts Y n * (BIG * X k) - B0) - 2 * ((X (k + 1) - X k) * z * HBIG * (Y (k + 1) - Y k))) (β := -((X (k + 1) - X k) * z * HBIG)) (M := M) i1.1 (by omega) i0.2
      refine Eq.trans (sm_congr M fun j _ => ?_) (s.trans ?_)
      · rw [if_neg (by omega)]
        by_cases c : Y (k + 1) ≤ y0 + (j : Int) ∧ y0 + (j : Int) < Y k
        · rw [if_pos c, if_pos c]
          generalize (X (k + 1) - X k) * z * HBIG = β
          generalize hts Y n * (BIG * X k) = α
          generalize y0 + (j : Int) = y
          rw [show (2 : Int) * (y - Y k) + 1 = (2 * (y - Y (k + 1)) + 1) + 2 * (Y (k + 1) - Y k) by omega, Int.mul_add β, Int.neg_mul]
          have : β * (2 * (Y (k + 1) - Y k)) = 2 * (β * (Y (k + 1) - Y k)) := Int.mul_left_comm _ _ _
          omega
        · rw [if_neg c, if_neg c]
      · generalize (X (k + 1) - X k) * z * HBIG = β
        generalize hts Y n * (BIG * X k) - B0 = α
        rw [show Y k - Y (k + 1) = -(Y (k + 1) - Y k) by omega]
        generalize Y (k + 1) - Y k = D
        rw [Int.neg_mul_neg, Int.neg_mul D, Int.mul_sub, Int.mul_neg, Int.neg_mul β]
        have : D * (2 * (β * D)) = 2 * (β * (D * D)) := by simp only [Int.mul_assoc, Int.mul_comm, Int.mul_left_comm]
        omega
    · have s := sm_range_all (y0 := y0) (p := Y k) (q := Y (k + 1)) (α := hts Y n * (BIG * X k) - B0) (β := (X (k + 1) - X k) * z * HBIG) (M := M) i0.1 (by omega) i1.2
      refine Eq.trans (sm_congr M fun j _ => ?_) s
      by_cases c : Y k ≤ y0 + (j : Int) ∧ y0 + (j : Int) < Y (k + 1)
      · rw [if_pos c, if_pos c]
        generalize (X (k + 1) - X k) * z * HBIG = β
        omega
      · rw [if_neg c, if_neg c, if_neg (by omega)]
/-- Some side is not flat. -/
theorem Poly.rises {n : Nat} {X Y : Nat → Int} (h : Poly n X Y) : ∃ k, k < n ∧ Y (k + 1) ≠ Y k := by
  apply Classical.byContradiction
  intro hn
  have flat : ∀ k, k < n → Y (k + 1) = Y k := fun k hk => Classical.byContradiction fun g => hn ⟨k, hk, g⟩
  have h3 := h.three
  have go : ∀ s : Int, (s = 1 ∨ s = -1) → 0 < s * (X 1 - X 0) → ∀ i, i < n → 0 < s * (X (i + 1) - X i) ∧ s * X 0 < s * X (i + 1) := by
    intro s hs h1 i
    induction i with
    | zero => exact fun _ => ⟨h1, by rw [Int.mul_sub] at h1; show s * X 0 < s * X 1; omega⟩
    | succ i ih =>
      intro hi
      obtain ⟨a, b⟩ := ih (by omega)
      have f1 := flat i (by omega)
      have f2 := flat (i + 1) hi
      have d := h.dot i (by rw [f2, f1, Int.sub_self, Int.mul_zero, Int.zero_mul]; rfl)
      rw [f2, f1, Int.sub_self, Int.zero_mul, Int.add_zero] at d
      have : 0 < s * (X (i + 1 + 1) - X (i + 1)) := by
        change 0 < s * (X (i + 2) - X (i + 1))
        rcases hs with rfl | rfl
        · rw [Int.one_mul] at a ⊢
          apply Classical.byContradiction
          intro g
          have := Int.mul_nonneg (a := X (i + 1) - X i) (b := X (i + 1) - X (i + 2)) (by omega) (by omega)
          rw [← Int.neg_mul_neg, Int.neg_sub, Int.neg_sub] at this
          omega
        · rw [Int.neg_one_mul] at a ⊢
          apply Classical.byContradiction
          intro g
          have := Int.mul_nonneg (a := X i - X (i + 1)) (b := X (i + 2) - X (i + 1)) (by omega) (by omega)
          omega
      refine ⟨this, ?_⟩
      rw [Int.mul_sub] at this
      omega
  obtain ⟨m, rfl⟩ : ∃ m, n = m + 1 := ⟨n - 1, by omega⟩
  have per := h.perX 0
  rw [Nat.zero_add] at per
  have ne := h.ne 0
  have f0 := flat 0 (by omega)
  rcases Int.lt_trichotomy (X 0) (X 1) with c | c | c
  · have := (go 1 (.inl rfl) (by omega) m (by omega)).2
    rw [per] at this
    omega
  · exact ne ⟨c, f0.symm⟩
  · have := (go (-1) (.inr rfl) (by omega) m (by omega)).2
    rw [per] at this
    omega
/-- Twice the area, by heights. -/
def tz (n : Nat) (X Y : Nat → Int) : Int := sm (fun k => (Y (k + 1) - Y k) * (X k + X (k + 1))) n
theorem area_two {n : Nat} {X Y : Nat → Int} (h : Simp n X Y) (hX : ∀ i, -536870912 ≤ X i ∧ X i ≤ 536870912) (hY : ∀ i, -536870912 ≤ Y i ∧ Y i ≤ 536870912) :
    tz n X Y ≠ 0 ∧ -4611686018427387904 ≤ tz n X Y ∧ tz n X Y ≤ 4611686018427387904 := by
  obtain ⟨L, hL⟩ := left_const h
  have hH := hts_pos Y n
  have hB : 0 < BIG := by unfold BIG; omega
  have hQ : 0 < hts Y n * BIG := Int.mul_pos hH hB
  have sw := fun y => sweep h hL (h := midl y) (fun z => midl_off y z)
  have bd := fun k (hk : k < n) y => crs_bd (X := X) (Y := Y) (n := n) hk (m := 536870912) hX (y := y)
  obtain ⟨k0, hk0, hne⟩ := h.poly.rises
  have as := fun k (hk : k < n) (B0 : Int) => all_side (X := X) (Y := Y) hk (B0 := B0) (y0 := -536870912) (M := 1073741824) (fun i => by have := hY i; omega)
  have rs := fun k (hk : k < n) y (B0 : Int) (N : Nat) => row_side (X := X) (Y := Y) (n := n) hk (y := y) (B0 := B0) (N := N)
  have l1 : ∀ y, ∀ i : Nat, (hts Y n * (BIG * Y i) < hts Y n * midl y ↔ Y i ≤ y) ∧ (hts Y n * midl y < hts Y n * (BIG * Y i) ↔ y < Y i) := fun y i => by
    rw [sc_lt hH, sc_lt hH]
    exact midl_lt _ _
  generalize hQe : hts Y n * BIG = Q at *
  obtain ⟨B0, hB0⟩ : ∃ B0, B0 = -(Q * 536870912) - 1 := ⟨_, rfl⟩
  obtain ⟨M, hM⟩ : ∃ M : Nat, M = 1073741824 := ⟨_, rfl⟩
  rw [← hM] at as
  obtain ⟨N, hN⟩ : ∃ N : Nat, (N : Int) = Q * 1073741824 + 2 := ⟨(Q * 1073741824 + 2).toNat, by omega⟩
  -- the sum of all windings
  have tot : 2 * sm (fun j => sm (fun i => W0 n (fun k => hts Y n * (BIG * X k)) (fun k => hts Y n * (BIG * Y k)) (B0 + (i : Int)) (hts Y n * midl (-536870912 + (j : Int)))) N) M = Q * tz n X Y := by
    have e1 : sm (fun j => sm (fun i => W0 n (fun k => hts Y n * (BIG * X k)) (fun k => hts Y n * (BIG * Y k)) (B0 + (i : Int)) (hts Y n * midl (-536870912 + (j : Int)))) N) M =
        sm (fun k => sm (fun j => sm (fun i => wst (B0 + (i : Int)) (hts Y n * midl (-536870912 + (j : Int))) (hts Y n * (BIG * X k)) (hts Y n * (BIG * Y k)) (hts Y n * (BIG * X (k + 1))) (hts Y n * (BIG * Y (k + 1)))) N) M) n := by
      rw [← sm_swap (fun j k => sm (fun i => wst (B0 + (i : Int)) (hts Y n * midl (-536870912 + (j : Int))) (hts Y n * (BIG * X k)) (hts Y n * (BIG * Y k)) (hts Y n * (BIG * X (k + 1))) (hts Y n * (BIG * Y (k + 1)))) N) n M]
      refine sm_congr _ fun j _ => ?_
      exact sm_swap (fun i k => wst (B0 + (i : Int)) (hts Y n * midl (-536870912 + (j : Int))) (hts Y n * (BIG * X k)) (hts Y n * (BIG * Y k)) (hts Y n * (BIG * X (k + 1))) (hts Y n * (BIG * Y (k + 1)))) n N
    rw [e1, ← sm_mul 2]
    have e2 : sm (fun k => 2 * sm (fun j => sm (fun i => wst (B0 + (i : Int)) (hts Y n * midl (-536870912 + (j : Int))) (hts Y n * (BIG * X k)) (hts Y n * (BIG * Y k)) (hts Y n * (BIG * X (k + 1))) (hts Y n * (BIG * Y (k + 1)))) N) M) n =
        sm (fun k => Q * ((Y (k + 1) - Y k) * (X k + X (k + 1))) - 2 * B0 * (Y (k + 1) - Y k)) n := by
      refine sm_congr n fun k hk => ?_
      rw [← as k hk B0]
      congr 1
      refine sm_congr _ fun j _ => ?_
      refine rs k hk _ B0 N fun g => ?_
      have := bd k hk _ g
      omega
    rw [e2, sm_sub, sm_mul, sm_mul, sm_tele]
    have per := h.perY 0
    rw [Nat.zero_add] at per
    rw [per, Int.sub_self, Int.mul_zero, Int.sub_zero]
    rfl
  -- one that is not 0
  obtain ⟨y, hy⟩ : ∃ y, (Y k0 ≤ y ∧ y < Y (k0 + 1)) ∨ (Y (k0 + 1) ≤ y ∧ y < Y k0) := by
    rcases Int.lt_or_gt_of_ne hne with c | c
    · exact ⟨Y (k0 + 1), .inr ⟨Int.le_refl _, c⟩⟩
    · exact ⟨Y k0, .inl ⟨Int.le_refl _, c⟩⟩
  have yb : -536870912 ≤ y ∧ y < 536870912 := by
    have a := hY k0
    have b := hY (k0 + 1)
    omega
  have cb := bd k0 hk0 y hy
  have jump := (sw y).2 k0 (crs X Y (hts Y n) (midl y) k0 - 1) hk0 rfl (by
    have a := l1 y k0
    have b := l1 y (k0 + 1)
    rw [a.1, a.2, b.1, b.2]
    exact hy)
  obtain ⟨i1, hi1, w1⟩ : ∃ i : Nat, i < N ∧ W0 n (fun k => hts Y n * (BIG * X k)) (fun k => hts Y n * (BIG * Y k)) (B0 + (i : Int)) (hts Y n * midl y) ≠ 0 := by
    by_cases z : W0 n (fun k => hts Y n * (BIG * X k)) (fun k => hts Y n * (BIG * Y k)) (crs X Y (hts Y n) (midl y) k0 - 1) (hts Y n * midl y) = 0
    · refine ⟨(crs X Y (hts Y n) (midl y) k0 - B0).toNat, by omega, ?_⟩
      rw [show B0 + ((crs X Y (hts Y n) (midl y) k0 - B0).toNat : Int) = crs X Y (hts Y n) (midl y) k0 - 1 + 1 by omega]
      intro e
      rw [z, e] at jump
      exact jump rfl
    · refine ⟨(crs X Y (hts Y n) (midl y) k0 - 1 - B0).toNat, by omega, ?_⟩
      rw [show B0 + ((crs X Y (hts Y n) (midl y) k0 - 1 - B0).toNat : Int) = crs X Y (hts Y n) (midl y) k0 - 1 by omega]
      exact z
  obtain ⟨j1, hj1, ej⟩ : ∃ j : Nat, j < M ∧ y = -536870912 + (j : Int) := ⟨(y + 536870912).toNat, by omega, by omega⟩
  subst ej
  have one := fun x y => (sw y).1 x
  clear sw bd as rs l1 jump cb hL
  generalize hG : (fun (j i : Nat) => W0 n (fun k => hts Y n * (BIG * X k)) (fun k => hts Y n * (BIG * Y k)) (B0 + (i : Int)) (hts Y n * midl (-536870912 + (j : Int)))) = G at *
  have eG : ∀ j i : Nat, W0 n (fun k => hts Y n * (BIG * X k)) (fun k => hts Y n * (BIG * Y k)) (B0 + (i : Int)) (hts Y n * midl (-536870912 + (j : Int))) = G j i := fun j i => congrFun (congrFun hG j) i
  simp only [eG] at tot w1
  have oneG : ∀ j i, G j i = 0 ∨ ((L = 0 ∨ L = 1) ∧ G j i = 2 * L - 1) := fun j i => by rw [← eG]; exact one _ _
  clear one eG hG
  have hs : L = 0 ∨ L = 1 := by
    rcases oneG j1 i1 with g | g
    · exact absurd g w1
    · exact g.1
  have in1 : ∀ j i, 0 ≤ (2 * L - 1) * G j i ∧ (2 * L - 1) * G j i ≤ 1 := fun j i => by
    rcases oneG j i with g | ⟨_, g⟩
    · rw [g, Int.mul_zero]; omega
    · rw [g]; rcases hs with rfl | rfl <;> decide
  have in2 : ∀ j, 0 ≤ (2 * L - 1) * sm (fun i => G j i) N ∧ (2 * L - 1) * sm (fun i => G j i) N ≤ N := fun j => by
    rw [← sm_mul]
    have := sm_bd _ 1 N fun i _ => in1 j i
    rw [Int.mul_one] at this
    exact this
  have in3 := sm_bd (fun j => (2 * L - 1) * sm (fun i => G j i) N) N M fun j _ => in2 j
  have p1 : 1 ≤ (2 * L - 1) * sm (fun i => G j1 i) N := by
    rw [← sm_mul]
    refine sm_pos _ N i1 hi1 (fun i _ => (in1 j1 i).1) ?_
    rcases oneG j1 i1 with g | ⟨_, g⟩
    · exact absurd g w1
    · show 1 ≤ (2 * L - 1) * G j1 i1
      rw [g]; rcases hs with rfl | rfl <;> decide
  have p2 := sm_pos (fun j => (2 * L - 1) * sm (fun i => G j i) N) M j1 hj1 (fun j _ => (in2 j).1) p1
  rw [sm_mul] at in3 p2
  have eM : (M : Int) = 1073741824 := by omega
  rw [eM] at in3
  generalize sm (fun j => sm (fun i => G j i) N) M = S at *
  generalize tz n X Y = T at *
  have up : -(Q * 4611686018427387904) ≤ Q * T ∧ Q * T ≤ Q * 4611686018427387904 := by
    rw [← tot]
    rcases hs with rfl | rfl <;> omega
  refine ⟨fun e => ?_, ?_, ?_⟩
  · rw [e, Int.mul_zero] at tot
    have : S = 0 := by omega
    rw [this, Int.mul_zero] at p2
    omega
  · have := up.1
    rw [← Int.mul_neg] at this
    exact Int.le_of_mul_le_mul_left this hQ
  · exact Int.le_of_mul_le_mul_left up.2 hQ
end Go.Proofs.Ytannklfnfacpeaa.X
