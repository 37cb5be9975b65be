/- Two segments share a point: their boxes overlap and neither lies beside the other one's line, just if an end of one is on the other, or each crosses the other one's line. -/
import Derived.Test.YtannklfnfacpeaaWWords
namespace Go.Proofs.Ytannklfnfacpeaa.X
open Go.RowKit
set_option linter.unusedVariables false
set_option linter.unusedSimpArgs false
/-- Twice the area of a triangle, with its sign. -/
def crossI (a0 a1 b0 b1 p0 p1 : Int) : Int := (b0 - a0) * (p1 - a1) - (b1 - a1) * (p0 - a0)
theorem crossI_turn (a0 a1 b0 b1 p0 p1 : Int) : crossI b0 b1 p0 p1 a0 a1 = crossI a0 a1 b0 b1 p0 p1 := by
  unfold crossI
  simp only [Int.mul_sub, Int.sub_mul, Int.mul_comm]
  omega
theorem crossI_swap (a0 a1 b0 b1 p0 p1 : Int) : crossI b0 b1 a0 a1 p0 p1 = -crossI a0 a1 b0 b1 p0 p1 := by
  unfold crossI
  simp only [Int.mul_sub, Int.sub_mul, Int.mul_comm]
  omega
theorem noSep {p q r s x y z u : Int} (hp : 0 ≤ p) (hq : 0 ≤ q) (hr : 0 ≤ r) (hs : 0 ≤ s) (h : p + q = r + s) (hpos : 0 < p + q) (e : p * x + q * y = r * z + s * u) : ¬ (x < z ∧ x < u ∧ y < z ∧ y < u) := by
  rintro ⟨h1, h2, h3, h4⟩
  obtain ⟨m, m1, m2, m3, m4⟩ : ∃ m, x ≤ m ∧ y ≤ m ∧ m + 1 ≤ z ∧ m + 1 ≤ u := by
    by_cases c : x ≤ y
    · exact ⟨y, c, Int.le_refl _, by omega, by omega⟩
    · exact ⟨x, Int.le_refl _, by omega, by omega, by omega⟩
  have k1 := Int.mul_le_mul_of_nonneg_left m1 hp
  have k2 := Int.mul_le_mul_of_nonneg_left m2 hq
  have k3 := Int.mul_le_mul_of_nonneg_left m3 hr
  have k4 := Int.mul_le_mul_of_nonneg_left m4 hs
  have k5 : p * m + q * m = r * m + s * m := by rw [← Int.add_mul, ← Int.add_mul, h]
  rw [Int.mul_add] at k3 k4
  omega
def Same (A B : Int) : Prop := A > 0 ∧ B > 0 ∨ A < 0 ∧ B < 0
theorem conv {P Q R T x y z u : Int} (h : P - Q = R - T) (hne : P ≠ Q) (h1 : ¬ Same P Q) (h2 : ¬ Same R T) (e : P * x - Q * y = R * z - T * u) :
    ¬ (x < z ∧ x < u ∧ y < z ∧ y < u) ∧ ¬ (z < x ∧ z < y ∧ u < x ∧ u < y) := by
  unfold Same at h1 h2
  by_cases c : P > Q
  · have e' : P * x + (-Q) * y = R * z + (-T) * u := by rw [Int.neg_mul, Int.neg_mul]; omega
    exact ⟨noSep (by omega) (by omega) (by omega) (by omega) (by omega) (by omega) e', fun hh => noSep (by omega) (by omega) (by omega) (by omega) (by omega) (by omega) e'.symm ⟨hh.1, hh.2.1, hh.2.2.1, hh.2.2.2⟩⟩
  · have e' : (-P) * x + Q * y = (-R) * z + T * u := by rw [Int.neg_mul, Int.neg_mul]; omega
    exact ⟨noSep (by omega) (by omega) (by omega) (by omega) (by omega) (by omega) e', fun hh => noSep (by omega) (by omega) (by omega) (by omega) (by omega) (by omega) e'.symm ⟨hh.1, hh.2.1, hh.2.2.1, hh.2.2.2⟩⟩
theorem cross_sum (a0 a1 b0 b1 c0 c1 d0 d1 : Int) : crossI a0 a1 b0 b1 c0 c1 + crossI c0 c1 d0 d1 a0 a1 = crossI a0 a1 b0 b1 d0 d1 + crossI c0 c1 d0 d1 b0 b1 := by
  unfold crossI
  simp only [Int.mul_sub, Int.sub_mul, Int.mul_comm]
  omega
theorem cross_x (a0 a1 b0 b1 c0 c1 d0 d1 : Int) : crossI c0 c1 d0 d1 a0 a1 * b0 - crossI c0 c1 d0 d1 b0 b1 * a0 = crossI a0 a1 b0 b1 d0 d1 * c0 - crossI a0 a1 b0 b1 c0 c1 * d0 := by
  unfold crossI
  simp only [Int.mul_sub, Int.sub_mul, Int.mul_assoc, Int.mul_comm, Int.mul_left_comm]
  omega
theorem cross_y (a0 a1 b0 b1 c0 c1 d0 d1 : Int) : crossI c0 c1 d0 d1 a0 a1 * b1 - crossI c0 c1 d0 d1 b0 b1 * a1 = crossI a0 a1 b0 b1 d0 d1 * c1 - crossI a0 a1 b0 b1 c0 c1 * d1 := by
  unfold crossI
  simp only [Int.mul_sub, Int.sub_mul, Int.mul_assoc, Int.mul_comm, Int.mul_left_comm]
  omega
theorem cross_back (a0 a1 b0 b1 p0 p1 : Int) : crossI b0 b1 a0 a1 p0 p1 = -crossI a0 a1 b0 b1 p0 p1 := crossI_swap _ _ _ _ _ _
/-- c lies between a and b. -/
def Btw (a b c : Int) : Prop := (a ≤ c ∧ c ≤ b) ∨ (b ≤ c ∧ c ≤ a)
/-- Two spans overlap. -/
def Ov (a b c d : Int) : Prop := (c ≤ a ∨ d ≤ a ∨ c ≤ b ∨ d ≤ b) ∧ (a ≤ c ∨ b ≤ c ∨ a ≤ d ∨ b ≤ d)
def OnI (a0 a1 b0 b1 c0 c1 : Int) : Prop := crossI a0 a1 b0 b1 c0 c1 = 0 ∧ Btw a0 b0 c0 ∧ Btw a1 b1 c1
def GeoI (a0 a1 b0 b1 c0 c1 d0 d1 : Int) : Prop :=
  Ov a0 b0 c0 d0 ∧ Ov a1 b1 c1 d1 ∧ ¬ Same (crossI a0 a1 b0 b1 c0 c1) (crossI a0 a1 b0 b1 d0 d1) ∧ ¬ Same (crossI c0 c1 d0 d1 a0 a1) (crossI c0 c1 d0 d1 b0 b1)
def Opp (A B : Int) : Prop := A > 0 ∧ B < 0 ∨ A < 0 ∧ B > 0
def RefI (a0 a1 b0 b1 c0 c1 d0 d1 : Int) : Prop :=
  OnI a0 a1 b0 b1 c0 c1 ∨ OnI a0 a1 b0 b1 d0 d1 ∨ OnI c0 c1 d0 d1 a0 a1 ∨ OnI c0 c1 d0 d1 b0 b1 ∨
  (Opp (crossI a0 a1 b0 b1 c0 c1) (crossI a0 a1 b0 b1 d0 d1) ∧ Opp (crossI c0 c1 d0 d1 a0 a1) (crossI c0 c1 d0 d1 b0 b1))
theorem both_zero {C D u v : Int} (hs : Same C D) (e : C * v = D * u) (h : (u ≤ 0 ∧ 0 ≤ v) ∨ (v ≤ 0 ∧ 0 ≤ u)) : u = 0 ∧ v = 0 := by
  unfold Same at hs
  have key : ∀ C D u v : Int, C > 0 → D > 0 → C * v = D * u → u ≤ 0 → 0 ≤ v → u = 0 ∧ v = 0 := by
    intro C D u v hC hD e hu hv
    have h1 := Int.mul_nonneg (Int.le_of_lt hC) hv
    have h2 := Int.mul_nonneg (Int.le_of_lt hD) (show 0 ≤ -u by omega)
    rw [Int.mul_neg] at h2
    have h3 : C * v = 0 := by omega
    have h4 : D * u = 0 := by omega
    rcases Int.mul_eq_zero.1 h3 with h | h <;> rcases Int.mul_eq_zero.1 h4 with h' | h' <;> omega
  rcases hs with ⟨hC, hD⟩ | ⟨hC, hD⟩
  · rcases h with ⟨h1, h2⟩ | ⟨h1, h2⟩
    · exact key C D u v hC hD e h1 h2
    · exact (key D C v u hD hC e.symm h1 h2).symm
  · have e' : (-C) * v = (-D) * u := by rw [Int.neg_mul, Int.neg_mul, e]
    rcases h with ⟨h1, h2⟩ | ⟨h1, h2⟩
    · exact key (-C) (-D) u v (by omega) (by omega) e' h1 h2
    · exact (key (-D) (-C) v u (by omega) (by omega) e'.symm h1 h2).symm
theorem on_geo {a0 a1 b0 b1 c0 c1 d0 d1 : Int} (h : OnI a0 a1 b0 b1 c0 c1) : GeoI a0 a1 b0 b1 c0 c1 d0 d1 := by
  obtain ⟨hA, hx, hy⟩ := h
  unfold Btw at hx hy
  refine ⟨by unfold Ov; omega, by unfold Ov; omega, fun hs => by unfold Same at hs; omega, fun hs => ?_⟩
  have hsum := cross_sum a0 a1 b0 b1 c0 c1 d0 d1
  have hxx := cross_x a0 a1 b0 b1 c0 c1 d0 d1
  have hyy := cross_y a0 a1 b0 b1 c0 c1 d0 d1
  rw [hA] at hsum hxx hyy
  have hC : crossI c0 c1 d0 d1 a0 a1 = (d0 - c0) * (a1 - c1) - (d1 - c1) * (a0 - c0) := rfl
  generalize crossI c0 c1 d0 d1 a0 a1 = C at *
  generalize crossI c0 c1 d0 d1 b0 b1 = D at *
  generalize crossI a0 a1 b0 b1 d0 d1 = B at *
  obtain rfl : B = C - D := by omega
  rw [Int.sub_mul, Int.zero_mul] at hxx hyy
  have q1 := both_zero hs (u := a0 - c0) (v := b0 - c0) (by rw [Int.mul_sub, Int.mul_sub]; omega) (by omega)
  have q2 := both_zero hs (u := a1 - c1) (v := b1 - c1) (by rw [Int.mul_sub, Int.mul_sub]; omega) (by omega)
  rw [q1.1, q2.1, Int.mul_zero, Int.mul_zero] at hC
  unfold Same at hs
  omega
theorem same_comm {A B : Int} : Same A B ↔ Same B A := by unfold Same; omega
theorem same_neg {A B : Int} : Same (-A) (-B) ↔ Same A B := by unfold Same; omega
theorem geo_swap {a0 a1 b0 b1 c0 c1 d0 d1 : Int} (h : GeoI a0 a1 b0 b1 d0 d1 c0 c1) : GeoI a0 a1 b0 b1 c0 c1 d0 d1 := by
  obtain ⟨h1, h2, h3, h4⟩ := h
  rw [cross_back c0 c1 d0 d1, cross_back c0 c1 d0 d1, same_neg] at h4
  exact ⟨by unfold Ov at *; omega, by unfold Ov at *; omega, fun h => h3 (same_comm.1 h), h4⟩
theorem geo_turn2 {a0 a1 b0 b1 c0 c1 d0 d1 : Int} (h : GeoI c0 c1 d0 d1 a0 a1 b0 b1) : GeoI a0 a1 b0 b1 c0 c1 d0 d1 :=
  ⟨by have := h.1; unfold Ov at *; omega, by have := h.2.1; unfold Ov at *; omega, h.2.2.2, h.2.2.1⟩
theorem ref_geo {a0 a1 b0 b1 c0 c1 d0 d1 : Int} (h : RefI a0 a1 b0 b1 c0 c1 d0 d1) : GeoI a0 a1 b0 b1 c0 c1 d0 d1 := by
  rcases h with h | h | h | h | ⟨h1, h2⟩
  · exact on_geo h
  · exact geo_swap (on_geo h)
  · exact geo_turn2 (on_geo h)
  · exact geo_turn2 (geo_swap (on_geo h))
  · have hsum := cross_sum a0 a1 b0 b1 c0 c1 d0 d1
    have s1 : ¬ Same (crossI a0 a1 b0 b1 c0 c1) (crossI a0 a1 b0 b1 d0 d1) := by unfold Same; unfold Opp at h1; omega
    have s2 : ¬ Same (crossI c0 c1 d0 d1 a0 a1) (crossI c0 c1 d0 d1 b0 b1) := by unfold Same; unfold Opp at h2; omega
    have x := conv (by omega) (by unfold Opp at h2; omega) s2 (fun h => s1 (same_comm.1 h)) (cross_x a0 a1 b0 b1 c0 c1 d0 d1)
    have y := conv (by omega) (by unfold Opp at h2; omega) s2 (fun h => s1 (same_comm.1 h)) (cross_y a0 a1 b0 b1 c0 c1 d0 d1)
    exact ⟨by unfold Ov; omega, by unfold Ov; omega, s1, s2⟩
/-- On a line that is not upright a point between in one way is between in the other. -/
theorem btw_line {a0 a1 b0 b1 e0 e1 : Int} (h : crossI a0 a1 b0 b1 e0 e1 = 0) (hne : a0 ≠ b0) (hb : Btw a0 b0 e0) : Btw a1 b1 e1 := by
  have e : (e0 - a0) * b1 - (e0 - b0) * a1 = (b0 - a0) * e1 - 0 * e1 := by
    unfold crossI at h
    simp only [Int.mul_sub, Int.sub_mul, Int.mul_comm, Int.zero_mul, Int.mul_zero] at h ⊢
    omega
  unfold Btw at hb
  have := conv (by omega) (by omega) (by unfold Same; omega) (by unfold Same; omega) e
  unfold Btw
  omega
theorem geo_ref {a0 a1 b0 b1 c0 c1 d0 d1 : Int} (h : GeoI a0 a1 b0 b1 c0 c1 d0 d1) : RefI a0 a1 b0 b1 c0 c1 d0 d1 := by
  obtain ⟨ox, oy, s1, s2⟩ := h
  have hsum := cross_sum a0 a1 b0 b1 c0 c1 d0 d1
  have hx := cross_x a0 a1 b0 b1 c0 c1 d0 d1
  have hy := cross_y a0 a1 b0 b1 c0 c1 d0 d1
  have l1 := @btw_line a0 a1 b0 b1 c0 c1
  have l2 := @btw_line a0 a1 b0 b1 d0 d1
  have l3 := @btw_line c0 c1 d0 d1 a0 a1
  have l4 := @btw_line c0 c1 d0 d1 b0 b1
  unfold RefI OnI
  generalize crossI a0 a1 b0 b1 c0 c1 = A at *
  generalize crossI a0 a1 b0 b1 d0 d1 = B at *
  generalize crossI c0 c1 d0 d1 a0 a1 = C at *
  generalize crossI c0 c1 d0 d1 b0 b1 = D at *
  have s1' : ¬ Same B A := fun h => s1 (same_comm.1 h)
  by_cases hne : C = D
  · have z : A = 0 ∧ B = 0 ∧ C = 0 ∧ D = 0 := by unfold Same at s1 s2; omega
    obtain ⟨rfl, rfl, rfl, rfl⟩ := z
    unfold Ov at ox oy
    have hx1 : Btw a0 b0 c0 ∨ Btw a0 b0 d0 ∨ Btw c0 d0 a0 ∨ Btw c0 d0 b0 := by unfold Btw; omega
    have hy1 : Btw a1 b1 c1 ∨ Btw a1 b1 d1 ∨ Btw c1 d1 a1 ∨ Btw c1 d1 b1 := by unfold Btw; omega
    by_cases v1 : a0 = b0
    · by_cases v2 : c0 = d0
      · have t1 : Btw a0 b0 c0 ∧ Btw a0 b0 d0 ∧ Btw c0 d0 a0 ∧ Btw c0 d0 b0 := by unfold Btw at *; omega
        rcases hy1 with h | h | h | h
        · exact .inl ⟨rfl, t1.1, h⟩
        · exact .inr (.inl ⟨rfl, t1.2.1, h⟩)
        · exact .inr (.inr (.inl ⟨rfl, t1.2.2.1, h⟩))
        · exact .inr (.inr (.inr (.inl ⟨rfl, t1.2.2.2, h⟩)))
      · have t : Btw c0 d0 a0 := by unfold Btw at *; omega
        exact .inr (.inr (.inl ⟨rfl, t, l3 rfl v2 t⟩))
    · by_cases v2 : c0 = d0
      · have t : Btw a0 b0 c0 := by unfold Btw at *; omega
        exact .inl ⟨rfl, t, l1 rfl v1 t⟩
      · rcases hx1 with h | h | h | h
        · exact .inl ⟨rfl, h, l1 rfl v1 h⟩
        · exact .inr (.inl ⟨rfl, h, l2 rfl v1 h⟩)
        · exact .inr (.inr (.inl ⟨rfl, h, l3 rfl v2 h⟩))
        · exact .inr (.inr (.inr (.inl ⟨rfl, h, l4 rfl v2 h⟩)))
  · by_cases zA : A = 0
    · subst zA
      have x := conv (u := c0) (by omega) hne s2 s1' (by rw [hx, Int.zero_mul, Int.zero_mul])
      have y := conv (u := c1) (by omega) hne s2 s1' (by rw [hy, Int.zero_mul, Int.zero_mul])
      exact .inl ⟨rfl, by unfold Btw; omega, by unfold Btw; omega⟩
    by_cases zB : B = 0
    · subst zB
      have x := conv (z := d0) (by omega) hne s2 s1' (by rw [hx, Int.zero_mul, Int.zero_mul])
      have y := conv (z := d1) (by omega) hne s2 s1' (by rw [hy, Int.zero_mul, Int.zero_mul])
      exact .inr (.inl ⟨rfl, by unfold Btw; omega, by unfold Btw; omega⟩)
    by_cases zC : C = 0
    · subst zC
      have x := conv (x := a0) (by omega) hne s2 s1' (by rw [← hx, Int.zero_mul, Int.zero_mul])
      have y := conv (x := a1) (by omega) hne s2 s1' (by rw [← hy, Int.zero_mul, Int.zero_mul])
      exact .inr (.inr (.inl ⟨rfl, by unfold Btw; omega, by unfold Btw; omega⟩))
    by_cases zD : D = 0
    · subst zD
      have x := conv (y := b0) (by omega) hne s2 s1' (by rw [← hx, Int.zero_mul, Int.zero_mul])
      have y := conv (y := b1) (by omega) hne s2 s1' (by rw [← hy, Int.zero_mul, Int.zero_mul])
      exact .inr (.inr (.inr (.inl ⟨rfl, by unfold Btw; omega, by unfold Btw; omega⟩)))
    exact .inr (.inr (.inr (.inr ⟨by unfold Opp; unfold Same at s1; omega, by unfold Opp; unfold Same at s2; omega⟩)))
theorem geo_iff_ref (a0 a1 b0 b1 c0 c1 d0 d1 : Int) : GeoI a0 a1 b0 b1 c0 c1 d0 d1 ↔ RefI a0 a1 b0 b1 c0 c1 d0 d1 := ⟨geo_ref, ref_geo⟩
end Go.Proofs.Ytannklfnfacpeaa.X
