/- A spike at a corner: just if one of the two sides lies on the other. -/
import Derived.Test.YtannklfnfacpeaaXMCore
namespace Go.Proofs.Ytannklfnfacpeaa.X
open Go.RowKit
set_option linter.unusedVariables false
set_option linter.unusedSimpArgs false
theorem sq_nn (x : Int) : 0 ≤ x * x := by
  by_cases h : 0 ≤ x
  · exact Int.mul_nonneg h h
  · rw [← Int.neg_mul_neg]; exact Int.mul_nonneg (by omega) (by omega)
theorem no_twist {A B C D : Int} (hB : 0 ≤ B) (hC : 0 ≤ C) (e : A * D = C * B) (h1 : B < A) (h2 : C < D) : False := by
  have k1 := Int.mul_lt_mul_of_pos_right h1 (show 0 < D by omega)
  have k2 := Int.mul_le_mul_of_nonneg_left (Int.le_of_lt h2) hB
  rw [Int.mul_comm C B] at e
  omega
/-- Two vectors of one line that look the same way: one is the other's part. -/
theorem part_of {u0 u1 v0 v1 : Int} (hx : u0 * v1 = u1 * v0) (hd : u0 * v0 + u1 * v1 > 0) : (Btw 0 u0 v0 ∧ Btw 0 u1 v1) ∨ (Btw 0 v0 u0 ∧ Btw 0 v1 u1) := by
  have key : ∀ u0 u1 v0 v1 : Int, u0 * v1 = u1 * v0 → 0 ≤ u0 → 0 ≤ v0 → 0 ≤ u1 → 0 ≤ v1 → (v0 ≤ u0 ∧ v1 ≤ u1) ∨ (u0 ≤ v0 ∧ u1 ≤ v1) := by
    intro u0 u1 v0 v1 hx h1 h2 h3 h4
    by_cases a : v0 < u0
    · by_cases b : u1 < v1
      · exact (no_twist (A := u0) (B := v0) (C := u1) (D := v1) h2 h3 hx a b).elim
      · exact .inl ⟨by omega, by omega⟩
    · by_cases b : v1 < u1
      · by_cases c : u0 < v0
        · refine (no_twist (A := v0) (B := u0) (C := v1) (D := u1) h1 h4 ?_ c b).elim
          rw [Int.mul_comm v0, Int.mul_comm v1]
          exact hx.symm
        · exact .inl ⟨by omega, by omega⟩
      · exact .inr ⟨by omega, by omega⟩
  have s0 : ¬ (u0 * v0 < 0) := by
    intro h
    have h' : u1 * v1 > 0 := by omega
    have e : (u0 * v0) * (u1 * v1) = (u0 * v1) * (u0 * v1) := by
      calc (u0 * v0) * (u1 * v1) = (u0 * v1) * (u1 * v0) := by simp only [Int.mul_assoc, Int.mul_comm, Int.mul_left_comm]
        _ = (u0 * v1) * (u0 * v1) := by rw [← hx]
    have n1 := Int.mul_neg_of_neg_of_pos h h'
    have n2 := sq_nn (u0 * v1)
    omega
  have s1 : ¬ (u1 * v1 < 0) := by
    intro h
    have h' : u0 * v0 > 0 := by omega
    have e : (u1 * v1) * (u0 * v0) = (u0 * v1) * (u0 * v1) := by
      calc (u1 * v1) * (u0 * v0) = (u0 * v1) * (u1 * v0) := by simp only [Int.mul_assoc, Int.mul_comm, Int.mul_left_comm]
        _ = (u0 * v1) * (u0 * v1) := by rw [← hx]
    have n1 := Int.mul_neg_of_neg_of_pos h h'
    have n2 := sq_nn (u0 * v1)
    omega
  have same : ∀ x y : Int, ¬ (x * y < 0) → (0 ≤ x ∧ 0 ≤ y) ∨ (x ≤ 0 ∧ y ≤ 0) := by
    intro x y h
    by_cases a : 0 < x
    · by_cases b : y < 0
      · exact absurd (Int.mul_neg_of_pos_of_neg a b) h
      · exact .inl ⟨by omega, by omega⟩
    · by_cases b : x < 0
      · by_cases c : 0 < y
        · exact absurd (Int.mul_neg_of_neg_of_pos b c) h
        · exact .inr ⟨by omega, by omega⟩
      · by_cases c : 0 ≤ y
        · exact .inl ⟨by omega, c⟩
        · exact .inr ⟨by omega, by omega⟩
  unfold Btw
  rcases same u0 v0 s0 with ⟨a, b⟩ | ⟨a, b⟩ <;> rcases same u1 v1 s1 with ⟨c, d⟩ | ⟨c, d⟩
  · have := key u0 u1 v0 v1 hx a b c d
    omega
  · have := key u0 (-u1) v0 (-v1) (by rw [Int.mul_neg, Int.neg_mul, hx]) a b (by omega) (by omega)
    omega
  · have := key (-u0) u1 (-v0) v1 (by rw [Int.neg_mul, Int.mul_neg, hx]) (by omega) (by omega) c d
    omega
  · have := key (-u0) (-u1) (-v0) (-v1) (by rw [Int.neg_mul_neg, Int.neg_mul_neg, hx]) (by omega) (by omega) (by omega) (by omega)
    omega
theorem part_dot {u0 u1 v0 v1 : Int} (hv : ¬ (v0 = 0 ∧ v1 = 0)) (h0 : Btw 0 u0 v0) (h1 : Btw 0 u1 v1) : u0 * v0 + u1 * v1 > 0 := by
  have key : ∀ u v : Int, Btw 0 u v → 0 ≤ u * v ∧ (v ≠ 0 → 0 < u * v) := by
    intro u v h
    unfold Btw at h
    rcases h with ⟨a, b⟩ | ⟨a, b⟩
    · exact ⟨Int.mul_nonneg (by omega) a, fun hv => Int.mul_pos (by omega) (by omega)⟩
    · exact ⟨by rw [← Int.neg_mul_neg]; exact Int.mul_nonneg (by omega) (by omega), fun hv => by rw [← Int.neg_mul_neg]; exact Int.mul_pos (by omega) (by omega)⟩
  have k0 := key u0 v0 h0
  have k1 := key u1 v1 h1
  by_cases a : v0 = 0
  · have := k1.2 (fun e => hv ⟨a, e⟩)
    omega
  · have := k0.2 a
    omega
/-- p, the corner c, q: the sides share more than the corner. -/
theorem spike_iff {p0 p1 c0 c1 q0 q1 : Int} (hp : ¬ (p0 = c0 ∧ p1 = c1)) (hq : ¬ (c0 = q0 ∧ c1 = q1)) :
    (crossI p0 p1 c0 c1 q0 q1 = 0 ∧ (p0 - c0) * (q0 - c0) + (p1 - c1) * (q1 - c1) > 0) ↔ (OnI p0 p1 c0 c1 q0 q1 ∨ OnI c0 c1 q0 q1 p0 p1) := by
  have hc : crossI p0 p1 c0 c1 q0 q1 = (p0 - c0) * (c1 - q1) - (p1 - c1) * (c0 - q0) := by
    unfold crossI
    simp only [Int.mul_sub, Int.sub_mul, Int.mul_comm]
    omega
  have ht : crossI c0 c1 q0 q1 p0 p1 = crossI p0 p1 c0 c1 q0 q1 := crossI_turn _ _ _ _ _ _
  have b1 : ∀ x y z : Int, Btw 0 (x - z) (y - z) ↔ Btw x z y := by intro x y z; unfold Btw; omega
  have b2 : ∀ x y z : Int, Btw 0 (x - z) (y - z) ↔ Btw z x y := by intro x y z; unfold Btw; omega
  unfold OnI
  rw [ht]
  constructor
  · rintro ⟨h1, h2⟩
    have hx : (p0 - c0) * (q1 - c1) = (p1 - c1) * (q0 - c0) := by
      rw [hc] at h1
      rw [show q1 - c1 = -(c1 - q1) by omega, show q0 - c0 = -(c0 - q0) by omega, Int.mul_neg, Int.mul_neg]
      omega
    rcases part_of hx h2 with ⟨a, b⟩ | ⟨a, b⟩
    · exact .inl ⟨h1, (b1 _ _ _).1 a, (b1 _ _ _).1 b⟩
    · exact .inr ⟨h1, (b2 _ _ _).1 a, (b2 _ _ _).1 b⟩
  · rintro (⟨h1, a, b⟩ | ⟨h1, a, b⟩)
    · exact ⟨h1, part_dot (by omega) ((b1 _ _ _).2 a) ((b1 _ _ _).2 b)⟩
    · refine ⟨h1, ?_⟩
      have := part_dot (u0 := q0 - c0) (u1 := q1 - c1) (v0 := p0 - c0) (v1 := p1 - c1) (by omega) ((b2 _ _ _).2 a) ((b2 _ _ _).2 b)
      rw [Int.mul_comm (p0 - c0), Int.mul_comm (p1 - c1)]
      exact this
end Go.Proofs.Ytannklfnfacpeaa.X
