/- A side that does not meet the way from p to q winds about both by the same, but for a potential of its ends. -/
import Derived.Test.YtannklfnfacpeaaXMCore
namespace Go.Proofs.Ytannklfnfacpeaa.X
open Go.RowKit
set_option linter.unusedVariables false
set_option linter.unusedSimpArgs false
def wst (p0 p1 a0 a1 b0 b1 : Int) : Int :=
  if a1 ≤ p1 ∧ b1 > p1 ∧ crossI a0 a1 b0 b1 p0 p1 > 0 then 1 else if b1 ≤ p1 ∧ a1 > p1 ∧ crossI a0 a1 b0 b1 p0 p1 < 0 then -1 else 0
/-- Between the two rays, to the right of the way. -/
def pot (p0 p1 q0 q1 v0 v1 : Int) : Int := if p1 < v1 ∧ v1 ≤ q1 ∧ crossI p0 p1 q0 q1 v0 v1 < 0 then 1 else 0
theorem wst_back (p0 p1 a0 a1 b0 b1 : Int) : wst p0 p1 b0 b1 a0 a1 = -wst p0 p1 a0 a1 b0 b1 := by
  unfold wst
  rw [cross_back a0 a1 b0 b1]
  generalize crossI a0 a1 b0 b1 p0 p1 = A
  repeat' split
  all_goals omega
theorem mul_sg {u v : Int} (hv : 0 < v) : (0 < u → 0 < u * v) ∧ (u < 0 → u * v < 0) ∧ (0 ≤ u → 0 ≤ u * v) ∧ (u ≤ 0 → u * v ≤ 0) := by
  have k : ∀ u : Int, 0 < u → 0 < u * v := fun u h => Int.mul_pos h hv
  refine ⟨k u, fun h => ?_, fun h => Int.mul_nonneg h (Int.le_of_lt hv), fun h => ?_⟩
  · have := k (-u) (by omega)
    rw [Int.neg_mul] at this
    omega
  · have := Int.mul_nonneg (show 0 ≤ -u by omega) (Int.le_of_lt hv)
    rw [Int.neg_mul] at this
    omega
theorem mul_sg0 {u v : Int} (hv : 0 ≤ v) : (0 ≤ u → 0 ≤ u * v) ∧ (u ≤ 0 → u * v ≤ 0) := by
  refine ⟨fun h => Int.mul_nonneg h hv, fun h => ?_⟩
  have := Int.mul_nonneg (show 0 ≤ -u by omega) hv
  rw [Int.neg_mul] at this
  omega
section
variable {A B C D a1 b1 p1 q1 : Int}
theorem low_mid (hs : A + C = B + D) (E1 : C * (b1 - p1) + D * (p1 - a1) + A * (q1 - p1) = 0) (E4 : D * (b1 - a1) + A * (q1 - b1) + B * (b1 - p1) = 0) (h1 : a1 ≤ p1) (h2 : p1 < b1) (h3 : b1 ≤ q1)
    (N : ¬ Same A B → ¬ Same C D → C = D) : A > 0 ↔ D < 0 := by
  have f1 := mul_sg (u := C) (show 0 < b1 - p1 by omega)
  have f2 := mul_sg0 (u := D) (show 0 ≤ p1 - a1 by omega)
  have f3 := mul_sg (u := A) (show 0 < q1 - p1 by omega)
  have f4 := mul_sg (u := D) (show 0 < b1 - a1 by omega)
  have f5 := mul_sg0 (u := A) (show 0 ≤ q1 - b1 by omega)
  have f6 := mul_sg (u := B) (show 0 < b1 - p1 by omega)
  generalize C * (b1 - p1) = t1 at *
  generalize D * (p1 - a1) = t2 at *
  generalize A * (q1 - p1) = t3 at *
  generalize D * (b1 - a1) = t4 at *
  generalize A * (q1 - b1) = t5 at *
  generalize B * (b1 - p1) = t6 at *
  clear h1 h2 h3
  unfold Same at N
  constructor
  · intro hA
    by_cases hD : D < 0
    · exact hD
    · exfalso
      have x1 : t3 > 0 := f3.1 hA
      have x2 : t2 ≥ 0 := f2.1 (by omega)
      have x3 : C < 0 := by
        by_cases c : C < 0
        · exact c
        · have := f1.2.2.1 (by omega); omega
      have x4 : t4 ≥ 0 := f4.2.2.1 (by omega)
      have x5 : t5 ≥ 0 := f5.1 (by omega)
      have x6 : B ≤ 0 := by
        by_cases c : B ≤ 0
        · exact c
        · have := f6.1 (by omega); omega
      have := N (by omega) (by omega)
      omega
  · intro hD
    by_cases hA : A > 0
    · exact hA
    · exfalso
      have x1 : t3 ≤ 0 := f3.2.2.2 (by omega)
      have x2 : t2 ≤ 0 := f2.2 (by omega)
      have x3 : C ≥ 0 := by
        by_cases c : C ≥ 0
        · exact c
        · have := f1.2.1 (by omega); omega
      have x4 : t4 < 0 := f4.2.1 hD
      have x5 : t5 ≤ 0 := f5.2 (by omega)
      have x6 : B > 0 := by
        by_cases c : B > 0
        · exact c
        · have := f6.2.2.2 (by omega); omega
      have := N (by omega) (by omega)
      omega
theorem mid_high (hs : A + C = B + D) (E2 : C * (b1 - q1) + D * (q1 - a1) + B * (q1 - p1) = 0) (E3 : C * (b1 - a1) + A * (q1 - a1) + B * (a1 - p1) = 0) (h1 : p1 < a1) (h2 : a1 ≤ q1) (h3 : q1 < b1)
    (N : ¬ Same A B → ¬ Same C D → C = D) : B > 0 ↔ C < 0 := by
  have f1 := mul_sg (u := C) (show 0 < b1 - q1 by omega)
  have f2 := mul_sg0 (u := D) (show 0 ≤ q1 - a1 by omega)
  have f3 := mul_sg (u := B) (show 0 < q1 - p1 by omega)
  have f4 := mul_sg (u := C) (show 0 < b1 - a1 by omega)
  have f5 := mul_sg0 (u := A) (show 0 ≤ q1 - a1 by omega)
  have f6 := mul_sg (u := B) (show 0 < a1 - p1 by omega)
  generalize C * (b1 - q1) = t1 at *
  generalize D * (q1 - a1) = t2 at *
  generalize B * (q1 - p1) = t3 at *
  generalize C * (b1 - a1) = t4 at *
  generalize A * (q1 - a1) = t5 at *
  generalize B * (a1 - p1) = t6 at *
  clear h1 h2 h3
  unfold Same at N
  constructor
  · intro hB
    by_cases hC : C < 0
    · exact hC
    · exfalso
      have x1 := f3.1 hB
      have x2 := f1.2.2.1 (by omega)
      have x3 : D < 0 := by
        by_cases c : D < 0
        · exact c
        · have := f2.1 (by omega); omega
      have x4 := f4.2.2.1 (by omega)
      have x5 := f6.1 hB
      have x6 : A < 0 := by
        by_cases c : A < 0
        · exact c
        · have := f5.1 (by omega); omega
      have := N (by omega) (by omega)
      omega
  · intro hC
    by_cases hB : B > 0
    · exact hB
    · exfalso
      have x1 := f3.2.2.2 (by omega)
      have x2 := f1.2.1 hC
      have x3 : D > 0 := by
        by_cases c : D > 0
        · exact c
        · have := f2.2 (by omega); omega
      have x4 := f4.2.1 hC
      have x5 := f6.2.2.2 (by omega)
      have x6 : A > 0 := by
        by_cases c : A > 0
        · exact c
        · have := f5.2 (by omega); omega
      have := N (by omega) (by omega)
      omega
theorem low_high (hs : A + C = B + D) (E1 : C * (b1 - p1) + D * (p1 - a1) + A * (q1 - p1) = 0) (E2 : C * (b1 - q1) + D * (q1 - a1) + B * (q1 - p1) = 0) (h1 : a1 ≤ p1) (h2 : p1 ≤ q1) (h3 : q1 < b1)
    (N : ¬ Same A B → ¬ Same C D → C = D) : A > 0 ↔ B > 0 := by
  have f1 := mul_sg (u := C) (show 0 < b1 - p1 by omega)
  have f2 := mul_sg0 (u := D) (show 0 ≤ p1 - a1 by omega)
  have f3 := mul_sg0 (u := A) (show 0 ≤ q1 - p1 by omega)
  have f4 := mul_sg (u := C) (show 0 < b1 - q1 by omega)
  have f5 := mul_sg0 (u := D) (show 0 ≤ q1 - a1 by omega)
  have f6 := mul_sg0 (u := B) (show 0 ≤ q1 - p1 by omega)
  generalize C * (b1 - p1) = t1 at *
  generalize D * (p1 - a1) = t2 at *
  generalize A * (q1 - p1) = t3 at *
  generalize C * (b1 - q1) = t4 at *
  generalize D * (q1 - a1) = t5 at *
  generalize B * (q1 - p1) = t6 at *
  clear h1 h2 h3
  have key : ¬ Same C D ∨ (A ≤ 0 ∧ B ≤ 0) ∨ (A > 0 ∧ B > 0) := by
    unfold Same
    by_cases cA : A > 0
    · by_cases cB : B > 0
      · exact .inr (.inr ⟨cA, cB⟩)
      · refine .inl fun h => ?_
        rcases h with ⟨hC, hD⟩ | ⟨hC, hD⟩
        · have := f1.1 hC
          have := f2.1 (by omega)
          have := f3.1 (by omega)
          omega
        · have := f4.2.1 hC
          have := f5.2 (by omega)
          have := f6.2 (by omega)
          omega
    · by_cases cB : B > 0
      · refine .inl fun h => ?_
        rcases h with ⟨hC, hD⟩ | ⟨hC, hD⟩
        · have := f4.1 hC
          have := f5.1 (by omega)
          have := f6.1 (by omega)
          omega
        · have := f1.2.1 hC
          have := f2.2 (by omega)
          have := f3.2 (by omega)
          omega
      · exact .inr (.inl ⟨by omega, by omega⟩)
  rcases key with h | h | h
  · by_cases cA : A > 0 <;> by_cases cB : B > 0
    · exact ⟨fun _ => cB, fun _ => cA⟩
    · have := N (by unfold Same; omega) h; omega
    · have := N (by unfold Same; omega) h; omega
    · exact ⟨fun h => absurd h cA, fun h => absurd h cB⟩
  · exact ⟨fun g => by omega, fun g => by omega⟩
  · exact ⟨fun _ => h.2, fun _ => h.1⟩
theorem mid_mid' (hs : A + C = B + D) (E3 : C * (b1 - a1) + A * (q1 - a1) + B * (a1 - p1) = 0) (E4 : D * (b1 - a1) + A * (q1 - b1) + B * (b1 - p1) = 0) (h1 : p1 < a1) (h2 : a1 ≤ q1) (h3 : p1 < b1) (h4 : b1 ≤ q1)
    (N : ¬ Same A B → ¬ Same C D → C = D) (hC : C < 0) (hD : ¬ D < 0) : False := by
  have f1 := mul_sg0 (u := A) (show 0 ≤ q1 - a1 by omega)
  have f2 := mul_sg (u := B) (show 0 < a1 - p1 by omega)
  have f3 := mul_sg0 (u := A) (show 0 ≤ q1 - b1 by omega)
  have f4 := mul_sg (u := B) (show 0 < b1 - p1 by omega)
  have g : ¬ Same A B := by
    unfold Same
    rintro (⟨hA, hB⟩ | ⟨hA, hB⟩)
    · have x1 := f1.1 (by omega)
      have x2 := f2.1 hB
      have x3 := f3.1 (by omega)
      have x4 := f4.1 hB
      by_cases c : 0 < b1 - a1
      · have := (mul_sg (u := D) c).2.2.1 (by omega)
        omega
      · have := (mul_sg0 (u := C) (show 0 ≤ a1 - b1 by omega)).2 (by omega)
        rw [show b1 - a1 = -(a1 - b1) by omega, Int.mul_neg] at E3
        omega
    · have x1 := f1.2 (by omega)
      have x2 := f2.2.1 hB
      have x3 := f3.2 (by omega)
      have x4 := f4.2.1 hB
      by_cases c : 0 < b1 - a1
      · have := (mul_sg (u := C) c).2.1 hC
        omega
      · have := (mul_sg0 (u := D) (show 0 ≤ a1 - b1 by omega)).1 (by omega)
        rw [show b1 - a1 = -(a1 - b1) by omega, Int.mul_neg] at E4
        omega
  have := N g (by unfold Same; omega)
  omega
end
theorem rels (a0 a1 b0 b1 p0 p1 q0 q1 : Int) :
    crossI p0 p1 q0 q1 a0 a1 * (b1 - p1) + crossI p0 p1 q0 q1 b0 b1 * (p1 - a1) + crossI a0 a1 b0 b1 p0 p1 * (q1 - p1) = 0 ∧
    crossI p0 p1 q0 q1 a0 a1 * (b1 - q1) + crossI p0 p1 q0 q1 b0 b1 * (q1 - a1) + crossI a0 a1 b0 b1 q0 q1 * (q1 - p1) = 0 ∧
    crossI p0 p1 q0 q1 a0 a1 * (b1 - a1) + crossI a0 a1 b0 b1 p0 p1 * (q1 - a1) + crossI a0 a1 b0 b1 q0 q1 * (a1 - p1) = 0 ∧
    crossI p0 p1 q0 q1 b0 b1 * (b1 - a1) + crossI a0 a1 b0 b1 p0 p1 * (q1 - b1) + crossI a0 a1 b0 b1 q0 q1 * (b1 - p1) = 0 := by
  have hs := cross_sum a0 a1 b0 b1 p0 p1 q0 q1
  have hy := cross_y a0 a1 b0 b1 p0 p1 q0 q1
  generalize crossI a0 a1 b0 b1 p0 p1 = A at *
  generalize crossI a0 a1 b0 b1 q0 q1 = B at *
  generalize crossI p0 p1 q0 q1 a0 a1 = C at *
  generalize crossI p0 p1 q0 q1 b0 b1 = D at *
  obtain rfl : C = B + D - A := by omega
  simp only [Int.mul_sub, Int.sub_mul, Int.add_mul] at hy ⊢
  omega
/-- The two windings of a side that does not meet the way. -/
theorem edge_up {a0 a1 b0 b1 p0 p1 q0 q1 : Int} (hpq : p1 ≤ q1) (hab : a1 ≤ b1) (hn : ¬ GeoI a0 a1 b0 b1 p0 p1 q0 q1) :
    wst p0 p1 a0 a1 b0 b1 - wst q0 q1 a0 a1 b0 b1 = pot p0 p1 q0 q1 b0 b1 - pot p0 p1 q0 q1 a0 a1 := by
  have hs := cross_sum a0 a1 b0 b1 p0 p1 q0 q1
  obtain ⟨E1, E2, E3, E4⟩ := rels a0 a1 b0 b1 p0 p1 q0 q1
  have N : ¬ Same (crossI a0 a1 b0 b1 p0 p1) (crossI a0 a1 b0 b1 q0 q1) → ¬ Same (crossI p0 p1 q0 q1 a0 a1) (crossI p0 p1 q0 q1 b0 b1) → crossI p0 p1 q0 q1 a0 a1 = crossI p0 p1 q0 q1 b0 b1 := by
    intro g1 g2
    by_cases z : crossI p0 p1 q0 q1 a0 a1 = crossI p0 p1 q0 q1 b0 b1
    · exact z
    · exfalso
      have x := conv (by omega) z g2 (fun g => g1 (same_comm.1 g)) (cross_x a0 a1 b0 b1 p0 p1 q0 q1)
      have y := conv (by omega) z g2 (fun g => g1 (same_comm.1 g)) (cross_y a0 a1 b0 b1 p0 p1 q0 q1)
      clear hs E1 E2 E3 E4 z
      exact hn ⟨by unfold Ov; omega, by unfold Ov; omega, g1, g2⟩
  unfold wst pot
  generalize crossI a0 a1 b0 b1 p0 p1 = A at *
  generalize crossI a0 a1 b0 b1 q0 q1 = B at *
  generalize crossI p0 p1 q0 q1 a0 a1 = C at *
  generalize crossI p0 p1 q0 q1 b0 b1 = D at *
  clear hn
  by_cases la : a1 ≤ p1
  · by_cases lb : b1 ≤ p1
    · clear E1 E2 E3 E4 N hs
      rw [if_neg (by omega), if_neg (by omega), if_neg (by omega), if_neg (by omega), if_neg (by omega), if_neg (by omega)]
    · by_cases mb : b1 ≤ q1
      · have := low_mid hs E1 E4 la (by omega) mb N
        clear E1 E2 E3 E4 N hs
        rw [if_neg (c := a1 ≤ q1 ∧ b1 > q1 ∧ B > 0) (by omega), if_neg (c := b1 ≤ q1 ∧ a1 > q1 ∧ B < 0) (by omega), if_neg (c := p1 < a1 ∧ a1 ≤ q1 ∧ C < 0) (by omega), if_neg (c := b1 ≤ p1 ∧ a1 > p1 ∧ A < 0) (by omega)]
        by_cases c : A > 0
        · rw [if_pos (by omega), if_pos (by omega)]
        · rw [if_neg (by omega), if_neg (by omega)]
      · have := low_high hs E1 E2 la hpq (by omega) N
        clear E1 E2 E3 E4 N hs
        rw [if_neg (c := b1 ≤ q1 ∧ a1 > q1 ∧ B < 0) (by omega), if_neg (c := p1 < a1 ∧ a1 ≤ q1 ∧ C < 0) (by omega), if_neg (c := b1 ≤ p1 ∧ a1 > p1 ∧ A < 0) (by omega), if_neg (c := p1 < b1 ∧ b1 ≤ q1 ∧ D < 0) (by omega)]
        by_cases c : A > 0
        · rw [if_pos (by omega), if_pos (by omega)]
          omega
        · rw [if_neg (by omega), if_neg (by omega)]
  · by_cases ma : a1 ≤ q1
    · by_cases mb : b1 ≤ q1
      · have k1 := mid_mid' hs E3 E4 (by omega) ma (by omega) mb N
        have k2 := mid_mid' (A := -A) (B := -B) (C := D) (D := C) (a1 := b1) (b1 := a1) (p1 := p1) (q1 := q1) (by clear E1 E2 E3 E4 N k1; omega) (by rw [Int.neg_mul, Int.neg_mul, show a1 - b1 = -(b1 - a1) by omega, Int.mul_neg]; clear E1 E2 E3 N k1; omega)
          (by rw [Int.neg_mul, Int.neg_mul, show a1 - b1 = -(b1 - a1) by omega, Int.mul_neg]; clear E1 E2 E4 N k1; omega) (by omega) mb (by omega) ma (fun g1 g2 => (N (fun g => g1 (same_neg.2 g)) (fun g => g2 (same_comm.1 g))).symm)
        clear E1 E2 E3 E4 N hs
        rw [if_neg (c := a1 ≤ p1 ∧ b1 > p1 ∧ A > 0) (by omega), if_neg (c := b1 ≤ p1 ∧ a1 > p1 ∧ A < 0) (by omega), if_neg (c := a1 ≤ q1 ∧ b1 > q1 ∧ B > 0) (by omega), if_neg (c := b1 ≤ q1 ∧ a1 > q1 ∧ B < 0) (by omega)]
        by_cases c : C < 0
        · by_cases d : D < 0
          · rw [if_pos (by omega), if_pos (by omega)]
            omega
          · exact (k1 c d).elim
        · by_cases d : D < 0
          · exact (k2 d c).elim
          · rw [if_neg (by omega), if_neg (by omega)]
      · have := mid_high hs E2 E3 (by omega) ma (by omega) N
        clear E1 E2 E3 E4 N hs
        rw [if_neg (c := a1 ≤ p1 ∧ b1 > p1 ∧ A > 0) (by omega), if_neg (c := b1 ≤ p1 ∧ a1 > p1 ∧ A < 0) (by omega), if_neg (c := b1 ≤ q1 ∧ a1 > q1 ∧ B < 0) (by omega), if_neg (c := p1 < b1 ∧ b1 ≤ q1 ∧ D < 0) (by omega)]
        by_cases c : C < 0
        · rw [if_pos (by omega), if_pos (by omega)]
        · rw [if_neg (by omega), if_neg (by omega)]
    · clear E1 E2 E3 E4 N hs
      rw [if_neg (by omega), if_neg (by omega), if_neg (by omega), if_neg (by omega), if_neg (by omega), if_neg (by omega)]
theorem edge_same {a0 a1 b0 b1 p0 p1 q0 q1 : Int} (hpq : p1 ≤ q1) (hn : ¬ GeoI a0 a1 b0 b1 p0 p1 q0 q1) :
    wst p0 p1 a0 a1 b0 b1 - wst q0 q1 a0 a1 b0 b1 = pot p0 p1 q0 q1 b0 b1 - pot p0 p1 q0 q1 a0 a1 := by
  by_cases c : a1 ≤ b1
  · exact edge_up hpq c hn
  · have := edge_up (a0 := b0) (a1 := b1) (b0 := a0) (b1 := a1) hpq (by omega) (fun h => hn (geo_turn2 (geo_swap (geo_turn2 h))))
    rw [wst_back p0 p1 a0, wst_back q0 q1 a0] at this
    omega
end Go.Proofs.Ytannklfnfacpeaa.X
