/- A segment touches a rectangle just if an end is in it, or it meets a diagonal. -/
import Derived.Test.YtannklfnfacpeaaXMCore
namespace Go.Proofs.Ytannklfnfacpeaa.X
open Go.RowKit
set_option linter.unusedVariables false
set_option linter.unusedSimpArgs false
def InR (p0 p1 x0 x1 y0 y1 : Int) : Prop := x0 ≤ p0 ∧ p0 ≤ x1 ∧ y0 ≤ p1 ∧ p1 ≤ y1
def TouchI (a0 a1 b0 b1 x0 x1 y0 y1 : Int) : Prop :=
  Ov a0 b0 x0 x1 ∧ Ov a1 b1 y0 y1 ∧
  ¬ (crossI a0 a1 b0 b1 x0 y0 > 0 ∧ crossI a0 a1 b0 b1 x0 y1 > 0 ∧ crossI a0 a1 b0 b1 x1 y0 > 0 ∧ crossI a0 a1 b0 b1 x1 y1 > 0) ∧
  ¬ (crossI a0 a1 b0 b1 x0 y0 < 0 ∧ crossI a0 a1 b0 b1 x0 y1 < 0 ∧ crossI a0 a1 b0 b1 x1 y0 < 0 ∧ crossI a0 a1 b0 b1 x1 y1 < 0)
theorem mul_sign (u x y : Int) (hx : x ≤ 0) (hy : 0 ≤ y) : (u * x ≤ 0 ∧ 0 ≤ u * y) ∨ (0 ≤ u * x ∧ u * y ≤ 0) := by
  by_cases h : 0 ≤ u
  · have h1 := Int.mul_nonneg h hy
    have h2 := Int.mul_nonneg h (show 0 ≤ -x by omega)
    rw [Int.mul_neg] at h2
    exact .inl ⟨by omega, h1⟩
  · have h1 := Int.mul_nonneg (show 0 ≤ -u by omega) hy
    have h2 := Int.mul_nonneg (show 0 ≤ -u by omega) (show 0 ≤ -x by omega)
    rw [Int.neg_mul_neg] at h2
    rw [Int.neg_mul] at h1
    exact .inr ⟨h2, by omega⟩
theorem in_sides {a0 a1 b0 b1 x0 x1 y0 y1 : Int} (h : InR a0 a1 x0 x1 y0 y1) :
    ¬ (crossI a0 a1 b0 b1 x0 y0 > 0 ∧ crossI a0 a1 b0 b1 x0 y1 > 0 ∧ crossI a0 a1 b0 b1 x1 y0 > 0 ∧ crossI a0 a1 b0 b1 x1 y1 > 0) ∧
    ¬ (crossI a0 a1 b0 b1 x0 y0 < 0 ∧ crossI a0 a1 b0 b1 x0 y1 < 0 ∧ crossI a0 a1 b0 b1 x1 y0 < 0 ∧ crossI a0 a1 b0 b1 x1 y1 < 0) := by
  obtain ⟨h1, h2, h3, h4⟩ := h
  unfold crossI
  have p := mul_sign (b0 - a0) (y0 - a1) (y1 - a1) (by omega) (by omega)
  have q := mul_sign (b1 - a1) (x0 - a0) (x1 - a0) (by omega) (by omega)
  generalize (b0 - a0) * (y0 - a1) = p0 at *
  generalize (b0 - a0) * (y1 - a1) = p1 at *
  generalize (b1 - a1) * (x0 - a0) = q0 at *
  generalize (b1 - a1) * (x1 - a0) = q1 at *
  omega
theorem in_touch {a0 a1 b0 b1 x0 x1 y0 y1 : Int} (h : InR a0 a1 x0 x1 y0 y1) : TouchI a0 a1 b0 b1 x0 x1 y0 y1 := by
  obtain ⟨s1, s2⟩ := in_sides (b0 := b0) (b1 := b1) h
  unfold InR at h
  exact ⟨by unfold Ov; omega, by unfold Ov; omega, s1, s2⟩
theorem touch_back {a0 a1 b0 b1 x0 x1 y0 y1 : Int} (h : TouchI b0 b1 a0 a1 x0 x1 y0 y1) : TouchI a0 a1 b0 b1 x0 x1 y0 y1 := by
  obtain ⟨h1, h2, h3, h4⟩ := h
  rw [cross_back a0 a1 b0 b1, cross_back a0 a1 b0 b1, cross_back a0 a1 b0 b1, cross_back a0 a1 b0 b1] at h3 h4
  exact ⟨by unfold Ov at *; omega, by unfold Ov at *; omega, by omega, by omega⟩
/-- The nearer end of a segment that stays on one side of a point of its line, which is in a span that the segment's span meets, is in that span. -/
theorem near {S C D a b P lo hi : Int} (hS : 0 < S) (hD : 0 < D) (hC : C = S + D) (e : C * b - D * a = P) (h1 : S * lo ≤ P) (h2 : P ≤ S * hi) (h3 : ¬ (a < lo ∧ b < lo)) (h4 : ¬ (hi < a ∧ hi < b)) : lo ≤ b ∧ b ≤ hi := by
  subst hC
  rw [Int.add_mul] at e
  constructor
  · by_cases c : b < lo
    · exfalso
      have k1 := Int.mul_lt_mul_of_pos_left c hS
      have k2 : D * b > D * a := by omega
      have k3 := Int.lt_of_mul_lt_mul_left k2 (Int.le_of_lt hD)
      omega
    · omega
  · by_cases c : hi < b
    · exfalso
      have k1 := Int.mul_lt_mul_of_pos_left c hS
      have k2 : D * b < D * a := by omega
      have k3 := Int.lt_of_mul_lt_mul_left k2 (Int.le_of_lt hD)
      omega
    · omega
/-- Between the ends of a diagonal: in the rectangle's span. -/
theorem span_mul {S A B c d lo hi : Int} (hA : A ≤ 0) (hB : 0 ≤ B) (hS : S = B - A) (h1 : lo ≤ c ∧ c ≤ hi) (h2 : lo ≤ d ∧ d ≤ hi) : S * lo ≤ B * c - A * d ∧ B * c - A * d ≤ S * hi := by
  subst hS
  have k1 := Int.mul_le_mul_of_nonneg_left h1.1 hB
  have k2 := Int.mul_le_mul_of_nonneg_left h1.2 hB
  have k3 := Int.mul_le_mul_of_nonneg_left h2.1 (show 0 ≤ -A by omega)
  have k4 := Int.mul_le_mul_of_nonneg_left h2.2 (show 0 ≤ -A by omega)
  rw [Int.neg_mul, Int.neg_mul] at k3 k4
  rw [Int.sub_mul, Int.sub_mul]
  omega
def Nearer (C D : Int) : Prop := (0 < D ∧ D < C) ∨ (C < D ∧ D < 0)
theorem coord {A B C D a b c d lo hi : Int} (hs : ¬ Same A B) (hg : Same C D) (hsum : A + C = B + D) (z : C ≠ D) (e : C * b - D * a = B * c - A * d) (hc : lo ≤ c ∧ c ≤ hi) (hd : lo ≤ d ∧ d ≤ hi)
    (h3 : ¬ (a < lo ∧ b < lo)) (h4 : ¬ (hi < a ∧ hi < b)) : (Nearer C D → lo ≤ b ∧ b ≤ hi) ∧ (¬ Nearer C D → lo ≤ a ∧ a ≤ hi) := by
  have h3' : ¬ (b < lo ∧ a < lo) := fun h => h3 ⟨h.2, h.1⟩
  have h4' : ¬ (hi < b ∧ hi < a) := fun h => h4 ⟨h.2, h.1⟩
  unfold Same at hs hg
  by_cases c1 : D < C
  · have hA : A ≤ 0 := by clear e h3 h4 h3' h4' hc hd; omega
    have hB : 0 ≤ B := by clear e h3 h4 h3' h4' hc hd; omega
    have hS : 0 < B - A := by clear e h3 h4 h3' h4' hc hd; omega
    have sx := span_mul (S := B - A) hA hB rfl hc hd
    by_cases c2 : 0 < D
    · have n : Nearer C D := .inl ⟨c2, c1⟩
      exact ⟨fun _ => near hS c2 (show C = (B - A) + D by clear e h3 h4 h3' h4' hc hd; omega) e sx.1 sx.2 h3 h4, fun h => absurd n h⟩
    · have n : ¬ Nearer C D := by clear e h3 h4 h3' h4' hc hd; unfold Nearer; omega
      have hD : 0 < -C := by clear e h3 h4 h3' h4' hc hd; omega
      exact ⟨fun h => absurd h n, fun _ => near (C := -D) (D := -C) hS hD (show -D = (B - A) + -C by clear e h3 h4 h3' h4' hc hd; omega) (by rw [Int.neg_mul, Int.neg_mul, ← e]; omega) sx.1 sx.2 h3' h4'⟩
  · have hA : -A ≤ 0 := by clear e h3 h4 h3' h4' hc hd; omega
    have hB : 0 ≤ -B := by clear e h3 h4 h3' h4' hc hd; omega
    have hS : 0 < A - B := by clear e h3 h4 h3' h4' hc hd; omega
    have sx := span_mul (S := A - B) hA hB (by omega) hc hd
    rw [Int.neg_mul, Int.neg_mul] at sx
    by_cases c2 : 0 < C
    · have n : ¬ Nearer C D := by clear e h3 h4 h3' h4' hc hd; unfold Nearer; omega
      exact ⟨fun h => absurd h n, fun _ => near (C := D) (D := C) hS c2 (show D = (A - B) + C by clear e h3 h4 h3' h4' hc hd; omega) (by clear h3 h4 h3' h4' hc hd sx; omega) sx.1 sx.2 h3' h4'⟩
    · have hD : 0 < -D := by clear e h3 h4 h3' h4' hc hd; omega
      have n : Nearer C D := by clear e h3 h4 h3' h4' hc hd; unfold Nearer; omega
      exact ⟨fun _ => near (C := -C) (D := -D) hS hD (show -C = (A - B) + -D by clear e h3 h4 h3' h4' hc hd; omega) (by rw [Int.neg_mul, Int.neg_mul]; clear h3 h4 h3' h4' hc hd sx; omega) sx.1 sx.2 h3 h4, fun h => absurd n h⟩
theorem ov_not {a b lo hi : Int} (h : Ov a b lo hi) (hl : lo ≤ hi) : ¬ (a < lo ∧ b < lo) ∧ ¬ (hi < a ∧ hi < b) := by
  unfold Ov at h
  omega
/-- Two points of the rectangle, which the line parts: an end is in the rectangle, or the line of the two points parts the ends. -/
theorem diag0 {a0 a1 b0 b1 c0 c1 d0 d1 x0 x1 y0 y1 : Int} (hx : Ov a0 b0 x0 x1) (hy : Ov a1 b1 y0 y1) (h0 : x0 ≤ x1) (h1 : y0 ≤ y1) (hc : InR c0 c1 x0 x1 y0 y1) (hd : InR d0 d1 x0 x1 y0 y1)
    (hs : ¬ Same (crossI a0 a1 b0 b1 c0 c1) (crossI a0 a1 b0 b1 d0 d1)) : InR a0 a1 x0 x1 y0 y1 ∨ InR b0 b1 x0 x1 y0 y1 ∨ ¬ Same (crossI c0 c1 d0 d1 a0 a1) (crossI c0 c1 d0 d1 b0 b1) := by
  by_cases hg : Same (crossI c0 c1 d0 d1 a0 a1) (crossI c0 c1 d0 d1 b0 b1)
  · have hsum := cross_sum a0 a1 b0 b1 c0 c1 d0 d1
    have hxx := cross_x a0 a1 b0 b1 c0 c1 d0 d1
    have hyy := cross_y a0 a1 b0 b1 c0 c1 d0 d1
    have nx := ov_not hx h0
    have ny := ov_not hy h1
    generalize crossI a0 a1 b0 b1 c0 c1 = A at *
    generalize crossI a0 a1 b0 b1 d0 d1 = B at *
    generalize crossI c0 c1 d0 d1 a0 a1 = C at *
    generalize crossI c0 c1 d0 d1 b0 b1 = D at *
    clear hx hy
    by_cases z : C = D
    · subst z
      have zA : A = 0 ∧ B = 0 := by unfold Same at hs hg; clear hxx hyy nx ny hc hd; omega
      rw [zA.1, zA.2, Int.zero_mul, Int.zero_mul] at hxx hyy
      have e0 : C * (b0 - a0) = 0 := by rw [Int.mul_sub]; omega
      have e1 : C * (b1 - a1) = 0 := by rw [Int.mul_sub]; omega
      have hC : C ≠ 0 := by unfold Same at hg; omega
      rcases Int.mul_eq_zero.1 e0 with h | h
      · exact absurd h hC
      rcases Int.mul_eq_zero.1 e1 with h' | h'
      · exact absurd h' hC
      refine .inl ?_
      clear e0 e1 hxx hyy hs hg hsum
      unfold InR
      omega
    have kx := coord hs hg hsum z hxx ⟨hc.1, hc.2.1⟩ ⟨hd.1, hd.2.1⟩ nx.1 nx.2
    have ky := coord hs hg hsum z hyy ⟨hc.2.2.1, hc.2.2.2⟩ ⟨hd.2.2.1, hd.2.2.2⟩ ny.1 ny.2
    by_cases n : Nearer C D
    · exact .inr (.inl ⟨(kx.1 n).1, (kx.1 n).2, (ky.1 n).1, (ky.1 n).2⟩)
    · exact .inl ⟨(kx.2 n).1, (kx.2 n).2, (ky.2 n).1, (ky.2 n).2⟩
  · exact .inr (.inr hg)
/-- A diagonal, whose ends the line parts: the segment meets it, or an end is in the rectangle. -/
theorem diag {a0 a1 b0 b1 c0 c1 d0 d1 x0 x1 y0 y1 : Int} (hx : Ov a0 b0 x0 x1) (hy : Ov a1 b1 y0 y1) (h0 : x0 ≤ x1) (h1 : y0 ≤ y1) (hc : InR c0 c1 x0 x1 y0 y1) (hd : InR d0 d1 x0 x1 y0 y1)
    (ox : Ov a0 b0 x0 x1 → Ov a0 b0 c0 d0) (oy : Ov a1 b1 y0 y1 → Ov a1 b1 c1 d1)
    (hs : ¬ Same (crossI a0 a1 b0 b1 c0 c1) (crossI a0 a1 b0 b1 d0 d1)) : InR a0 a1 x0 x1 y0 y1 ∨ InR b0 b1 x0 x1 y0 y1 ∨ GeoI a0 a1 b0 b1 c0 c1 d0 d1 := by
  rcases diag0 hx hy h0 h1 hc hd hs with h | h | h
  · exact .inl h
  · exact .inr (.inl h)
  · exact .inr (.inr ⟨ox hx, oy hy, hs, h⟩)
theorem corner_sum (a0 a1 b0 b1 x0 x1 y0 y1 : Int) : crossI a0 a1 b0 b1 x0 y0 + crossI a0 a1 b0 b1 x1 y1 = crossI a0 a1 b0 b1 x0 y1 + crossI a0 a1 b0 b1 x1 y0 := by
  unfold crossI
  simp only [Int.mul_sub, Int.sub_mul, Int.mul_comm]
  omega
theorem touch_diag {a0 a1 b0 b1 x0 x1 y0 y1 : Int} (h0 : x0 ≤ x1) (h1 : y0 ≤ y1) :
    TouchI a0 a1 b0 b1 x0 x1 y0 y1 ↔ InR a0 a1 x0 x1 y0 y1 ∨ InR b0 b1 x0 x1 y0 y1 ∨ GeoI a0 a1 b0 b1 x0 y0 x1 y1 ∨ GeoI a0 a1 b0 b1 x0 y1 x1 y0 := by
  constructor
  · rintro ⟨hx, hy, hp, hn⟩
    have hsum := corner_sum a0 a1 b0 b1 x0 x1 y0 y1
    by_cases s1 : Same (crossI a0 a1 b0 b1 x0 y0) (crossI a0 a1 b0 b1 x1 y1)
    · by_cases s2 : Same (crossI a0 a1 b0 b1 x0 y1) (crossI a0 a1 b0 b1 x1 y0)
      · unfold Same at s1 s2
        omega
      · rcases diag (c0 := x0) (c1 := y1) (d0 := x1) (d1 := y0) hx hy h0 h1 (by unfold InR; omega) (by unfold InR; omega) id (fun h => by unfold Ov at *; omega) s2 with h | h | h
        · exact .inl h
        · exact .inr (.inl h)
        · exact .inr (.inr (.inr h))
    · rcases diag (c0 := x0) (c1 := y0) (d0 := x1) (d1 := y1) hx hy h0 h1 (by unfold InR; omega) (by unfold InR; omega) id id s1 with h | h | h
      · exact .inl h
      · exact .inr (.inl h)
      · exact .inr (.inr (.inl h))
  · rintro (h | h | ⟨h2, h3, h4, h5⟩ | ⟨h2, h3, h4, h5⟩)
    · exact in_touch h
    · exact touch_back (in_touch h)
    · exact ⟨h2, h3, fun h => h4 (.inl ⟨h.1, h.2.2.2⟩), fun h => h4 (.inr ⟨h.1, h.2.2.2⟩)⟩
    · exact ⟨h2, by unfold Ov at *; omega, fun h => h4 (.inl ⟨h.2.1, h.2.2.1⟩), fun h => h4 (.inr ⟨h.2.1, h.2.2.1⟩)⟩
end Go.Proofs.Ytannklfnfacpeaa.X
