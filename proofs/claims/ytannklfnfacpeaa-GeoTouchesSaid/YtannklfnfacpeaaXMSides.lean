/- A segment touches a rectangle just if an end is in it, or it meets a side. -/
import Derived.Test.YtannklfnfacpeaaXMDiag
namespace Go.Proofs.Ytannklfnfacpeaa.X
open Go.RowKit
set_option linter.unusedVariables false
set_option linter.unusedSimpArgs false
theorem side_meet {a0 a1 b0 b1 c0 c1 d0 d1 x0 x1 y0 y1 : Int} (hx : Ov a0 b0 x0 x1) (hy : Ov a1 b1 y0 y1) (h0 : x0 ≤ x1) (h1 : y0 ≤ y1) (hc : InR c0 c1 x0 x1 y0 y1) (hd : InR d0 d1 x0 x1 y0 y1)
    (hv : (c1 = d1 ∧ c0 ≠ d0 ∧ (Ov a0 b0 x0 x1 → Ov a0 b0 c0 d0)) ∨ (c0 = d0 ∧ c1 ≠ d1 ∧ (Ov a1 b1 y0 y1 → Ov a1 b1 c1 d1)))
    (hs : ¬ Same (crossI a0 a1 b0 b1 c0 c1) (crossI a0 a1 b0 b1 d0 d1)) : InR a0 a1 x0 x1 y0 y1 ∨ InR b0 b1 x0 x1 y0 y1 ∨ GeoI a0 a1 b0 b1 c0 c1 d0 d1 := by
  rcases diag0 hx hy h0 h1 hc hd hs with h | h | h
  · exact .inl h
  · exact .inr (.inl h)
  · refine .inr (.inr ?_)
    have hsum := cross_sum a0 a1 b0 b1 c0 c1 d0 d1
    by_cases z : crossI c0 c1 d0 d1 a0 a1 = crossI c0 c1 d0 d1 b0 b1
    · have zC : crossI c0 c1 d0 d1 a0 a1 = 0 ∧ crossI c0 c1 d0 d1 b0 b1 = 0 := by unfold Same at h; clear hsum hs hx hy hc hd hv; omega
      obtain ⟨zC, zD⟩ := zC
      unfold crossI at zC zD
      rcases hv with ⟨e, ne, ov⟩ | ⟨e, ne, ov⟩
      · subst e
        rw [Int.sub_self, Int.zero_mul, Int.sub_zero] at zC zD
        have eA : a1 = c1 := by
          rcases Int.mul_eq_zero.1 zC with g | g
          · exact absurd (by omega) ne
          · omega
        have eB : b1 = c1 := by
          rcases Int.mul_eq_zero.1 zD with g | g
          · exact absurd (by omega) ne
          · omega
        exact ⟨ov hx, by unfold Ov; omega, hs, h⟩
      · subst e
        rw [Int.sub_self, Int.zero_mul, Int.zero_sub] at zC zD
        have eA : a0 = c0 := by
          rcases Int.mul_eq_zero.1 (Int.neg_eq_zero.1 zC) with g | g
          · exact absurd (by omega) ne
          · omega
        have eB : b0 = c0 := by
          rcases Int.mul_eq_zero.1 (Int.neg_eq_zero.1 zD) with g | g
          · exact absurd (by omega) ne
          · omega
        exact ⟨by unfold Ov; omega, ov hy, hs, h⟩
    · have x := conv (by omega) z h (fun g => hs (same_comm.1 g)) (cross_x a0 a1 b0 b1 c0 c1 d0 d1)
      have y := conv (by omega) z h (fun g => hs (same_comm.1 g)) (cross_y a0 a1 b0 b1 c0 c1 d0 d1)
      clear hsum hx hy hc hd hv z
      exact ⟨by unfold Ov; omega, by unfold Ov; omega, hs, h⟩
theorem cross_point (p0 p1 a0 a1 : Int) : crossI p0 p1 p0 p1 a0 a1 = 0 := by
  unfold crossI
  rw [Int.sub_self, Int.sub_self, Int.zero_mul, Int.zero_mul]
  rfl
theorem geo_touch {a0 a1 b0 b1 c0 c1 d0 d1 x0 x1 y0 y1 : Int} (h : GeoI a0 a1 b0 b1 c0 c1 d0 d1) (hc : InR c0 c1 x0 x1 y0 y1) (hd : InR d0 d1 x0 x1 y0 y1) : Ov a0 b0 x0 x1 ∧ Ov a1 b1 y0 y1 := by
  obtain ⟨h1, h2, _, _⟩ := h
  unfold Ov InR at *
  omega
theorem touch_sides {a0 a1 b0 b1 x0 x1 y0 y1 : Int} (h0 : x0 ≤ x1) (h1 : y0 ≤ y1) :
    TouchI a0 a1 b0 b1 x0 x1 y0 y1 ↔ InR a0 a1 x0 x1 y0 y1 ∨ InR b0 b1 x0 x1 y0 y1 ∨ GeoI a0 a1 b0 b1 x0 y0 x1 y0 ∨ GeoI a0 a1 b0 b1 x1 y0 x1 y1 ∨ GeoI a0 a1 b0 b1 x1 y1 x0 y1 ∨ GeoI a0 a1 b0 b1 x0 y1 x0 y0 := by
  have iP : InR x0 y0 x0 x1 y0 y1 := by unfold InR; omega
  have iQ : InR x1 y0 x0 x1 y0 y1 := by unfold InR; omega
  have iR : InR x1 y1 x0 x1 y0 y1 := by unfold InR; omega
  have iS : InR x0 y1 x0 x1 y0 y1 := by unfold InR; omega
  constructor
  · rintro ⟨hx, hy, hp, hn⟩
    by_cases ex : x0 = x1
    · by_cases ey : y0 = y1
      · subst ex
        subst ey
        refine .inr (.inr (.inl ⟨hx, hy, ?_, ?_⟩))
        · unfold Same
          omega
        · rw [cross_point, cross_point]
          unfold Same
          omega
      · subst ex
        rcases side_meet (c0 := x0) (c1 := y0) (d0 := x0) (d1 := y1) hx hy h0 h1 iP iS (.inr ⟨rfl, ey, id⟩) (by unfold Same; omega) with h | h | h
        · exact .inl h
        · exact .inr (.inl h)
        · exact .inr (.inr (.inr (.inl h)))
    · by_cases ey : y0 = y1
      · subst ey
        rcases side_meet (c0 := x0) (c1 := y0) (d0 := x1) (d1 := y0) hx hy h0 h1 iP iQ (.inl ⟨rfl, ex, id⟩) (by unfold Same; omega) with h | h | h
        · exact .inl h
        · exact .inr (.inl h)
        · exact .inr (.inr (.inl h))
      · by_cases s1 : Same (crossI a0 a1 b0 b1 x0 y0) (crossI a0 a1 b0 b1 x1 y0)
        · by_cases s2 : Same (crossI a0 a1 b0 b1 x1 y0) (crossI a0 a1 b0 b1 x1 y1)
          · by_cases s3 : Same (crossI a0 a1 b0 b1 x1 y1) (crossI a0 a1 b0 b1 x0 y1)
            · exfalso
              unfold Same at s1 s2 s3
              clear hx hy iP iQ iR iS
              omega
            · rcases side_meet (c0 := x1) (c1 := y1) (d0 := x0) (d1 := y1) hx hy h0 h1 iR iS (.inl ⟨rfl, Ne.symm ex, fun h => by unfold Ov at *; omega⟩) s3 with h | h | h
              · exact .inl h
              · exact .inr (.inl h)
              · exact .inr (.inr (.inr (.inr (.inl h))))
          · rcases side_meet (c0 := x1) (c1 := y0) (d0 := x1) (d1 := y1) hx hy h0 h1 iQ iR (.inr ⟨rfl, ey, id⟩) s2 with h | h | h
            · exact .inl h
            · exact .inr (.inl h)
            · exact .inr (.inr (.inr (.inl h)))
        · rcases side_meet (c0 := x0) (c1 := y0) (d0 := x1) (d1 := y0) hx hy h0 h1 iP iQ (.inl ⟨rfl, ex, id⟩) s1 with h | h | h
          · exact .inl h
          · exact .inr (.inl h)
          · exact .inr (.inr (.inl h))
  · rintro (h | h | h | h | h | h)
    · exact in_touch h
    · exact touch_back (in_touch h)
    · have o := geo_touch h iP iQ
      exact ⟨o.1, o.2, fun g => h.2.2.1 (.inl ⟨g.1, g.2.2.1⟩), fun g => h.2.2.1 (.inr ⟨g.1, g.2.2.1⟩)⟩
    · have o := geo_touch h iQ iR
      exact ⟨o.1, o.2, fun g => h.2.2.1 (.inl ⟨g.2.2.1, g.2.2.2⟩), fun g => h.2.2.1 (.inr ⟨g.2.2.1, g.2.2.2⟩)⟩
    · have o := geo_touch h iR iS
      exact ⟨o.1, o.2, fun g => h.2.2.1 (.inl ⟨g.2.2.2, g.2.1⟩), fun g => h.2.2.1 (.inr ⟨g.2.2.2, g.2.1⟩)⟩
    · have o := geo_touch h iS iP
      exact ⟨o.1, o.2, fun g => h.2.2.1 (.inl ⟨g.2.1, g.1⟩), fun g => h.2.2.1 (.inr ⟨g.2.1, g.1⟩)⟩
end Go.Proofs.Ytannklfnfacpeaa.X
