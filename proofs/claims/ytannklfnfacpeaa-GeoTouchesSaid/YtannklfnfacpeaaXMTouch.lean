/- What geo.Touches answers, in whole numbers. -/
import Derived.Test.YtannklfnfacpeaaXMMeetV
import Derived.Test.YtannklfnfacpeaaXMDiag
namespace Go.Proofs.Ytannklfnfacpeaa.X
open Go.RowKit Go.Proofs.YtannklfnfacpeaaW.PrintWords Go.Proofs.YtannklfnfacpeaaW.PrintLast Go.Proofs.YtannklfnfacpeaaW.PrintMore
set_option linter.unusedVariables false
set_option linter.unusedSimpArgs false
theorem least_le (t1 t2 t3 t4 : Int) : minI (minI (minI (minI 1 t1) t2) t3) t4 ≤ 0 ↔ ¬ (t1 > 0 ∧ t2 > 0 ∧ t3 > 0 ∧ t4 > 0) := by
  unfold minI
  repeat' split
  all_goals omega
theorem most_ge (t1 t2 t3 t4 : Int) : maxI (maxI (maxI (maxI (-1) t1) t2) t3) t4 ≥ 0 ↔ ¬ (t1 < 0 ∧ t2 < 0 ∧ t3 < 0 ∧ t4 < 0) := by
  unfold maxI
  repeat' split
  all_goals omega
theorem sgnI_pos (n : Int) : sgnI n > 0 ↔ n > 0 := by have := sgnI_cases n; omega
theorem sgnI_lt (n : Int) : sgnI n < 0 ↔ n < 0 := by have := sgnI_cases n; omega
theorem touch_in {a0 a1 b0 b1 x0 x1 y0 y1 : Int} (ha : InB a0 ∧ InB a1) (hb : InB b0 ∧ InB b1) (hx : InB x0 ∧ InB x1) (hy : InB y0 ∧ InB y1) (h0 : x0 ≤ x1) (h1 : y0 ≤ y1) :
    ∃ t, touchV a0 a1 b0 b1 x0 x1 y0 y1 = (t, 0) ∧ (t = true ↔ TouchI a0 a1 b0 b1 x0 x1 y0 y1) := by
  have q : ∀ {p0 p1 : Int}, InB p0 → InB p1 → outP ⟨p0, p1⟩ = false := fun g h => (outP_eq _ _).2 ⟨g, h⟩
  unfold touchV TouchI
  rw [if_neg (by simp [q ha.1 ha.2, q hb.1 hb.2]), if_neg (by simp [cornersOf, q hx.1 hy.1, q hx.1 hy.2, q hx.2 hy.1, q hx.2 hy.2]), if_neg (by omega), if_neg (by omega)]
  cases e1 : overV a0 b0 x0 x1 with
  | false => exact ⟨false, rfl, fun h => (by cases h), fun h => (by rw [(overV_iff _ _ _ _).2 h.1] at e1; cases e1)⟩
  | true =>
    cases e2 : overV a1 b1 y0 y1 with
    | false => exact ⟨false, rfl, fun h => (by cases h), fun h => (by rw [(overV_iff _ _ _ _).2 h.2.1] at e2; cases e2)⟩
    | true =>
      have o1 := (overV_iff _ _ _ _).1 e1
      have o2 := (overV_iff _ _ _ _).1 e2
      refine ⟨_, rfl, ?_⟩
      have eL : leastV a0 a1 b0 b1 (cornersOf x0 x1 y0 y1) = minI (minI (minI (minI 1 (sgnI (crossI a0 a1 b0 b1 x0 y0))) (sgnI (crossI a0 a1 b0 b1 x0 y1))) (sgnI (crossI a0 a1 b0 b1 x1 y0))) (sgnI (crossI a0 a1 b0 b1 x1 y1)) := by
        simp only [leastV, cornersOf, List.foldl_cons, List.foldl_nil, turnV_eq, crossW_in ha.1 ha.2 hb.1 hb.2 hx.1 hy.1, crossW_in ha.1 ha.2 hb.1 hb.2 hx.1 hy.2, crossW_in ha.1 ha.2 hb.1 hb.2 hx.2 hy.1, crossW_in ha.1 ha.2 hb.1 hb.2 hx.2 hy.2]
      have eM : mostV a0 a1 b0 b1 (cornersOf x0 x1 y0 y1) = maxI (maxI (maxI (maxI (-1) (sgnI (crossI a0 a1 b0 b1 x0 y0))) (sgnI (crossI a0 a1 b0 b1 x0 y1))) (sgnI (crossI a0 a1 b0 b1 x1 y0))) (sgnI (crossI a0 a1 b0 b1 x1 y1)) := by
        simp only [mostV, cornersOf, List.foldl_cons, List.foldl_nil, turnV_eq, crossW_in ha.1 ha.2 hb.1 hb.2 hx.1 hy.1, crossW_in ha.1 ha.2 hb.1 hb.2 hx.1 hy.2, crossW_in ha.1 ha.2 hb.1 hb.2 hx.2 hy.1, crossW_in ha.1 ha.2 hb.1 hb.2 hx.2 hy.2]
      have k1 := least_le (sgnI (crossI a0 a1 b0 b1 x0 y0)) (sgnI (crossI a0 a1 b0 b1 x0 y1)) (sgnI (crossI a0 a1 b0 b1 x1 y0)) (sgnI (crossI a0 a1 b0 b1 x1 y1))
      have k2 := most_ge (sgnI (crossI a0 a1 b0 b1 x0 y0)) (sgnI (crossI a0 a1 b0 b1 x0 y1)) (sgnI (crossI a0 a1 b0 b1 x1 y0)) (sgnI (crossI a0 a1 b0 b1 x1 y1))
      rw [← eL] at k1
      rw [← eM] at k2
      simp only [sgnI_pos, sgnI_lt] at k1 k2
      rw [← k1, ← k2]
      constructor
      · intro h
        split at h
        · exact ⟨o1, o2, ‹_›, of_decide_eq_true h⟩
        · cases h
      · rintro ⟨_, _, h3, h4⟩
        rw [if_pos h3]
        exact decide_eq_true h4
theorem touch_cases (a0 a1 b0 b1 x0 x1 y0 y1 : Int) : touchV a0 a1 b0 b1 x0 x1 y0 y1 = (false, 5) ∨ (touchV a0 a1 b0 b1 x0 x1 y0 y1 = (false, 1) ∧ (x0 > x1 ∨ y0 > y1)) ∨
    ((InB a0 ∧ InB a1) ∧ (InB b0 ∧ InB b1) ∧ (InB x0 ∧ InB x1) ∧ (InB y0 ∧ InB y1) ∧ x0 ≤ x1 ∧ y0 ≤ y1) := by
  by_cases e1 : ([⟨a0, a1⟩, ⟨b0, b1⟩] : List S23).any outP = true
  · exact .inl (by rw [touchV, if_pos e1])
  by_cases e2 : (cornersOf x0 x1 y0 y1).any outP = true
  · exact .inl (by rw [touchV, if_neg e1, if_pos e2])
  by_cases e3 : x0 > x1
  · exact .inr (.inl ⟨by rw [touchV, if_neg e1, if_neg e2, if_pos e3], .inl e3⟩)
  by_cases e4 : y0 > y1
  · exact .inr (.inl ⟨by rw [touchV, if_neg e1, if_neg e2, if_neg e3, if_pos e4], .inr e4⟩)
  refine .inr (.inr ?_)
  have f1 := Bool.eq_false_iff.mpr e1
  have f2 := Bool.eq_false_iff.mpr e2
  simp only [List.any_cons, List.any_nil, cornersOf, Bool.or_false, Bool.or_eq_false_iff, outP_eq] at f1 f2
  exact ⟨f1.1, f1.2, ⟨f2.1.1, f2.2.2.1.1⟩, ⟨f2.1.2, f2.2.1.2⟩, by omega, by omega⟩
end Go.Proofs.Ytannklfnfacpeaa.X
