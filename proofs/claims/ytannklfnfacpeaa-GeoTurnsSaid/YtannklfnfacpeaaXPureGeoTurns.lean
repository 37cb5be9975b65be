/- The side of a line is the same when the points go round. -/
import Derived.Test.YtannklfnfacpeaaXx8
import Derived.Test.YtannklfnfacpeaaXMOrient
namespace Go.Proofs.Ytannklfnfacpeaa.X
open Go.RowKit Go.Proofs.YtannklfnfacpeaaW.PrintWords Go.Proofs.YtannklfnfacpeaaW.PrintLast
set_option linter.unusedVariables false
theorem GeoTurns (a0_0 : Int) (a0_1 : Int) (a1_0 : Int) (a1_1 : Int) (a2_0 : Int) (a2_1 : Int) (w0_0 : (Lit.int .i64 a0_0).wf = true) (w0_1 : (Lit.int .i64 a0_1).wf = true) (w1_0 : (Lit.int .i64 a1_0).wf = true) (w1_1 : (Lit.int .i64 a1_1).wf = true) (w2_0 : (Lit.int .i64 a2_0).wf = true) (w2_1 : (Lit.int .i64 a2_1).wf = true) : ∃ k, windhoverlaw09_GeoTurns.f k a0_0 a0_1 a1_0 a1_1 a2_0 a2_1 = some true := by
  refine Ev.rounds (?_ : Ev (fun k => windhoverlaw09_GeoTurns.f k a0_0 a0_1 a1_0 a1_1 a2_0 a2_1) true)
  unfold windhoverlaw09_GeoTurns.f
  simp only [orient_geo, Option.bind_some]
  refine Ev.bind awake_ev ?_
  refine Ev.congr (f := fun k => windhoverlaw09_GeoTurns.j0 k true) (fun k => ?_) (Ev.step (f := fun _ => some true) (fun k => rfl) (Ev.now _))
  unfold orientV
  by_cases h0 : outP ⟨a0_0, a0_1⟩ = true
  · rw [h0]; simp [wrap64]
  by_cases h1 : outP ⟨a1_0, a1_1⟩ = true
  · rw [h1]; simp [wrap64]
  by_cases h2 : outP ⟨a2_0, a2_1⟩ = true
  · rw [h2]; simp [wrap64]
  have e0 := (outP_eq _ _).1 (Bool.eq_false_iff.mpr h0)
  have e1 := (outP_eq _ _).1 (Bool.eq_false_iff.mpr h1)
  have e2 := (outP_eq _ _).1 (Bool.eq_false_iff.mpr h2)
  rw [Bool.eq_false_iff.mpr h0, Bool.eq_false_iff.mpr h1, Bool.eq_false_iff.mpr h2, crossW_in e0.1 e0.2 e1.1 e1.2 e2.1 e2.2, crossW_in e1.1 e1.2 e2.1 e2.2 e0.1 e0.2, crossW_in e1.1 e1.2 e0.1 e0.2 e2.1 e2.2, crossI_turn a0_0 a0_1 a1_0 a1_1 a2_0 a2_1, crossI_swap a0_0 a0_1 a1_0 a1_1 a2_0 a2_1, sgnI_neg]
  have w1 : wrap64 (-1) = -1 := by decide +kernel
  have w4 : wrap64 1 = 1 := by decide +kernel
  have w5 : wrap64 0 = 0 := by decide +kernel
  have := sgnI_cases (crossI a0_0 a0_1 a1_0 a1_1 a2_0 a2_1)
  rcases this with ⟨h, _⟩ | ⟨h, _⟩ | ⟨h, _⟩ <;> rw [h] <;> simp [w1, w4, w5]
end Go.Proofs.Ytannklfnfacpeaa.X
