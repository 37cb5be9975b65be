/- geo.Orient and geo.Far, and the document's. -/
import Derived.Test.YtannklfnfacpeaaXx1
import Derived.Test.YtannklfnfacpeaaXx1
import Derived.Test.YtannklfnfacpeaaXx1
import Derived.Test.YtannklfnfacpeaaXMRef
namespace Go.Proofs.Ytannklfnfacpeaa.X
open Go.RowKit Go.Proofs.YtannklfnfacpeaaW.PrintWords Go.Proofs.YtannklfnfacpeaaW.PrintLast Go.Proofs.YtannklfnfacpeaaW.PrintMore
set_option linter.unusedVariables false
set_option linter.unusedSimpArgs false
def orientV (a0 a1 b0 b1 p0 p1 : Int) : Int × Int := if (outP ⟨a0, a1⟩ || outP ⟨b0, b1⟩ || outP ⟨p0, p1⟩) = true then (0, 5) else (sgnI (crossW a0 a1 b0 b1 p0 p1), 0)
theorem orient_geo (a0 a1 b0 b1 p0 p1 : Int) : geo_Orient.f a0 a1 b0 b1 p0 p1 = some (orientV a0 a1 b0 b1 p0 p1) := by
  unfold geo_Orient.f orientV
  rw [fits_geo _ (by simp), Option.bind_some, turn_some, Option.bind_some, turnV_eq]
  simp only [List.any_cons, List.any_nil, Bool.or_false, Bool.or_assoc]
  cases outP ⟨a0, a1⟩ || (outP ⟨b0, b1⟩ || outP ⟨p0, p1⟩) <;> rfl
theorem orient_ref (a0 a1 b0 b1 p0 p1 : Int) : Ev (fun k => windhoverref09_Orient.f k a0 a1 b0 b1 p0 p1) (orientV a0 a1 b0 b1 p0 p1) := by
  refine Ev.congr (f := fun k => windhoverref09_Orient.j0 k (outP ⟨a0, a1⟩ || outP ⟨b0, b1⟩ || outP ⟨p0, p1⟩) a0 a1 b0 b1 p0 p1) (fun k => ?_) ?_
  · unfold windhoverref09_Orient.f
    simp only [fits_ref, Option.bind_some]
    cases outP ⟨a0, a1⟩ <;> cases outP ⟨b0, b1⟩ <;> cases outP ⟨p0, p1⟩ <;> rfl
  · refine Ev.step (f := fun _ => some (orientV a0 a1 b0 b1 p0 p1)) (fun k => ?_) (Ev.now _)
    unfold orientV
    rw [windhoverref09_Orient.j0, cross_ref, Option.bind_some, sign_ref, Option.bind_some]
    cases outP ⟨a0, a1⟩ || outP ⟨b0, b1⟩ || outP ⟨p0, p1⟩ <;> rfl
theorem far_same (a0 a1 b0 b1 : Int) : ∃ r, geo_Far.f a0 a1 b0 b1 = some r ∧ Ev (fun k => windhoverref09_Far.f k a0 a1 b0 b1) r := by
  refine ⟨if (outP ⟨a0, a1⟩ || outP ⟨b0, b1⟩) = true then (0, 5) else (wrap64 (wrap64 (wrap64 (a0 - b0) * wrap64 (a0 - b0)) + wrap64 (wrap64 (a1 - b1) * wrap64 (a1 - b1))), 0), ?_, Ev.congr (f := fun k => windhoverref09_Far.j0 k (outP ⟨a0, a1⟩ || outP ⟨b0, b1⟩) a0 a1 b0 b1) (fun k => ?_) (Ev.step (f := fun _ => some (if (outP ⟨a0, a1⟩ || outP ⟨b0, b1⟩) = true then (0, 5) else (wrap64 (wrap64 (wrap64 (a0 - b0) * wrap64 (a0 - b0)) + wrap64 (wrap64 (a1 - b1) * wrap64 (a1 - b1))), 0))) (fun k => ?_) (Ev.now _))⟩
  · unfold geo_Far.f
    rw [fits_geo _ (by simp), Option.bind_some]
    simp only [List.any_cons, List.any_nil, Bool.or_false]
    cases outP ⟨a0, a1⟩ <;> cases outP ⟨b0, b1⟩ <;> rfl
  · unfold windhoverref09_Far.f
    simp only [fits_ref, Option.bind_some]
    cases outP ⟨a0, a1⟩ <;> cases outP ⟨b0, b1⟩ <;> rfl
  · rw [windhoverref09_Far.j0]
    cases outP ⟨a0, a1⟩ || outP ⟨b0, b1⟩ <;> rfl
end Go.Proofs.Ytannklfnfacpeaa.X
