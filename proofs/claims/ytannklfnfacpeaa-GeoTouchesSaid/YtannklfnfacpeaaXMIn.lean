/- Is a point in a rectangle? -/
import Derived.Test.YtannklfnfacpeaaXx6
import Derived.Test.YtannklfnfacpeaaXMDiag
namespace Go.Proofs.Ytannklfnfacpeaa.X
open Go.RowKit Go.Proofs.YtannklfnfacpeaaW.PrintWords Go.Proofs.YtannklfnfacpeaaW.PrintLast Go.Proofs.YtannklfnfacpeaaW.PrintMore
set_option linter.unusedVariables false
set_option linter.unusedSimpArgs false
def inV (p0 p1 x0 x1 y0 y1 : Int) : Bool := if p0 ≥ x0 then (if p0 ≤ x1 then (if p1 ≥ y0 then decide (p1 ≤ y1) else false) else false) else false
theorem in_ref (p0 p1 x0 x1 y0 y1 : Int) : Ev (fun k => windhoverref09_In.f k p0 p1 x0 x1 y0 y1) (inV p0 p1 x0 x1 y0 y1) := by
  refine Ev.congr (f := fun k => windhoverref09_In.j0 k (inV p0 p1 x0 x1 y0 y1)) (fun k => ?_) (Ev.step (f := fun _ => some (inV p0 p1 x0 x1 y0 y1)) (fun k => rfl) (Ev.now _))
  unfold windhoverref09_In.f inV
  repeat' split
  all_goals rfl
theorem inV_iff (p0 p1 x0 x1 y0 y1 : Int) : inV p0 p1 x0 x1 y0 y1 = true ↔ InR p0 p1 x0 x1 y0 y1 := by
  unfold inV InR
  repeat' split
  all_goals simp
  all_goals omega
end Go.Proofs.Ytannklfnfacpeaa.X
