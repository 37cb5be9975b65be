/- The side of a line and the distance are the document's. -/
import Derived.Test.YtannklfnfacpeaaXx5
import Derived.Test.YtannklfnfacpeaaXMOrient
namespace Go.Proofs.Ytannklfnfacpeaa.X
open Go.RowKit Go.Proofs.YtannklfnfacpeaaW.PrintWords Go.Proofs.YtannklfnfacpeaaW.PrintLast
set_option linter.unusedVariables false
theorem GeoOrients (a0_0 : Int) (a0_1 : Int) (a1_0 : Int) (a1_1 : Int) (a2_0 : Int) (a2_1 : Int) (w0_0 : (Lit.int .i64 a0_0).wf = true) (w0_1 : (Lit.int .i64 a0_1).wf = true) (w1_0 : (Lit.int .i64 a1_0).wf = true) (w1_1 : (Lit.int .i64 a1_1).wf = true) (w2_0 : (Lit.int .i64 a2_0).wf = true) (w2_1 : (Lit.int .i64 a2_1).wf = true) : ∃ k, windhoverlaw09_GeoOrients.f k a0_0 a0_1 a1_0 a1_1 a2_0 a2_1 = some true := by
  refine Ev.rounds (?_ : Ev (fun k => windhoverlaw09_GeoOrients.f k a0_0 a0_1 a1_0 a1_1 a2_0 a2_1) true)
  unfold windhoverlaw09_GeoOrients.f
  obtain ⟨r, h1, h2⟩ := far_same a0_0 a0_1 a1_0 a1_1
  simp only [orient_geo, h1, Option.bind_some]
  refine Ev.bind (orient_ref _ _ _ _ _ _) (Ev.bind h2 (Ev.bind awake_ev ?_))
  refine Ev.congr (f := fun k => windhoverlaw09_GeoOrients.j0 k true) (fun k => ?_) (Ev.step (f := fun _ => some true) (fun k => rfl) (Ev.now _))
  simp
end Go.Proofs.Ytannklfnfacpeaa.X
