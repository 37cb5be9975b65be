/- The plain law behind GeoMeets. -/
import Derived.Test.YtannklfnfacpeaaXx8
import Derived.Test.YtannklfnfacpeaaXMMeet
namespace Go.Proofs.Ytannklfnfacpeaa.X
open Go.RowKit Go.Proofs.YtannklfnfacpeaaW.PrintWords Go.Proofs.YtannklfnfacpeaaW.PrintLast
set_option linter.unusedVariables false
theorem GeoMeets (a0_0_0 : Int) (a0_0_1 : Int) (a0_1_0 : Int) (a0_1_1 : Int) (a1_0_0 : Int) (a1_0_1 : Int) (a1_1_0 : Int) (a1_1_1 : Int) (w0_0_0 : (Lit.int .i64 a0_0_0).wf = true) (w0_0_1 : (Lit.int .i64 a0_0_1).wf = true) (w0_1_0 : (Lit.int .i64 a0_1_0).wf = true) (w0_1_1 : (Lit.int .i64 a0_1_1).wf = true) (w1_0_0 : (Lit.int .i64 a1_0_0).wf = true) (w1_0_1 : (Lit.int .i64 a1_0_1).wf = true) (w1_1_0 : (Lit.int .i64 a1_1_0).wf = true) (w1_1_1 : (Lit.int .i64 a1_1_1).wf = true) : ∃ k, windhoverlaw09_GeoMeets.f k a0_0_0 a0_0_1 a0_1_0 a0_1_1 a1_0_0 a1_0_1 a1_1_0 a1_1_1 = some true := by
  refine Ev.rounds (?_ : Ev (fun k => windhoverlaw09_GeoMeets.f k a0_0_0 a0_0_1 a0_1_0 a0_1_1 a1_0_0 a1_0_1 a1_1_0 a1_1_1) true)
  unfold windhoverlaw09_GeoMeets.f
  refine Ev.bind (Meet_ref _ _ _ _ _ _ _ _) (Ev.bind (Meet_geo _ _ _ _ _ _ _ _) (Ev.bind (Meet_geo _ _ _ _ _ _ _ _) (Ev.bind (Meet_geo _ _ _ _ _ _ _ _) (Ev.bind awake_ev ?_))))
  refine Ev.congr (f := fun k => windhoverlaw09_GeoMeets.j0 k true) (fun k => ?_) (Ev.step (f := fun _ => some true) (fun k => rfl) (Ev.now _))
  rw [out4_turn2 a0_0_0 a0_0_1 a0_1_0 a0_1_1 a1_0_0 a1_0_1 a1_1_0 a1_1_1, out4_back a0_0_0 a0_0_1 a0_1_0 a0_1_1 a1_0_0 a1_0_1 a1_1_0 a1_1_1]
  cases h : out4 a0_0_0 a0_0_1 a0_1_0 a0_1_1 a1_0_0 a1_0_1 a1_1_0 a1_1_1 with
  | true => simp
  | false =>
    rw [common_meet h, meet_turn2 h, meet_back h]
    simp
end Go.Proofs.Ytannklfnfacpeaa.X
