/- The plain law behind GeoSimples. -/
import Derived.Test.YtannklfnfacpeaaXx12
import Derived.Test.YtannklfnfacpeaaXMLent
import Derived.Test.YtannklfnfacpeaaXMArea
namespace Go.Proofs.Ytannklfnfacpeaa.X
open Go.RowKit Go.Proofs.YtannklfnfacpeaaW.PrintWords Go.Proofs.YtannklfnfacpeaaW.PrintLast
set_option linter.unusedVariables false
def good23 (s : S23) : Prop := ((Lit.int .i64 s.f0).wf = true) ∧ ((Lit.int .i64 s.f1).wf = true)
theorem GeoSimples (l0 : List S23) (w0 : l0.length * 16 ≤ 140737488351232 ∧ ∀ a ∈ l0, good23 a) : ∃ k, windhoverlaw09_GeoSimples.f k l0 = some true := by
  refine Ev.rounds (?_ : Ev (fun k => windhoverlaw09_GeoSimples.f k l0) true)
  unfold windhoverlaw09_GeoSimples.f
  rw [lent_some l0 w0.1]
  simp only [Option.bind_some]
  have hs := simple_ref l0
  rw [refV_simple] at hs
  refine Ev.bind (simple_ev l0) (Ev.bind (area2_geo l0) (Ev.bind (area2_ref l0) (Ev.bind awake_ev ?_)))
  simp only [if_true]
  refine Ev.bind hs ?_
  simp only [if_true]
  have hk : ∀ k, windhoverlaw09_kept.f k l0 l0 = some true := fun k => if_pos ⟨⟨rfl, rfl⟩, w0.1⟩
  exact Ev.congr (f := fun k => windhoverlaw09_GeoSimples.j0 k true) (fun k => by rw [hk, Option.bind_some]) (Ev.step (f := fun _ => some true) (fun k => rfl) (Ev.now _))
end Go.Proofs.Ytannklfnfacpeaa.X
