/- The plain law behind GeoSides. -/
import Derived.Test.YtannklfnfacpeaaXx11
import Derived.Test.YtannklfnfacpeaaXMJ7
import Derived.Test.YtannklfnfacpeaaXMLent
import Derived.Test.YtannklfnfacpeaaXMPoly
import Derived.Test.YtannklfnfacpeaaXMSide
namespace Go.Proofs.Ytannklfnfacpeaa.X
open Go.RowKit Go.Proofs.YtannklfnfacpeaaW.PrintWords Go.Proofs.YtannklfnfacpeaaW.PrintLast
set_option linter.unusedVariables false
def good23 (s : S23) : Prop := ((Lit.int .i64 s.f0).wf = true) ∧ ((Lit.int .i64 s.f1).wf = true)
theorem side_geo_all (l : List S23) (p q : Int) : Ev (fun k => geo_Side.f k l p q) (if simpleV l = 0 then (if outP ⟨p, q⟩ = true then (0, 5) else (sideV l p q, 0)) else (0, simpleV l)) := by
  unfold geo_Side.f
  refine Ev.bind (simple_ev l) ?_
  by_cases c : simpleV l = 0
  · simp only [if_pos c]
    refine Ev.congr (f := fun _ => some (if outP ⟨p, q⟩ = true then (0, 5) else (sideV l p q, 0))) (fun k => ?_) (Ev.now _)
    rw [fits_geo _ (by simp), Option.bind_some]
    cases ho : outP ⟨p, q⟩ <;> simp [ho]
  · simp only [if_neg c]
    exact Ev.now _
theorem side_ref_all (l : List S23) (p q : Int) : Ev (fun k => windhoverref09_Side.f k l p q) (if simpleV l = 0 then (if outP ⟨p, q⟩ = true then (0, 5) else (sideV l p q, 0)) else (0, simpleV l)) := by
  have hs := simple_ref l
  rw [refV_simple] at hs
  unfold windhoverref09_Side.f
  refine Ev.bind hs ?_
  by_cases c : simpleV l = 0
  · simp only [if_pos c, fits_ref, Option.bind_some]
    cases ho : outP ⟨p, q⟩ with
    | true => exact Ev.now _
    | false =>
      refine Ev.congr (f := fun k => (windhoverref09_Inside.f k l p q).bind fun t => some (t, (0 : Int))) (fun k => rfl) ?_
      exact Ev.bind (inside_same c ((outP_eq _ _).1 ho)) (Ev.now _)
  · simp only [if_neg c]
    exact Ev.now _
theorem GeoSides (l0 : List S23) (a1_0 : Int) (a1_1 : Int) (w0 : l0.length * 16 ≤ 140737488351232 ∧ ∀ a ∈ l0, good23 a) (w1_0 : (Lit.int .i64 a1_0).wf = true) (w1_1 : (Lit.int .i64 a1_1).wf = true) : ∃ k, windhoverlaw09_GeoSides.f k l0 a1_0 a1_1 = some true := by
  refine Ev.rounds (?_ : Ev (fun k => windhoverlaw09_GeoSides.f k l0 a1_0 a1_1) true)
  unfold windhoverlaw09_GeoSides.f
  rw [lent_some l0 w0.1]
  simp only [Option.bind_some]
  refine Ev.bind (side_geo_all l0 a1_0 a1_1) (Ev.bind (side_ref_all l0 a1_0 a1_1) (Ev.bind awake_ev ?_))
  simp only [if_true]
  have hk : ∀ k, windhoverlaw09_kept.f k l0 l0 = some true := fun k => if_pos ⟨⟨rfl, rfl⟩, w0.1⟩
  exact Ev.step (f := fun k => some true) (fun k => by simp only [hk, Option.bind_some]; rfl) (Ev.now _)
end Go.Proofs.Ytannklfnfacpeaa.X
