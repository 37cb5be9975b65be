/- The plain law behind GeoDiagonals. -/
import Derived.Test.YtannklfnfacpeaaXx10
import Derived.Test.YtannklfnfacpeaaXMTouch
namespace Go.Proofs.Ytannklfnfacpeaa.X
open Go.RowKit Go.Proofs.YtannklfnfacpeaaW.PrintWords Go.Proofs.YtannklfnfacpeaaW.PrintLast
set_option linter.unusedVariables false
def inV (p0 p1 x0 x1 y0 y1 : Int) : Bool := if p0 ≥ x0 then (if p0 ≤ x1 then (if p1 ≥ y0 then decide (p1 ≤ y1) else false) else false) else false
theorem in_ref (p0 p1 x0 x1 y0 y1 : Int) : Ev (fun k => windhoverref09_In.f k p0 p1 x0 x1 y0 y1) (inV p0 p1 x0 x1 y0 y1) := by
  refine Ev.congr (f := fun k => windhoverref09_In.j0 k (inV p0 p1 x0 x1 y0 y1)) (fun k => ?_) (Ev.step (f := fun _ => some (inV p0 p1 x0 x1 y0 y1)) (fun k => rfl) (Ev.now _))
  unfold windhoverref09_In.f inV
  repeat' split
  all_goals rfl
theorem inV_iff (p0 p1 x0 x1 y0 y1 : Int) : inV p0 p1 x0 x1 y0 y1 = true ↔ InR p0 p1 x0 x1 y0 y1 := by
  unfold inV InR
  repeat' split
  all_goals simp
  all_goals omega
theorem d0_ev (b : Bool) : Ev (fun k => windhoverlaw09_GeoDiagonals.j0 k b) b := Ev.step (f := fun _ => some b) (fun k => rfl) (Ev.now _)
theorem d2_ev (b : Bool) : Ev (fun k => windhoverlaw09_GeoDiagonals.j2 k b) b := Ev.step (f := fun _ => some b) (fun k => rfl) (Ev.now _)
theorem d1_ev (t i : Bool) (a0 a1 b0 b1 x0 x1 y0 y1 : Int) (h1 : out4 a0 a1 b0 b1 x0 y0 x1 y1 = false) (h2 : out4 a0 a1 b0 b1 x0 y1 x1 y0 = false) :
    Ev (fun k => windhoverlaw09_GeoDiagonals.j1 k t i a0 a1 b0 b1 x0 x1 y0 y1) (t == (i || (meetV a0 a1 b0 b1 x0 y0 x1 y1 || meetV a0 a1 b0 b1 x0 y1 x1 y0))) := by
  have m1 := Meet_geo a0 a1 b0 b1 x0 y0 x1 y1
  have m2 := Meet_geo a0 a1 b0 b1 x0 y1 x1 y0
  rw [h1] at m1
  rw [h2] at m2
  refine Ev.step (f := _) (fun k => by rw [windhoverlaw09_GeoDiagonals.j1]; simp only [windhoverlaw09_at.f, Option.bind_some]; exact rfl) (Ev.bind m1 (Ev.bind m2 (Ev.bind awake_ev ?_)))
  simp only [Bool.false_eq_true, if_false, if_true]
  cases i with
  | true => exact d2_ev _
  | false =>
    cases meetV a0 a1 b0 b1 x0 y0 x1 y1 with
    | true => exact d2_ev _
    | false => exact d2_ev _
theorem GeoDiagonals (a0_0_0 : Int) (a0_0_1 : Int) (a0_1_0 : Int) (a0_1_1 : Int) (a1_0_0 : Int) (a1_0_1 : Int) (a1_1_0 : Int) (a1_1_1 : Int) (w0_0_0 : (Lit.int .i64 a0_0_0).wf = true) (w0_0_1 : (Lit.int .i64 a0_0_1).wf = true) (w0_1_0 : (Lit.int .i64 a0_1_0).wf = true) (w0_1_1 : (Lit.int .i64 a0_1_1).wf = true) (w1_0_0 : (Lit.int .i64 a1_0_0).wf = true) (w1_0_1 : (Lit.int .i64 a1_0_1).wf = true) (w1_1_0 : (Lit.int .i64 a1_1_0).wf = true) (w1_1_1 : (Lit.int .i64 a1_1_1).wf = true) : ∃ k, windhoverlaw09_GeoDiagonals.f k a0_0_0 a0_0_1 a0_1_0 a0_1_1 a1_0_0 a1_0_1 a1_1_0 a1_1_1 = some true := by
  refine Ev.rounds (?_ : Ev (fun k => windhoverlaw09_GeoDiagonals.f k a0_0_0 a0_0_1 a0_1_0 a0_1_1 a1_0_0 a1_0_1 a1_1_0 a1_1_1) true)
  unfold windhoverlaw09_GeoDiagonals.f
  simp only [geo_Touches.f, Option.bind_some]
  rcases touch_cases a0_0_0 a0_0_1 a0_1_0 a0_1_1 a1_0_0 a1_0_1 a1_1_0 a1_1_1 with h | ⟨h, h'⟩ | ⟨ha, hb, hx, hy, h0, h1⟩
  · simp only [h]
    exact Ev.bind awake_ev (d0_ev true)
  · simp only [h]
    refine Ev.bind awake_ev ?_
    by_cases c : a1_0_0 > a1_0_1
    · exact Ev.congr (fun k => by simp [c]) (d0_ev true)
    · exact Ev.congr (fun k => by simp only [if_true, if_neg c]; rw [decide_eq_true (show a1_1_0 > a1_1_1 by omega)]; rfl) (d0_ev true)
  · obtain ⟨t, ht, ht'⟩ := touch_in ha hb hx hy h0 h1
    have q : ∀ {p0 p1 : Int}, InB p0 → InB p1 → outP ⟨p0, p1⟩ = false := fun g h => (outP_eq _ _).2 ⟨g, h⟩
    have o1 : out4 a0_0_0 a0_0_1 a0_1_0 a0_1_1 a1_0_0 a1_1_0 a1_0_1 a1_1_1 = false := by simp [out4, q ha.1 ha.2, q hb.1 hb.2, q hx.1 hy.1, q hx.2 hy.2]
    have o2 : out4 a0_0_0 a0_0_1 a0_1_0 a0_1_1 a1_0_0 a1_1_1 a1_0_1 a1_1_0 = false := by simp [out4, q ha.1 ha.2, q hb.1 hb.2, q hx.1 hy.2, q hx.2 hy.1]
    simp only [ht, if_true]
    have key : t = (inV a0_0_0 a0_0_1 a1_0_0 a1_0_1 a1_1_0 a1_1_1 || (inV a0_1_0 a0_1_1 a1_0_0 a1_0_1 a1_1_0 a1_1_1 || (meetV a0_0_0 a0_0_1 a0_1_0 a0_1_1 a1_0_0 a1_1_0 a1_0_1 a1_1_1 || meetV a0_0_0 a0_0_1 a0_1_0 a0_1_1 a1_0_0 a1_1_1 a1_0_1 a1_1_0))) := by
      rw [Bool.eq_iff_iff, ht', touch_diag h0 h1, Bool.or_eq_true, Bool.or_eq_true, Bool.or_eq_true, inV_iff, inV_iff, meetV_iff ha hb ⟨hx.1, hy.1⟩ ⟨hx.2, hy.2⟩, meetV_iff ha hb ⟨hx.1, hy.2⟩ ⟨hx.2, hy.1⟩]
    have e1 := d1_ev t true a0_0_0 a0_0_1 a0_1_0 a0_1_1 a1_0_0 a1_0_1 a1_1_0 a1_1_1 o1 o2
    have e2 := d1_ev t (inV a0_1_0 a0_1_1 a1_0_0 a1_0_1 a1_1_0 a1_1_1) a0_0_0 a0_0_1 a0_1_0 a0_1_1 a1_0_0 a1_0_1 a1_1_0 a1_1_1 o1 o2
    refine Ev.bind (in_ref _ _ _ _ _ _) ?_
    cases hi : inV a0_0_0 a0_0_1 a1_0_0 a1_0_1 a1_1_0 a1_1_1 with
    | true =>
      rw [hi, Bool.true_or] at key
      rw [key] at e1 ⊢
      exact e1
    | false =>
      rw [hi, Bool.false_or] at key
      rw [← key, beq_self_eq_true] at e2
      simp only [Bool.false_eq_true, if_false]
      exact Ev.bind (in_ref _ _ _ _ _ _) e2
end Go.Proofs.Ytannklfnfacpeaa.X
