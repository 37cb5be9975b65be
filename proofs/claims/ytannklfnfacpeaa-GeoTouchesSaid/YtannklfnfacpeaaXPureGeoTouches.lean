/- The plain law behind GeoTouches. -/
import Derived.Test.YtannklfnfacpeaaXx9
import Derived.Test.YtannklfnfacpeaaXMTouch
import Derived.Test.YtannklfnfacpeaaXMSides
import Derived.Test.YtannklfnfacpeaaXMCommon
import Derived.Test.YtannklfnfacpeaaXMIn
namespace Go.Proofs.Ytannklfnfacpeaa.X
open Go.RowKit Go.Proofs.YtannklfnfacpeaaW.PrintWords Go.Proofs.YtannklfnfacpeaaW.PrintLast
set_option linter.unusedVariables false
theorem orj {F G : Nat → Option Bool} {a b : Bool} (hF : Ev F a) (hG : Ev G b) : Ev (fun k => (F k).bind fun t => if t = true then windhoverref09_Touch.j0 k true else G k) (a || b) := by
  refine Ev.bind hF ?_
  cases a with
  | true => exact Ev.step (f := fun _ => some true) (fun k => rfl) (Ev.now _)
  | false => exact hG
theorem j_ev (b : Bool) : Ev (fun k => windhoverref09_Touch.j0 k b) b := Ev.step (f := fun _ => some b) (fun k => rfl) (Ev.now _)
def touchR (a0 a1 b0 b1 x0 x1 y0 y1 : Int) : Bool :=
  inV a0 a1 x0 x1 y0 y1 || (inV b0 b1 x0 x1 y0 y1 || (commonV a0 a1 b0 b1 x0 y0 x1 y0 || (commonV a0 a1 b0 b1 x1 y0 x1 y1 || (commonV a0 a1 b0 b1 x1 y1 x0 y1 || commonV a0 a1 b0 b1 x0 y1 x0 y0))))
theorem touch_ref (a0 a1 b0 b1 x0 x1 y0 y1 : Int) : Ev (fun k => windhoverref09_Touch.f k a0 a1 b0 b1 x0 x1 y0 y1) (touchR a0 a1 b0 b1 x0 x1 y0 y1) := by
  unfold windhoverref09_Touch.f touchR
  exact orj (in_ref _ _ _ _ _ _) (orj (in_ref _ _ _ _ _ _) (orj (common_ev _ _ _ _ _ _ _ _) (orj (common_ev _ _ _ _ _ _ _ _) (orj (common_ev _ _ _ _ _ _ _ _) (Ev.bind (common_ev _ _ _ _ _ _ _ _) (j_ev _))))))
def outT (a0 a1 b0 b1 x0 x1 y0 y1 : Int) : Bool := outP ⟨a0, a1⟩ || (outP ⟨b0, b1⟩ || (outP ⟨x0, y0⟩ || outP ⟨x1, y1⟩))
def touchesR (a0 a1 b0 b1 x0 x1 y0 y1 : Int) : Bool × Int := if outT a0 a1 b0 b1 x0 x1 y0 y1 = true then (false, 5) else if x0 > x1 ∨ y0 > y1 then (false, 1) else (touchR a0 a1 b0 b1 x0 x1 y0 y1, 0)
theorem touches_ref (a0 a1 b0 b1 x0 x1 y0 y1 : Int) : Ev (fun k => windhoverref09_Touches.f k a0 a1 b0 b1 x0 x1 y0 y1) (touchesR a0 a1 b0 b1 x0 x1 y0 y1) := by
  have h1 : ∀ b, Ev (fun k => windhoverref09_Touches.j1 k b a0 a1 b0 b1 x0 x1 y0 y1) (if b = true then (false, 1) else (touchR a0 a1 b0 b1 x0 x1 y0 y1, 0)) := by
    intro b
    cases b with
    | true => exact Ev.step (f := fun _ => some (false, 1)) (fun k => rfl) (Ev.now _)
    | false => exact Ev.step (f := fun k => (windhoverref09_Touch.f k a0 a1 b0 b1 x0 x1 y0 y1).bind fun t => some (t, 0)) (fun k => rfl) (Ev.bind (touch_ref _ _ _ _ _ _ _ _) (Ev.now _))
  refine Ev.congr (f := fun k => windhoverref09_Touches.j0 k (outT a0 a1 b0 b1 x0 x1 y0 y1) a0 a1 b0 b1 x0 x1 y0 y1) (fun k => ?_) ?_
  · unfold windhoverref09_Touches.f outT
    simp only [fits_ref, Option.bind_some]
    cases outP ⟨a0, a1⟩ <;> cases outP ⟨b0, b1⟩ <;> cases outP ⟨x0, y0⟩ <;> cases outP ⟨x1, y1⟩ <;> rfl
  · unfold touchesR
    cases outT a0 a1 b0 b1 x0 x1 y0 y1 with
    | true => exact Ev.step (f := fun _ => some (false, 5)) (fun k => rfl) (Ev.now _)
    | false =>
      have h := h1 (decide (x0 > x1 ∨ y0 > y1))
      simp only [decide_eq_true_iff] at h
      refine Ev.step (fun k => ?_) h
      rw [windhoverref09_Touches.j0, if_neg (by decide)]
      by_cases c : x0 > x1
      · rw [if_pos c, decide_eq_true (Or.inl c)]
      · rw [if_neg c]
        congr 1
        rw [decide_eq_decide]
        omega
theorem touches_same (a0 a1 b0 b1 x0 x1 y0 y1 : Int) : touchV a0 a1 b0 b1 x0 x1 y0 y1 = touchesR a0 a1 b0 b1 x0 x1 y0 y1 := by
  have q : ∀ {p0 p1 : Int}, InB p0 → InB p1 → outP ⟨p0, p1⟩ = false := fun g h => (outP_eq _ _).2 ⟨g, h⟩
  unfold touchesR
  by_cases o : outT a0 a1 b0 b1 x0 x1 y0 y1 = true
  · rw [if_pos o, touchV]
    by_cases e1 : ([⟨a0, a1⟩, ⟨b0, b1⟩] : List S23).any outP = true
    · rw [if_pos e1]
    · rw [if_neg e1, if_pos]
      have f1 := Bool.eq_false_iff.mpr e1
      simp only [List.any_cons, List.any_nil, Bool.or_false, Bool.or_eq_false_iff] at f1
      rw [outT, f1.1, f1.2, Bool.false_or, Bool.false_or, Bool.or_eq_true] at o
      rcases o with o | o <;> simp [cornersOf, o]
  · rw [if_neg o]
    have f := Bool.eq_false_iff.mpr o
    simp only [outT, Bool.or_eq_false_iff, outP_eq] at f
    obtain ⟨ha, hb, hl, hh⟩ := f
    by_cases c : x0 > x1 ∨ y0 > y1
    · rw [if_pos c, touchV, if_neg (by simp [q ha.1 ha.2, q hb.1 hb.2]), if_neg (by simp [cornersOf, q hl.1 hl.2, q hh.1 hh.2, q hl.1 hh.2, q hh.1 hl.2])]
      by_cases c1 : x0 > x1
      · rw [if_pos c1]
      · rw [if_neg c1, if_pos (by omega)]
    · rw [if_neg c]
      obtain ⟨t, ht, ht'⟩ := touch_in (x0 := x0) (x1 := x1) (y0 := y0) (y1 := y1) ha hb ⟨hl.1, hh.1⟩ ⟨hl.2, hh.2⟩ (by omega) (by omega)
      rw [ht]
      congr 1
      rw [Bool.eq_iff_iff, ht', touch_sides (by omega) (by omega), touchR, Bool.or_eq_true, Bool.or_eq_true, Bool.or_eq_true, Bool.or_eq_true, Bool.or_eq_true, inV_iff, inV_iff, commonV_iff ha hb ⟨hl.1, hl.2⟩ ⟨hh.1, hl.2⟩, commonV_iff ha hb ⟨hh.1, hl.2⟩ ⟨hh.1, hh.2⟩, commonV_iff ha hb ⟨hh.1, hh.2⟩ ⟨hl.1, hh.2⟩, commonV_iff ha hb ⟨hl.1, hh.2⟩ ⟨hl.1, hl.2⟩, geo_iff_ref, geo_iff_ref, geo_iff_ref, geo_iff_ref]
theorem GeoTouches (a0_0_0 : Int) (a0_0_1 : Int) (a0_1_0 : Int) (a0_1_1 : Int) (a1_0_0 : Int) (a1_0_1 : Int) (a1_1_0 : Int) (a1_1_1 : Int) (w0_0_0 : (Lit.int .i64 a0_0_0).wf = true) (w0_0_1 : (Lit.int .i64 a0_0_1).wf = true) (w0_1_0 : (Lit.int .i64 a0_1_0).wf = true) (w0_1_1 : (Lit.int .i64 a0_1_1).wf = true) (w1_0_0 : (Lit.int .i64 a1_0_0).wf = true) (w1_0_1 : (Lit.int .i64 a1_0_1).wf = true) (w1_1_0 : (Lit.int .i64 a1_1_0).wf = true) (w1_1_1 : (Lit.int .i64 a1_1_1).wf = true) : ∃ k, windhoverlaw09_GeoTouches.f k a0_0_0 a0_0_1 a0_1_0 a0_1_1 a1_0_0 a1_0_1 a1_1_0 a1_1_1 = some true := by
  refine Ev.rounds (?_ : Ev (fun k => windhoverlaw09_GeoTouches.f k a0_0_0 a0_0_1 a0_1_0 a0_1_1 a1_0_0 a1_0_1 a1_1_0 a1_1_1) true)
  unfold windhoverlaw09_GeoTouches.f
  simp only [geo_Touches.f, Option.bind_some, touches_same]
  refine Ev.bind (touches_ref _ _ _ _ _ _ _ _) (Ev.bind awake_ev ?_)
  exact Ev.congr (f := fun k => windhoverlaw09_GeoTouches.j0 k true) (fun k => by simp) (Ev.step (f := fun _ => some true) (fun k => rfl) (Ev.now _))
end Go.Proofs.Ytannklfnfacpeaa.X
