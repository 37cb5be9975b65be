/- What geo.meet and geo.Meet answer. -/
import Derived.Test.YtannklfnfacpeaaXMBase
import Derived.Test.YtannklfnfacpeaaXx3
namespace Go.Proofs.Ytannklfnfacpeaa.X
open Go.RowKit Go.Proofs.YtannklfnfacpeaaW.PrintWords Go.Proofs.YtannklfnfacpeaaW.PrintLast Go.Proofs.YtannklfnfacpeaaW.PrintMore
set_option linter.unusedVariables false
set_option linter.unusedSimpArgs false
def meetV (a0 a1 b0 b1 c0 c1 d0 d1 : Int) : Bool :=
  if overV a0 b0 c0 d0 = true then (if overV a1 b1 c1 d1 = true then (if wrap64 (turnV a0 a1 b0 b1 c0 c1 * turnV a0 a1 b0 b1 d0 d1) ≤ 0 then decide (wrap64 (turnV c0 c1 d0 d1 a0 a1 * turnV c0 c1 d0 d1 b0 b1) ≤ 0) else false) else false) else false
theorem meet_ev (a0 a1 b0 b1 c0 c1 d0 d1 : Int) : Ev (fun k => geo_meet.f k a0 a1 b0 b1 c0 c1 d0 d1) (meetV a0 a1 b0 b1 c0 c1 d0 d1) := by
  refine Ev.congr (f := fun k => geo_meet.j0 k (meetV a0 a1 b0 b1 c0 c1 d0 d1)) (fun k => ?_) (Ev.step (f := fun _ => some (meetV a0 a1 b0 b1 c0 c1 d0 d1)) (fun k => rfl) (Ev.now _))
  unfold geo_meet.f meetV
  simp only [over_some, turn_some, Option.bind_some]
  repeat' split
  all_goals first | rfl | (simp_all; done)
def out4 (a0 a1 b0 b1 c0 c1 d0 d1 : Int) : Bool := outP ⟨a0, a1⟩ || (outP ⟨b0, b1⟩ || (outP ⟨c0, c1⟩ || outP ⟨d0, d1⟩))
theorem Meet_geo (a0 a1 b0 b1 c0 c1 d0 d1 : Int) : Ev (fun k => geo_Meet.f k a0 a1 b0 b1 c0 c1 d0 d1) (if out4 a0 a1 b0 b1 c0 c1 d0 d1 = true then (false, 5) else (meetV a0 a1 b0 b1 c0 c1 d0 d1, 0)) := by
  unfold geo_Meet.f
  have e : ([⟨a0, a1⟩, ⟨b0, b1⟩, ⟨c0, c1⟩, ⟨d0, d1⟩] : List S23).any outP = out4 a0 a1 b0 b1 c0 c1 d0 d1 := by simp [out4]
  rw [fits_geo _ (by simp), e]
  cases out4 a0 a1 b0 b1 c0 c1 d0 d1 with
  | true => exact Ev.now _
  | false =>
    refine Ev.congr (f := fun k => (geo_meet.f k a0 a1 b0 b1 c0 c1 d0 d1).bind fun t => some (t, 0)) (fun k => rfl) (Ev.bind (meet_ev _ _ _ _ _ _ _ _) (Ev.now _))
theorem overV_iff (a b c d : Int) : overV a b c d = true ↔ Ov a b c d := by
  have h := over_some a b c d
  unfold geo_over.f at h
  unfold Ov
  split at h
  · rw [← Option.some.inj h, decide_eq_true_iff]
    unfold mx mn at *
    repeat' split at *
    all_goals omega
  · rw [← Option.some.inj h]
    unfold mx mn at *
    repeat' split at *
    all_goals (constructor; (intro h; cases h); (intro h; exfalso; omega))
theorem sgn_mul (x y : Int) : wrap64 (sgnI x * sgnI y) ≤ 0 ↔ ¬ Same x y := by
  unfold Same
  rcases sgnI_cases x with ⟨h, h'⟩ | ⟨h, h'⟩ | ⟨h, h'⟩ <;> rcases sgnI_cases y with ⟨g, g'⟩ | ⟨g, g'⟩ | ⟨g, g'⟩ <;> rw [h, g] <;> simp [wrap64] <;> omega
section
variable {a0 a1 b0 b1 c0 c1 d0 d1 : Int} (ha : InB a0 ∧ InB a1) (hb : InB b0 ∧ InB b1) (hc : InB c0 ∧ InB c1) (hd : InB d0 ∧ InB d1)
include ha hb hc hd
theorem meetV_iff : meetV a0 a1 b0 b1 c0 c1 d0 d1 = true ↔ GeoI a0 a1 b0 b1 c0 c1 d0 d1 := by
  unfold meetV GeoI
  simp only [turnV_eq, crossW_in ha.1 ha.2 hb.1 hb.2 hc.1 hc.2, crossW_in ha.1 ha.2 hb.1 hb.2 hd.1 hd.2, crossW_in hc.1 hc.2 hd.1 hd.2 ha.1 ha.2, crossW_in hc.1 hc.2 hd.1 hd.2 hb.1 hb.2]
  rw [← overV_iff, ← overV_iff, ← sgn_mul, ← sgn_mul]
  by_cases h1 : overV a0 b0 c0 d0 = true
  · by_cases h2 : overV a1 b1 c1 d1 = true
    · rw [if_pos h1, if_pos h2]
      split <;> simp [*]
    · simp [h2]
  · simp [h1]
end
end Go.Proofs.Ytannklfnfacpeaa.X
