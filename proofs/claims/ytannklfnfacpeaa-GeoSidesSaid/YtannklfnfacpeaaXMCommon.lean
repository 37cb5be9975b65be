/- The document's On and Common, and geo.meet: both answer whether two segments share a point. -/
import Derived.Test.YtannklfnfacpeaaXMMeetV
import Derived.Test.YtannklfnfacpeaaXMRef
import Derived.Test.YtannklfnfacpeaaXx8
import Derived.Test.YtannklfnfacpeaaXx7
namespace Go.Proofs.Ytannklfnfacpeaa.X
open Go.RowKit Go.Proofs.YtannklfnfacpeaaW.PrintWords Go.Proofs.YtannklfnfacpeaaW.PrintLast Go.Proofs.YtannklfnfacpeaaW.PrintMore
set_option linter.unusedVariables false
set_option linter.unusedSimpArgs false
def onV (a0 a1 b0 b1 c0 c1 : Int) : Bool := if crossW a0 a1 b0 b1 c0 c1 = 0 then (if c0 ≥ mn a0 b0 then (if c0 ≤ mx a0 b0 then (if c1 ≥ mn a1 b1 then decide (c1 ≤ mx a1 b1) else false) else false) else false) else false
theorem on_ref (a0 a1 b0 b1 c0 c1 : Int) : Ev (fun k => windhoverref09_On.f k a0 a1 b0 b1 c0 c1) (onV a0 a1 b0 b1 c0 c1) := by
  refine Ev.congr (f := fun k => windhoverref09_On.j0 k (onV a0 a1 b0 b1 c0 c1)) (fun k => ?_) (Ev.step (f := fun _ => some (onV a0 a1 b0 b1 c0 c1)) (fun k => rfl) (Ev.now _))
  unfold windhoverref09_On.f onV
  rw [cross_ref, Option.bind_some]
  repeat' split
  all_goals first | rfl | omega
def properV (a0 a1 b0 b1 c0 c1 d0 d1 : Int) : Bool :=
  if wrap64 (sgnI (crossW a0 a1 b0 b1 c0 c1) * sgnI (crossW a0 a1 b0 b1 d0 d1)) < 0 then decide (wrap64 (sgnI (crossW c0 c1 d0 d1 a0 a1) * sgnI (crossW c0 c1 d0 d1 b0 b1)) < 0) else false
def commonV (a0 a1 b0 b1 c0 c1 d0 d1 : Int) : Bool :=
  onV a0 a1 b0 b1 c0 c1 || (onV a0 a1 b0 b1 d0 d1 || (onV c0 c1 d0 d1 a0 a1 || (onV c0 c1 d0 d1 b0 b1 || properV a0 a1 b0 b1 c0 c1 d0 d1)))
theorem common_j0 (b : Bool) (a0 a1 b0 b1 c0 c1 d0 d1 : Int) : Ev (fun k => windhoverref09_Common.j0 k b a0 a1 b0 b1 c0 c1 d0 d1) (b || properV a0 a1 b0 b1 c0 c1 d0 d1) := by
  refine Ev.step (f := fun _ => some (b || properV a0 a1 b0 b1 c0 c1 d0 d1)) (fun k => ?_) (Ev.now _)
  rw [windhoverref09_Common.j0]
  simp only [cross_ref, sign_ref, Option.bind_some]
  cases b with
  | true => rfl
  | false =>
    simp only [Bool.false_eq_true, if_false, Bool.false_or]
    unfold properV
    split <;> rfl
theorem common_ev (a0 a1 b0 b1 c0 c1 d0 d1 : Int) : Ev (fun k => windhoverref09_Common.f k a0 a1 b0 b1 c0 c1 d0 d1) (commonV a0 a1 b0 b1 c0 c1 d0 d1) := by
  unfold windhoverref09_Common.f commonV
  refine Ev.bind (on_ref _ _ _ _ _ _) ?_
  cases onV a0 a1 b0 b1 c0 c1 with
  | true => exact common_j0 true _ _ _ _ _ _ _ _
  | false =>
    simp only [Bool.false_eq_true, if_false, Bool.false_or]
    refine Ev.bind (on_ref _ _ _ _ _ _) ?_
    cases onV a0 a1 b0 b1 d0 d1 with
    | true => exact common_j0 true _ _ _ _ _ _ _ _
    | false =>
      simp only [Bool.false_eq_true, if_false, Bool.false_or]
      refine Ev.bind (on_ref _ _ _ _ _ _) ?_
      cases onV c0 c1 d0 d1 a0 a1 with
      | true => exact common_j0 true _ _ _ _ _ _ _ _
      | false =>
        simp only [Bool.false_eq_true, if_false, Bool.false_or]
        exact Ev.bind (on_ref _ _ _ _ _ _) (common_j0 _ _ _ _ _ _ _ _ _)
theorem sgn_opp (x y : Int) : wrap64 (sgnI x * sgnI y) < 0 ↔ Opp x y := by
  unfold Opp
  rcases sgnI_cases x with ⟨h, h'⟩ | ⟨h, h'⟩ | ⟨h, h'⟩ <;> rcases sgnI_cases y with ⟨g, g'⟩ | ⟨g, g'⟩ | ⟨g, g'⟩ <;> rw [h, g] <;> simp [wrap64] <;> omega
theorem onV_iff {a0 a1 b0 b1 c0 c1 : Int} (ha : InB a0 ∧ InB a1) (hb : InB b0 ∧ InB b1) (hc : InB c0 ∧ InB c1) : onV a0 a1 b0 b1 c0 c1 = true ↔ OnI a0 a1 b0 b1 c0 c1 := by
  unfold onV OnI Btw
  rw [crossW_in ha.1 ha.2 hb.1 hb.2 hc.1 hc.2]
  unfold mn mx
  repeat' split
  all_goals simp
  all_goals omega
theorem commonV_iff {a0 a1 b0 b1 c0 c1 d0 d1 : Int} (ha : InB a0 ∧ InB a1) (hb : InB b0 ∧ InB b1) (hc : InB c0 ∧ InB c1) (hd : InB d0 ∧ InB d1) :
    commonV a0 a1 b0 b1 c0 c1 d0 d1 = true ↔ RefI a0 a1 b0 b1 c0 c1 d0 d1 := by
  unfold commonV RefI properV
  rw [Bool.or_eq_true, Bool.or_eq_true, Bool.or_eq_true, Bool.or_eq_true, onV_iff ha hb hc, onV_iff ha hb hd, onV_iff hc hd ha, onV_iff hc hd hb]
  simp only [crossW_in ha.1 ha.2 hb.1 hb.2 hc.1 hc.2, crossW_in ha.1 ha.2 hb.1 hb.2 hd.1 hd.2, crossW_in hc.1 hc.2 hd.1 hd.2 ha.1 ha.2, crossW_in hc.1 hc.2 hd.1 hd.2 hb.1 hb.2]
  rw [← sgn_opp, ← sgn_opp]
  have : ∀ (p q : Prop) [Decidable p] [Decidable q], ((if p then decide q else false) = true) ↔ (p ∧ q) := by
    intro p q _ _
    split <;> simp [*]
  rw [this]
theorem common_meet {a0 a1 b0 b1 c0 c1 d0 d1 : Int} (h : out4 a0 a1 b0 b1 c0 c1 d0 d1 = false) : commonV a0 a1 b0 b1 c0 c1 d0 d1 = meetV a0 a1 b0 b1 c0 c1 d0 d1 := by
  simp only [out4, Bool.or_eq_false_iff, outP_eq] at h
  obtain ⟨ha, hb, hc, hd⟩ := h
  rw [Bool.eq_iff_iff, commonV_iff ha hb hc hd, meetV_iff ha hb hc hd, geo_iff_ref]
theorem meet_turn2 {a0 a1 b0 b1 c0 c1 d0 d1 : Int} (h : out4 a0 a1 b0 b1 c0 c1 d0 d1 = false) : meetV c0 c1 d0 d1 a0 a1 b0 b1 = meetV a0 a1 b0 b1 c0 c1 d0 d1 := by
  simp only [out4, Bool.or_eq_false_iff, outP_eq] at h
  obtain ⟨ha, hb, hc, hd⟩ := h
  rw [Bool.eq_iff_iff, meetV_iff ha hb hc hd, meetV_iff hc hd ha hb]
  exact ⟨geo_turn2, geo_turn2⟩
theorem meet_back {a0 a1 b0 b1 c0 c1 d0 d1 : Int} (h : out4 a0 a1 b0 b1 c0 c1 d0 d1 = false) : meetV b0 b1 a0 a1 c0 c1 d0 d1 = meetV a0 a1 b0 b1 c0 c1 d0 d1 := by
  simp only [out4, Bool.or_eq_false_iff, outP_eq] at h
  obtain ⟨ha, hb, hc, hd⟩ := h
  rw [Bool.eq_iff_iff, meetV_iff hb ha hc hd, meetV_iff ha hb hc hd]
  exact ⟨fun h => geo_turn2 (geo_swap (geo_turn2 h)), fun h => geo_turn2 (geo_swap (geo_turn2 h))⟩
theorem out4_turn2 (a0 a1 b0 b1 c0 c1 d0 d1 : Int) : out4 c0 c1 d0 d1 a0 a1 b0 b1 = out4 a0 a1 b0 b1 c0 c1 d0 d1 := by
  unfold out4
  cases outP ⟨a0, a1⟩ <;> cases outP ⟨b0, b1⟩ <;> cases outP ⟨c0, c1⟩ <;> cases outP ⟨d0, d1⟩ <;> rfl
theorem out4_back (a0 a1 b0 b1 c0 c1 d0 d1 : Int) : out4 b0 b1 a0 a1 c0 c1 d0 d1 = out4 a0 a1 b0 b1 c0 c1 d0 d1 := by
  unfold out4
  cases outP ⟨a0, a1⟩ <;> cases outP ⟨b0, b1⟩ <;> cases outP ⟨c0, c1⟩ <;> cases outP ⟨d0, d1⟩ <;> rfl
end Go.Proofs.Ytannklfnfacpeaa.X
