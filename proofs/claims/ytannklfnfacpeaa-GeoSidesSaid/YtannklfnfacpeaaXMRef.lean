/- The document's Fits, sign and Cross. -/
import Derived.Test.YtannklfnfacpeaaXx6
import Derived.Test.YtannklfnfacpeaaXx6
import Derived.Test.YtannklfnfacpeaaXx6
import Derived.Test.YtannklfnfacpeaaXMBase
namespace Go.Proofs.Ytannklfnfacpeaa.X
open Go.RowKit Go.Proofs.YtannklfnfacpeaaW.PrintWords Go.Proofs.YtannklfnfacpeaaW.PrintLast Go.Proofs.YtannklfnfacpeaaW.PrintMore
set_option linter.unusedVariables false
set_option linter.unusedSimpArgs false
theorem fits_ref (x y : Int) : windhoverref09_Fits.f x y = some (!outP ⟨x, y⟩) := by
  unfold windhoverref09_Fits.f
  cases h : outP ⟨x, y⟩ with
  | false =>
    have := (outP_eq x y).1 h
    unfold InB at this
    rw [if_pos (by omega), if_pos (by omega), if_pos (by omega), decide_eq_true (by omega)]
    rfl
  | true =>
    have h2 : ¬ (InB x ∧ InB y) := fun e => by rw [(outP_eq x y).2 e] at h; cases h
    unfold InB at h2
    repeat' split
    all_goals first | rfl | (rw [decide_eq_false (by omega)]; rfl)
theorem sign_ref (n : Int) : windhoverref09_sign.f n = some (sgnI n) := by
  unfold windhoverref09_sign.f sgnI
  repeat' split
  all_goals rfl
theorem cross_ref (a0 a1 b0 b1 p0 p1 : Int) : windhoverref09_Cross.f a0 a1 b0 b1 p0 p1 = some (crossW a0 a1 b0 b1 p0 p1) := rfl
end Go.Proofs.Ytannklfnfacpeaa.X
