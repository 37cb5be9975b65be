/- What lent answers: the polygon itself. -/
import Derived.Test.YtannklfnfacpeaaXx5
namespace Go.Proofs.Ytannklfnfacpeaa.X
open Go.RowKit Go.Proofs.YtannklfnfacpeaaW.PrintWords Go.Proofs.YtannklfnfacpeaaW.PrintLast
set_option linter.unusedVariables false
set_option linter.unusedSimpArgs false
theorem lent_some (l : List S23) (h : l.length * 16 ≤ 140737488351232) : windhoverlaw09_lent.f l = some l := by
  unfold windhoverlaw09_lent.f
  rw [if_pos (by simp; omega), List.nil_append, Option.bind_some, if_pos (by omega), Option.bind_some, if_pos (by omega), if_pos (by rw [List.length_append]; simp; omega)]
  rw [Int.toNat_natCast, List.take_append_of_le_length (Nat.le_refl _), List.take_of_length_le (Nat.le_refl _)]
theorem lent_nil : windhoverlaw09_lent.f [] = some [] := rfl
end Go.Proofs.Ytannklfnfacpeaa.X
