/- A closed sentence. -/
import Derived.Test.YtannklfnfacpeaaXx12
import Derived.Test.YtannklfnfacpeaaXMOrient
namespace Go.Proofs.Ytannklfnfacpeaa.X
open Go.RowKit Go.Proofs.YtannklfnfacpeaaW.PrintWords Go.Proofs.YtannklfnfacpeaaW.PrintLast
set_option linter.unusedVariables false
theorem GeoNames : ∃ k, windhoverlaw09_GeoNames.f k  = some true := by
  exact ⟨8000, by decide +kernel⟩
end Go.Proofs.Ytannklfnfacpeaa.X
