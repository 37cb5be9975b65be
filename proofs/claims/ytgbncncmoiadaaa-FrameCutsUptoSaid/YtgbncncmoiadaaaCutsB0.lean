/- What a new reader reads. -/
import Derived.Test.YtgbncncmoiadaaaCutsB
import Derived.Test.YtgbncncmoiadaaaSameD
import Derived.Test.YtgbncncmoiadaaaFirst
namespace Go.Proofs.Ytgbncncmoiadaaa.Ex
end Go.Proofs.Ytgbncncmoiadaaa.Ex
