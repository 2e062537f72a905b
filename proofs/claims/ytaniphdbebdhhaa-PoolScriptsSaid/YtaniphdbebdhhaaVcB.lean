/-
  What the printed conditions lean on. No condition.
-/
import Derived.Test.YtaniphdbebdhhaaProg
import Derived.Test.YtaniphdbebdhhaaVkW
namespace Go.Proofs.Ytaniphdbebdhhaa
open Go.Vk
def bodyOf (f : Func) : Code := f.body.getD .skip
theorem mixed : Try.prog.follows .mixedOrders = true := by kernel_rfl
end Go.Proofs.Ytaniphdbebdhhaa
