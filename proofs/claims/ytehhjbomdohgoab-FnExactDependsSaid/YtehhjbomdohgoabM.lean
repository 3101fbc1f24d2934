/- The orders that the program's text leaves open. No condition. -/
import Derived.Test.YtehhjbomdohgoabDat
import Derived.Test.YtehhjbomdohgoabTypes
import Derived.KernelRfl
namespace Go.Proofs.Ytehhjbomdohgoab
open Go Go.Am
theorem mixed : Try.prog.follows .mixedOrders = true := by kernel_rfl
end Go.Proofs.Ytehhjbomdohgoab
