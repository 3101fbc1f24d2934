/- The orders that the program's text leaves open. No condition. -/
import Derived.Test.YtehhjbomdohgoaaDoorDat
import Derived.Test.YtehhjbomdohgoaaDoorTypes
import Derived.KernelRfl
namespace Go.Proofs.YtehhjbomdohgoaaDoor
open Go Go.Am
theorem mixed : Tryd.prog.follows .mixedOrders = true := by kernel_rfl
end Go.Proofs.YtehhjbomdohgoaaDoor
