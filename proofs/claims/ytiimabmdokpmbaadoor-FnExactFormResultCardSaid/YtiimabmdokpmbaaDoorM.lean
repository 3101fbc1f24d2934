/- The orders that the program's text leaves open. No condition. -/
import Derived.Test.YtiimabmdokpmbaaDoorDat
import Derived.Test.YtiimabmdokpmbaaDoorTypes
import Derived.KernelRfl
namespace Go.Proofs.YtiimabmdokpmbaaDoor
open Go Go.Am
theorem mixed : Tryd.prog.follows .mixedOrders = true := by kernel_rfl
end Go.Proofs.YtiimabmdokpmbaaDoor
