/- The orders that the program's text leaves open. No condition. -/
import Derived.Test.YtehhjbomdohgoaaDat
import Derived.Test.YtehhjbomdohgoaaTypes
import Derived.KernelRfl
namespace Go.Proofs.Ytehhjbomdohgoaa
open Go Go.Am
theorem mixed : Try.prog.follows .mixedOrders = true := by kernel_rfl
end Go.Proofs.Ytehhjbomdohgoaa
