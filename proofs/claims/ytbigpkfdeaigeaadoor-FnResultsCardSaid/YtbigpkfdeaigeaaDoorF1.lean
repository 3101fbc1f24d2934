import Derived.Test.YtbigpkfdeaigeaaDoorDat
import Derived.Test.YtbigpkfdeaigeaaDoorTypes
import Derived.KernelRfl
/- The orders that the program's text leaves open. No condition. -/
namespace Go.Proofs.YtbigpkfdeaigeaaDoor
open Go Go.Am
theorem mixed : Tryd.prog.follows .mixedOrders = true := by kernel_rfl
end Go.Proofs.YtbigpkfdeaigeaaDoor

/- The program's and the reference's tests of an instruction and of a program. No condition. -/
namespace Go.Proofs.YtbigpkfdeaigeaaDoor
open Go Go.Am Go.Proofs
set_option maxRecDepth 20000
variable {ng : Nat}
end Go.Proofs.YtbigpkfdeaigeaaDoor
