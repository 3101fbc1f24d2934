/- Two lists of instructions compared, both. No condition. -/
import Derived.Test.YtbigpkfdeaigeaaDoorDat2
import Derived.Test.YtbigpkfdeaigeaaDoorEqi
import Derived.Test.YtbigpkfdeaigeaaDoorF1
set_option linter.unusedSimpArgs false
set_option linter.unusedVariables false
namespace Go.Proofs.YtbigpkfdeaigeaaDoor
open Go Go.Am Go.Proofs
set_option maxRecDepth 20000
variable {ng : Nat}
end Go.Proofs.YtbigpkfdeaigeaaDoor
