/- Lists of strings: the laws' helpers. No condition. -/
import Derived.Test.YtbigpkfdeaigeaaDoorF1
namespace Go.Proofs.YtbigpkfdeaigeaaDoor
open Go Go.Am
set_option linter.unusedSimpArgs false
set_option linter.unusedVariables false
set_option maxRecDepth 20000
variable {ng : Nat}

end Go.Proofs.YtbigpkfdeaigeaaDoor
