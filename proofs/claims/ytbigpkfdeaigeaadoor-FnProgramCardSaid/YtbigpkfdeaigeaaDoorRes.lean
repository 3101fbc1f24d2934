/- Results: the laws' helpers, ReadResult. No condition. -/
import Derived.Test.YtbigpkfdeaigeaaDoorStr
namespace Go.Proofs.YtbigpkfdeaigeaaDoor
open Go Go.Am
set_option linter.unusedSimpArgs false
set_option linter.unusedVariables false
set_option maxRecDepth 20000
variable {ng : Nat}

end Go.Proofs.YtbigpkfdeaigeaaDoor
