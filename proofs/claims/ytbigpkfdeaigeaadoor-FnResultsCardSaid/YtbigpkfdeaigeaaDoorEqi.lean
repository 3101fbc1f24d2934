/- Two instructions held against each other as the language does it. No condition. -/
import Derived.Test.YtbigpkfdeaigeaaDoorF1
import Derived.Laws.StructEq
set_option linter.unusedSimpArgs false
set_option linter.unusedVariables false
namespace Go.Am
open Go
variable {P : Program}
end Go.Am
namespace Go.Proofs.YtbigpkfdeaigeaaDoor
open Go Go.Am
set_option maxRecDepth 100000
end Go.Proofs.YtbigpkfdeaigeaaDoor
