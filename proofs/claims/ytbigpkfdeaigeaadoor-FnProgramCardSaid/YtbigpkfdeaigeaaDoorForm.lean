import Derived.Test.YtbigpkfdeaigeaaDoorF1
import Derived.Test.YtbigpkfdeaigeaaDoorRes
/- Small numbers as text. No condition. -/
namespace Go.Proofs.YtbigpkfdeaigeaaDoor
open Go Go.Am
set_option linter.unusedSimpArgs false
set_option linter.unusedVariables false
set_option maxRecDepth 20000
variable {ng : Nat}

end Go.Proofs.YtbigpkfdeaigeaaDoor

/- FormResult, its law's walk. No condition. -/
namespace Go.Proofs.YtbigpkfdeaigeaaDoor
open Go Go.Am
set_option linter.unusedSimpArgs false
set_option linter.unusedVariables false
set_option maxRecDepth 20000
variable {ng : Nat}

end Go.Proofs.YtbigpkfdeaigeaaDoor
