/- CheckSpace, the program's and the reference's. No condition. -/
import Derived.Test.YtbigpkfdeaigeaaGreatDoorNam
set_option linter.unusedSimpArgs false
set_option linter.unusedVariables false
namespace Go.Proofs.YtbigpkfdeaigeaaGreatDoor
open Go Go.Am Go.Proofs
set_option maxRecDepth 20000
variable {ng : Nat}
end Go.Proofs.YtbigpkfdeaigeaaGreatDoor
