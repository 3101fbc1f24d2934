/- Parts of both Cuts. No condition. -/
import Derived.Test.YtephpieeibcihaaGreatDoorHrs
import Derived.Test.YtephpieeibcihaaGreatDoorAccN
import Derived.Test.YtephpieeibcihaaGreatDoorDrp
import Derived.Test.YtephpieeibcihaaGreatDoorAm28
set_option linter.unusedSimpArgs false
set_option linter.unusedVariables false
namespace Go.Proofs.YtephpieeibcihaaGreatDoor
open Go Go.Am Go.Proofs
set_option maxRecDepth 20000
variable {ng : Nat}
end Go.Proofs.YtephpieeibcihaaGreatDoor
