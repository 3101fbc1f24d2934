import Derived.Test.YtephpieeibcihaaGreatDoorShelf
import Derived.Test.YtephpieeibcihaaGreatDoorDat2
import Derived.Test.YtephpieeibcihaaGreatDoorAm29
import Derived.Test.YtephpieeibcihaaGreatDoorMch
import Derived.Test.YtephpieeibcihaaGreatDoorAccN
import Derived.Test.YtephpieeibcihaaGreatDoorRsw
import Derived.Test.YtephpieeibcihaaGreatDoorAm28
import Derived.Test.YtephpieeibcihaaGreatDoorAcc
/- Sorting names. No condition. -/
set_option linter.unusedSimpArgs false
set_option linter.unusedVariables false
namespace Go.Proofs.YtephpieeibcihaaGreatDoor
open Go Go.Am Go.Proofs
set_option maxRecDepth 20000
variable {ng : Nat}
end Go.Proofs.YtephpieeibcihaaGreatDoor

/- Ascending lists of texts, as sets. No condition. -/
namespace Go.Am
open Go
set_option linter.unusedSimpArgs false
set_option linter.unusedVariables false

end Go.Am

/- The names of a set, sorted. No condition. -/
set_option linter.unusedSimpArgs false
set_option linter.unusedVariables false
namespace Go.Proofs.YtephpieeibcihaaGreatDoor
open Go Go.Am Go.Proofs
set_option maxRecDepth 20000
variable {ng : Nat}
end Go.Proofs.YtephpieeibcihaaGreatDoor

/- A text put into an ascending list. No condition. -/
set_option linter.unusedSimpArgs false
set_option linter.unusedVariables false
namespace Go.Proofs.YtephpieeibcihaaGreatDoor
open Go Go.Am Go.Proofs
set_option maxRecDepth 20000
variable {ng : Nat}
end Go.Proofs.YtephpieeibcihaaGreatDoor

/- What Sources, Names and Depends compute. No condition. -/
namespace Go.Am
open Go
set_option linter.unusedSimpArgs false
set_option linter.unusedVariables false

end Go.Am

/- Sources, both. No condition. -/
set_option linter.unusedSimpArgs false
set_option linter.unusedVariables false
namespace Go.Proofs.YtephpieeibcihaaGreatDoor
open Go Go.Am Go.Proofs
set_option maxRecDepth 20000
variable {ng : Nat}
end Go.Proofs.YtephpieeibcihaaGreatDoor
