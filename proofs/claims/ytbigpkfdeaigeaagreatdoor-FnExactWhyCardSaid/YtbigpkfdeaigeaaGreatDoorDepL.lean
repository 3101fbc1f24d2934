/- What Depends computes. No condition. -/
import Derived.Test.YtbigpkfdeaigeaaGreatDoorSrc
namespace Go.Am
open Go
set_option linter.unusedSimpArgs false
set_option linter.unusedVariables false

end Go.Am
