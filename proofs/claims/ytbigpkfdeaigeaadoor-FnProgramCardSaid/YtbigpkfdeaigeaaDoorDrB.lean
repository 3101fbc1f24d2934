/- A text with one place changed; what is drawn of results. No condition. -/
import Derived.Test.YtbigpkfdeaigeaaDoorDrS
set_option linter.unusedSimpArgs false
set_option linter.unusedVariables false
namespace Go.Proofs.YtbigpkfdeaigeaaDoor
open Go Go.Am Go.Proofs
set_option maxRecDepth 100000
variable {ng : Nat}
theorem Dr.exto {H H0 S : Heap} {rd n : Nat} (h : Dr H rd n S) (hx : Ext H0 H) (hr : H0.length ≤ rd) : Ext H0 S := fun j hj => (h.rdo.2 j (by have := hx.le; omega) (by omega)).trans (hx j hj)
end Go.Proofs.YtbigpkfdeaigeaaDoor
