import Derived.Test.YtbigpkfdeaigeaaDoorDrw
import Derived.Test.YtbigpkfdeaigeaaDoorAm28
import Derived.Test.YtbigpkfdeaigeaaDoorF1
/- What is drawn of instructions: a name, a value's instructions. No condition. -/
set_option linter.unusedSimpArgs false
set_option linter.unusedVariables false
namespace Go.Proofs.YtbigpkfdeaigeaaDoor
open Go Go.Am Go.Proofs
set_option maxRecDepth 100000
variable {ng : Nat}
/-- Between a drawing's start and its end. -/
structure Dr (H : Heap) (rd n : Nat) (S : Heap) : Prop where
  lt : rd < H.length
  rdo : Rdo rd H S
  rdr : RdS S rd n
theorem Dr.mk0 {H : Heap} {rd n : Nat} (h : RdS H rd n) : Dr H rd n H := ⟨h.lt, Rdo.refl _ _, h⟩
theorem Dr.le {H S : Heap} {rd n : Nat} (h : Dr H rd n S) : H.length ≤ S.length := h.rdo.1
theorem Dr.ext {H S S' : Heap} {rd n : Nat} (h : Dr H rd n S) (he : Ext S S') : Dr H rd n S' := ⟨h.lt, h.rdo.trans (.ext he), h.rdr.ext he⟩
theorem Dr.app {H S T : Heap} {rd n : Nat} (h : Dr H rd n S) : Dr H rd n (S ++ T) := h.ext (Ext.app _ _)
theorem Dr.keep {H S S' : Heap} {rd n : Nat} (h : Dr H rd n S) (hl : S.length ≤ S'.length) (hk : ∀ j, j < H.length → S'[j]? = S[j]?) : Dr H rd n S' :=
  ⟨h.lt, ⟨Nat.le_trans h.le hl, fun j hj hn => (hk j hj).trans (h.rdo.2 j hj hn)⟩, h.rdr.fr fun j hj => hk j (by have := h.lt; omega)⟩
theorem Dr.step {H S S' : Heap} {rd n m : Nat} (h : Dr H rd n S) (hr : Rdo rd S S') (hm : RdS S' rd m) : Dr H rd m S' := ⟨h.lt, h.rdo.trans hr, hm⟩
theorem Dr.weak {H S : Heap} {rd n m : Nat} (h : Dr H rd n S) (hm : m ≤ n) : Dr H rd m S := ⟨h.lt, h.rdo, h.rdr.weak hm⟩
/-- From an earlier start. -/
theorem Dr.to {H S S' : Heap} {rd n m : Nat} (h : Dr H rd n S) (h' : Dr S rd m S') : Dr H rd m S' := ⟨h.lt, h.rdo.trans h'.rdo, h'.rdr⟩
end Go.Proofs.YtbigpkfdeaigeaaDoor

/- What is drawn of instructions: the instructions of a value. No condition. -/
set_option linter.unusedSimpArgs false
set_option linter.unusedVariables false
namespace Go.Proofs.YtbigpkfdeaigeaaDoor
open Go Go.Am Go.Proofs
set_option maxRecDepth 100000
variable {ng : Nat}
end Go.Proofs.YtbigpkfdeaigeaaDoor

/- What is drawn of programs. No condition. -/
set_option linter.unusedSimpArgs false
set_option linter.unusedVariables false
namespace Go.Proofs.YtbigpkfdeaigeaaDoor
open Go Go.Am Go.Proofs
set_option maxRecDepth 100000
variable {ng : Nat}
end Go.Proofs.YtbigpkfdeaigeaaDoor

/- A program that is drawn. No condition. -/
set_option linter.unusedSimpArgs false
set_option linter.unusedVariables false
namespace Go.Proofs.YtbigpkfdeaigeaaDoor
open Go Go.Am Go.Proofs
set_option maxRecDepth 100000
variable {ng : Nat}
end Go.Proofs.YtbigpkfdeaigeaaDoor

/- A program with one place changed. No condition. -/
set_option linter.unusedSimpArgs false
set_option linter.unusedVariables false
namespace Go.Proofs.YtbigpkfdeaigeaaDoor
open Go Go.Am Go.Proofs
set_option maxRecDepth 100000
variable {ng : Nat}
end Go.Proofs.YtbigpkfdeaigeaaDoor
