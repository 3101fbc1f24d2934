/- Bytes as arguments. No condition. -/
import Derived.Test.YtbigpkfdeaigeaaDoorDat
import Derived.Test.YtbigpkfdeaigeaaDoorTypes
import Derived.Test.YtbigpkfdeaigeaaDoorAm24
namespace Go.Proofs.YtbigpkfdeaigeaaDoor
open Go Go.Am
set_option linter.unusedSimpArgs false
set_option linter.unusedVariables false
theorem rd_byte : Rd Tryd.prog 5 byteR := by
  refine (Rd.int und5).imp ?_
  rintro H n c F ⟨rfl, rfl, h⟩
  have e1 : IntKind.u8.min = 0 := by decide
  have e2 : IntKind.u8.max = 255 := by decide
  simp [Lit.wf, e1, e2] at h
  refine ⟨UInt8.ofNat n.toNat, [], ?_, rfl, trivial⟩
  have : (UInt8.ofNat n.toNat).toNat = n.toNat := by
    rw [UInt8.toNat_ofNat']
    omega
  dsimp only
  rw [this, Int.toNat_of_nonneg h.1]
theorem rd_bytes : Rd Tryd.prog 22 (BytesR false) := rd_byte.slice und22 (by kernel_rfl) (by decide) (of_decide_eq_true (by kernel_rfl))
end Go.Proofs.YtbigpkfdeaigeaaDoor
