/- Facts about the seat's types, for the abstract machine. No condition. -/
import Derived.Test.YtbigpkfdeaigeaaDoorProg
import Derived.Test.YtbigpkfdeaigeaaDoorAm20
namespace Go.Proofs.YtbigpkfdeaigeaaDoor
open Go Go.Am Go.Proofs
set_option linter.unusedSimpArgs false
set_option maxRecDepth 100000
theorem agg1 : aggT Tryd.prog 1 = some false := by unfold aggT; rw [Tryd.underlying1]; rfl
@[simp] theorem siz1 : szT Tryd.prog 1 = some 1 := by unfold szT; rw [show Tryd.prog.info? 1 = some Tryd.t1 from Tryd.type1]; rfl
@[simp ↓] theorem ty1 {q : Bool → Nat → Prop} : goTy Tryd.prog 1 q = q false 1 := by simp only [goTy, agg1, siz1]
@[simp ↓] theorem sz1 {q : Nat → Prop} : goSz Tryd.prog 1 q = q 1 := by simp only [goSz, siz1]
theorem zer1 : zero? Tryd.prog 1 = some Go.Value.nilFunc := by unfold zero?; rw [show Tryd.prog.info? 1 = some Tryd.t1 from Tryd.type1]; rfl
@[simp ↓] theorem z1 {q : List Value → Prop} : goZ Tryd.prog 1 q = q [Go.Value.nilFunc] := by simp [goZ, zer1, Value.cells]
theorem agg2 : aggT Tryd.prog 2 = some false := by unfold aggT; rw [Tryd.underlying2]; rfl
@[simp] theorem siz2 : szT Tryd.prog 2 = some 1 := by unfold szT; rw [show Tryd.prog.info? 2 = some Tryd.t2 from Tryd.type2]; rfl
@[simp ↓] theorem ty2 {q : Bool → Nat → Prop} : goTy Tryd.prog 2 q = q false 1 := by simp only [goTy, agg2, siz2]
@[simp ↓] theorem sz2 {q : Nat → Prop} : goSz Tryd.prog 2 q = q 1 := by simp only [goSz, siz2]
theorem zer2 : zero? Tryd.prog 2 = some (Go.Value.int Go.IntKind.i64 0) := by unfold zero?; rw [show Tryd.prog.info? 2 = some Tryd.t2 from Tryd.type2]; rfl
@[simp ↓] theorem z2 {q : List Value → Prop} : goZ Tryd.prog 2 q = q [(Go.Value.int Go.IntKind.i64 0)] := by simp [goZ, zer2, Value.cells]
@[simp] theorem und2 : Tryd.prog.underlying 2 = some (Go.TypeDesc.int Go.IntKind.i64) := opq Tryd.underlying2
@[simp ↓] theorem un2 {q : TypeDesc → Prop} : goUnd Tryd.prog 2 q = q (Go.TypeDesc.int Go.IntKind.i64) := by simp only [goUnd, und2]
theorem agg3 : aggT Tryd.prog 3 = some false := by unfold aggT; rw [Tryd.underlying3]; rfl
@[simp] theorem siz3 : szT Tryd.prog 3 = some 1 := by unfold szT; rw [show Tryd.prog.info? 3 = some Tryd.t3 from Tryd.type3]; rfl
@[simp ↓] theorem ty3 {q : Bool → Nat → Prop} : goTy Tryd.prog 3 q = q false 1 := by simp only [goTy, agg3, siz3]
@[simp ↓] theorem sz3 {q : Nat → Prop} : goSz Tryd.prog 3 q = q 1 := by simp only [goSz, siz3]
theorem zer3 : zero? Tryd.prog 3 = some (Go.Value.int Go.IntKind.i64 0) := by unfold zero?; rw [show Tryd.prog.info? 3 = some Tryd.t3 from Tryd.type3]; rfl
@[simp ↓] theorem z3 {q : List Value → Prop} : goZ Tryd.prog 3 q = q [(Go.Value.int Go.IntKind.i64 0)] := by simp [goZ, zer3, Value.cells]
@[simp] theorem und3 : Tryd.prog.underlying 3 = some (Go.TypeDesc.int Go.IntKind.i64) := opq Tryd.underlying3
@[simp ↓] theorem un3 {q : TypeDesc → Prop} : goUnd Tryd.prog 3 q = q (Go.TypeDesc.int Go.IntKind.i64) := by simp only [goUnd, und3]
theorem agg4 : aggT Tryd.prog 4 = some false := by unfold aggT; rw [Tryd.underlying4]; rfl
@[simp] theorem siz4 : szT Tryd.prog 4 = some 1 := by unfold szT; rw [show Tryd.prog.info? 4 = some Tryd.t4 from Tryd.type4]; rfl
@[simp ↓] theorem ty4 {q : Bool → Nat → Prop} : goTy Tryd.prog 4 q = q false 1 := by simp only [goTy, agg4, siz4]
@[simp ↓] theorem sz4 {q : Nat → Prop} : goSz Tryd.prog 4 q = q 1 := by simp only [goSz, siz4]
theorem zer4 : zero? Tryd.prog 4 = some (Go.Value.bool false) := by unfold zero?; rw [show Tryd.prog.info? 4 = some Tryd.t4 from Tryd.type4]; rfl
@[simp ↓] theorem z4 {q : List Value → Prop} : goZ Tryd.prog 4 q = q [(Go.Value.bool false)] := by simp [goZ, zer4, Value.cells]
@[simp] theorem und4 : Tryd.prog.underlying 4 = some (Go.TypeDesc.bool) := opq Tryd.underlying4
@[simp ↓] theorem un4 {q : TypeDesc → Prop} : goUnd Tryd.prog 4 q = q (Go.TypeDesc.bool) := by simp only [goUnd, und4]
theorem agg5 : aggT Tryd.prog 5 = some false := by unfold aggT; rw [Tryd.underlying5]; rfl
@[simp] theorem siz5 : szT Tryd.prog 5 = some 1 := by unfold szT; rw [show Tryd.prog.info? 5 = some Tryd.t5 from Tryd.type5]; rfl
@[simp ↓] theorem ty5 {q : Bool → Nat → Prop} : goTy Tryd.prog 5 q = q false 1 := by simp only [goTy, agg5, siz5]
@[simp ↓] theorem sz5 {q : Nat → Prop} : goSz Tryd.prog 5 q = q 1 := by simp only [goSz, siz5]
theorem zer5 : zero? Tryd.prog 5 = some (Go.Value.int Go.IntKind.u8 0) := by unfold zero?; rw [show Tryd.prog.info? 5 = some Tryd.t5 from Tryd.type5]; rfl
@[simp ↓] theorem z5 {q : List Value → Prop} : goZ Tryd.prog 5 q = q [(Go.Value.int Go.IntKind.u8 0)] := by simp [goZ, zer5, Value.cells]
@[simp] theorem und5 : Tryd.prog.underlying 5 = some (Go.TypeDesc.int Go.IntKind.u8) := opq Tryd.underlying5
@[simp ↓] theorem un5 {q : TypeDesc → Prop} : goUnd Tryd.prog 5 q = q (Go.TypeDesc.int Go.IntKind.u8) := by simp only [goUnd, und5]
theorem agg6 : aggT Tryd.prog 6 = some false := by unfold aggT; rw [Tryd.underlying6]; rfl
@[simp] theorem siz6 : szT Tryd.prog 6 = some 1 := by unfold szT; rw [show Tryd.prog.info? 6 = some Tryd.t6 from Tryd.type6]; rfl
@[simp ↓] theorem ty6 {q : Bool → Nat → Prop} : goTy Tryd.prog 6 q = q false 1 := by simp only [goTy, agg6, siz6]
@[simp ↓] theorem sz6 {q : Nat → Prop} : goSz Tryd.prog 6 q = q 1 := by simp only [goSz, siz6]
theorem zer6 : zero? Tryd.prog 6 = some (Go.Value.int Go.IntKind.u8 0) := by unfold zero?; rw [show Tryd.prog.info? 6 = some Tryd.t6 from Tryd.type6]; rfl
@[simp ↓] theorem z6 {q : List Value → Prop} : goZ Tryd.prog 6 q = q [(Go.Value.int Go.IntKind.u8 0)] := by simp [goZ, zer6, Value.cells]
@[simp] theorem und6 : Tryd.prog.underlying 6 = some (Go.TypeDesc.int Go.IntKind.u8) := opq Tryd.underlying6
@[simp ↓] theorem un6 {q : TypeDesc → Prop} : goUnd Tryd.prog 6 q = q (Go.TypeDesc.int Go.IntKind.u8) := by simp only [goUnd, und6]
theorem agg7 : aggT Tryd.prog 7 = some true := by unfold aggT; rw [Tryd.underlying7]; rfl
@[simp] theorem siz7 : szT Tryd.prog 7 = some 4 := by unfold szT; rw [show Tryd.prog.info? 7 = some Tryd.t7 from Tryd.type7]; rfl
@[simp ↓] theorem ty7 {q : Bool → Nat → Prop} : goTy Tryd.prog 7 q = q true 4 := by simp only [goTy, agg7, siz7]
@[simp ↓] theorem sz7 {q : Nat → Prop} : goSz Tryd.prog 7 q = q 4 := by simp only [goSz, siz7]
theorem zer7 : zero? Tryd.prog 7 = some
  (Go.Value.agg
    #[Go.Value.int Go.IntKind.i64 0, Go.Value.int Go.IntKind.i64 0, Go.Value.bool false, Go.Value.int Go.IntKind.u8 0]) := by unfold zero?; rw [show Tryd.prog.info? 7 = some Tryd.t7 from Tryd.type7]; rfl
@[simp ↓] theorem z7 {q : List Value → Prop} : goZ Tryd.prog 7 q = q [Go.Value.int Go.IntKind.i64 0, Go.Value.int Go.IntKind.i64 0, Go.Value.bool false, Go.Value.int Go.IntKind.u8 0] := by simp [goZ, zer7, Value.cells]
@[simp] theorem und7 : Tryd.prog.underlying 7 = some (Go.TypeDesc.struct
  #[{ name := "x", type := 2, offset := 0, embedded := false, tag := "", pkgPath := "runtime", byteOffset := 0 },
    { name := "y", type := 3, offset := 1, embedded := false, tag := "", pkgPath := "runtime", byteOffset := 8 },
    { name := "signed", type := 4, offset := 2, embedded := false, tag := "", pkgPath := "runtime", byteOffset := 16 },
    { name := "code", type := 6, offset := 3, embedded := false, tag := "", pkgPath := "runtime", byteOffset := 17 }]) := opq Tryd.underlying7
@[simp ↓] theorem fld7_0 {q : Nat → TypeId → Prop} : goFld Tryd.prog 7 0 q = q 0 2 := by simp only [goFld, und7]; rfl
@[simp ↓] theorem fld7_1 {q : Nat → TypeId → Prop} : goFld Tryd.prog 7 1 q = q 1 3 := by simp only [goFld, und7]; rfl
@[simp ↓] theorem fld7_2 {q : Nat → TypeId → Prop} : goFld Tryd.prog 7 2 q = q 2 4 := by simp only [goFld, und7]; rfl
@[simp ↓] theorem fld7_3 {q : Nat → TypeId → Prop} : goFld Tryd.prog 7 3 q = q 3 6 := by simp only [goFld, und7]; rfl
@[simp ↓] theorem bld7 {q : List Value → List (Nat × Nat) → Prop} : goBld Tryd.prog 7 q = q [Go.Value.int Go.IntKind.i64 0, Go.Value.int Go.IntKind.i64 0, Go.Value.bool false, Go.Value.int Go.IntKind.u8 0] [(0, 1), (1, 1), (2, 1), (3, 1)] := by simp [goBld, und7, zer7, placesL, Value.cells]
theorem agg8 : aggT Tryd.prog 8 = some true := by unfold aggT; rw [Tryd.underlying8]; rfl
@[simp] theorem siz8 : szT Tryd.prog 8 = some 4 := by unfold szT; rw [show Tryd.prog.info? 8 = some Tryd.t8 from Tryd.type8]; rfl
@[simp ↓] theorem ty8 {q : Bool → Nat → Prop} : goTy Tryd.prog 8 q = q true 4 := by simp only [goTy, agg8, siz8]
@[simp ↓] theorem sz8 {q : Nat → Prop} : goSz Tryd.prog 8 q = q 4 := by simp only [goSz, siz8]
theorem zer8 : zero? Tryd.prog 8 = some
  (Go.Value.agg
    #[Go.Value.int Go.IntKind.i64 0, Go.Value.int Go.IntKind.i64 0, Go.Value.bool false, Go.Value.int Go.IntKind.u8 0]) := by unfold zero?; rw [show Tryd.prog.info? 8 = some Tryd.t8 from Tryd.type8]; rfl
@[simp ↓] theorem z8 {q : List Value → Prop} : goZ Tryd.prog 8 q = q [Go.Value.int Go.IntKind.i64 0, Go.Value.int Go.IntKind.i64 0, Go.Value.bool false, Go.Value.int Go.IntKind.u8 0] := by simp [goZ, zer8, Value.cells]
@[simp] theorem und8 : Tryd.prog.underlying 8 = some (Go.TypeDesc.struct
  #[{ name := "x", type := 2, offset := 0, embedded := false, tag := "", pkgPath := "runtime", byteOffset := 0 },
    { name := "y", type := 3, offset := 1, embedded := false, tag := "", pkgPath := "runtime", byteOffset := 8 },
    { name := "signed", type := 4, offset := 2, embedded := false, tag := "", pkgPath := "runtime", byteOffset := 16 },
    { name := "code", type := 6, offset := 3, embedded := false, tag := "", pkgPath := "runtime", byteOffset := 17 }]) := opq Tryd.underlying8
@[simp ↓] theorem fld8_0 {q : Nat → TypeId → Prop} : goFld Tryd.prog 8 0 q = q 0 2 := by simp only [goFld, und8]; rfl
@[simp ↓] theorem fld8_1 {q : Nat → TypeId → Prop} : goFld Tryd.prog 8 1 q = q 1 3 := by simp only [goFld, und8]; rfl
@[simp ↓] theorem fld8_2 {q : Nat → TypeId → Prop} : goFld Tryd.prog 8 2 q = q 2 4 := by simp only [goFld, und8]; rfl
@[simp ↓] theorem fld8_3 {q : Nat → TypeId → Prop} : goFld Tryd.prog 8 3 q = q 3 6 := by simp only [goFld, und8]; rfl
@[simp ↓] theorem bld8 {q : List Value → List (Nat × Nat) → Prop} : goBld Tryd.prog 8 q = q [Go.Value.int Go.IntKind.i64 0, Go.Value.int Go.IntKind.i64 0, Go.Value.bool false, Go.Value.int Go.IntKind.u8 0] [(0, 1), (1, 1), (2, 1), (3, 1)] := by simp [goBld, und8, zer8, placesL, Value.cells]
theorem agg9 : aggT Tryd.prog 9 = some false := by unfold aggT; rw [Tryd.underlying9]; rfl
@[simp] theorem siz9 : szT Tryd.prog 9 = some 1 := by unfold szT; rw [show Tryd.prog.info? 9 = some Tryd.t9 from Tryd.type9]; rfl
@[simp ↓] theorem ty9 {q : Bool → Nat → Prop} : goTy Tryd.prog 9 q = q false 1 := by simp only [goTy, agg9, siz9]
@[simp ↓] theorem sz9 {q : Nat → Prop} : goSz Tryd.prog 9 q = q 1 := by simp only [goSz, siz9]
theorem zer9 : zero? Tryd.prog 9 = some (Go.Value.string { data := #[] }) := by unfold zero?; rw [show Tryd.prog.info? 9 = some Tryd.t9 from Tryd.type9]; rfl
@[simp ↓] theorem z9 {q : List Value → Prop} : goZ Tryd.prog 9 q = q [(Go.Value.string { data := #[] })] := by simp [goZ, zer9, Value.cells]
@[simp] theorem und9 : Tryd.prog.underlying 9 = some (Go.TypeDesc.string) := opq Tryd.underlying9
@[simp ↓] theorem un9 {q : TypeDesc → Prop} : goUnd Tryd.prog 9 q = q (Go.TypeDesc.string) := by simp only [goUnd, und9]
theorem agg10 : aggT Tryd.prog 10 = some false := by unfold aggT; rw [Tryd.underlying10]; rfl
@[simp] theorem siz10 : szT Tryd.prog 10 = some 1 := by unfold szT; rw [show Tryd.prog.info? 10 = some Tryd.t10 from Tryd.type10]; rfl
@[simp ↓] theorem ty10 {q : Bool → Nat → Prop} : goTy Tryd.prog 10 q = q false 1 := by simp only [goTy, agg10, siz10]
@[simp ↓] theorem sz10 {q : Nat → Prop} : goSz Tryd.prog 10 q = q 1 := by simp only [goSz, siz10]
theorem zer10 : zero? Tryd.prog 10 = some (Go.Value.string { data := #[] }) := by unfold zero?; rw [show Tryd.prog.info? 10 = some Tryd.t10 from Tryd.type10]; rfl
@[simp ↓] theorem z10 {q : List Value → Prop} : goZ Tryd.prog 10 q = q [(Go.Value.string { data := #[] })] := by simp [goZ, zer10, Value.cells]
@[simp] theorem und10 : Tryd.prog.underlying 10 = some (Go.TypeDesc.string) := opq Tryd.underlying10
@[simp ↓] theorem un10 {q : TypeDesc → Prop} : goUnd Tryd.prog 10 q = q (Go.TypeDesc.string) := by simp only [goUnd, und10]
theorem agg11 : aggT Tryd.prog 11 = some false := by unfold aggT; rw [Tryd.underlying11]; rfl
@[simp] theorem siz11 : szT Tryd.prog 11 = some 1 := by unfold szT; rw [show Tryd.prog.info? 11 = some Tryd.t11 from Tryd.type11]; rfl
@[simp ↓] theorem ty11 {q : Bool → Nat → Prop} : goTy Tryd.prog 11 q = q false 1 := by simp only [goTy, agg11, siz11]
@[simp ↓] theorem sz11 {q : Nat → Prop} : goSz Tryd.prog 11 q = q 1 := by simp only [goSz, siz11]
theorem zer11 : zero? Tryd.prog 11 = some (Go.Value.string { data := #[] }) := by unfold zero?; rw [show Tryd.prog.info? 11 = some Tryd.t11 from Tryd.type11]; rfl
@[simp ↓] theorem z11 {q : List Value → Prop} : goZ Tryd.prog 11 q = q [(Go.Value.string { data := #[] })] := by simp [goZ, zer11, Value.cells]
@[simp] theorem und11 : Tryd.prog.underlying 11 = some (Go.TypeDesc.string) := opq Tryd.underlying11
@[simp ↓] theorem un11 {q : TypeDesc → Prop} : goUnd Tryd.prog 11 q = q (Go.TypeDesc.string) := by simp only [goUnd, und11]
theorem agg12 : aggT Tryd.prog 12 = some false := by unfold aggT; rw [Tryd.underlying12]; rfl
@[simp] theorem siz12 : szT Tryd.prog 12 = some 1 := by unfold szT; rw [show Tryd.prog.info? 12 = some Tryd.t12 from Tryd.type12]; rfl
@[simp ↓] theorem ty12 {q : Bool → Nat → Prop} : goTy Tryd.prog 12 q = q false 1 := by simp only [goTy, agg12, siz12]
@[simp ↓] theorem sz12 {q : Nat → Prop} : goSz Tryd.prog 12 q = q 1 := by simp only [goSz, siz12]
theorem zer12 : zero? Tryd.prog 12 = some (Go.Value.int Go.IntKind.u64 0) := by unfold zero?; rw [show Tryd.prog.info? 12 = some Tryd.t12 from Tryd.type12]; rfl
@[simp ↓] theorem z12 {q : List Value → Prop} : goZ Tryd.prog 12 q = q [(Go.Value.int Go.IntKind.u64 0)] := by simp [goZ, zer12, Value.cells]
@[simp] theorem und12 : Tryd.prog.underlying 12 = some (Go.TypeDesc.int Go.IntKind.u64) := opq Tryd.underlying12
@[simp ↓] theorem un12 {q : TypeDesc → Prop} : goUnd Tryd.prog 12 q = q (Go.TypeDesc.int Go.IntKind.u64) := by simp only [goUnd, und12]
theorem agg13 : aggT Tryd.prog 13 = some true := by unfold aggT; rw [Tryd.underlying13]; rfl
@[simp] theorem siz13 : szT Tryd.prog 13 = some 2 := by unfold szT; rw [show Tryd.prog.info? 13 = some Tryd.t13 from Tryd.type13]; rfl
@[simp ↓] theorem ty13 {q : Bool → Nat → Prop} : goTy Tryd.prog 13 q = q true 2 := by simp only [goTy, agg13, siz13]
@[simp ↓] theorem sz13 {q : Nat → Prop} : goSz Tryd.prog 13 q = q 2 := by simp only [goSz, siz13]
theorem zer13 : zero? Tryd.prog 13 = some (Go.Value.agg #[Go.Value.string { data := #[] }, Go.Value.int Go.IntKind.u64 0]) := by unfold zero?; rw [show Tryd.prog.info? 13 = some Tryd.t13 from Tryd.type13]; rfl
@[simp ↓] theorem z13 {q : List Value → Prop} : goZ Tryd.prog 13 q = q [Go.Value.string { data := #[] }, Go.Value.int Go.IntKind.u64 0] := by simp [goZ, zer13, Value.cells]
@[simp] theorem und13 : Tryd.prog.underlying 13 = some (Go.TypeDesc.struct
  #[{ name := "msg", type := 9, offset := 0, embedded := false, tag := "", pkgPath := "runtime", byteOffset := 0 },
    { name := "addr", type := 12, offset := 1, embedded := false, tag := "", pkgPath := "runtime", byteOffset := 16 }]) := opq Tryd.underlying13
@[simp ↓] theorem fld13_0 {q : Nat → TypeId → Prop} : goFld Tryd.prog 13 0 q = q 0 9 := by simp only [goFld, und13]; rfl
@[simp ↓] theorem fld13_1 {q : Nat → TypeId → Prop} : goFld Tryd.prog 13 1 q = q 1 12 := by simp only [goFld, und13]; rfl
@[simp ↓] theorem bld13 {q : List Value → List (Nat × Nat) → Prop} : goBld Tryd.prog 13 q = q [Go.Value.string { data := #[] }, Go.Value.int Go.IntKind.u64 0] [(0, 1), (1, 1)] := by simp [goBld, und13, zer13, placesL, Value.cells]
theorem agg14 : aggT Tryd.prog 14 = some true := by unfold aggT; rw [Tryd.underlying14]; rfl
@[simp] theorem siz14 : szT Tryd.prog 14 = some 2 := by unfold szT; rw [show Tryd.prog.info? 14 = some Tryd.t14 from Tryd.type14]; rfl
@[simp ↓] theorem ty14 {q : Bool → Nat → Prop} : goTy Tryd.prog 14 q = q true 2 := by simp only [goTy, agg14, siz14]
@[simp ↓] theorem sz14 {q : Nat → Prop} : goSz Tryd.prog 14 q = q 2 := by simp only [goSz, siz14]
theorem zer14 : zero? Tryd.prog 14 = some (Go.Value.agg #[Go.Value.string { data := #[] }, Go.Value.int Go.IntKind.u64 0]) := by unfold zero?; rw [show Tryd.prog.info? 14 = some Tryd.t14 from Tryd.type14]; rfl
@[simp ↓] theorem z14 {q : List Value → Prop} : goZ Tryd.prog 14 q = q [Go.Value.string { data := #[] }, Go.Value.int Go.IntKind.u64 0] := by simp [goZ, zer14, Value.cells]
@[simp] theorem und14 : Tryd.prog.underlying 14 = some (Go.TypeDesc.struct
  #[{ name := "msg", type := 9, offset := 0, embedded := false, tag := "", pkgPath := "runtime", byteOffset := 0 },
    { name := "addr", type := 12, offset := 1, embedded := false, tag := "", pkgPath := "runtime", byteOffset := 16 }]) := opq Tryd.underlying14
@[simp ↓] theorem fld14_0 {q : Nat → TypeId → Prop} : goFld Tryd.prog 14 0 q = q 0 9 := by simp only [goFld, und14]; rfl
@[simp ↓] theorem fld14_1 {q : Nat → TypeId → Prop} : goFld Tryd.prog 14 1 q = q 1 12 := by simp only [goFld, und14]; rfl
@[simp ↓] theorem bld14 {q : List Value → List (Nat × Nat) → Prop} : goBld Tryd.prog 14 q = q [Go.Value.string { data := #[] }, Go.Value.int Go.IntKind.u64 0] [(0, 1), (1, 1)] := by simp [goBld, und14, zer14, placesL, Value.cells]
theorem agg15 : aggT Tryd.prog 15 = some false := by unfold aggT; rw [Tryd.underlying15]; rfl
@[simp] theorem siz15 : szT Tryd.prog 15 = some 1 := by unfold szT; rw [show Tryd.prog.info? 15 = some Tryd.t15 from Tryd.type15]; rfl
@[simp ↓] theorem ty15 {q : Bool → Nat → Prop} : goTy Tryd.prog 15 q = q false 1 := by simp only [goTy, agg15, siz15]
@[simp ↓] theorem sz15 {q : Nat → Prop} : goSz Tryd.prog 15 q = q 1 := by simp only [goSz, siz15]
theorem zer15 : zero? Tryd.prog 15 = some (Go.Value.pointer none) := by unfold zero?; rw [show Tryd.prog.info? 15 = some Tryd.t15 from Tryd.type15]; rfl
@[simp ↓] theorem z15 {q : List Value → Prop} : goZ Tryd.prog 15 q = q [(Go.Value.pointer none)] := by simp [goZ, zer15, Value.cells]
@[simp] theorem und15 : Tryd.prog.underlying 15 = some (Go.TypeDesc.pointer 127) := opq Tryd.underlying15
@[simp ↓] theorem un15 {q : TypeDesc → Prop} : goUnd Tryd.prog 15 q = q (Go.TypeDesc.pointer 127) := by simp only [goUnd, und15]
theorem agg16 : aggT Tryd.prog 16 = some false := by unfold aggT; rw [Tryd.underlying16]; rfl
@[simp] theorem siz16 : szT Tryd.prog 16 = some 1 := by unfold szT; rw [show Tryd.prog.info? 16 = some Tryd.t16 from Tryd.type16]; rfl
@[simp ↓] theorem ty16 {q : Bool → Nat → Prop} : goTy Tryd.prog 16 q = q false 1 := by simp only [goTy, agg16, siz16]
@[simp ↓] theorem sz16 {q : Nat → Prop} : goSz Tryd.prog 16 q = q 1 := by simp only [goSz, siz16]
theorem zer16 : zero? Tryd.prog 16 = some (Go.Value.pointer none) := by unfold zero?; rw [show Tryd.prog.info? 16 = some Tryd.t16 from Tryd.type16]; rfl
@[simp ↓] theorem z16 {q : List Value → Prop} : goZ Tryd.prog 16 q = q [(Go.Value.pointer none)] := by simp [goZ, zer16, Value.cells]
@[simp] theorem und16 : Tryd.prog.underlying 16 = some (Go.TypeDesc.pointer 130) := opq Tryd.underlying16
@[simp ↓] theorem un16 {q : TypeDesc → Prop} : goUnd Tryd.prog 16 q = q (Go.TypeDesc.pointer 130) := by simp only [goUnd, und16]
theorem agg17 : aggT Tryd.prog 17 = some false := by unfold aggT; rw [Tryd.underlying17]; rfl
@[simp] theorem siz17 : szT Tryd.prog 17 = some 1 := by unfold szT; rw [show Tryd.prog.info? 17 = some Tryd.t17 from Tryd.type17]; rfl
@[simp ↓] theorem ty17 {q : Bool → Nat → Prop} : goTy Tryd.prog 17 q = q false 1 := by simp only [goTy, agg17, siz17]
@[simp ↓] theorem sz17 {q : Nat → Prop} : goSz Tryd.prog 17 q = q 1 := by simp only [goSz, siz17]
theorem zer17 : zero? Tryd.prog 17 = some (Go.Value.pointer none) := by unfold zero?; rw [show Tryd.prog.info? 17 = some Tryd.t17 from Tryd.type17]; rfl
@[simp ↓] theorem z17 {q : List Value → Prop} : goZ Tryd.prog 17 q = q [(Go.Value.pointer none)] := by simp [goZ, zer17, Value.cells]
@[simp] theorem und17 : Tryd.prog.underlying 17 = some (Go.TypeDesc.pointer 138) := opq Tryd.underlying17
@[simp ↓] theorem un17 {q : TypeDesc → Prop} : goUnd Tryd.prog 17 q = q (Go.TypeDesc.pointer 138) := by simp only [goUnd, und17]
theorem agg18 : aggT Tryd.prog 18 = some true := by unfold aggT; rw [Tryd.underlying18]; rfl
@[simp] theorem siz18 : szT Tryd.prog 18 = some 1 := by unfold szT; rw [show Tryd.prog.info? 18 = some Tryd.t18 from Tryd.type18]; rfl
@[simp ↓] theorem ty18 {q : Bool → Nat → Prop} : goTy Tryd.prog 18 q = q true 1 := by simp only [goTy, agg18, siz18]
@[simp ↓] theorem sz18 {q : Nat → Prop} : goSz Tryd.prog 18 q = q 1 := by simp only [goSz, siz18]
theorem zer18 : zero? Tryd.prog 18 = some (Go.Value.agg #[Go.Value.pointer none]) := by unfold zero?; rw [show Tryd.prog.info? 18 = some Tryd.t18 from Tryd.type18]; rfl
@[simp ↓] theorem z18 {q : List Value → Prop} : goZ Tryd.prog 18 q = q [Go.Value.pointer none] := by simp [goZ, zer18, Value.cells]
@[simp] theorem und18 : Tryd.prog.underlying 18 = some (Go.TypeDesc.struct
  #[{ name := "typ", type := 17, offset := 0, embedded := false, tag := "", pkgPath := "internal/runtime/maps",
      byteOffset := 0 }]) := opq Tryd.underlying18
@[simp ↓] theorem fld18_0 {q : Nat → TypeId → Prop} : goFld Tryd.prog 18 0 q = q 0 17 := by simp only [goFld, und18]; rfl
@[simp ↓] theorem bld18 {q : List Value → List (Nat × Nat) → Prop} : goBld Tryd.prog 18 q = q [Go.Value.pointer none] [(0, 1)] := by simp [goBld, und18, zer18, placesL, Value.cells]
theorem agg19 : aggT Tryd.prog 19 = some true := by unfold aggT; rw [Tryd.underlying19]; rfl
@[simp] theorem siz19 : szT Tryd.prog 19 = some 1 := by unfold szT; rw [show Tryd.prog.info? 19 = some Tryd.t19 from Tryd.type19]; rfl
@[simp ↓] theorem ty19 {q : Bool → Nat → Prop} : goTy Tryd.prog 19 q = q true 1 := by simp only [goTy, agg19, siz19]
@[simp ↓] theorem sz19 {q : Nat → Prop} : goSz Tryd.prog 19 q = q 1 := by simp only [goSz, siz19]
theorem zer19 : zero? Tryd.prog 19 = some (Go.Value.agg #[Go.Value.pointer none]) := by unfold zero?; rw [show Tryd.prog.info? 19 = some Tryd.t19 from Tryd.type19]; rfl
@[simp ↓] theorem z19 {q : List Value → Prop} : goZ Tryd.prog 19 q = q [Go.Value.pointer none] := by simp [goZ, zer19, Value.cells]
@[simp] theorem und19 : Tryd.prog.underlying 19 = some (Go.TypeDesc.struct
  #[{ name := "typ", type := 17, offset := 0, embedded := false, tag := "", pkgPath := "internal/runtime/maps",
      byteOffset := 0 }]) := opq Tryd.underlying19
@[simp ↓] theorem fld19_0 {q : Nat → TypeId → Prop} : goFld Tryd.prog 19 0 q = q 0 17 := by simp only [goFld, und19]; rfl
@[simp ↓] theorem bld19 {q : List Value → List (Nat × Nat) → Prop} : goBld Tryd.prog 19 q = q [Go.Value.pointer none] [(0, 1)] := by simp [goBld, und19, zer19, placesL, Value.cells]
theorem agg20 : aggT Tryd.prog 20 = some false := by unfold aggT; rw [Tryd.underlying20]; rfl
@[simp] theorem siz20 : szT Tryd.prog 20 = some 1 := by unfold szT; rw [show Tryd.prog.info? 20 = some Tryd.t20 from Tryd.type20]; rfl
@[simp ↓] theorem ty20 {q : Bool → Nat → Prop} : goTy Tryd.prog 20 q = q false 1 := by simp only [goTy, agg20, siz20]
@[simp ↓] theorem sz20 {q : Nat → Prop} : goSz Tryd.prog 20 q = q 1 := by simp only [goSz, siz20]
theorem zer20 : zero? Tryd.prog 20 = some Go.Value.nilIface := by unfold zero?; rw [show Tryd.prog.info? 20 = some Tryd.t20 from Tryd.type20]; rfl
@[simp ↓] theorem z20 {q : List Value → Prop} : goZ Tryd.prog 20 q = q [Go.Value.nilIface] := by simp [goZ, zer20, Value.cells]
theorem agg21 : aggT Tryd.prog 21 = some false := by unfold aggT; rw [Tryd.underlying21]; rfl
@[simp] theorem siz21 : szT Tryd.prog 21 = some 1 := by unfold szT; rw [show Tryd.prog.info? 21 = some Tryd.t21 from Tryd.type21]; rfl
@[simp ↓] theorem ty21 {q : Bool → Nat → Prop} : goTy Tryd.prog 21 q = q false 1 := by simp only [goTy, agg21, siz21]
@[simp ↓] theorem sz21 {q : Nat → Prop} : goSz Tryd.prog 21 q = q 1 := by simp only [goSz, siz21]
theorem zer21 : zero? Tryd.prog 21 = some (Go.Value.int Go.IntKind.i32 0) := by unfold zero?; rw [show Tryd.prog.info? 21 = some Tryd.t21 from Tryd.type21]; rfl
@[simp ↓] theorem z21 {q : List Value → Prop} : goZ Tryd.prog 21 q = q [(Go.Value.int Go.IntKind.i32 0)] := by simp [goZ, zer21, Value.cells]
@[simp] theorem und21 : Tryd.prog.underlying 21 = some (Go.TypeDesc.int Go.IntKind.i32) := opq Tryd.underlying21
@[simp ↓] theorem un21 {q : TypeDesc → Prop} : goUnd Tryd.prog 21 q = q (Go.TypeDesc.int Go.IntKind.i32) := by simp only [goUnd, und21]
theorem agg22 : aggT Tryd.prog 22 = some false := by unfold aggT; rw [Tryd.underlying22]; rfl
@[simp] theorem siz22 : szT Tryd.prog 22 = some 1 := by unfold szT; rw [show Tryd.prog.info? 22 = some Tryd.t22 from Tryd.type22]; rfl
@[simp ↓] theorem ty22 {q : Bool → Nat → Prop} : goTy Tryd.prog 22 q = q false 1 := by simp only [goTy, agg22, siz22]
@[simp ↓] theorem sz22 {q : Nat → Prop} : goSz Tryd.prog 22 q = q 1 := by simp only [goSz, siz22]
theorem zer22 : zero? Tryd.prog 22 = some (Go.Value.slice none 0 0) := by unfold zero?; rw [show Tryd.prog.info? 22 = some Tryd.t22 from Tryd.type22]; rfl
@[simp ↓] theorem z22 {q : List Value → Prop} : goZ Tryd.prog 22 q = q [(Go.Value.slice none 0 0)] := by simp [goZ, zer22, Value.cells]
@[simp] theorem und22 : Tryd.prog.underlying 22 = some (Go.TypeDesc.slice 5) := opq Tryd.underlying22
@[simp ↓] theorem un22 {q : TypeDesc → Prop} : goUnd Tryd.prog 22 q = q (Go.TypeDesc.slice 5) := by simp only [goUnd, und22]
theorem slt22 : SlT Tryd.prog 22 5 1 1 := ⟨Tryd.underlying22, ⟨Tryd.t5, _, Tryd.type5, rfl, rfl, rfl, by simp, rfl⟩, by decide⟩
@[simp ↓] theorem sl22 {q : TypeId → Nat → List Value → Prop} : goSl Tryd.prog 22 q = q 5 1 [(Go.Value.int Go.IntKind.u8 0)] := by simp [goSl, und22, show zero? Tryd.prog 5 = some (Go.Value.int Go.IntKind.u8 0) from by unfold zero?; rw [show Tryd.prog.info? 5 = some Tryd.t5 from Tryd.type5]; rfl, show szT Tryd.prog 5 = some 1 from by unfold szT; rw [show Tryd.prog.info? 5 = some Tryd.t5 from Tryd.type5]; rfl, Value.cells]
theorem agg23 : aggT Tryd.prog 23 = some false := by unfold aggT; rw [Tryd.underlying23]; rfl
@[simp] theorem siz23 : szT Tryd.prog 23 = some 1 := by unfold szT; rw [show Tryd.prog.info? 23 = some Tryd.t23 from Tryd.type23]; rfl
@[simp ↓] theorem ty23 {q : Bool → Nat → Prop} : goTy Tryd.prog 23 q = q false 1 := by simp only [goTy, agg23, siz23]
@[simp ↓] theorem sz23 {q : Nat → Prop} : goSz Tryd.prog 23 q = q 1 := by simp only [goSz, siz23]
theorem zer23 : zero? Tryd.prog 23 = some (Go.Value.slice none 0 0) := by unfold zero?; rw [show Tryd.prog.info? 23 = some Tryd.t23 from Tryd.type23]; rfl
@[simp ↓] theorem z23 {q : List Value → Prop} : goZ Tryd.prog 23 q = q [(Go.Value.slice none 0 0)] := by simp [goZ, zer23, Value.cells]
@[simp] theorem und23 : Tryd.prog.underlying 23 = some (Go.TypeDesc.slice 9) := opq Tryd.underlying23
@[simp ↓] theorem un23 {q : TypeDesc → Prop} : goUnd Tryd.prog 23 q = q (Go.TypeDesc.slice 9) := by simp only [goUnd, und23]
theorem slt23 : SlT Tryd.prog 23 9 1 16 := ⟨Tryd.underlying23, ⟨Tryd.t9, _, Tryd.type9, rfl, rfl, rfl, by simp, rfl⟩, by decide⟩
@[simp ↓] theorem sl23 {q : TypeId → Nat → List Value → Prop} : goSl Tryd.prog 23 q = q 9 1 [(Go.Value.string { data := #[] })] := by simp [goSl, und23, show zero? Tryd.prog 9 = some (Go.Value.string { data := #[] }) from by unfold zero?; rw [show Tryd.prog.info? 9 = some Tryd.t9 from Tryd.type9]; rfl, show szT Tryd.prog 9 = some 1 from by unfold szT; rw [show Tryd.prog.info? 9 = some Tryd.t9 from Tryd.type9]; rfl, Value.cells]
theorem agg24 : aggT Tryd.prog 24 = some true := by unfold aggT; rw [Tryd.underlying24]; rfl
@[simp] theorem siz24 : szT Tryd.prog 24 = some 3 := by unfold szT; rw [show Tryd.prog.info? 24 = some Tryd.t24 from Tryd.type24]; rfl
@[simp ↓] theorem ty24 {q : Bool → Nat → Prop} : goTy Tryd.prog 24 q = q true 3 := by simp only [goTy, agg24, siz24]
@[simp ↓] theorem sz24 {q : Nat → Prop} : goSz Tryd.prog 24 q = q 3 := by simp only [goSz, siz24]
theorem zer24 : zero? Tryd.prog 24 = some (Go.Value.agg #[Go.Value.int Go.IntKind.i64 0, Go.Value.string { data := #[] }, Go.Value.slice none 0 0]) := by unfold zero?; rw [show Tryd.prog.info? 24 = some Tryd.t24 from Tryd.type24]; rfl
@[simp ↓] theorem z24 {q : List Value → Prop} : goZ Tryd.prog 24 q = q [Go.Value.int Go.IntKind.i64 0, Go.Value.string { data := #[] }, Go.Value.slice none 0 0] := by simp [goZ, zer24, Value.cells]
@[simp] theorem und24 : Tryd.prog.underlying 24 = some (Go.TypeDesc.struct
  #[{ name := "Code", type := 3, offset := 0, embedded := false, tag := "", pkgPath := "", byteOffset := 0 },
    { name := "Text", type := 9, offset := 1, embedded := false, tag := "", pkgPath := "", byteOffset := 8 },
    { name := "Chain", type := 23, offset := 2, embedded := false, tag := "", pkgPath := "", byteOffset := 24 }]) := opq Tryd.underlying24
@[simp ↓] theorem fld24_0 {q : Nat → TypeId → Prop} : goFld Tryd.prog 24 0 q = q 0 3 := by simp only [goFld, und24]; rfl
@[simp ↓] theorem fld24_1 {q : Nat → TypeId → Prop} : goFld Tryd.prog 24 1 q = q 1 9 := by simp only [goFld, und24]; rfl
@[simp ↓] theorem fld24_2 {q : Nat → TypeId → Prop} : goFld Tryd.prog 24 2 q = q 2 23 := by simp only [goFld, und24]; rfl
@[simp ↓] theorem bld24 {q : List Value → List (Nat × Nat) → Prop} : goBld Tryd.prog 24 q = q [Go.Value.int Go.IntKind.i64 0, Go.Value.string { data := #[] }, Go.Value.slice none 0 0] [(0, 1), (1, 1), (2, 1)] := by simp [goBld, und24, zer24, placesL, Value.cells]
theorem agg25 : aggT Tryd.prog 25 = some true := by unfold aggT; rw [Tryd.underlying25]; rfl
@[simp] theorem siz25 : szT Tryd.prog 25 = some 3 := by unfold szT; rw [show Tryd.prog.info? 25 = some Tryd.t25 from Tryd.type25]; rfl
@[simp ↓] theorem ty25 {q : Bool → Nat → Prop} : goTy Tryd.prog 25 q = q true 3 := by simp only [goTy, agg25, siz25]
@[simp ↓] theorem sz25 {q : Nat → Prop} : goSz Tryd.prog 25 q = q 3 := by simp only [goSz, siz25]
theorem zer25 : zero? Tryd.prog 25 = some (Go.Value.agg #[Go.Value.int Go.IntKind.i64 0, Go.Value.string { data := #[] }, Go.Value.slice none 0 0]) := by unfold zero?; rw [show Tryd.prog.info? 25 = some Tryd.t25 from Tryd.type25]; rfl
@[simp ↓] theorem z25 {q : List Value → Prop} : goZ Tryd.prog 25 q = q [Go.Value.int Go.IntKind.i64 0, Go.Value.string { data := #[] }, Go.Value.slice none 0 0] := by simp [goZ, zer25, Value.cells]
@[simp] theorem und25 : Tryd.prog.underlying 25 = some (Go.TypeDesc.struct
  #[{ name := "Code", type := 3, offset := 0, embedded := false, tag := "", pkgPath := "", byteOffset := 0 },
    { name := "Text", type := 9, offset := 1, embedded := false, tag := "", pkgPath := "", byteOffset := 8 },
    { name := "Chain", type := 23, offset := 2, embedded := false, tag := "", pkgPath := "", byteOffset := 24 }]) := opq Tryd.underlying25
@[simp ↓] theorem fld25_0 {q : Nat → TypeId → Prop} : goFld Tryd.prog 25 0 q = q 0 3 := by simp only [goFld, und25]; rfl
@[simp ↓] theorem fld25_1 {q : Nat → TypeId → Prop} : goFld Tryd.prog 25 1 q = q 1 9 := by simp only [goFld, und25]; rfl
@[simp ↓] theorem fld25_2 {q : Nat → TypeId → Prop} : goFld Tryd.prog 25 2 q = q 2 23 := by simp only [goFld, und25]; rfl
@[simp ↓] theorem bld25 {q : List Value → List (Nat × Nat) → Prop} : goBld Tryd.prog 25 q = q [Go.Value.int Go.IntKind.i64 0, Go.Value.string { data := #[] }, Go.Value.slice none 0 0] [(0, 1), (1, 1), (2, 1)] := by simp [goBld, und25, zer25, placesL, Value.cells]
theorem agg26 : aggT Tryd.prog 26 = some false := by unfold aggT; rw [Tryd.underlying26]; rfl
@[simp] theorem siz26 : szT Tryd.prog 26 = some 1 := by unfold szT; rw [show Tryd.prog.info? 26 = some Tryd.t26 from Tryd.type26]; rfl
@[simp ↓] theorem ty26 {q : Bool → Nat → Prop} : goTy Tryd.prog 26 q = q false 1 := by simp only [goTy, agg26, siz26]
@[simp ↓] theorem sz26 {q : Nat → Prop} : goSz Tryd.prog 26 q = q 1 := by simp only [goSz, siz26]
theorem zer26 : zero? Tryd.prog 26 = some Go.Value.nilFunc := by unfold zero?; rw [show Tryd.prog.info? 26 = some Tryd.t26 from Tryd.type26]; rfl
@[simp ↓] theorem z26 {q : List Value → Prop} : goZ Tryd.prog 26 q = q [Go.Value.nilFunc] := by simp [goZ, zer26, Value.cells]
theorem agg27 : aggT Tryd.prog 27 = some false := by unfold aggT; rw [Tryd.underlying27]; rfl
@[simp] theorem siz27 : szT Tryd.prog 27 = some 1 := by unfold szT; rw [show Tryd.prog.info? 27 = some Tryd.t27 from Tryd.type27]; rfl
@[simp ↓] theorem ty27 {q : Bool → Nat → Prop} : goTy Tryd.prog 27 q = q false 1 := by simp only [goTy, agg27, siz27]
@[simp ↓] theorem sz27 {q : Nat → Prop} : goSz Tryd.prog 27 q = q 1 := by simp only [goSz, siz27]
theorem zer27 : zero? Tryd.prog 27 = some Go.Value.nilFunc := by unfold zero?; rw [show Tryd.prog.info? 27 = some Tryd.t27 from Tryd.type27]; rfl
@[simp ↓] theorem z27 {q : List Value → Prop} : goZ Tryd.prog 27 q = q [Go.Value.nilFunc] := by simp [goZ, zer27, Value.cells]
theorem agg29 : aggT Tryd.prog 29 = some false := by unfold aggT; rw [Tryd.underlying29]; rfl
@[simp] theorem siz29 : szT Tryd.prog 29 = some 1 := by unfold szT; rw [show Tryd.prog.info? 29 = some Tryd.t29 from Tryd.type29]; rfl
@[simp ↓] theorem ty29 {q : Bool → Nat → Prop} : goTy Tryd.prog 29 q = q false 1 := by simp only [goTy, agg29, siz29]
@[simp ↓] theorem sz29 {q : Nat → Prop} : goSz Tryd.prog 29 q = q 1 := by simp only [goSz, siz29]
theorem zer29 : zero? Tryd.prog 29 = some Go.Value.nilFunc := by unfold zero?; rw [show Tryd.prog.info? 29 = some Tryd.t29 from Tryd.type29]; rfl
@[simp ↓] theorem z29 {q : List Value → Prop} : goZ Tryd.prog 29 q = q [Go.Value.nilFunc] := by simp [goZ, zer29, Value.cells]
theorem agg30 : aggT Tryd.prog 30 = some false := by unfold aggT; rw [Tryd.underlying30]; rfl
@[simp] theorem siz30 : szT Tryd.prog 30 = some 1 := by unfold szT; rw [show Tryd.prog.info? 30 = some Tryd.t30 from Tryd.type30]; rfl
@[simp ↓] theorem ty30 {q : Bool → Nat → Prop} : goTy Tryd.prog 30 q = q false 1 := by simp only [goTy, agg30, siz30]
@[simp ↓] theorem sz30 {q : Nat → Prop} : goSz Tryd.prog 30 q = q 1 := by simp only [goSz, siz30]
theorem zer30 : zero? Tryd.prog 30 = some Go.Value.nilFunc := by unfold zero?; rw [show Tryd.prog.info? 30 = some Tryd.t30 from Tryd.type30]; rfl
@[simp ↓] theorem z30 {q : List Value → Prop} : goZ Tryd.prog 30 q = q [Go.Value.nilFunc] := by simp [goZ, zer30, Value.cells]
theorem agg31 : aggT Tryd.prog 31 = some false := by unfold aggT; rw [Tryd.underlying31]; rfl
@[simp] theorem siz31 : szT Tryd.prog 31 = some 1 := by unfold szT; rw [show Tryd.prog.info? 31 = some Tryd.t31 from Tryd.type31]; rfl
@[simp ↓] theorem ty31 {q : Bool → Nat → Prop} : goTy Tryd.prog 31 q = q false 1 := by simp only [goTy, agg31, siz31]
@[simp ↓] theorem sz31 {q : Nat → Prop} : goSz Tryd.prog 31 q = q 1 := by simp only [goSz, siz31]
theorem zer31 : zero? Tryd.prog 31 = some Go.Value.nilFunc := by unfold zero?; rw [show Tryd.prog.info? 31 = some Tryd.t31 from Tryd.type31]; rfl
@[simp ↓] theorem z31 {q : List Value → Prop} : goZ Tryd.prog 31 q = q [Go.Value.nilFunc] := by simp [goZ, zer31, Value.cells]
theorem agg32 : aggT Tryd.prog 32 = some false := by unfold aggT; rw [Tryd.underlying32]; rfl
@[simp] theorem siz32 : szT Tryd.prog 32 = some 1 := by unfold szT; rw [show Tryd.prog.info? 32 = some Tryd.t32 from Tryd.type32]; rfl
@[simp ↓] theorem ty32 {q : Bool → Nat → Prop} : goTy Tryd.prog 32 q = q false 1 := by simp only [goTy, agg32, siz32]
@[simp ↓] theorem sz32 {q : Nat → Prop} : goSz Tryd.prog 32 q = q 1 := by simp only [goSz, siz32]
theorem zer32 : zero? Tryd.prog 32 = some Go.Value.nilFunc := by unfold zero?; rw [show Tryd.prog.info? 32 = some Tryd.t32 from Tryd.type32]; rfl
@[simp ↓] theorem z32 {q : List Value → Prop} : goZ Tryd.prog 32 q = q [Go.Value.nilFunc] := by simp [goZ, zer32, Value.cells]
theorem agg33 : aggT Tryd.prog 33 = some false := by unfold aggT; rw [Tryd.underlying33]; rfl
@[simp] theorem siz33 : szT Tryd.prog 33 = some 1 := by unfold szT; rw [show Tryd.prog.info? 33 = some Tryd.t33 from Tryd.type33]; rfl
@[simp ↓] theorem ty33 {q : Bool → Nat → Prop} : goTy Tryd.prog 33 q = q false 1 := by simp only [goTy, agg33, siz33]
@[simp ↓] theorem sz33 {q : Nat → Prop} : goSz Tryd.prog 33 q = q 1 := by simp only [goSz, siz33]
theorem zer33 : zero? Tryd.prog 33 = some (Go.Value.slice none 0 0) := by unfold zero?; rw [show Tryd.prog.info? 33 = some Tryd.t33 from Tryd.type33]; rfl
@[simp ↓] theorem z33 {q : List Value → Prop} : goZ Tryd.prog 33 q = q [(Go.Value.slice none 0 0)] := by simp [goZ, zer33, Value.cells]
@[simp] theorem und33 : Tryd.prog.underlying 33 = some (Go.TypeDesc.slice 58) := opq Tryd.underlying33
@[simp ↓] theorem un33 {q : TypeDesc → Prop} : goUnd Tryd.prog 33 q = q (Go.TypeDesc.slice 58) := by simp only [goUnd, und33]
theorem slt33 : SlT Tryd.prog 33 58 3 32 := ⟨Tryd.underlying33, ⟨Tryd.t58, _, Tryd.type58, rfl, rfl, rfl, by simp, rfl⟩, by decide⟩
@[simp ↓] theorem sl33 {q : TypeId → Nat → List Value → Prop} : goSl Tryd.prog 33 q = q 58 3 [Go.Value.int Go.IntKind.i64 0, Go.Value.string { data := #[] }, Go.Value.int Go.IntKind.i64 0] := by simp [goSl, und33, show zero? Tryd.prog 58 = some (Go.Value.agg #[Go.Value.int Go.IntKind.i64 0, Go.Value.string { data := #[] }, Go.Value.int Go.IntKind.i64 0]) from by unfold zero?; rw [show Tryd.prog.info? 58 = some Tryd.t58 from Tryd.type58]; rfl, show szT Tryd.prog 58 = some 3 from by unfold szT; rw [show Tryd.prog.info? 58 = some Tryd.t58 from Tryd.type58]; rfl, Value.cells]
theorem agg34 : aggT Tryd.prog 34 = some true := by unfold aggT; rw [Tryd.underlying34]; rfl
@[simp] theorem siz34 : szT Tryd.prog 34 = some 1 := by unfold szT; rw [show Tryd.prog.info? 34 = some Tryd.t34 from Tryd.type34]; rfl
@[simp ↓] theorem ty34 {q : Bool → Nat → Prop} : goTy Tryd.prog 34 q = q true 1 := by simp only [goTy, agg34, siz34]
@[simp ↓] theorem sz34 {q : Nat → Prop} : goSz Tryd.prog 34 q = q 1 := by simp only [goSz, siz34]
theorem zer34 : zero? Tryd.prog 34 = some (Go.Value.agg #[Go.Value.slice none 0 0]) := by unfold zero?; rw [show Tryd.prog.info? 34 = some Tryd.t34 from Tryd.type34]; rfl
@[simp ↓] theorem z34 {q : List Value → Prop} : goZ Tryd.prog 34 q = q [Go.Value.slice none 0 0] := by simp [goZ, zer34, Value.cells]
@[simp] theorem und34 : Tryd.prog.underlying 34 = some (Go.TypeDesc.struct
  #[{ name := "Code", type := 33, offset := 0, embedded := false, tag := "", pkgPath := "", byteOffset := 0 }]) := opq Tryd.underlying34
@[simp ↓] theorem fld34_0 {q : Nat → TypeId → Prop} : goFld Tryd.prog 34 0 q = q 0 33 := by simp only [goFld, und34]; rfl
@[simp ↓] theorem bld34 {q : List Value → List (Nat × Nat) → Prop} : goBld Tryd.prog 34 q = q [Go.Value.slice none 0 0] [(0, 1)] := by simp [goBld, und34, zer34, placesL, Value.cells]
theorem agg35 : aggT Tryd.prog 35 = some true := by unfold aggT; rw [Tryd.underlying35]; rfl
@[simp] theorem siz35 : szT Tryd.prog 35 = some 1 := by unfold szT; rw [show Tryd.prog.info? 35 = some Tryd.t35 from Tryd.type35]; rfl
@[simp ↓] theorem ty35 {q : Bool → Nat → Prop} : goTy Tryd.prog 35 q = q true 1 := by simp only [goTy, agg35, siz35]
@[simp ↓] theorem sz35 {q : Nat → Prop} : goSz Tryd.prog 35 q = q 1 := by simp only [goSz, siz35]
theorem zer35 : zero? Tryd.prog 35 = some (Go.Value.agg #[Go.Value.slice none 0 0]) := by unfold zero?; rw [show Tryd.prog.info? 35 = some Tryd.t35 from Tryd.type35]; rfl
@[simp ↓] theorem z35 {q : List Value → Prop} : goZ Tryd.prog 35 q = q [Go.Value.slice none 0 0] := by simp [goZ, zer35, Value.cells]
@[simp] theorem und35 : Tryd.prog.underlying 35 = some (Go.TypeDesc.struct
  #[{ name := "Code", type := 33, offset := 0, embedded := false, tag := "", pkgPath := "", byteOffset := 0 }]) := opq Tryd.underlying35
@[simp ↓] theorem fld35_0 {q : Nat → TypeId → Prop} : goFld Tryd.prog 35 0 q = q 0 33 := by simp only [goFld, und35]; rfl
@[simp ↓] theorem bld35 {q : List Value → List (Nat × Nat) → Prop} : goBld Tryd.prog 35 q = q [Go.Value.slice none 0 0] [(0, 1)] := by simp [goBld, und35, zer35, placesL, Value.cells]
theorem agg36 : aggT Tryd.prog 36 = some false := by unfold aggT; rw [Tryd.underlying36]; rfl
@[simp] theorem siz36 : szT Tryd.prog 36 = some 1 := by unfold szT; rw [show Tryd.prog.info? 36 = some Tryd.t36 from Tryd.type36]; rfl
@[simp ↓] theorem ty36 {q : Bool → Nat → Prop} : goTy Tryd.prog 36 q = q false 1 := by simp only [goTy, agg36, siz36]
@[simp ↓] theorem sz36 {q : Nat → Prop} : goSz Tryd.prog 36 q = q 1 := by simp only [goSz, siz36]
theorem zer36 : zero? Tryd.prog 36 = some Go.Value.nilFunc := by unfold zero?; rw [show Tryd.prog.info? 36 = some Tryd.t36 from Tryd.type36]; rfl
@[simp ↓] theorem z36 {q : List Value → Prop} : goZ Tryd.prog 36 q = q [Go.Value.nilFunc] := by simp [goZ, zer36, Value.cells]
theorem agg37 : aggT Tryd.prog 37 = some false := by unfold aggT; rw [Tryd.underlying37]; rfl
@[simp] theorem siz37 : szT Tryd.prog 37 = some 1 := by unfold szT; rw [show Tryd.prog.info? 37 = some Tryd.t37 from Tryd.type37]; rfl
@[simp ↓] theorem ty37 {q : Bool → Nat → Prop} : goTy Tryd.prog 37 q = q false 1 := by simp only [goTy, agg37, siz37]
@[simp ↓] theorem sz37 {q : Nat → Prop} : goSz Tryd.prog 37 q = q 1 := by simp only [goSz, siz37]
theorem zer37 : zero? Tryd.prog 37 = some Go.Value.nilFunc := by unfold zero?; rw [show Tryd.prog.info? 37 = some Tryd.t37 from Tryd.type37]; rfl
@[simp ↓] theorem z37 {q : List Value → Prop} : goZ Tryd.prog 37 q = q [Go.Value.nilFunc] := by simp [goZ, zer37, Value.cells]
theorem agg38 : aggT Tryd.prog 38 = some true := by unfold aggT; rw [Tryd.underlying38]; rfl
@[simp] theorem siz38 : szT Tryd.prog 38 = some 2 := by unfold szT; rw [show Tryd.prog.info? 38 = some Tryd.t38 from Tryd.type38]; rfl
@[simp ↓] theorem ty38 {q : Bool → Nat → Prop} : goTy Tryd.prog 38 q = q true 2 := by simp only [goTy, agg38, siz38]
@[simp ↓] theorem sz38 {q : Nat → Prop} : goSz Tryd.prog 38 q = q 2 := by simp only [goSz, siz38]
theorem zer38 : zero? Tryd.prog 38 = some (Go.Value.agg #[Go.Value.int Go.IntKind.i64 0, Go.Value.int Go.IntKind.i64 0]) := by unfold zero?; rw [show Tryd.prog.info? 38 = some Tryd.t38 from Tryd.type38]; rfl
@[simp ↓] theorem z38 {q : List Value → Prop} : goZ Tryd.prog 38 q = q [Go.Value.int Go.IntKind.i64 0, Go.Value.int Go.IntKind.i64 0] := by simp [goZ, zer38, Value.cells]
@[simp] theorem und38 : Tryd.prog.underlying 38 = some (Go.TypeDesc.struct
  #[{ name := "Code", type := 3, offset := 0, embedded := false, tag := "", pkgPath := "", byteOffset := 0 },
    { name := "Line", type := 3, offset := 1, embedded := false, tag := "", pkgPath := "", byteOffset := 8 }]) := opq Tryd.underlying38
@[simp ↓] theorem fld38_0 {q : Nat → TypeId → Prop} : goFld Tryd.prog 38 0 q = q 0 3 := by simp only [goFld, und38]; rfl
@[simp ↓] theorem fld38_1 {q : Nat → TypeId → Prop} : goFld Tryd.prog 38 1 q = q 1 3 := by simp only [goFld, und38]; rfl
@[simp ↓] theorem bld38 {q : List Value → List (Nat × Nat) → Prop} : goBld Tryd.prog 38 q = q [Go.Value.int Go.IntKind.i64 0, Go.Value.int Go.IntKind.i64 0] [(0, 1), (1, 1)] := by simp [goBld, und38, zer38, placesL, Value.cells]
theorem agg39 : aggT Tryd.prog 39 = some true := by unfold aggT; rw [Tryd.underlying39]; rfl
@[simp] theorem siz39 : szT Tryd.prog 39 = some 2 := by unfold szT; rw [show Tryd.prog.info? 39 = some Tryd.t39 from Tryd.type39]; rfl
@[simp ↓] theorem ty39 {q : Bool → Nat → Prop} : goTy Tryd.prog 39 q = q true 2 := by simp only [goTy, agg39, siz39]
@[simp ↓] theorem sz39 {q : Nat → Prop} : goSz Tryd.prog 39 q = q 2 := by simp only [goSz, siz39]
theorem zer39 : zero? Tryd.prog 39 = some (Go.Value.agg #[Go.Value.int Go.IntKind.i64 0, Go.Value.int Go.IntKind.i64 0]) := by unfold zero?; rw [show Tryd.prog.info? 39 = some Tryd.t39 from Tryd.type39]; rfl
@[simp ↓] theorem z39 {q : List Value → Prop} : goZ Tryd.prog 39 q = q [Go.Value.int Go.IntKind.i64 0, Go.Value.int Go.IntKind.i64 0] := by simp [goZ, zer39, Value.cells]
@[simp] theorem und39 : Tryd.prog.underlying 39 = some (Go.TypeDesc.struct
  #[{ name := "Code", type := 3, offset := 0, embedded := false, tag := "", pkgPath := "", byteOffset := 0 },
    { name := "Line", type := 3, offset := 1, embedded := false, tag := "", pkgPath := "", byteOffset := 8 }]) := opq Tryd.underlying39
@[simp ↓] theorem fld39_0 {q : Nat → TypeId → Prop} : goFld Tryd.prog 39 0 q = q 0 3 := by simp only [goFld, und39]; rfl
@[simp ↓] theorem fld39_1 {q : Nat → TypeId → Prop} : goFld Tryd.prog 39 1 q = q 1 3 := by simp only [goFld, und39]; rfl
@[simp ↓] theorem bld39 {q : List Value → List (Nat × Nat) → Prop} : goBld Tryd.prog 39 q = q [Go.Value.int Go.IntKind.i64 0, Go.Value.int Go.IntKind.i64 0] [(0, 1), (1, 1)] := by simp [goBld, und39, zer39, placesL, Value.cells]
theorem agg41 : aggT Tryd.prog 41 = some false := by unfold aggT; rw [Tryd.underlying41]; rfl
@[simp] theorem siz41 : szT Tryd.prog 41 = some 1 := by unfold szT; rw [show Tryd.prog.info? 41 = some Tryd.t41 from Tryd.type41]; rfl
@[simp ↓] theorem ty41 {q : Bool → Nat → Prop} : goTy Tryd.prog 41 q = q false 1 := by simp only [goTy, agg41, siz41]
@[simp ↓] theorem sz41 {q : Nat → Prop} : goSz Tryd.prog 41 q = q 1 := by simp only [goSz, siz41]
theorem zer41 : zero? Tryd.prog 41 = some Go.Value.nilFunc := by unfold zero?; rw [show Tryd.prog.info? 41 = some Tryd.t41 from Tryd.type41]; rfl
@[simp ↓] theorem z41 {q : List Value → Prop} : goZ Tryd.prog 41 q = q [Go.Value.nilFunc] := by simp [goZ, zer41, Value.cells]
theorem agg42 : aggT Tryd.prog 42 = some false := by unfold aggT; rw [Tryd.underlying42]; rfl
@[simp] theorem siz42 : szT Tryd.prog 42 = some 1 := by unfold szT; rw [show Tryd.prog.info? 42 = some Tryd.t42 from Tryd.type42]; rfl
@[simp ↓] theorem ty42 {q : Bool → Nat → Prop} : goTy Tryd.prog 42 q = q false 1 := by simp only [goTy, agg42, siz42]
@[simp ↓] theorem sz42 {q : Nat → Prop} : goSz Tryd.prog 42 q = q 1 := by simp only [goSz, siz42]
theorem zer42 : zero? Tryd.prog 42 = some Go.Value.nilFunc := by unfold zero?; rw [show Tryd.prog.info? 42 = some Tryd.t42 from Tryd.type42]; rfl
@[simp ↓] theorem z42 {q : List Value → Prop} : goZ Tryd.prog 42 q = q [Go.Value.nilFunc] := by simp [goZ, zer42, Value.cells]
theorem agg43 : aggT Tryd.prog 43 = some false := by unfold aggT; rw [Tryd.underlying43]; rfl
@[simp] theorem siz43 : szT Tryd.prog 43 = some 1 := by unfold szT; rw [show Tryd.prog.info? 43 = some Tryd.t43 from Tryd.type43]; rfl
@[simp ↓] theorem ty43 {q : Bool → Nat → Prop} : goTy Tryd.prog 43 q = q false 1 := by simp only [goTy, agg43, siz43]
@[simp ↓] theorem sz43 {q : Nat → Prop} : goSz Tryd.prog 43 q = q 1 := by simp only [goSz, siz43]
theorem zer43 : zero? Tryd.prog 43 = some Go.Value.nilFunc := by unfold zero?; rw [show Tryd.prog.info? 43 = some Tryd.t43 from Tryd.type43]; rfl
@[simp ↓] theorem z43 {q : List Value → Prop} : goZ Tryd.prog 43 q = q [Go.Value.nilFunc] := by simp [goZ, zer43, Value.cells]
theorem agg44 : aggT Tryd.prog 44 = some false := by unfold aggT; rw [Tryd.underlying44]; rfl
@[simp] theorem siz44 : szT Tryd.prog 44 = some 1 := by unfold szT; rw [show Tryd.prog.info? 44 = some Tryd.t44 from Tryd.type44]; rfl
@[simp ↓] theorem ty44 {q : Bool → Nat → Prop} : goTy Tryd.prog 44 q = q false 1 := by simp only [goTy, agg44, siz44]
@[simp ↓] theorem sz44 {q : Nat → Prop} : goSz Tryd.prog 44 q = q 1 := by simp only [goSz, siz44]
theorem zer44 : zero? Tryd.prog 44 = some (Go.Value.pointer none) := by unfold zero?; rw [show Tryd.prog.info? 44 = some Tryd.t44 from Tryd.type44]; rfl
@[simp ↓] theorem z44 {q : List Value → Prop} : goZ Tryd.prog 44 q = q [(Go.Value.pointer none)] := by simp [goZ, zer44, Value.cells]
@[simp] theorem und44 : Tryd.prog.underlying 44 = some (Go.TypeDesc.pointer 71) := opq Tryd.underlying44
@[simp ↓] theorem un44 {q : TypeDesc → Prop} : goUnd Tryd.prog 44 q = q (Go.TypeDesc.pointer 71) := by simp only [goUnd, und44]
theorem agg46 : aggT Tryd.prog 46 = some false := by unfold aggT; rw [Tryd.underlying46]; rfl
@[simp] theorem siz46 : szT Tryd.prog 46 = some 1 := by unfold szT; rw [show Tryd.prog.info? 46 = some Tryd.t46 from Tryd.type46]; rfl
@[simp ↓] theorem ty46 {q : Bool → Nat → Prop} : goTy Tryd.prog 46 q = q false 1 := by simp only [goTy, agg46, siz46]
@[simp ↓] theorem sz46 {q : Nat → Prop} : goSz Tryd.prog 46 q = q 1 := by simp only [goSz, siz46]
theorem zer46 : zero? Tryd.prog 46 = some Go.Value.nilFunc := by unfold zero?; rw [show Tryd.prog.info? 46 = some Tryd.t46 from Tryd.type46]; rfl
@[simp ↓] theorem z46 {q : List Value → Prop} : goZ Tryd.prog 46 q = q [Go.Value.nilFunc] := by simp [goZ, zer46, Value.cells]
theorem agg47 : aggT Tryd.prog 47 = some false := by unfold aggT; rw [Tryd.underlying47]; rfl
@[simp] theorem siz47 : szT Tryd.prog 47 = some 1 := by unfold szT; rw [show Tryd.prog.info? 47 = some Tryd.t47 from Tryd.type47]; rfl
@[simp ↓] theorem ty47 {q : Bool → Nat → Prop} : goTy Tryd.prog 47 q = q false 1 := by simp only [goTy, agg47, siz47]
@[simp ↓] theorem sz47 {q : Nat → Prop} : goSz Tryd.prog 47 q = q 1 := by simp only [goSz, siz47]
theorem zer47 : zero? Tryd.prog 47 = some Go.Value.nilFunc := by unfold zero?; rw [show Tryd.prog.info? 47 = some Tryd.t47 from Tryd.type47]; rfl
@[simp ↓] theorem z47 {q : List Value → Prop} : goZ Tryd.prog 47 q = q [Go.Value.nilFunc] := by simp [goZ, zer47, Value.cells]
theorem agg48 : aggT Tryd.prog 48 = some false := by unfold aggT; rw [Tryd.underlying48]; rfl
@[simp] theorem siz48 : szT Tryd.prog 48 = some 1 := by unfold szT; rw [show Tryd.prog.info? 48 = some Tryd.t48 from Tryd.type48]; rfl
@[simp ↓] theorem ty48 {q : Bool → Nat → Prop} : goTy Tryd.prog 48 q = q false 1 := by simp only [goTy, agg48, siz48]
@[simp ↓] theorem sz48 {q : Nat → Prop} : goSz Tryd.prog 48 q = q 1 := by simp only [goSz, siz48]
theorem zer48 : zero? Tryd.prog 48 = some Go.Value.nilFunc := by unfold zero?; rw [show Tryd.prog.info? 48 = some Tryd.t48 from Tryd.type48]; rfl
@[simp ↓] theorem z48 {q : List Value → Prop} : goZ Tryd.prog 48 q = q [Go.Value.nilFunc] := by simp [goZ, zer48, Value.cells]
theorem agg52 : aggT Tryd.prog 52 = some false := by unfold aggT; rw [Tryd.underlying52]; rfl
@[simp] theorem siz52 : szT Tryd.prog 52 = some 1 := by unfold szT; rw [show Tryd.prog.info? 52 = some Tryd.t52 from Tryd.type52]; rfl
@[simp ↓] theorem ty52 {q : Bool → Nat → Prop} : goTy Tryd.prog 52 q = q false 1 := by simp only [goTy, agg52, siz52]
@[simp ↓] theorem sz52 {q : Nat → Prop} : goSz Tryd.prog 52 q = q 1 := by simp only [goSz, siz52]
theorem zer52 : zero? Tryd.prog 52 = some Go.Value.nilFunc := by unfold zero?; rw [show Tryd.prog.info? 52 = some Tryd.t52 from Tryd.type52]; rfl
@[simp ↓] theorem z52 {q : List Value → Prop} : goZ Tryd.prog 52 q = q [Go.Value.nilFunc] := by simp [goZ, zer52, Value.cells]
theorem agg53 : aggT Tryd.prog 53 = some false := by unfold aggT; rw [Tryd.underlying53]; rfl
@[simp] theorem siz53 : szT Tryd.prog 53 = some 1 := by unfold szT; rw [show Tryd.prog.info? 53 = some Tryd.t53 from Tryd.type53]; rfl
@[simp ↓] theorem ty53 {q : Bool → Nat → Prop} : goTy Tryd.prog 53 q = q false 1 := by simp only [goTy, agg53, siz53]
@[simp ↓] theorem sz53 {q : Nat → Prop} : goSz Tryd.prog 53 q = q 1 := by simp only [goSz, siz53]
theorem zer53 : zero? Tryd.prog 53 = some Go.Value.nilFunc := by unfold zero?; rw [show Tryd.prog.info? 53 = some Tryd.t53 from Tryd.type53]; rfl
@[simp ↓] theorem z53 {q : List Value → Prop} : goZ Tryd.prog 53 q = q [Go.Value.nilFunc] := by simp [goZ, zer53, Value.cells]
theorem agg54 : aggT Tryd.prog 54 = some false := by unfold aggT; rw [Tryd.underlying54]; rfl
@[simp] theorem siz54 : szT Tryd.prog 54 = some 1 := by unfold szT; rw [show Tryd.prog.info? 54 = some Tryd.t54 from Tryd.type54]; rfl
@[simp ↓] theorem ty54 {q : Bool → Nat → Prop} : goTy Tryd.prog 54 q = q false 1 := by simp only [goTy, agg54, siz54]
@[simp ↓] theorem sz54 {q : Nat → Prop} : goSz Tryd.prog 54 q = q 1 := by simp only [goSz, siz54]
theorem zer54 : zero? Tryd.prog 54 = some (Go.Value.pointer none) := by unfold zero?; rw [show Tryd.prog.info? 54 = some Tryd.t54 from Tryd.type54]; rfl
@[simp ↓] theorem z54 {q : List Value → Prop} : goZ Tryd.prog 54 q = q [(Go.Value.pointer none)] := by simp [goZ, zer54, Value.cells]
@[simp] theorem und54 : Tryd.prog.underlying 54 = some (Go.TypeDesc.pointer 56) := opq Tryd.underlying54
@[simp ↓] theorem un54 {q : TypeDesc → Prop} : goUnd Tryd.prog 54 q = q (Go.TypeDesc.pointer 56) := by simp only [goUnd, und54]
theorem agg56 : aggT Tryd.prog 56 = some true := by unfold aggT; rw [Tryd.underlying56]; rfl
@[simp] theorem siz56 : szT Tryd.prog 56 = some 2 := by unfold szT; rw [show Tryd.prog.info? 56 = some Tryd.t56 from Tryd.type56]; rfl
@[simp ↓] theorem ty56 {q : Bool → Nat → Prop} : goTy Tryd.prog 56 q = q true 2 := by simp only [goTy, agg56, siz56]
@[simp ↓] theorem sz56 {q : Nat → Prop} : goSz Tryd.prog 56 q = q 2 := by simp only [goSz, siz56]
theorem zer56 : zero? Tryd.prog 56 = some (Go.Value.agg #[Go.Value.pointer none, Go.Value.slice none 0 0]) := by unfold zero?; rw [show Tryd.prog.info? 56 = some Tryd.t56 from Tryd.type56]; rfl
@[simp ↓] theorem z56 {q : List Value → Prop} : goZ Tryd.prog 56 q = q [Go.Value.pointer none, Go.Value.slice none 0 0] := by simp [goZ, zer56, Value.cells]
@[simp] theorem und56 : Tryd.prog.underlying 56 = some (Go.TypeDesc.struct
  #[{ name := "addr", type := 54, offset := 0, embedded := false, tag := "", pkgPath := "strings", byteOffset := 0 },
    { name := "buf", type := 22, offset := 1, embedded := false, tag := "", pkgPath := "strings", byteOffset := 8 }]) := opq Tryd.underlying56
@[simp ↓] theorem fld56_0 {q : Nat → TypeId → Prop} : goFld Tryd.prog 56 0 q = q 0 54 := by simp only [goFld, und56]; rfl
@[simp ↓] theorem fld56_1 {q : Nat → TypeId → Prop} : goFld Tryd.prog 56 1 q = q 1 22 := by simp only [goFld, und56]; rfl
@[simp ↓] theorem bld56 {q : List Value → List (Nat × Nat) → Prop} : goBld Tryd.prog 56 q = q [Go.Value.pointer none, Go.Value.slice none 0 0] [(0, 1), (1, 1)] := by simp [goBld, und56, zer56, placesL, Value.cells]
theorem agg57 : aggT Tryd.prog 57 = some true := by unfold aggT; rw [Tryd.underlying57]; rfl
@[simp] theorem siz57 : szT Tryd.prog 57 = some 3 := by unfold szT; rw [show Tryd.prog.info? 57 = some Tryd.t57 from Tryd.type57]; rfl
@[simp ↓] theorem ty57 {q : Bool → Nat → Prop} : goTy Tryd.prog 57 q = q true 3 := by simp only [goTy, agg57, siz57]
@[simp ↓] theorem sz57 {q : Nat → Prop} : goSz Tryd.prog 57 q = q 3 := by simp only [goSz, siz57]
theorem zer57 : zero? Tryd.prog 57 = some (Go.Value.agg #[Go.Value.int Go.IntKind.i64 0, Go.Value.string { data := #[] }, Go.Value.int Go.IntKind.i64 0]) := by unfold zero?; rw [show Tryd.prog.info? 57 = some Tryd.t57 from Tryd.type57]; rfl
@[simp ↓] theorem z57 {q : List Value → Prop} : goZ Tryd.prog 57 q = q [Go.Value.int Go.IntKind.i64 0, Go.Value.string { data := #[] }, Go.Value.int Go.IntKind.i64 0] := by simp [goZ, zer57, Value.cells]
@[simp] theorem und57 : Tryd.prog.underlying 57 = some (Go.TypeDesc.struct
  #[{ name := "Op", type := 3, offset := 0, embedded := false, tag := "", pkgPath := "", byteOffset := 0 },
    { name := "Text", type := 9, offset := 1, embedded := false, tag := "", pkgPath := "", byteOffset := 8 },
    { name := "N", type := 3, offset := 2, embedded := false, tag := "", pkgPath := "", byteOffset := 24 }]) := opq Tryd.underlying57
@[simp ↓] theorem fld57_0 {q : Nat → TypeId → Prop} : goFld Tryd.prog 57 0 q = q 0 3 := by simp only [goFld, und57]; rfl
@[simp ↓] theorem fld57_1 {q : Nat → TypeId → Prop} : goFld Tryd.prog 57 1 q = q 1 9 := by simp only [goFld, und57]; rfl
@[simp ↓] theorem fld57_2 {q : Nat → TypeId → Prop} : goFld Tryd.prog 57 2 q = q 2 3 := by simp only [goFld, und57]; rfl
@[simp ↓] theorem bld57 {q : List Value → List (Nat × Nat) → Prop} : goBld Tryd.prog 57 q = q [Go.Value.int Go.IntKind.i64 0, Go.Value.string { data := #[] }, Go.Value.int Go.IntKind.i64 0] [(0, 1), (1, 1), (2, 1)] := by simp [goBld, und57, zer57, placesL, Value.cells]
theorem agg58 : aggT Tryd.prog 58 = some true := by unfold aggT; rw [Tryd.underlying58]; rfl
@[simp] theorem siz58 : szT Tryd.prog 58 = some 3 := by unfold szT; rw [show Tryd.prog.info? 58 = some Tryd.t58 from Tryd.type58]; rfl
@[simp ↓] theorem ty58 {q : Bool → Nat → Prop} : goTy Tryd.prog 58 q = q true 3 := by simp only [goTy, agg58, siz58]
@[simp ↓] theorem sz58 {q : Nat → Prop} : goSz Tryd.prog 58 q = q 3 := by simp only [goSz, siz58]
theorem zer58 : zero? Tryd.prog 58 = some (Go.Value.agg #[Go.Value.int Go.IntKind.i64 0, Go.Value.string { data := #[] }, Go.Value.int Go.IntKind.i64 0]) := by unfold zero?; rw [show Tryd.prog.info? 58 = some Tryd.t58 from Tryd.type58]; rfl
@[simp ↓] theorem z58 {q : List Value → Prop} : goZ Tryd.prog 58 q = q [Go.Value.int Go.IntKind.i64 0, Go.Value.string { data := #[] }, Go.Value.int Go.IntKind.i64 0] := by simp [goZ, zer58, Value.cells]
@[simp] theorem und58 : Tryd.prog.underlying 58 = some (Go.TypeDesc.struct
  #[{ name := "Op", type := 3, offset := 0, embedded := false, tag := "", pkgPath := "", byteOffset := 0 },
    { name := "Text", type := 9, offset := 1, embedded := false, tag := "", pkgPath := "", byteOffset := 8 },
    { name := "N", type := 3, offset := 2, embedded := false, tag := "", pkgPath := "", byteOffset := 24 }]) := opq Tryd.underlying58
@[simp ↓] theorem fld58_0 {q : Nat → TypeId → Prop} : goFld Tryd.prog 58 0 q = q 0 3 := by simp only [goFld, und58]; rfl
@[simp ↓] theorem fld58_1 {q : Nat → TypeId → Prop} : goFld Tryd.prog 58 1 q = q 1 9 := by simp only [goFld, und58]; rfl
@[simp ↓] theorem fld58_2 {q : Nat → TypeId → Prop} : goFld Tryd.prog 58 2 q = q 2 3 := by simp only [goFld, und58]; rfl
@[simp ↓] theorem bld58 {q : List Value → List (Nat × Nat) → Prop} : goBld Tryd.prog 58 q = q [Go.Value.int Go.IntKind.i64 0, Go.Value.string { data := #[] }, Go.Value.int Go.IntKind.i64 0] [(0, 1), (1, 1), (2, 1)] := by simp [goBld, und58, zer58, placesL, Value.cells]
theorem agg59 : aggT Tryd.prog 59 = some false := by unfold aggT; rw [Tryd.underlying59]; rfl
@[simp] theorem siz59 : szT Tryd.prog 59 = some 1 := by unfold szT; rw [show Tryd.prog.info? 59 = some Tryd.t59 from Tryd.type59]; rfl
@[simp ↓] theorem ty59 {q : Bool → Nat → Prop} : goTy Tryd.prog 59 q = q false 1 := by simp only [goTy, agg59, siz59]
@[simp ↓] theorem sz59 {q : Nat → Prop} : goSz Tryd.prog 59 q = q 1 := by simp only [goSz, siz59]
theorem zer59 : zero? Tryd.prog 59 = some Go.Value.nilIface := by unfold zero?; rw [show Tryd.prog.info? 59 = some Tryd.t59 from Tryd.type59]; rfl
@[simp ↓] theorem z59 {q : List Value → Prop} : goZ Tryd.prog 59 q = q [Go.Value.nilIface] := by simp [goZ, zer59, Value.cells]
theorem agg60 : aggT Tryd.prog 60 = some false := by unfold aggT; rw [Tryd.underlying60]; rfl
@[simp] theorem siz60 : szT Tryd.prog 60 = some 1 := by unfold szT; rw [show Tryd.prog.info? 60 = some Tryd.t60 from Tryd.type60]; rfl
@[simp ↓] theorem ty60 {q : Bool → Nat → Prop} : goTy Tryd.prog 60 q = q false 1 := by simp only [goTy, agg60, siz60]
@[simp ↓] theorem sz60 {q : Nat → Prop} : goSz Tryd.prog 60 q = q 1 := by simp only [goSz, siz60]
theorem zer60 : zero? Tryd.prog 60 = some Go.Value.nilIface := by unfold zero?; rw [show Tryd.prog.info? 60 = some Tryd.t60 from Tryd.type60]; rfl
@[simp ↓] theorem z60 {q : List Value → Prop} : goZ Tryd.prog 60 q = q [Go.Value.nilIface] := by simp [goZ, zer60, Value.cells]
theorem agg65 : aggT Tryd.prog 65 = some false := by unfold aggT; rw [Tryd.underlying65]; rfl
@[simp] theorem siz65 : szT Tryd.prog 65 = some 1 := by unfold szT; rw [show Tryd.prog.info? 65 = some Tryd.t65 from Tryd.type65]; rfl
@[simp ↓] theorem ty65 {q : Bool → Nat → Prop} : goTy Tryd.prog 65 q = q false 1 := by simp only [goTy, agg65, siz65]
@[simp ↓] theorem sz65 {q : Nat → Prop} : goSz Tryd.prog 65 q = q 1 := by simp only [goSz, siz65]
theorem zer65 : zero? Tryd.prog 65 = some Go.Value.nilFunc := by unfold zero?; rw [show Tryd.prog.info? 65 = some Tryd.t65 from Tryd.type65]; rfl
@[simp ↓] theorem z65 {q : List Value → Prop} : goZ Tryd.prog 65 q = q [Go.Value.nilFunc] := by simp [goZ, zer65, Value.cells]
theorem agg67 : aggT Tryd.prog 67 = some false := by unfold aggT; rw [Tryd.underlying67]; rfl
@[simp] theorem siz67 : szT Tryd.prog 67 = some 1 := by unfold szT; rw [show Tryd.prog.info? 67 = some Tryd.t67 from Tryd.type67]; rfl
@[simp ↓] theorem ty67 {q : Bool → Nat → Prop} : goTy Tryd.prog 67 q = q false 1 := by simp only [goTy, agg67, siz67]
@[simp ↓] theorem sz67 {q : Nat → Prop} : goSz Tryd.prog 67 q = q 1 := by simp only [goSz, siz67]
theorem zer67 : zero? Tryd.prog 67 = some Go.Value.nilFunc := by unfold zero?; rw [show Tryd.prog.info? 67 = some Tryd.t67 from Tryd.type67]; rfl
@[simp ↓] theorem z67 {q : List Value → Prop} : goZ Tryd.prog 67 q = q [Go.Value.nilFunc] := by simp [goZ, zer67, Value.cells]
theorem agg71 : aggT Tryd.prog 71 = some true := by unfold aggT; rw [Tryd.underlying71]; rfl
@[simp] theorem siz71 : szT Tryd.prog 71 = some 2 := by unfold szT; rw [show Tryd.prog.info? 71 = some Tryd.t71 from Tryd.type71]; rfl
@[simp ↓] theorem ty71 {q : Bool → Nat → Prop} : goTy Tryd.prog 71 q = q true 2 := by simp only [goTy, agg71, siz71]
@[simp ↓] theorem sz71 {q : Nat → Prop} : goSz Tryd.prog 71 q = q 2 := by simp only [goSz, siz71]
theorem zer71 : zero? Tryd.prog 71 = some (Go.Value.agg #[Go.Value.slice none 0 0, Go.Value.int Go.IntKind.i64 0]) := by unfold zero?; rw [show Tryd.prog.info? 71 = some Tryd.t71 from Tryd.type71]; rfl
@[simp ↓] theorem z71 {q : List Value → Prop} : goZ Tryd.prog 71 q = q [Go.Value.slice none 0 0, Go.Value.int Go.IntKind.i64 0] := by simp [goZ, zer71, Value.cells]
@[simp] theorem und71 : Tryd.prog.underlying 71 = some (Go.TypeDesc.struct
  #[{ name := "b", type := 22, offset := 0, embedded := false, tag := "", pkgPath := "loop.example/kilndeed/spec",
      byteOffset := 0 },
    { name := "p", type := 3, offset := 1, embedded := false, tag := "", pkgPath := "loop.example/kilndeed/spec",
      byteOffset := 24 }]) := opq Tryd.underlying71
@[simp ↓] theorem fld71_0 {q : Nat → TypeId → Prop} : goFld Tryd.prog 71 0 q = q 0 22 := by simp only [goFld, und71]; rfl
@[simp ↓] theorem fld71_1 {q : Nat → TypeId → Prop} : goFld Tryd.prog 71 1 q = q 1 3 := by simp only [goFld, und71]; rfl
@[simp ↓] theorem bld71 {q : List Value → List (Nat × Nat) → Prop} : goBld Tryd.prog 71 q = q [Go.Value.slice none 0 0, Go.Value.int Go.IntKind.i64 0] [(0, 1), (1, 1)] := by simp [goBld, und71, zer71, placesL, Value.cells]
theorem agg77 : aggT Tryd.prog 77 = some false := by unfold aggT; rw [Tryd.underlying77]; rfl
@[simp] theorem siz77 : szT Tryd.prog 77 = some 1 := by unfold szT; rw [show Tryd.prog.info? 77 = some Tryd.t77 from Tryd.type77]; rfl
@[simp ↓] theorem ty77 {q : Bool → Nat → Prop} : goTy Tryd.prog 77 q = q false 1 := by simp only [goTy, agg77, siz77]
@[simp ↓] theorem sz77 {q : Nat → Prop} : goSz Tryd.prog 77 q = q 1 := by simp only [goSz, siz77]
theorem zer77 : zero? Tryd.prog 77 = some (Go.Value.slice none 0 0) := by unfold zero?; rw [show Tryd.prog.info? 77 = some Tryd.t77 from Tryd.type77]; rfl
@[simp ↓] theorem z77 {q : List Value → Prop} : goZ Tryd.prog 77 q = q [(Go.Value.slice none 0 0)] := by simp [goZ, zer77, Value.cells]
@[simp] theorem und77 : Tryd.prog.underlying 77 = some (Go.TypeDesc.slice 3) := opq Tryd.underlying77
@[simp ↓] theorem un77 {q : TypeDesc → Prop} : goUnd Tryd.prog 77 q = q (Go.TypeDesc.slice 3) := by simp only [goUnd, und77]
theorem slt77 : SlT Tryd.prog 77 3 1 8 := ⟨Tryd.underlying77, ⟨Tryd.t3, _, Tryd.type3, rfl, rfl, rfl, by simp, rfl⟩, by decide⟩
@[simp ↓] theorem sl77 {q : TypeId → Nat → List Value → Prop} : goSl Tryd.prog 77 q = q 3 1 [(Go.Value.int Go.IntKind.i64 0)] := by simp [goSl, und77, show zero? Tryd.prog 3 = some (Go.Value.int Go.IntKind.i64 0) from by unfold zero?; rw [show Tryd.prog.info? 3 = some Tryd.t3 from Tryd.type3]; rfl, show szT Tryd.prog 3 = some 1 from by unfold szT; rw [show Tryd.prog.info? 3 = some Tryd.t3 from Tryd.type3]; rfl, Value.cells]
theorem agg79 : aggT Tryd.prog 79 = some false := by unfold aggT; rw [Tryd.underlying79]; rfl
@[simp] theorem siz79 : szT Tryd.prog 79 = some 1 := by unfold szT; rw [show Tryd.prog.info? 79 = some Tryd.t79 from Tryd.type79]; rfl
@[simp ↓] theorem ty79 {q : Bool → Nat → Prop} : goTy Tryd.prog 79 q = q false 1 := by simp only [goTy, agg79, siz79]
@[simp ↓] theorem sz79 {q : Nat → Prop} : goSz Tryd.prog 79 q = q 1 := by simp only [goSz, siz79]
theorem zer79 : zero? Tryd.prog 79 = some (Go.Value.pointer none) := by unfold zero?; rw [show Tryd.prog.info? 79 = some Tryd.t79 from Tryd.type79]; rfl
@[simp ↓] theorem z79 {q : List Value → Prop} : goZ Tryd.prog 79 q = q [(Go.Value.pointer none)] := by simp [goZ, zer79, Value.cells]
@[simp] theorem und79 : Tryd.prog.underlying 79 = some (Go.TypeDesc.pointer 5) := opq Tryd.underlying79
@[simp ↓] theorem un79 {q : TypeDesc → Prop} : goUnd Tryd.prog 79 q = q (Go.TypeDesc.pointer 5) := by simp only [goUnd, und79]
theorem agg87 : aggT Tryd.prog 87 = some false := by unfold aggT; rw [Tryd.underlying87]; rfl
@[simp] theorem siz87 : szT Tryd.prog 87 = some 1 := by unfold szT; rw [show Tryd.prog.info? 87 = some Tryd.t87 from Tryd.type87]; rfl
@[simp ↓] theorem ty87 {q : Bool → Nat → Prop} : goTy Tryd.prog 87 q = q false 1 := by simp only [goTy, agg87, siz87]
@[simp ↓] theorem sz87 {q : Nat → Prop} : goSz Tryd.prog 87 q = q 1 := by simp only [goSz, siz87]
theorem zer87 : zero? Tryd.prog 87 = some (Go.Value.pointer none) := by unfold zero?; rw [show Tryd.prog.info? 87 = some Tryd.t87 from Tryd.type87]; rfl
@[simp ↓] theorem z87 {q : List Value → Prop} : goZ Tryd.prog 87 q = q [(Go.Value.pointer none)] := by simp [goZ, zer87, Value.cells]
@[simp] theorem und87 : Tryd.prog.underlying 87 = some (Go.TypeDesc.unsafePointer) := opq Tryd.underlying87
@[simp ↓] theorem un87 {q : TypeDesc → Prop} : goUnd Tryd.prog 87 q = q (Go.TypeDesc.unsafePointer) := by simp only [goUnd, und87]
theorem agg89 : aggT Tryd.prog 89 = some false := by unfold aggT; rw [Tryd.underlying89]; rfl
@[simp] theorem siz89 : szT Tryd.prog 89 = some 1 := by unfold szT; rw [show Tryd.prog.info? 89 = some Tryd.t89 from Tryd.type89]; rfl
@[simp ↓] theorem ty89 {q : Bool → Nat → Prop} : goTy Tryd.prog 89 q = q false 1 := by simp only [goTy, agg89, siz89]
@[simp ↓] theorem sz89 {q : Nat → Prop} : goSz Tryd.prog 89 q = q 1 := by simp only [goSz, siz89]
theorem zer89 : zero? Tryd.prog 89 = some (Go.Value.int Go.IntKind.u64 0) := by unfold zero?; rw [show Tryd.prog.info? 89 = some Tryd.t89 from Tryd.type89]; rfl
@[simp ↓] theorem z89 {q : List Value → Prop} : goZ Tryd.prog 89 q = q [(Go.Value.int Go.IntKind.u64 0)] := by simp [goZ, zer89, Value.cells]
@[simp] theorem und89 : Tryd.prog.underlying 89 = some (Go.TypeDesc.int Go.IntKind.u64) := opq Tryd.underlying89
@[simp ↓] theorem un89 {q : TypeDesc → Prop} : goUnd Tryd.prog 89 q = q (Go.TypeDesc.int Go.IntKind.u64) := by simp only [goUnd, und89]
theorem agg91 : aggT Tryd.prog 91 = some false := by unfold aggT; rw [Tryd.underlying91]; rfl
@[simp] theorem siz91 : szT Tryd.prog 91 = some 1 := by unfold szT; rw [show Tryd.prog.info? 91 = some Tryd.t91 from Tryd.type91]; rfl
@[simp ↓] theorem ty91 {q : Bool → Nat → Prop} : goTy Tryd.prog 91 q = q false 1 := by simp only [goTy, agg91, siz91]
@[simp ↓] theorem sz91 {q : Nat → Prop} : goSz Tryd.prog 91 q = q 1 := by simp only [goSz, siz91]
theorem zer91 : zero? Tryd.prog 91 = some (Go.Value.int Go.IntKind.u64 0) := by unfold zero?; rw [show Tryd.prog.info? 91 = some Tryd.t91 from Tryd.type91]; rfl
@[simp ↓] theorem z91 {q : List Value → Prop} : goZ Tryd.prog 91 q = q [(Go.Value.int Go.IntKind.u64 0)] := by simp [goZ, zer91, Value.cells]
@[simp] theorem und91 : Tryd.prog.underlying 91 = some (Go.TypeDesc.int Go.IntKind.u64) := opq Tryd.underlying91
@[simp ↓] theorem un91 {q : TypeDesc → Prop} : goUnd Tryd.prog 91 q = q (Go.TypeDesc.int Go.IntKind.u64) := by simp only [goUnd, und91]
theorem agg95 : aggT Tryd.prog 95 = some false := by unfold aggT; rw [Tryd.underlying95]; rfl
@[simp] theorem siz95 : szT Tryd.prog 95 = some 1 := by unfold szT; rw [show Tryd.prog.info? 95 = some Tryd.t95 from Tryd.type95]; rfl
@[simp ↓] theorem ty95 {q : Bool → Nat → Prop} : goTy Tryd.prog 95 q = q false 1 := by simp only [goTy, agg95, siz95]
@[simp ↓] theorem sz95 {q : Nat → Prop} : goSz Tryd.prog 95 q = q 1 := by simp only [goSz, siz95]
theorem zer95 : zero? Tryd.prog 95 = some Go.Value.nilFunc := by unfold zero?; rw [show Tryd.prog.info? 95 = some Tryd.t95 from Tryd.type95]; rfl
@[simp ↓] theorem z95 {q : List Value → Prop} : goZ Tryd.prog 95 q = q [Go.Value.nilFunc] := by simp [goZ, zer95, Value.cells]
theorem agg98 : aggT Tryd.prog 98 = some false := by unfold aggT; rw [Tryd.underlying98]; rfl
@[simp] theorem siz98 : szT Tryd.prog 98 = some 1 := by unfold szT; rw [show Tryd.prog.info? 98 = some Tryd.t98 from Tryd.type98]; rfl
@[simp ↓] theorem ty98 {q : Bool → Nat → Prop} : goTy Tryd.prog 98 q = q false 1 := by simp only [goTy, agg98, siz98]
@[simp ↓] theorem sz98 {q : Nat → Prop} : goSz Tryd.prog 98 q = q 1 := by simp only [goSz, siz98]
theorem zer98 : zero? Tryd.prog 98 = some Go.Value.nilFunc := by unfold zero?; rw [show Tryd.prog.info? 98 = some Tryd.t98 from Tryd.type98]; rfl
@[simp ↓] theorem z98 {q : List Value → Prop} : goZ Tryd.prog 98 q = q [Go.Value.nilFunc] := by simp [goZ, zer98, Value.cells]
theorem agg99 : aggT Tryd.prog 99 = some false := by unfold aggT; rw [Tryd.underlying99]; rfl
@[simp] theorem siz99 : szT Tryd.prog 99 = some 1 := by unfold szT; rw [show Tryd.prog.info? 99 = some Tryd.t99 from Tryd.type99]; rfl
@[simp ↓] theorem ty99 {q : Bool → Nat → Prop} : goTy Tryd.prog 99 q = q false 1 := by simp only [goTy, agg99, siz99]
@[simp ↓] theorem sz99 {q : Nat → Prop} : goSz Tryd.prog 99 q = q 1 := by simp only [goSz, siz99]
theorem zer99 : zero? Tryd.prog 99 = some Go.Value.nilFunc := by unfold zero?; rw [show Tryd.prog.info? 99 = some Tryd.t99 from Tryd.type99]; rfl
@[simp ↓] theorem z99 {q : List Value → Prop} : goZ Tryd.prog 99 q = q [Go.Value.nilFunc] := by simp [goZ, zer99, Value.cells]
theorem agg102 : aggT Tryd.prog 102 = some true := by unfold aggT; rw [Tryd.underlying102]; rfl
@[simp] theorem siz102 : szT Tryd.prog 102 = some 20 := by unfold szT; rw [show Tryd.prog.info? 102 = some Tryd.t102 from Tryd.type102]; rfl
@[simp ↓] theorem ty102 {q : Bool → Nat → Prop} : goTy Tryd.prog 102 q = q true 20 := by simp only [goTy, agg102, siz102]
@[simp ↓] theorem sz102 {q : Nat → Prop} : goSz Tryd.prog 102 q = q 20 := by simp only [goSz, siz102]
theorem zer102 : zero? Tryd.prog 102 = some
  (Go.Value.agg
    #[Go.Value.int Go.IntKind.u64 0, Go.Value.int Go.IntKind.u64 0, Go.Value.int Go.IntKind.u64 0,
      Go.Value.int Go.IntKind.u64 0, Go.Value.int Go.IntKind.u64 0, Go.Value.int Go.IntKind.u64 0,
      Go.Value.int Go.IntKind.u64 0, Go.Value.int Go.IntKind.u64 0, Go.Value.int Go.IntKind.u64 0,
      Go.Value.int Go.IntKind.u64 0, Go.Value.int Go.IntKind.u64 0, Go.Value.int Go.IntKind.u64 0,
      Go.Value.int Go.IntKind.u64 0, Go.Value.int Go.IntKind.u64 0, Go.Value.int Go.IntKind.u64 0,
      Go.Value.int Go.IntKind.u64 0, Go.Value.int Go.IntKind.u64 0, Go.Value.int Go.IntKind.u64 0,
      Go.Value.int Go.IntKind.u64 0, Go.Value.int Go.IntKind.u64 0]) := by unfold zero?; rw [show Tryd.prog.info? 102 = some Tryd.t102 from Tryd.type102]; rfl
@[simp ↓] theorem z102 {q : List Value → Prop} : goZ Tryd.prog 102 q = q [Go.Value.int Go.IntKind.u64 0, Go.Value.int Go.IntKind.u64 0, Go.Value.int Go.IntKind.u64 0,
      Go.Value.int Go.IntKind.u64 0, Go.Value.int Go.IntKind.u64 0, Go.Value.int Go.IntKind.u64 0,
      Go.Value.int Go.IntKind.u64 0, Go.Value.int Go.IntKind.u64 0, Go.Value.int Go.IntKind.u64 0,
      Go.Value.int Go.IntKind.u64 0, Go.Value.int Go.IntKind.u64 0, Go.Value.int Go.IntKind.u64 0,
      Go.Value.int Go.IntKind.u64 0, Go.Value.int Go.IntKind.u64 0, Go.Value.int Go.IntKind.u64 0,
      Go.Value.int Go.IntKind.u64 0, Go.Value.int Go.IntKind.u64 0, Go.Value.int Go.IntKind.u64 0,
      Go.Value.int Go.IntKind.u64 0, Go.Value.int Go.IntKind.u64 0] := by simp [goZ, zer102, Value.cells]
@[simp] theorem und102 : Tryd.prog.underlying 102 = some (Go.TypeDesc.array 20 91) := opq Tryd.underlying102
@[simp ↓] theorem un102 {q : TypeDesc → Prop} : goUnd Tryd.prog 102 q = q (Go.TypeDesc.array 20 91) := by simp only [goUnd, und102]
theorem agg103 : aggT Tryd.prog 103 = some false := by unfold aggT; rw [Tryd.underlying103]; rfl
@[simp] theorem siz103 : szT Tryd.prog 103 = some 1 := by unfold szT; rw [show Tryd.prog.info? 103 = some Tryd.t103 from Tryd.type103]; rfl
@[simp ↓] theorem ty103 {q : Bool → Nat → Prop} : goTy Tryd.prog 103 q = q false 1 := by simp only [goTy, agg103, siz103]
@[simp ↓] theorem sz103 {q : Nat → Prop} : goSz Tryd.prog 103 q = q 1 := by simp only [goSz, siz103]
theorem zer103 : zero? Tryd.prog 103 = some (Go.Value.int Go.IntKind.u32 0) := by unfold zero?; rw [show Tryd.prog.info? 103 = some Tryd.t103 from Tryd.type103]; rfl
@[simp ↓] theorem z103 {q : List Value → Prop} : goZ Tryd.prog 103 q = q [(Go.Value.int Go.IntKind.u32 0)] := by simp [goZ, zer103, Value.cells]
@[simp] theorem und103 : Tryd.prog.underlying 103 = some (Go.TypeDesc.int Go.IntKind.u32) := opq Tryd.underlying103
@[simp ↓] theorem un103 {q : TypeDesc → Prop} : goUnd Tryd.prog 103 q = q (Go.TypeDesc.int Go.IntKind.u32) := by simp only [goUnd, und103]
theorem agg109 : aggT Tryd.prog 109 = some false := by unfold aggT; rw [Tryd.underlying109]; rfl
@[simp] theorem siz109 : szT Tryd.prog 109 = some 1 := by unfold szT; rw [show Tryd.prog.info? 109 = some Tryd.t109 from Tryd.type109]; rfl
@[simp ↓] theorem ty109 {q : Bool → Nat → Prop} : goTy Tryd.prog 109 q = q false 1 := by simp only [goTy, agg109, siz109]
@[simp ↓] theorem sz109 {q : Nat → Prop} : goSz Tryd.prog 109 q = q 1 := by simp only [goSz, siz109]
theorem zer109 : zero? Tryd.prog 109 = some (Go.Value.int Go.IntKind.i64 0) := by unfold zero?; rw [show Tryd.prog.info? 109 = some Tryd.t109 from Tryd.type109]; rfl
@[simp ↓] theorem z109 {q : List Value → Prop} : goZ Tryd.prog 109 q = q [(Go.Value.int Go.IntKind.i64 0)] := by simp [goZ, zer109, Value.cells]
@[simp] theorem und109 : Tryd.prog.underlying 109 = some (Go.TypeDesc.int Go.IntKind.i64) := opq Tryd.underlying109
@[simp ↓] theorem un109 {q : TypeDesc → Prop} : goUnd Tryd.prog 109 q = q (Go.TypeDesc.int Go.IntKind.i64) := by simp only [goUnd, und109]
theorem agg111 : aggT Tryd.prog 111 = some false := by unfold aggT; rw [Tryd.underlying111]; rfl
@[simp] theorem siz111 : szT Tryd.prog 111 = some 1 := by unfold szT; rw [show Tryd.prog.info? 111 = some Tryd.t111 from Tryd.type111]; rfl
@[simp ↓] theorem ty111 {q : Bool → Nat → Prop} : goTy Tryd.prog 111 q = q false 1 := by simp only [goTy, agg111, siz111]
@[simp ↓] theorem sz111 {q : Nat → Prop} : goSz Tryd.prog 111 q = q 1 := by simp only [goSz, siz111]
theorem zer111 : zero? Tryd.prog 111 = some Go.Value.nilFunc := by unfold zero?; rw [show Tryd.prog.info? 111 = some Tryd.t111 from Tryd.type111]; rfl
@[simp ↓] theorem z111 {q : List Value → Prop} : goZ Tryd.prog 111 q = q [Go.Value.nilFunc] := by simp [goZ, zer111, Value.cells]
theorem agg120 : aggT Tryd.prog 120 = some false := by unfold aggT; rw [Tryd.underlying120]; rfl
@[simp] theorem siz120 : szT Tryd.prog 120 = some 1 := by unfold szT; rw [show Tryd.prog.info? 120 = some Tryd.t120 from Tryd.type120]; rfl
@[simp ↓] theorem ty120 {q : Bool → Nat → Prop} : goTy Tryd.prog 120 q = q false 1 := by simp only [goTy, agg120, siz120]
@[simp ↓] theorem sz120 {q : Nat → Prop} : goSz Tryd.prog 120 q = q 1 := by simp only [goSz, siz120]
theorem zer120 : zero? Tryd.prog 120 = some Go.Value.nilFunc := by unfold zero?; rw [show Tryd.prog.info? 120 = some Tryd.t120 from Tryd.type120]; rfl
@[simp ↓] theorem z120 {q : List Value → Prop} : goZ Tryd.prog 120 q = q [Go.Value.nilFunc] := by simp [goZ, zer120, Value.cells]
theorem agg122 : aggT Tryd.prog 122 = some true := by unfold aggT; rw [Tryd.underlying122]; rfl
@[simp] theorem siz122 : szT Tryd.prog 122 = some 64 := by unfold szT; rw [show Tryd.prog.info? 122 = some Tryd.t122 from Tryd.type122]; rfl
@[simp ↓] theorem ty122 {q : Bool → Nat → Prop} : goTy Tryd.prog 122 q = q true 64 := by simp only [goTy, agg122, siz122]
@[simp ↓] theorem sz122 {q : Nat → Prop} : goSz Tryd.prog 122 q = q 64 := by simp only [goSz, siz122]
@[simp] theorem und122 : Tryd.prog.underlying 122 = some (Go.TypeDesc.array 64 5) := opq Tryd.underlying122
@[simp ↓] theorem un122 {q : TypeDesc → Prop} : goUnd Tryd.prog 122 q = q (Go.TypeDesc.array 64 5) := by simp only [goUnd, und122]
theorem agg126 : aggT Tryd.prog 126 = some true := by unfold aggT; rw [Tryd.underlying126]; rfl
@[simp] theorem siz126 : szT Tryd.prog 126 = some 4 := by unfold szT; rw [show Tryd.prog.info? 126 = some Tryd.t126 from Tryd.type126]; rfl
@[simp ↓] theorem ty126 {q : Bool → Nat → Prop} : goTy Tryd.prog 126 q = q true 4 := by simp only [goTy, agg126, siz126]
@[simp ↓] theorem sz126 {q : Nat → Prop} : goSz Tryd.prog 126 q = q 4 := by simp only [goSz, siz126]
theorem zer126 : zero? Tryd.prog 126 = some
  (Go.Value.agg #[Go.Value.pointer none, Go.Value.pointer none, Go.Value.pointer none, Go.Value.string { data := #[] }]) := by unfold zero?; rw [show Tryd.prog.info? 126 = some Tryd.t126 from Tryd.type126]; rfl
@[simp ↓] theorem z126 {q : List Value → Prop} : goZ Tryd.prog 126 q = q [Go.Value.pointer none, Go.Value.pointer none, Go.Value.pointer none, Go.Value.string { data := #[] }] := by simp [goZ, zer126, Value.cells]
@[simp] theorem und126 : Tryd.prog.underlying 126 = some (Go.TypeDesc.struct
  #[{ name := "_interface", type := 17, offset := 0, embedded := false, tag := "", pkgPath := "runtime",
      byteOffset := 0 },
    { name := "concrete", type := 17, offset := 1, embedded := false, tag := "", pkgPath := "runtime",
      byteOffset := 8 },
    { name := "asserted", type := 17, offset := 2, embedded := false, tag := "", pkgPath := "runtime",
      byteOffset := 16 },
    { name := "missingMethod", type := 9, offset := 3, embedded := false, tag := "", pkgPath := "runtime",
      byteOffset := 24 }]) := opq Tryd.underlying126
@[simp ↓] theorem fld126_0 {q : Nat → TypeId → Prop} : goFld Tryd.prog 126 0 q = q 0 17 := by simp only [goFld, und126]; rfl
@[simp ↓] theorem fld126_1 {q : Nat → TypeId → Prop} : goFld Tryd.prog 126 1 q = q 1 17 := by simp only [goFld, und126]; rfl
@[simp ↓] theorem fld126_2 {q : Nat → TypeId → Prop} : goFld Tryd.prog 126 2 q = q 2 17 := by simp only [goFld, und126]; rfl
@[simp ↓] theorem fld126_3 {q : Nat → TypeId → Prop} : goFld Tryd.prog 126 3 q = q 3 9 := by simp only [goFld, und126]; rfl
@[simp ↓] theorem bld126 {q : List Value → List (Nat × Nat) → Prop} : goBld Tryd.prog 126 q = q [Go.Value.pointer none, Go.Value.pointer none, Go.Value.pointer none, Go.Value.string { data := #[] }] [(0, 1), (1, 1), (2, 1), (3, 1)] := by simp [goBld, und126, zer126, placesL, Value.cells]
theorem agg127 : aggT Tryd.prog 127 = some true := by unfold aggT; rw [Tryd.underlying127]; rfl
@[simp] theorem siz127 : szT Tryd.prog 127 = some 4 := by unfold szT; rw [show Tryd.prog.info? 127 = some Tryd.t127 from Tryd.type127]; rfl
@[simp ↓] theorem ty127 {q : Bool → Nat → Prop} : goTy Tryd.prog 127 q = q true 4 := by simp only [goTy, agg127, siz127]
@[simp ↓] theorem sz127 {q : Nat → Prop} : goSz Tryd.prog 127 q = q 4 := by simp only [goSz, siz127]
theorem zer127 : zero? Tryd.prog 127 = some
  (Go.Value.agg #[Go.Value.pointer none, Go.Value.pointer none, Go.Value.pointer none, Go.Value.string { data := #[] }]) := by unfold zero?; rw [show Tryd.prog.info? 127 = some Tryd.t127 from Tryd.type127]; rfl
@[simp ↓] theorem z127 {q : List Value → Prop} : goZ Tryd.prog 127 q = q [Go.Value.pointer none, Go.Value.pointer none, Go.Value.pointer none, Go.Value.string { data := #[] }] := by simp [goZ, zer127, Value.cells]
@[simp] theorem und127 : Tryd.prog.underlying 127 = some (Go.TypeDesc.struct
  #[{ name := "_interface", type := 17, offset := 0, embedded := false, tag := "", pkgPath := "runtime",
      byteOffset := 0 },
    { name := "concrete", type := 17, offset := 1, embedded := false, tag := "", pkgPath := "runtime",
      byteOffset := 8 },
    { name := "asserted", type := 17, offset := 2, embedded := false, tag := "", pkgPath := "runtime",
      byteOffset := 16 },
    { name := "missingMethod", type := 9, offset := 3, embedded := false, tag := "", pkgPath := "runtime",
      byteOffset := 24 }]) := opq Tryd.underlying127
@[simp ↓] theorem fld127_0 {q : Nat → TypeId → Prop} : goFld Tryd.prog 127 0 q = q 0 17 := by simp only [goFld, und127]; rfl
@[simp ↓] theorem fld127_1 {q : Nat → TypeId → Prop} : goFld Tryd.prog 127 1 q = q 1 17 := by simp only [goFld, und127]; rfl
@[simp ↓] theorem fld127_2 {q : Nat → TypeId → Prop} : goFld Tryd.prog 127 2 q = q 2 17 := by simp only [goFld, und127]; rfl
@[simp ↓] theorem fld127_3 {q : Nat → TypeId → Prop} : goFld Tryd.prog 127 3 q = q 3 9 := by simp only [goFld, und127]; rfl
@[simp ↓] theorem bld127 {q : List Value → List (Nat × Nat) → Prop} : goBld Tryd.prog 127 q = q [Go.Value.pointer none, Go.Value.pointer none, Go.Value.pointer none, Go.Value.string { data := #[] }] [(0, 1), (1, 1), (2, 1), (3, 1)] := by simp [goBld, und127, zer127, placesL, Value.cells]
theorem agg128 : aggT Tryd.prog 128 = some true := by unfold aggT; rw [Tryd.underlying128]; rfl
@[simp] theorem siz128 : szT Tryd.prog 128 = some 0 := by unfold szT; rw [show Tryd.prog.info? 128 = some Tryd.t128 from Tryd.type128]; rfl
@[simp ↓] theorem ty128 {q : Bool → Nat → Prop} : goTy Tryd.prog 128 q = q true 0 := by simp only [goTy, agg128, siz128]
@[simp ↓] theorem sz128 {q : Nat → Prop} : goSz Tryd.prog 128 q = q 0 := by simp only [goSz, siz128]
theorem zer128 : zero? Tryd.prog 128 = some (Go.Value.agg #[]) := by unfold zero?; rw [show Tryd.prog.info? 128 = some Tryd.t128 from Tryd.type128]; rfl
@[simp ↓] theorem z128 {q : List Value → Prop} : goZ Tryd.prog 128 q = q [] := by simp [goZ, zer128, Value.cells]
@[simp] theorem und128 : Tryd.prog.underlying 128 = some (Go.TypeDesc.array 0 16) := opq Tryd.underlying128
@[simp ↓] theorem un128 {q : TypeDesc → Prop} : goUnd Tryd.prog 128 q = q (Go.TypeDesc.array 0 16) := by simp only [goUnd, und128]
theorem agg130 : aggT Tryd.prog 130 = some true := by unfold aggT; rw [Tryd.underlying130]; rfl
@[simp] theorem siz130 : szT Tryd.prog 130 = some 0 := by unfold szT; rw [show Tryd.prog.info? 130 = some Tryd.t130 from Tryd.type130]; rfl
@[simp ↓] theorem ty130 {q : Bool → Nat → Prop} : goTy Tryd.prog 130 q = q true 0 := by simp only [goTy, agg130, siz130]
@[simp ↓] theorem sz130 {q : Nat → Prop} : goSz Tryd.prog 130 q = q 0 := by simp only [goSz, siz130]
theorem zer130 : zero? Tryd.prog 130 = some (Go.Value.agg #[]) := by unfold zero?; rw [show Tryd.prog.info? 130 = some Tryd.t130 from Tryd.type130]; rfl
@[simp ↓] theorem z130 {q : List Value → Prop} : goZ Tryd.prog 130 q = q [] := by simp [goZ, zer130, Value.cells]
@[simp] theorem und130 : Tryd.prog.underlying 130 = some (Go.TypeDesc.struct
  #[{ name := "_", type := 128, offset := 0, embedded := false, tag := "", pkgPath := "runtime", byteOffset := 0 }]) := opq Tryd.underlying130
@[simp ↓] theorem fld130_0 {q : Nat → TypeId → Prop} : goFld Tryd.prog 130 0 q = q 0 128 := by simp only [goFld, und130]; rfl
@[simp ↓] theorem bld130 {q : List Value → List (Nat × Nat) → Prop} : goBld Tryd.prog 130 q = q [] [(0, 0)] := by simp [goBld, und130, zer130, placesL, Value.cells]
theorem agg131 : aggT Tryd.prog 131 = some false := by unfold aggT; rw [Tryd.underlying131]; rfl
@[simp] theorem siz131 : szT Tryd.prog 131 = some 1 := by unfold szT; rw [show Tryd.prog.info? 131 = some Tryd.t131 from Tryd.type131]; rfl
@[simp ↓] theorem ty131 {q : Bool → Nat → Prop} : goTy Tryd.prog 131 q = q false 1 := by simp only [goTy, agg131, siz131]
@[simp ↓] theorem sz131 {q : Nat → Prop} : goSz Tryd.prog 131 q = q 1 := by simp only [goSz, siz131]
theorem zer131 : zero? Tryd.prog 131 = some Go.Value.nilFunc := by unfold zero?; rw [show Tryd.prog.info? 131 = some Tryd.t131 from Tryd.type131]; rfl
@[simp ↓] theorem z131 {q : List Value → Prop} : goZ Tryd.prog 131 q = q [Go.Value.nilFunc] := by simp [goZ, zer131, Value.cells]
theorem agg132 : aggT Tryd.prog 132 = some false := by unfold aggT; rw [Tryd.underlying132]; rfl
@[simp] theorem siz132 : szT Tryd.prog 132 = some 1 := by unfold szT; rw [show Tryd.prog.info? 132 = some Tryd.t132 from Tryd.type132]; rfl
@[simp ↓] theorem ty132 {q : Bool → Nat → Prop} : goTy Tryd.prog 132 q = q false 1 := by simp only [goTy, agg132, siz132]
@[simp ↓] theorem sz132 {q : Nat → Prop} : goSz Tryd.prog 132 q = q 1 := by simp only [goSz, siz132]
theorem zer132 : zero? Tryd.prog 132 = some (Go.Value.int Go.IntKind.u8 0) := by unfold zero?; rw [show Tryd.prog.info? 132 = some Tryd.t132 from Tryd.type132]; rfl
@[simp ↓] theorem z132 {q : List Value → Prop} : goZ Tryd.prog 132 q = q [(Go.Value.int Go.IntKind.u8 0)] := by simp [goZ, zer132, Value.cells]
@[simp] theorem und132 : Tryd.prog.underlying 132 = some (Go.TypeDesc.int Go.IntKind.u8) := opq Tryd.underlying132
@[simp ↓] theorem un132 {q : TypeDesc → Prop} : goUnd Tryd.prog 132 q = q (Go.TypeDesc.int Go.IntKind.u8) := by simp only [goUnd, und132]
theorem agg133 : aggT Tryd.prog 133 = some false := by unfold aggT; rw [Tryd.underlying133]; rfl
@[simp] theorem siz133 : szT Tryd.prog 133 = some 1 := by unfold szT; rw [show Tryd.prog.info? 133 = some Tryd.t133 from Tryd.type133]; rfl
@[simp ↓] theorem ty133 {q : Bool → Nat → Prop} : goTy Tryd.prog 133 q = q false 1 := by simp only [goTy, agg133, siz133]
@[simp ↓] theorem sz133 {q : Nat → Prop} : goSz Tryd.prog 133 q = q 1 := by simp only [goSz, siz133]
theorem zer133 : zero? Tryd.prog 133 = some (Go.Value.int Go.IntKind.u8 0) := by unfold zero?; rw [show Tryd.prog.info? 133 = some Tryd.t133 from Tryd.type133]; rfl
@[simp ↓] theorem z133 {q : List Value → Prop} : goZ Tryd.prog 133 q = q [(Go.Value.int Go.IntKind.u8 0)] := by simp [goZ, zer133, Value.cells]
@[simp] theorem und133 : Tryd.prog.underlying 133 = some (Go.TypeDesc.int Go.IntKind.u8) := opq Tryd.underlying133
@[simp ↓] theorem un133 {q : TypeDesc → Prop} : goUnd Tryd.prog 133 q = q (Go.TypeDesc.int Go.IntKind.u8) := by simp only [goUnd, und133]
theorem agg134 : aggT Tryd.prog 134 = some false := by unfold aggT; rw [Tryd.underlying134]; rfl
@[simp] theorem siz134 : szT Tryd.prog 134 = some 1 := by unfold szT; rw [show Tryd.prog.info? 134 = some Tryd.t134 from Tryd.type134]; rfl
@[simp ↓] theorem ty134 {q : Bool → Nat → Prop} : goTy Tryd.prog 134 q = q false 1 := by simp only [goTy, agg134, siz134]
@[simp ↓] theorem sz134 {q : Nat → Prop} : goSz Tryd.prog 134 q = q 1 := by simp only [goSz, siz134]
theorem zer134 : zero? Tryd.prog 134 = some Go.Value.nilFunc := by unfold zero?; rw [show Tryd.prog.info? 134 = some Tryd.t134 from Tryd.type134]; rfl
@[simp ↓] theorem z134 {q : List Value → Prop} : goZ Tryd.prog 134 q = q [Go.Value.nilFunc] := by simp [goZ, zer134, Value.cells]
theorem agg135 : aggT Tryd.prog 135 = some false := by unfold aggT; rw [Tryd.underlying135]; rfl
@[simp] theorem siz135 : szT Tryd.prog 135 = some 1 := by unfold szT; rw [show Tryd.prog.info? 135 = some Tryd.t135 from Tryd.type135]; rfl
@[simp ↓] theorem ty135 {q : Bool → Nat → Prop} : goTy Tryd.prog 135 q = q false 1 := by simp only [goTy, agg135, siz135]
@[simp ↓] theorem sz135 {q : Nat → Prop} : goSz Tryd.prog 135 q = q 1 := by simp only [goSz, siz135]
theorem zer135 : zero? Tryd.prog 135 = some (Go.Value.int Go.IntKind.i32 0) := by unfold zero?; rw [show Tryd.prog.info? 135 = some Tryd.t135 from Tryd.type135]; rfl
@[simp ↓] theorem z135 {q : List Value → Prop} : goZ Tryd.prog 135 q = q [(Go.Value.int Go.IntKind.i32 0)] := by simp [goZ, zer135, Value.cells]
@[simp] theorem und135 : Tryd.prog.underlying 135 = some (Go.TypeDesc.int Go.IntKind.i32) := opq Tryd.underlying135
@[simp ↓] theorem un135 {q : TypeDesc → Prop} : goUnd Tryd.prog 135 q = q (Go.TypeDesc.int Go.IntKind.i32) := by simp only [goUnd, und135]
theorem agg136 : aggT Tryd.prog 136 = some false := by unfold aggT; rw [Tryd.underlying136]; rfl
@[simp] theorem siz136 : szT Tryd.prog 136 = some 1 := by unfold szT; rw [show Tryd.prog.info? 136 = some Tryd.t136 from Tryd.type136]; rfl
@[simp ↓] theorem ty136 {q : Bool → Nat → Prop} : goTy Tryd.prog 136 q = q false 1 := by simp only [goTy, agg136, siz136]
@[simp ↓] theorem sz136 {q : Nat → Prop} : goSz Tryd.prog 136 q = q 1 := by simp only [goSz, siz136]
theorem zer136 : zero? Tryd.prog 136 = some (Go.Value.int Go.IntKind.i32 0) := by unfold zero?; rw [show Tryd.prog.info? 136 = some Tryd.t136 from Tryd.type136]; rfl
@[simp ↓] theorem z136 {q : List Value → Prop} : goZ Tryd.prog 136 q = q [(Go.Value.int Go.IntKind.i32 0)] := by simp [goZ, zer136, Value.cells]
@[simp] theorem und136 : Tryd.prog.underlying 136 = some (Go.TypeDesc.int Go.IntKind.i32) := opq Tryd.underlying136
@[simp ↓] theorem un136 {q : TypeDesc → Prop} : goUnd Tryd.prog 136 q = q (Go.TypeDesc.int Go.IntKind.i32) := by simp only [goUnd, und136]
theorem agg138 : aggT Tryd.prog 138 = some true := by unfold aggT; rw [Tryd.underlying138]; rfl
@[simp] theorem siz138 : szT Tryd.prog 138 = some 11 := by unfold szT; rw [show Tryd.prog.info? 138 = some Tryd.t138 from Tryd.type138]; rfl
@[simp ↓] theorem ty138 {q : Bool → Nat → Prop} : goTy Tryd.prog 138 q = q true 11 := by simp only [goTy, agg138, siz138]
@[simp ↓] theorem sz138 {q : Nat → Prop} : goSz Tryd.prog 138 q = q 11 := by simp only [goSz, siz138]
theorem zer138 : zero? Tryd.prog 138 = some
  (Go.Value.agg
    #[Go.Value.int Go.IntKind.u64 0, Go.Value.int Go.IntKind.u64 0, Go.Value.int Go.IntKind.u32 0,
      Go.Value.int Go.IntKind.u8 0, Go.Value.int Go.IntKind.u8 0, Go.Value.int Go.IntKind.u8 0,
      Go.Value.int Go.IntKind.u8 0, Go.Value.nilFunc, Go.Value.pointer none, Go.Value.int Go.IntKind.i32 0,
      Go.Value.int Go.IntKind.i32 0]) := by unfold zero?; rw [show Tryd.prog.info? 138 = some Tryd.t138 from Tryd.type138]; rfl
@[simp ↓] theorem z138 {q : List Value → Prop} : goZ Tryd.prog 138 q = q [Go.Value.int Go.IntKind.u64 0, Go.Value.int Go.IntKind.u64 0, Go.Value.int Go.IntKind.u32 0,
      Go.Value.int Go.IntKind.u8 0, Go.Value.int Go.IntKind.u8 0, Go.Value.int Go.IntKind.u8 0,
      Go.Value.int Go.IntKind.u8 0, Go.Value.nilFunc, Go.Value.pointer none, Go.Value.int Go.IntKind.i32 0,
      Go.Value.int Go.IntKind.i32 0] := by simp [goZ, zer138, Value.cells]
@[simp] theorem und138 : Tryd.prog.underlying 138 = some (Go.TypeDesc.struct
  #[{ name := "Size_", type := 12, offset := 0, embedded := false, tag := "", pkgPath := "", byteOffset := 0 },
    { name := "PtrBytes", type := 12, offset := 1, embedded := false, tag := "", pkgPath := "", byteOffset := 8 },
    { name := "Hash", type := 103, offset := 2, embedded := false, tag := "", pkgPath := "", byteOffset := 16 },
    { name := "TFlag", type := 132, offset := 3, embedded := false, tag := "", pkgPath := "", byteOffset := 20 },
    { name := "Align_", type := 5, offset := 4, embedded := false, tag := "", pkgPath := "", byteOffset := 21 },
    { name := "FieldAlign_", type := 5, offset := 5, embedded := false, tag := "", pkgPath := "", byteOffset := 22 },
    { name := "Kind_", type := 133, offset := 6, embedded := false, tag := "", pkgPath := "", byteOffset := 23 },
    { name := "Equal", type := 134, offset := 7, embedded := false, tag := "", pkgPath := "", byteOffset := 24 },
    { name := "GCData", type := 79, offset := 8, embedded := false, tag := "", pkgPath := "", byteOffset := 32 },
    { name := "Str", type := 135, offset := 9, embedded := false, tag := "", pkgPath := "", byteOffset := 40 },
    { name := "PtrToThis", type := 136, offset := 10, embedded := false, tag := "", pkgPath := "", byteOffset := 44 }]) := opq Tryd.underlying138
@[simp ↓] theorem fld138_0 {q : Nat → TypeId → Prop} : goFld Tryd.prog 138 0 q = q 0 12 := by simp only [goFld, und138]; rfl
@[simp ↓] theorem fld138_1 {q : Nat → TypeId → Prop} : goFld Tryd.prog 138 1 q = q 1 12 := by simp only [goFld, und138]; rfl
@[simp ↓] theorem fld138_2 {q : Nat → TypeId → Prop} : goFld Tryd.prog 138 2 q = q 2 103 := by simp only [goFld, und138]; rfl
@[simp ↓] theorem fld138_3 {q : Nat → TypeId → Prop} : goFld Tryd.prog 138 3 q = q 3 132 := by simp only [goFld, und138]; rfl
@[simp ↓] theorem fld138_4 {q : Nat → TypeId → Prop} : goFld Tryd.prog 138 4 q = q 4 5 := by simp only [goFld, und138]; rfl
@[simp ↓] theorem fld138_5 {q : Nat → TypeId → Prop} : goFld Tryd.prog 138 5 q = q 5 5 := by simp only [goFld, und138]; rfl
@[simp ↓] theorem fld138_6 {q : Nat → TypeId → Prop} : goFld Tryd.prog 138 6 q = q 6 133 := by simp only [goFld, und138]; rfl
@[simp ↓] theorem fld138_7 {q : Nat → TypeId → Prop} : goFld Tryd.prog 138 7 q = q 7 134 := by simp only [goFld, und138]; rfl
@[simp ↓] theorem fld138_8 {q : Nat → TypeId → Prop} : goFld Tryd.prog 138 8 q = q 8 79 := by simp only [goFld, und138]; rfl
@[simp ↓] theorem fld138_9 {q : Nat → TypeId → Prop} : goFld Tryd.prog 138 9 q = q 9 135 := by simp only [goFld, und138]; rfl
@[simp ↓] theorem fld138_10 {q : Nat → TypeId → Prop} : goFld Tryd.prog 138 10 q = q 10 136 := by simp only [goFld, und138]; rfl
@[simp ↓] theorem bld138 {q : List Value → List (Nat × Nat) → Prop} : goBld Tryd.prog 138 q = q [Go.Value.int Go.IntKind.u64 0, Go.Value.int Go.IntKind.u64 0, Go.Value.int Go.IntKind.u32 0,
      Go.Value.int Go.IntKind.u8 0, Go.Value.int Go.IntKind.u8 0, Go.Value.int Go.IntKind.u8 0,
      Go.Value.int Go.IntKind.u8 0, Go.Value.nilFunc, Go.Value.pointer none, Go.Value.int Go.IntKind.i32 0,
      Go.Value.int Go.IntKind.i32 0] [(0, 1), (1, 1), (2, 1), (3, 1), (4, 1), (5, 1), (6, 1), (7, 1), (8, 1), (9, 1), (10, 1)] := by simp [goBld, und138, zer138, placesL, Value.cells]
end Go.Proofs.YtbigpkfdeaigeaaDoor
