/- Facts about the seat's types, for the abstract machine. No condition. -/
import Derived.Test.YtbigpkfdeaigeaaGreatDoorProg
import Derived.Test.YtbigpkfdeaigeaaGreatDoorAm20
namespace Go.Proofs.YtbigpkfdeaigeaaGreatDoor
open Go Go.Am Go.Proofs
set_option linter.unusedSimpArgs false
set_option maxRecDepth 100000
theorem agg1 : aggT Tryz.prog 1 = some false := by unfold aggT; rw [Tryz.underlying1]; rfl
@[simp] theorem siz1 : szT Tryz.prog 1 = some 1 := by unfold szT; rw [show Tryz.prog.info? 1 = some Tryz.t1 from Tryz.type1]; rfl
@[simp ↓] theorem ty1 {q : Bool → Nat → Prop} : goTy Tryz.prog 1 q = q false 1 := by simp only [goTy, agg1, siz1]
@[simp ↓] theorem sz1 {q : Nat → Prop} : goSz Tryz.prog 1 q = q 1 := by simp only [goSz, siz1]
theorem zer1 : zero? Tryz.prog 1 = some Go.Value.nilFunc := by unfold zero?; rw [show Tryz.prog.info? 1 = some Tryz.t1 from Tryz.type1]; rfl
@[simp ↓] theorem z1 {q : List Value → Prop} : goZ Tryz.prog 1 q = q [Go.Value.nilFunc] := by simp [goZ, zer1, Value.cells]
theorem agg2 : aggT Tryz.prog 2 = some false := by unfold aggT; rw [Tryz.underlying2]; rfl
@[simp] theorem siz2 : szT Tryz.prog 2 = some 1 := by unfold szT; rw [show Tryz.prog.info? 2 = some Tryz.t2 from Tryz.type2]; rfl
@[simp ↓] theorem ty2 {q : Bool → Nat → Prop} : goTy Tryz.prog 2 q = q false 1 := by simp only [goTy, agg2, siz2]
@[simp ↓] theorem sz2 {q : Nat → Prop} : goSz Tryz.prog 2 q = q 1 := by simp only [goSz, siz2]
theorem zer2 : zero? Tryz.prog 2 = some (Go.Value.int Go.IntKind.i64 0) := by unfold zero?; rw [show Tryz.prog.info? 2 = some Tryz.t2 from Tryz.type2]; rfl
@[simp ↓] theorem z2 {q : List Value → Prop} : goZ Tryz.prog 2 q = q [(Go.Value.int Go.IntKind.i64 0)] := by simp [goZ, zer2, Value.cells]
@[simp] theorem und2 : Tryz.prog.underlying 2 = some (Go.TypeDesc.int Go.IntKind.i64) := opq Tryz.underlying2
@[simp ↓] theorem un2 {q : TypeDesc → Prop} : goUnd Tryz.prog 2 q = q (Go.TypeDesc.int Go.IntKind.i64) := by simp only [goUnd, und2]
theorem agg3 : aggT Tryz.prog 3 = some false := by unfold aggT; rw [Tryz.underlying3]; rfl
@[simp] theorem siz3 : szT Tryz.prog 3 = some 1 := by unfold szT; rw [show Tryz.prog.info? 3 = some Tryz.t3 from Tryz.type3]; rfl
@[simp ↓] theorem ty3 {q : Bool → Nat → Prop} : goTy Tryz.prog 3 q = q false 1 := by simp only [goTy, agg3, siz3]
@[simp ↓] theorem sz3 {q : Nat → Prop} : goSz Tryz.prog 3 q = q 1 := by simp only [goSz, siz3]
theorem zer3 : zero? Tryz.prog 3 = some (Go.Value.int Go.IntKind.i64 0) := by unfold zero?; rw [show Tryz.prog.info? 3 = some Tryz.t3 from Tryz.type3]; rfl
@[simp ↓] theorem z3 {q : List Value → Prop} : goZ Tryz.prog 3 q = q [(Go.Value.int Go.IntKind.i64 0)] := by simp [goZ, zer3, Value.cells]
@[simp] theorem und3 : Tryz.prog.underlying 3 = some (Go.TypeDesc.int Go.IntKind.i64) := opq Tryz.underlying3
@[simp ↓] theorem un3 {q : TypeDesc → Prop} : goUnd Tryz.prog 3 q = q (Go.TypeDesc.int Go.IntKind.i64) := by simp only [goUnd, und3]
theorem agg4 : aggT Tryz.prog 4 = some false := by unfold aggT; rw [Tryz.underlying4]; rfl
@[simp] theorem siz4 : szT Tryz.prog 4 = some 1 := by unfold szT; rw [show Tryz.prog.info? 4 = some Tryz.t4 from Tryz.type4]; rfl
@[simp ↓] theorem ty4 {q : Bool → Nat → Prop} : goTy Tryz.prog 4 q = q false 1 := by simp only [goTy, agg4, siz4]
@[simp ↓] theorem sz4 {q : Nat → Prop} : goSz Tryz.prog 4 q = q 1 := by simp only [goSz, siz4]
theorem zer4 : zero? Tryz.prog 4 = some (Go.Value.bool false) := by unfold zero?; rw [show Tryz.prog.info? 4 = some Tryz.t4 from Tryz.type4]; rfl
@[simp ↓] theorem z4 {q : List Value → Prop} : goZ Tryz.prog 4 q = q [(Go.Value.bool false)] := by simp [goZ, zer4, Value.cells]
@[simp] theorem und4 : Tryz.prog.underlying 4 = some (Go.TypeDesc.bool) := opq Tryz.underlying4
@[simp ↓] theorem un4 {q : TypeDesc → Prop} : goUnd Tryz.prog 4 q = q (Go.TypeDesc.bool) := by simp only [goUnd, und4]
theorem agg5 : aggT Tryz.prog 5 = some false := by unfold aggT; rw [Tryz.underlying5]; rfl
@[simp] theorem siz5 : szT Tryz.prog 5 = some 1 := by unfold szT; rw [show Tryz.prog.info? 5 = some Tryz.t5 from Tryz.type5]; rfl
@[simp ↓] theorem ty5 {q : Bool → Nat → Prop} : goTy Tryz.prog 5 q = q false 1 := by simp only [goTy, agg5, siz5]
@[simp ↓] theorem sz5 {q : Nat → Prop} : goSz Tryz.prog 5 q = q 1 := by simp only [goSz, siz5]
theorem zer5 : zero? Tryz.prog 5 = some (Go.Value.int Go.IntKind.u8 0) := by unfold zero?; rw [show Tryz.prog.info? 5 = some Tryz.t5 from Tryz.type5]; rfl
@[simp ↓] theorem z5 {q : List Value → Prop} : goZ Tryz.prog 5 q = q [(Go.Value.int Go.IntKind.u8 0)] := by simp [goZ, zer5, Value.cells]
@[simp] theorem und5 : Tryz.prog.underlying 5 = some (Go.TypeDesc.int Go.IntKind.u8) := opq Tryz.underlying5
@[simp ↓] theorem un5 {q : TypeDesc → Prop} : goUnd Tryz.prog 5 q = q (Go.TypeDesc.int Go.IntKind.u8) := by simp only [goUnd, und5]
theorem agg6 : aggT Tryz.prog 6 = some false := by unfold aggT; rw [Tryz.underlying6]; rfl
@[simp] theorem siz6 : szT Tryz.prog 6 = some 1 := by unfold szT; rw [show Tryz.prog.info? 6 = some Tryz.t6 from Tryz.type6]; rfl
@[simp ↓] theorem ty6 {q : Bool → Nat → Prop} : goTy Tryz.prog 6 q = q false 1 := by simp only [goTy, agg6, siz6]
@[simp ↓] theorem sz6 {q : Nat → Prop} : goSz Tryz.prog 6 q = q 1 := by simp only [goSz, siz6]
theorem zer6 : zero? Tryz.prog 6 = some (Go.Value.int Go.IntKind.u8 0) := by unfold zero?; rw [show Tryz.prog.info? 6 = some Tryz.t6 from Tryz.type6]; rfl
@[simp ↓] theorem z6 {q : List Value → Prop} : goZ Tryz.prog 6 q = q [(Go.Value.int Go.IntKind.u8 0)] := by simp [goZ, zer6, Value.cells]
@[simp] theorem und6 : Tryz.prog.underlying 6 = some (Go.TypeDesc.int Go.IntKind.u8) := opq Tryz.underlying6
@[simp ↓] theorem un6 {q : TypeDesc → Prop} : goUnd Tryz.prog 6 q = q (Go.TypeDesc.int Go.IntKind.u8) := by simp only [goUnd, und6]
theorem agg7 : aggT Tryz.prog 7 = some true := by unfold aggT; rw [Tryz.underlying7]; rfl
@[simp] theorem siz7 : szT Tryz.prog 7 = some 4 := by unfold szT; rw [show Tryz.prog.info? 7 = some Tryz.t7 from Tryz.type7]; rfl
@[simp ↓] theorem ty7 {q : Bool → Nat → Prop} : goTy Tryz.prog 7 q = q true 4 := by simp only [goTy, agg7, siz7]
@[simp ↓] theorem sz7 {q : Nat → Prop} : goSz Tryz.prog 7 q = q 4 := by simp only [goSz, siz7]
theorem zer7 : zero? Tryz.prog 7 = some
  (Go.Value.agg
    #[Go.Value.int Go.IntKind.i64 0, Go.Value.int Go.IntKind.i64 0, Go.Value.bool false, Go.Value.int Go.IntKind.u8 0]) := by unfold zero?; rw [show Tryz.prog.info? 7 = some Tryz.t7 from Tryz.type7]; rfl
@[simp ↓] theorem z7 {q : List Value → Prop} : goZ Tryz.prog 7 q = q [Go.Value.int Go.IntKind.i64 0, Go.Value.int Go.IntKind.i64 0, Go.Value.bool false, Go.Value.int Go.IntKind.u8 0] := by simp [goZ, zer7, Value.cells]
@[simp] theorem und7 : Tryz.prog.underlying 7 = some (Go.TypeDesc.struct
  #[{ name := "x", type := 2, offset := 0, embedded := false, tag := "", pkgPath := "runtime", byteOffset := 0 },
    { name := "y", type := 3, offset := 1, embedded := false, tag := "", pkgPath := "runtime", byteOffset := 8 },
    { name := "signed", type := 4, offset := 2, embedded := false, tag := "", pkgPath := "runtime", byteOffset := 16 },
    { name := "code", type := 6, offset := 3, embedded := false, tag := "", pkgPath := "runtime", byteOffset := 17 }]) := opq Tryz.underlying7
@[simp ↓] theorem fld7_0 {q : Nat → TypeId → Prop} : goFld Tryz.prog 7 0 q = q 0 2 := by simp only [goFld, und7]; rfl
@[simp ↓] theorem fld7_1 {q : Nat → TypeId → Prop} : goFld Tryz.prog 7 1 q = q 1 3 := by simp only [goFld, und7]; rfl
@[simp ↓] theorem fld7_2 {q : Nat → TypeId → Prop} : goFld Tryz.prog 7 2 q = q 2 4 := by simp only [goFld, und7]; rfl
@[simp ↓] theorem fld7_3 {q : Nat → TypeId → Prop} : goFld Tryz.prog 7 3 q = q 3 6 := by simp only [goFld, und7]; rfl
@[simp ↓] theorem bld7 {q : List Value → List (Nat × Nat) → Prop} : goBld Tryz.prog 7 q = q [Go.Value.int Go.IntKind.i64 0, Go.Value.int Go.IntKind.i64 0, Go.Value.bool false, Go.Value.int Go.IntKind.u8 0] [(0, 1), (1, 1), (2, 1), (3, 1)] := by simp [goBld, und7, zer7, placesL, Value.cells]
theorem agg8 : aggT Tryz.prog 8 = some true := by unfold aggT; rw [Tryz.underlying8]; rfl
@[simp] theorem siz8 : szT Tryz.prog 8 = some 4 := by unfold szT; rw [show Tryz.prog.info? 8 = some Tryz.t8 from Tryz.type8]; rfl
@[simp ↓] theorem ty8 {q : Bool → Nat → Prop} : goTy Tryz.prog 8 q = q true 4 := by simp only [goTy, agg8, siz8]
@[simp ↓] theorem sz8 {q : Nat → Prop} : goSz Tryz.prog 8 q = q 4 := by simp only [goSz, siz8]
theorem zer8 : zero? Tryz.prog 8 = some
  (Go.Value.agg
    #[Go.Value.int Go.IntKind.i64 0, Go.Value.int Go.IntKind.i64 0, Go.Value.bool false, Go.Value.int Go.IntKind.u8 0]) := by unfold zero?; rw [show Tryz.prog.info? 8 = some Tryz.t8 from Tryz.type8]; rfl
@[simp ↓] theorem z8 {q : List Value → Prop} : goZ Tryz.prog 8 q = q [Go.Value.int Go.IntKind.i64 0, Go.Value.int Go.IntKind.i64 0, Go.Value.bool false, Go.Value.int Go.IntKind.u8 0] := by simp [goZ, zer8, Value.cells]
@[simp] theorem und8 : Tryz.prog.underlying 8 = some (Go.TypeDesc.struct
  #[{ name := "x", type := 2, offset := 0, embedded := false, tag := "", pkgPath := "runtime", byteOffset := 0 },
    { name := "y", type := 3, offset := 1, embedded := false, tag := "", pkgPath := "runtime", byteOffset := 8 },
    { name := "signed", type := 4, offset := 2, embedded := false, tag := "", pkgPath := "runtime", byteOffset := 16 },
    { name := "code", type := 6, offset := 3, embedded := false, tag := "", pkgPath := "runtime", byteOffset := 17 }]) := opq Tryz.underlying8
@[simp ↓] theorem fld8_0 {q : Nat → TypeId → Prop} : goFld Tryz.prog 8 0 q = q 0 2 := by simp only [goFld, und8]; rfl
@[simp ↓] theorem fld8_1 {q : Nat → TypeId → Prop} : goFld Tryz.prog 8 1 q = q 1 3 := by simp only [goFld, und8]; rfl
@[simp ↓] theorem fld8_2 {q : Nat → TypeId → Prop} : goFld Tryz.prog 8 2 q = q 2 4 := by simp only [goFld, und8]; rfl
@[simp ↓] theorem fld8_3 {q : Nat → TypeId → Prop} : goFld Tryz.prog 8 3 q = q 3 6 := by simp only [goFld, und8]; rfl
@[simp ↓] theorem bld8 {q : List Value → List (Nat × Nat) → Prop} : goBld Tryz.prog 8 q = q [Go.Value.int Go.IntKind.i64 0, Go.Value.int Go.IntKind.i64 0, Go.Value.bool false, Go.Value.int Go.IntKind.u8 0] [(0, 1), (1, 1), (2, 1), (3, 1)] := by simp [goBld, und8, zer8, placesL, Value.cells]
theorem agg9 : aggT Tryz.prog 9 = some false := by unfold aggT; rw [Tryz.underlying9]; rfl
@[simp] theorem siz9 : szT Tryz.prog 9 = some 1 := by unfold szT; rw [show Tryz.prog.info? 9 = some Tryz.t9 from Tryz.type9]; rfl
@[simp ↓] theorem ty9 {q : Bool → Nat → Prop} : goTy Tryz.prog 9 q = q false 1 := by simp only [goTy, agg9, siz9]
@[simp ↓] theorem sz9 {q : Nat → Prop} : goSz Tryz.prog 9 q = q 1 := by simp only [goSz, siz9]
theorem zer9 : zero? Tryz.prog 9 = some (Go.Value.string { data := #[] }) := by unfold zero?; rw [show Tryz.prog.info? 9 = some Tryz.t9 from Tryz.type9]; rfl
@[simp ↓] theorem z9 {q : List Value → Prop} : goZ Tryz.prog 9 q = q [(Go.Value.string { data := #[] })] := by simp [goZ, zer9, Value.cells]
@[simp] theorem und9 : Tryz.prog.underlying 9 = some (Go.TypeDesc.string) := opq Tryz.underlying9
@[simp ↓] theorem un9 {q : TypeDesc → Prop} : goUnd Tryz.prog 9 q = q (Go.TypeDesc.string) := by simp only [goUnd, und9]
theorem agg10 : aggT Tryz.prog 10 = some false := by unfold aggT; rw [Tryz.underlying10]; rfl
@[simp] theorem siz10 : szT Tryz.prog 10 = some 1 := by unfold szT; rw [show Tryz.prog.info? 10 = some Tryz.t10 from Tryz.type10]; rfl
@[simp ↓] theorem ty10 {q : Bool → Nat → Prop} : goTy Tryz.prog 10 q = q false 1 := by simp only [goTy, agg10, siz10]
@[simp ↓] theorem sz10 {q : Nat → Prop} : goSz Tryz.prog 10 q = q 1 := by simp only [goSz, siz10]
theorem zer10 : zero? Tryz.prog 10 = some (Go.Value.string { data := #[] }) := by unfold zero?; rw [show Tryz.prog.info? 10 = some Tryz.t10 from Tryz.type10]; rfl
@[simp ↓] theorem z10 {q : List Value → Prop} : goZ Tryz.prog 10 q = q [(Go.Value.string { data := #[] })] := by simp [goZ, zer10, Value.cells]
@[simp] theorem und10 : Tryz.prog.underlying 10 = some (Go.TypeDesc.string) := opq Tryz.underlying10
@[simp ↓] theorem un10 {q : TypeDesc → Prop} : goUnd Tryz.prog 10 q = q (Go.TypeDesc.string) := by simp only [goUnd, und10]
theorem agg11 : aggT Tryz.prog 11 = some false := by unfold aggT; rw [Tryz.underlying11]; rfl
@[simp] theorem siz11 : szT Tryz.prog 11 = some 1 := by unfold szT; rw [show Tryz.prog.info? 11 = some Tryz.t11 from Tryz.type11]; rfl
@[simp ↓] theorem ty11 {q : Bool → Nat → Prop} : goTy Tryz.prog 11 q = q false 1 := by simp only [goTy, agg11, siz11]
@[simp ↓] theorem sz11 {q : Nat → Prop} : goSz Tryz.prog 11 q = q 1 := by simp only [goSz, siz11]
theorem zer11 : zero? Tryz.prog 11 = some (Go.Value.string { data := #[] }) := by unfold zero?; rw [show Tryz.prog.info? 11 = some Tryz.t11 from Tryz.type11]; rfl
@[simp ↓] theorem z11 {q : List Value → Prop} : goZ Tryz.prog 11 q = q [(Go.Value.string { data := #[] })] := by simp [goZ, zer11, Value.cells]
@[simp] theorem und11 : Tryz.prog.underlying 11 = some (Go.TypeDesc.string) := opq Tryz.underlying11
@[simp ↓] theorem un11 {q : TypeDesc → Prop} : goUnd Tryz.prog 11 q = q (Go.TypeDesc.string) := by simp only [goUnd, und11]
theorem agg12 : aggT Tryz.prog 12 = some false := by unfold aggT; rw [Tryz.underlying12]; rfl
@[simp] theorem siz12 : szT Tryz.prog 12 = some 1 := by unfold szT; rw [show Tryz.prog.info? 12 = some Tryz.t12 from Tryz.type12]; rfl
@[simp ↓] theorem ty12 {q : Bool → Nat → Prop} : goTy Tryz.prog 12 q = q false 1 := by simp only [goTy, agg12, siz12]
@[simp ↓] theorem sz12 {q : Nat → Prop} : goSz Tryz.prog 12 q = q 1 := by simp only [goSz, siz12]
theorem zer12 : zero? Tryz.prog 12 = some (Go.Value.int Go.IntKind.u64 0) := by unfold zero?; rw [show Tryz.prog.info? 12 = some Tryz.t12 from Tryz.type12]; rfl
@[simp ↓] theorem z12 {q : List Value → Prop} : goZ Tryz.prog 12 q = q [(Go.Value.int Go.IntKind.u64 0)] := by simp [goZ, zer12, Value.cells]
@[simp] theorem und12 : Tryz.prog.underlying 12 = some (Go.TypeDesc.int Go.IntKind.u64) := opq Tryz.underlying12
@[simp ↓] theorem un12 {q : TypeDesc → Prop} : goUnd Tryz.prog 12 q = q (Go.TypeDesc.int Go.IntKind.u64) := by simp only [goUnd, und12]
theorem agg13 : aggT Tryz.prog 13 = some true := by unfold aggT; rw [Tryz.underlying13]; rfl
@[simp] theorem siz13 : szT Tryz.prog 13 = some 2 := by unfold szT; rw [show Tryz.prog.info? 13 = some Tryz.t13 from Tryz.type13]; rfl
@[simp ↓] theorem ty13 {q : Bool → Nat → Prop} : goTy Tryz.prog 13 q = q true 2 := by simp only [goTy, agg13, siz13]
@[simp ↓] theorem sz13 {q : Nat → Prop} : goSz Tryz.prog 13 q = q 2 := by simp only [goSz, siz13]
theorem zer13 : zero? Tryz.prog 13 = some (Go.Value.agg #[Go.Value.string { data := #[] }, Go.Value.int Go.IntKind.u64 0]) := by unfold zero?; rw [show Tryz.prog.info? 13 = some Tryz.t13 from Tryz.type13]; rfl
@[simp ↓] theorem z13 {q : List Value → Prop} : goZ Tryz.prog 13 q = q [Go.Value.string { data := #[] }, Go.Value.int Go.IntKind.u64 0] := by simp [goZ, zer13, Value.cells]
@[simp] theorem und13 : Tryz.prog.underlying 13 = some (Go.TypeDesc.struct
  #[{ name := "msg", type := 9, offset := 0, embedded := false, tag := "", pkgPath := "runtime", byteOffset := 0 },
    { name := "addr", type := 12, offset := 1, embedded := false, tag := "", pkgPath := "runtime", byteOffset := 16 }]) := opq Tryz.underlying13
@[simp ↓] theorem fld13_0 {q : Nat → TypeId → Prop} : goFld Tryz.prog 13 0 q = q 0 9 := by simp only [goFld, und13]; rfl
@[simp ↓] theorem fld13_1 {q : Nat → TypeId → Prop} : goFld Tryz.prog 13 1 q = q 1 12 := by simp only [goFld, und13]; rfl
@[simp ↓] theorem bld13 {q : List Value → List (Nat × Nat) → Prop} : goBld Tryz.prog 13 q = q [Go.Value.string { data := #[] }, Go.Value.int Go.IntKind.u64 0] [(0, 1), (1, 1)] := by simp [goBld, und13, zer13, placesL, Value.cells]
theorem agg14 : aggT Tryz.prog 14 = some true := by unfold aggT; rw [Tryz.underlying14]; rfl
@[simp] theorem siz14 : szT Tryz.prog 14 = some 2 := by unfold szT; rw [show Tryz.prog.info? 14 = some Tryz.t14 from Tryz.type14]; rfl
@[simp ↓] theorem ty14 {q : Bool → Nat → Prop} : goTy Tryz.prog 14 q = q true 2 := by simp only [goTy, agg14, siz14]
@[simp ↓] theorem sz14 {q : Nat → Prop} : goSz Tryz.prog 14 q = q 2 := by simp only [goSz, siz14]
theorem zer14 : zero? Tryz.prog 14 = some (Go.Value.agg #[Go.Value.string { data := #[] }, Go.Value.int Go.IntKind.u64 0]) := by unfold zero?; rw [show Tryz.prog.info? 14 = some Tryz.t14 from Tryz.type14]; rfl
@[simp ↓] theorem z14 {q : List Value → Prop} : goZ Tryz.prog 14 q = q [Go.Value.string { data := #[] }, Go.Value.int Go.IntKind.u64 0] := by simp [goZ, zer14, Value.cells]
@[simp] theorem und14 : Tryz.prog.underlying 14 = some (Go.TypeDesc.struct
  #[{ name := "msg", type := 9, offset := 0, embedded := false, tag := "", pkgPath := "runtime", byteOffset := 0 },
    { name := "addr", type := 12, offset := 1, embedded := false, tag := "", pkgPath := "runtime", byteOffset := 16 }]) := opq Tryz.underlying14
@[simp ↓] theorem fld14_0 {q : Nat → TypeId → Prop} : goFld Tryz.prog 14 0 q = q 0 9 := by simp only [goFld, und14]; rfl
@[simp ↓] theorem fld14_1 {q : Nat → TypeId → Prop} : goFld Tryz.prog 14 1 q = q 1 12 := by simp only [goFld, und14]; rfl
@[simp ↓] theorem bld14 {q : List Value → List (Nat × Nat) → Prop} : goBld Tryz.prog 14 q = q [Go.Value.string { data := #[] }, Go.Value.int Go.IntKind.u64 0] [(0, 1), (1, 1)] := by simp [goBld, und14, zer14, placesL, Value.cells]
theorem agg15 : aggT Tryz.prog 15 = some false := by unfold aggT; rw [Tryz.underlying15]; rfl
@[simp] theorem siz15 : szT Tryz.prog 15 = some 1 := by unfold szT; rw [show Tryz.prog.info? 15 = some Tryz.t15 from Tryz.type15]; rfl
@[simp ↓] theorem ty15 {q : Bool → Nat → Prop} : goTy Tryz.prog 15 q = q false 1 := by simp only [goTy, agg15, siz15]
@[simp ↓] theorem sz15 {q : Nat → Prop} : goSz Tryz.prog 15 q = q 1 := by simp only [goSz, siz15]
theorem zer15 : zero? Tryz.prog 15 = some (Go.Value.pointer none) := by unfold zero?; rw [show Tryz.prog.info? 15 = some Tryz.t15 from Tryz.type15]; rfl
@[simp ↓] theorem z15 {q : List Value → Prop} : goZ Tryz.prog 15 q = q [(Go.Value.pointer none)] := by simp [goZ, zer15, Value.cells]
@[simp] theorem und15 : Tryz.prog.underlying 15 = some (Go.TypeDesc.pointer 307) := opq Tryz.underlying15
@[simp ↓] theorem un15 {q : TypeDesc → Prop} : goUnd Tryz.prog 15 q = q (Go.TypeDesc.pointer 307) := by simp only [goUnd, und15]
theorem agg16 : aggT Tryz.prog 16 = some false := by unfold aggT; rw [Tryz.underlying16]; rfl
@[simp] theorem siz16 : szT Tryz.prog 16 = some 1 := by unfold szT; rw [show Tryz.prog.info? 16 = some Tryz.t16 from Tryz.type16]; rfl
@[simp ↓] theorem ty16 {q : Bool → Nat → Prop} : goTy Tryz.prog 16 q = q false 1 := by simp only [goTy, agg16, siz16]
@[simp ↓] theorem sz16 {q : Nat → Prop} : goSz Tryz.prog 16 q = q 1 := by simp only [goSz, siz16]
theorem zer16 : zero? Tryz.prog 16 = some (Go.Value.pointer none) := by unfold zero?; rw [show Tryz.prog.info? 16 = some Tryz.t16 from Tryz.type16]; rfl
@[simp ↓] theorem z16 {q : List Value → Prop} : goZ Tryz.prog 16 q = q [(Go.Value.pointer none)] := by simp [goZ, zer16, Value.cells]
@[simp] theorem und16 : Tryz.prog.underlying 16 = some (Go.TypeDesc.pointer 310) := opq Tryz.underlying16
@[simp ↓] theorem un16 {q : TypeDesc → Prop} : goUnd Tryz.prog 16 q = q (Go.TypeDesc.pointer 310) := by simp only [goUnd, und16]
theorem agg17 : aggT Tryz.prog 17 = some false := by unfold aggT; rw [Tryz.underlying17]; rfl
@[simp] theorem siz17 : szT Tryz.prog 17 = some 1 := by unfold szT; rw [show Tryz.prog.info? 17 = some Tryz.t17 from Tryz.type17]; rfl
@[simp ↓] theorem ty17 {q : Bool → Nat → Prop} : goTy Tryz.prog 17 q = q false 1 := by simp only [goTy, agg17, siz17]
@[simp ↓] theorem sz17 {q : Nat → Prop} : goSz Tryz.prog 17 q = q 1 := by simp only [goSz, siz17]
theorem zer17 : zero? Tryz.prog 17 = some (Go.Value.pointer none) := by unfold zero?; rw [show Tryz.prog.info? 17 = some Tryz.t17 from Tryz.type17]; rfl
@[simp ↓] theorem z17 {q : List Value → Prop} : goZ Tryz.prog 17 q = q [(Go.Value.pointer none)] := by simp [goZ, zer17, Value.cells]
@[simp] theorem und17 : Tryz.prog.underlying 17 = some (Go.TypeDesc.pointer 318) := opq Tryz.underlying17
@[simp ↓] theorem un17 {q : TypeDesc → Prop} : goUnd Tryz.prog 17 q = q (Go.TypeDesc.pointer 318) := by simp only [goUnd, und17]
theorem agg18 : aggT Tryz.prog 18 = some true := by unfold aggT; rw [Tryz.underlying18]; rfl
@[simp] theorem siz18 : szT Tryz.prog 18 = some 1 := by unfold szT; rw [show Tryz.prog.info? 18 = some Tryz.t18 from Tryz.type18]; rfl
@[simp ↓] theorem ty18 {q : Bool → Nat → Prop} : goTy Tryz.prog 18 q = q true 1 := by simp only [goTy, agg18, siz18]
@[simp ↓] theorem sz18 {q : Nat → Prop} : goSz Tryz.prog 18 q = q 1 := by simp only [goSz, siz18]
theorem zer18 : zero? Tryz.prog 18 = some (Go.Value.agg #[Go.Value.pointer none]) := by unfold zero?; rw [show Tryz.prog.info? 18 = some Tryz.t18 from Tryz.type18]; rfl
@[simp ↓] theorem z18 {q : List Value → Prop} : goZ Tryz.prog 18 q = q [Go.Value.pointer none] := by simp [goZ, zer18, Value.cells]
@[simp] theorem und18 : Tryz.prog.underlying 18 = some (Go.TypeDesc.struct
  #[{ name := "typ", type := 17, offset := 0, embedded := false, tag := "", pkgPath := "internal/runtime/maps",
      byteOffset := 0 }]) := opq Tryz.underlying18
@[simp ↓] theorem fld18_0 {q : Nat → TypeId → Prop} : goFld Tryz.prog 18 0 q = q 0 17 := by simp only [goFld, und18]; rfl
@[simp ↓] theorem bld18 {q : List Value → List (Nat × Nat) → Prop} : goBld Tryz.prog 18 q = q [Go.Value.pointer none] [(0, 1)] := by simp [goBld, und18, zer18, placesL, Value.cells]
theorem agg19 : aggT Tryz.prog 19 = some true := by unfold aggT; rw [Tryz.underlying19]; rfl
@[simp] theorem siz19 : szT Tryz.prog 19 = some 1 := by unfold szT; rw [show Tryz.prog.info? 19 = some Tryz.t19 from Tryz.type19]; rfl
@[simp ↓] theorem ty19 {q : Bool → Nat → Prop} : goTy Tryz.prog 19 q = q true 1 := by simp only [goTy, agg19, siz19]
@[simp ↓] theorem sz19 {q : Nat → Prop} : goSz Tryz.prog 19 q = q 1 := by simp only [goSz, siz19]
theorem zer19 : zero? Tryz.prog 19 = some (Go.Value.agg #[Go.Value.pointer none]) := by unfold zero?; rw [show Tryz.prog.info? 19 = some Tryz.t19 from Tryz.type19]; rfl
@[simp ↓] theorem z19 {q : List Value → Prop} : goZ Tryz.prog 19 q = q [Go.Value.pointer none] := by simp [goZ, zer19, Value.cells]
@[simp] theorem und19 : Tryz.prog.underlying 19 = some (Go.TypeDesc.struct
  #[{ name := "typ", type := 17, offset := 0, embedded := false, tag := "", pkgPath := "internal/runtime/maps",
      byteOffset := 0 }]) := opq Tryz.underlying19
@[simp ↓] theorem fld19_0 {q : Nat → TypeId → Prop} : goFld Tryz.prog 19 0 q = q 0 17 := by simp only [goFld, und19]; rfl
@[simp ↓] theorem bld19 {q : List Value → List (Nat × Nat) → Prop} : goBld Tryz.prog 19 q = q [Go.Value.pointer none] [(0, 1)] := by simp [goBld, und19, zer19, placesL, Value.cells]
theorem agg20 : aggT Tryz.prog 20 = some false := by unfold aggT; rw [Tryz.underlying20]; rfl
@[simp] theorem siz20 : szT Tryz.prog 20 = some 1 := by unfold szT; rw [show Tryz.prog.info? 20 = some Tryz.t20 from Tryz.type20]; rfl
@[simp ↓] theorem ty20 {q : Bool → Nat → Prop} : goTy Tryz.prog 20 q = q false 1 := by simp only [goTy, agg20, siz20]
@[simp ↓] theorem sz20 {q : Nat → Prop} : goSz Tryz.prog 20 q = q 1 := by simp only [goSz, siz20]
theorem zer20 : zero? Tryz.prog 20 = some Go.Value.nilIface := by unfold zero?; rw [show Tryz.prog.info? 20 = some Tryz.t20 from Tryz.type20]; rfl
@[simp ↓] theorem z20 {q : List Value → Prop} : goZ Tryz.prog 20 q = q [Go.Value.nilIface] := by simp [goZ, zer20, Value.cells]
theorem agg21 : aggT Tryz.prog 21 = some false := by unfold aggT; rw [Tryz.underlying21]; rfl
@[simp] theorem siz21 : szT Tryz.prog 21 = some 1 := by unfold szT; rw [show Tryz.prog.info? 21 = some Tryz.t21 from Tryz.type21]; rfl
@[simp ↓] theorem ty21 {q : Bool → Nat → Prop} : goTy Tryz.prog 21 q = q false 1 := by simp only [goTy, agg21, siz21]
@[simp ↓] theorem sz21 {q : Nat → Prop} : goSz Tryz.prog 21 q = q 1 := by simp only [goSz, siz21]
theorem zer21 : zero? Tryz.prog 21 = some (Go.Value.int Go.IntKind.i32 0) := by unfold zero?; rw [show Tryz.prog.info? 21 = some Tryz.t21 from Tryz.type21]; rfl
@[simp ↓] theorem z21 {q : List Value → Prop} : goZ Tryz.prog 21 q = q [(Go.Value.int Go.IntKind.i32 0)] := by simp [goZ, zer21, Value.cells]
@[simp] theorem und21 : Tryz.prog.underlying 21 = some (Go.TypeDesc.int Go.IntKind.i32) := opq Tryz.underlying21
@[simp ↓] theorem un21 {q : TypeDesc → Prop} : goUnd Tryz.prog 21 q = q (Go.TypeDesc.int Go.IntKind.i32) := by simp only [goUnd, und21]
theorem agg22 : aggT Tryz.prog 22 = some false := by unfold aggT; rw [Tryz.underlying22]; rfl
@[simp] theorem siz22 : szT Tryz.prog 22 = some 1 := by unfold szT; rw [show Tryz.prog.info? 22 = some Tryz.t22 from Tryz.type22]; rfl
@[simp ↓] theorem ty22 {q : Bool → Nat → Prop} : goTy Tryz.prog 22 q = q false 1 := by simp only [goTy, agg22, siz22]
@[simp ↓] theorem sz22 {q : Nat → Prop} : goSz Tryz.prog 22 q = q 1 := by simp only [goSz, siz22]
theorem zer22 : zero? Tryz.prog 22 = some (Go.Value.slice none 0 0) := by unfold zero?; rw [show Tryz.prog.info? 22 = some Tryz.t22 from Tryz.type22]; rfl
@[simp ↓] theorem z22 {q : List Value → Prop} : goZ Tryz.prog 22 q = q [(Go.Value.slice none 0 0)] := by simp [goZ, zer22, Value.cells]
@[simp] theorem und22 : Tryz.prog.underlying 22 = some (Go.TypeDesc.slice 161) := opq Tryz.underlying22
@[simp ↓] theorem un22 {q : TypeDesc → Prop} : goUnd Tryz.prog 22 q = q (Go.TypeDesc.slice 161) := by simp only [goUnd, und22]
theorem slt22 : SlT Tryz.prog 22 161 6 96 := ⟨Tryz.underlying22, ⟨Tryz.t161, _, Tryz.type161, rfl, rfl, rfl, by simp, rfl⟩, by decide⟩
@[simp ↓] theorem sl22 {q : TypeId → Nat → List Value → Prop} : goSl Tryz.prog 22 q = q 161 6 [Go.Value.string { data := #[] }, Go.Value.int Go.IntKind.i64 0, Go.Value.int Go.IntKind.i64 0,
      Go.Value.string { data := #[] }, Go.Value.slice none 0 0, Go.Value.slice none 0 0] := by simp [goSl, und22, show zero? Tryz.prog 161 = some
  (Go.Value.agg
    #[Go.Value.string { data := #[] }, Go.Value.int Go.IntKind.i64 0, Go.Value.int Go.IntKind.i64 0,
      Go.Value.string { data := #[] }, Go.Value.slice none 0 0, Go.Value.slice none 0 0]) from by unfold zero?; rw [show Tryz.prog.info? 161 = some Tryz.t161 from Tryz.type161]; rfl, show szT Tryz.prog 161 = some 6 from by unfold szT; rw [show Tryz.prog.info? 161 = some Tryz.t161 from Tryz.type161]; rfl, Value.cells]
theorem agg23 : aggT Tryz.prog 23 = some true := by unfold aggT; rw [Tryz.underlying23]; rfl
@[simp] theorem siz23 : szT Tryz.prog 23 = some 1 := by unfold szT; rw [show Tryz.prog.info? 23 = some Tryz.t23 from Tryz.type23]; rfl
@[simp ↓] theorem ty23 {q : Bool → Nat → Prop} : goTy Tryz.prog 23 q = q true 1 := by simp only [goTy, agg23, siz23]
@[simp ↓] theorem sz23 {q : Nat → Prop} : goSz Tryz.prog 23 q = q 1 := by simp only [goSz, siz23]
theorem zer23 : zero? Tryz.prog 23 = some (Go.Value.agg #[Go.Value.slice none 0 0]) := by unfold zero?; rw [show Tryz.prog.info? 23 = some Tryz.t23 from Tryz.type23]; rfl
@[simp ↓] theorem z23 {q : List Value → Prop} : goZ Tryz.prog 23 q = q [Go.Value.slice none 0 0] := by simp [goZ, zer23, Value.cells]
@[simp] theorem und23 : Tryz.prog.underlying 23 = some (Go.TypeDesc.struct
  #[{ name := "Deeds", type := 22, offset := 0, embedded := false, tag := "", pkgPath := "", byteOffset := 0 }]) := opq Tryz.underlying23
@[simp ↓] theorem fld23_0 {q : Nat → TypeId → Prop} : goFld Tryz.prog 23 0 q = q 0 22 := by simp only [goFld, und23]; rfl
@[simp ↓] theorem bld23 {q : List Value → List (Nat × Nat) → Prop} : goBld Tryz.prog 23 q = q [Go.Value.slice none 0 0] [(0, 1)] := by simp [goBld, und23, zer23, placesL, Value.cells]
theorem agg24 : aggT Tryz.prog 24 = some true := by unfold aggT; rw [Tryz.underlying24]; rfl
@[simp] theorem siz24 : szT Tryz.prog 24 = some 1 := by unfold szT; rw [show Tryz.prog.info? 24 = some Tryz.t24 from Tryz.type24]; rfl
@[simp ↓] theorem ty24 {q : Bool → Nat → Prop} : goTy Tryz.prog 24 q = q true 1 := by simp only [goTy, agg24, siz24]
@[simp ↓] theorem sz24 {q : Nat → Prop} : goSz Tryz.prog 24 q = q 1 := by simp only [goSz, siz24]
theorem zer24 : zero? Tryz.prog 24 = some (Go.Value.agg #[Go.Value.slice none 0 0]) := by unfold zero?; rw [show Tryz.prog.info? 24 = some Tryz.t24 from Tryz.type24]; rfl
@[simp ↓] theorem z24 {q : List Value → Prop} : goZ Tryz.prog 24 q = q [Go.Value.slice none 0 0] := by simp [goZ, zer24, Value.cells]
@[simp] theorem und24 : Tryz.prog.underlying 24 = some (Go.TypeDesc.struct
  #[{ name := "Deeds", type := 22, offset := 0, embedded := false, tag := "", pkgPath := "", byteOffset := 0 }]) := opq Tryz.underlying24
@[simp ↓] theorem fld24_0 {q : Nat → TypeId → Prop} : goFld Tryz.prog 24 0 q = q 0 22 := by simp only [goFld, und24]; rfl
@[simp ↓] theorem bld24 {q : List Value → List (Nat × Nat) → Prop} : goBld Tryz.prog 24 q = q [Go.Value.slice none 0 0] [(0, 1)] := by simp [goBld, und24, zer24, placesL, Value.cells]
theorem agg25 : aggT Tryz.prog 25 = some false := by unfold aggT; rw [Tryz.underlying25]; rfl
@[simp] theorem siz25 : szT Tryz.prog 25 = some 1 := by unfold szT; rw [show Tryz.prog.info? 25 = some Tryz.t25 from Tryz.type25]; rfl
@[simp ↓] theorem ty25 {q : Bool → Nat → Prop} : goTy Tryz.prog 25 q = q false 1 := by simp only [goTy, agg25, siz25]
@[simp ↓] theorem sz25 {q : Nat → Prop} : goSz Tryz.prog 25 q = q 1 := by simp only [goSz, siz25]
theorem zer25 : zero? Tryz.prog 25 = some Go.Value.nilFunc := by unfold zero?; rw [show Tryz.prog.info? 25 = some Tryz.t25 from Tryz.type25]; rfl
@[simp ↓] theorem z25 {q : List Value → Prop} : goZ Tryz.prog 25 q = q [Go.Value.nilFunc] := by simp [goZ, zer25, Value.cells]
theorem agg26 : aggT Tryz.prog 26 = some false := by unfold aggT; rw [Tryz.underlying26]; rfl
@[simp] theorem siz26 : szT Tryz.prog 26 = some 1 := by unfold szT; rw [show Tryz.prog.info? 26 = some Tryz.t26 from Tryz.type26]; rfl
@[simp ↓] theorem ty26 {q : Bool → Nat → Prop} : goTy Tryz.prog 26 q = q false 1 := by simp only [goTy, agg26, siz26]
@[simp ↓] theorem sz26 {q : Nat → Prop} : goSz Tryz.prog 26 q = q 1 := by simp only [goSz, siz26]
theorem zer26 : zero? Tryz.prog 26 = some (Go.Value.slice none 0 0) := by unfold zero?; rw [show Tryz.prog.info? 26 = some Tryz.t26 from Tryz.type26]; rfl
@[simp ↓] theorem z26 {q : List Value → Prop} : goZ Tryz.prog 26 q = q [(Go.Value.slice none 0 0)] := by simp [goZ, zer26, Value.cells]
@[simp] theorem und26 : Tryz.prog.underlying 26 = some (Go.TypeDesc.slice 9) := opq Tryz.underlying26
@[simp ↓] theorem un26 {q : TypeDesc → Prop} : goUnd Tryz.prog 26 q = q (Go.TypeDesc.slice 9) := by simp only [goUnd, und26]
theorem slt26 : SlT Tryz.prog 26 9 1 16 := ⟨Tryz.underlying26, ⟨Tryz.t9, _, Tryz.type9, rfl, rfl, rfl, by simp, rfl⟩, by decide⟩
@[simp ↓] theorem sl26 {q : TypeId → Nat → List Value → Prop} : goSl Tryz.prog 26 q = q 9 1 [(Go.Value.string { data := #[] })] := by simp [goSl, und26, show zero? Tryz.prog 9 = some (Go.Value.string { data := #[] }) from by unfold zero?; rw [show Tryz.prog.info? 9 = some Tryz.t9 from Tryz.type9]; rfl, show szT Tryz.prog 9 = some 1 from by unfold szT; rw [show Tryz.prog.info? 9 = some Tryz.t9 from Tryz.type9]; rfl, Value.cells]
theorem agg27 : aggT Tryz.prog 27 = some false := by unfold aggT; rw [Tryz.underlying27]; rfl
@[simp] theorem siz27 : szT Tryz.prog 27 = some 1 := by unfold szT; rw [show Tryz.prog.info? 27 = some Tryz.t27 from Tryz.type27]; rfl
@[simp ↓] theorem ty27 {q : Bool → Nat → Prop} : goTy Tryz.prog 27 q = q false 1 := by simp only [goTy, agg27, siz27]
@[simp ↓] theorem sz27 {q : Nat → Prop} : goSz Tryz.prog 27 q = q 1 := by simp only [goSz, siz27]
theorem zer27 : zero? Tryz.prog 27 = some Go.Value.nilFunc := by unfold zero?; rw [show Tryz.prog.info? 27 = some Tryz.t27 from Tryz.type27]; rfl
@[simp ↓] theorem z27 {q : List Value → Prop} : goZ Tryz.prog 27 q = q [Go.Value.nilFunc] := by simp [goZ, zer27, Value.cells]
theorem agg28 : aggT Tryz.prog 28 = some false := by unfold aggT; rw [Tryz.underlying28]; rfl
@[simp] theorem siz28 : szT Tryz.prog 28 = some 1 := by unfold szT; rw [show Tryz.prog.info? 28 = some Tryz.t28 from Tryz.type28]; rfl
@[simp ↓] theorem ty28 {q : Bool → Nat → Prop} : goTy Tryz.prog 28 q = q false 1 := by simp only [goTy, agg28, siz28]
@[simp ↓] theorem sz28 {q : Nat → Prop} : goSz Tryz.prog 28 q = q 1 := by simp only [goSz, siz28]
theorem zer28 : zero? Tryz.prog 28 = some (Go.Value.slice none 0 0) := by unfold zero?; rw [show Tryz.prog.info? 28 = some Tryz.t28 from Tryz.type28]; rfl
@[simp ↓] theorem z28 {q : List Value → Prop} : goZ Tryz.prog 28 q = q [(Go.Value.slice none 0 0)] := by simp [goZ, zer28, Value.cells]
@[simp] theorem und28 : Tryz.prog.underlying 28 = some (Go.TypeDesc.slice 57) := opq Tryz.underlying28
@[simp ↓] theorem un28 {q : TypeDesc → Prop} : goUnd Tryz.prog 28 q = q (Go.TypeDesc.slice 57) := by simp only [goUnd, und28]
theorem slt28 : SlT Tryz.prog 28 57 6 96 := ⟨Tryz.underlying28, ⟨Tryz.t57, _, Tryz.type57, rfl, rfl, rfl, by simp, rfl⟩, by decide⟩
@[simp ↓] theorem sl28 {q : TypeId → Nat → List Value → Prop} : goSl Tryz.prog 28 q = q 57 6 [Go.Value.string { data := #[] }, Go.Value.int Go.IntKind.i64 0, Go.Value.int Go.IntKind.i64 0,
      Go.Value.string { data := #[] }, Go.Value.slice none 0 0, Go.Value.slice none 0 0] := by simp [goSl, und28, show zero? Tryz.prog 57 = some
  (Go.Value.agg
    #[Go.Value.string { data := #[] }, Go.Value.int Go.IntKind.i64 0, Go.Value.int Go.IntKind.i64 0,
      Go.Value.string { data := #[] }, Go.Value.slice none 0 0, Go.Value.slice none 0 0]) from by unfold zero?; rw [show Tryz.prog.info? 57 = some Tryz.t57 from Tryz.type57]; rfl, show szT Tryz.prog 57 = some 6 from by unfold szT; rw [show Tryz.prog.info? 57 = some Tryz.t57 from Tryz.type57]; rfl, Value.cells]
theorem agg29 : aggT Tryz.prog 29 = some true := by unfold aggT; rw [Tryz.underlying29]; rfl
@[simp] theorem siz29 : szT Tryz.prog 29 = some 1 := by unfold szT; rw [show Tryz.prog.info? 29 = some Tryz.t29 from Tryz.type29]; rfl
@[simp ↓] theorem ty29 {q : Bool → Nat → Prop} : goTy Tryz.prog 29 q = q true 1 := by simp only [goTy, agg29, siz29]
@[simp ↓] theorem sz29 {q : Nat → Prop} : goSz Tryz.prog 29 q = q 1 := by simp only [goSz, siz29]
theorem zer29 : zero? Tryz.prog 29 = some (Go.Value.agg #[Go.Value.slice none 0 0]) := by unfold zero?; rw [show Tryz.prog.info? 29 = some Tryz.t29 from Tryz.type29]; rfl
@[simp ↓] theorem z29 {q : List Value → Prop} : goZ Tryz.prog 29 q = q [Go.Value.slice none 0 0] := by simp [goZ, zer29, Value.cells]
@[simp] theorem und29 : Tryz.prog.underlying 29 = some (Go.TypeDesc.struct
  #[{ name := "Deeds", type := 28, offset := 0, embedded := false, tag := "", pkgPath := "", byteOffset := 0 }]) := opq Tryz.underlying29
@[simp ↓] theorem fld29_0 {q : Nat → TypeId → Prop} : goFld Tryz.prog 29 0 q = q 0 28 := by simp only [goFld, und29]; rfl
@[simp ↓] theorem bld29 {q : List Value → List (Nat × Nat) → Prop} : goBld Tryz.prog 29 q = q [Go.Value.slice none 0 0] [(0, 1)] := by simp [goBld, und29, zer29, placesL, Value.cells]
theorem agg30 : aggT Tryz.prog 30 = some true := by unfold aggT; rw [Tryz.underlying30]; rfl
@[simp] theorem siz30 : szT Tryz.prog 30 = some 1 := by unfold szT; rw [show Tryz.prog.info? 30 = some Tryz.t30 from Tryz.type30]; rfl
@[simp ↓] theorem ty30 {q : Bool → Nat → Prop} : goTy Tryz.prog 30 q = q true 1 := by simp only [goTy, agg30, siz30]
@[simp ↓] theorem sz30 {q : Nat → Prop} : goSz Tryz.prog 30 q = q 1 := by simp only [goSz, siz30]
theorem zer30 : zero? Tryz.prog 30 = some (Go.Value.agg #[Go.Value.slice none 0 0]) := by unfold zero?; rw [show Tryz.prog.info? 30 = some Tryz.t30 from Tryz.type30]; rfl
@[simp ↓] theorem z30 {q : List Value → Prop} : goZ Tryz.prog 30 q = q [Go.Value.slice none 0 0] := by simp [goZ, zer30, Value.cells]
@[simp] theorem und30 : Tryz.prog.underlying 30 = some (Go.TypeDesc.struct
  #[{ name := "Deeds", type := 28, offset := 0, embedded := false, tag := "", pkgPath := "", byteOffset := 0 }]) := opq Tryz.underlying30
@[simp ↓] theorem fld30_0 {q : Nat → TypeId → Prop} : goFld Tryz.prog 30 0 q = q 0 28 := by simp only [goFld, und30]; rfl
@[simp ↓] theorem bld30 {q : List Value → List (Nat × Nat) → Prop} : goBld Tryz.prog 30 q = q [Go.Value.slice none 0 0] [(0, 1)] := by simp [goBld, und30, zer30, placesL, Value.cells]
theorem agg31 : aggT Tryz.prog 31 = some false := by unfold aggT; rw [Tryz.underlying31]; rfl
@[simp] theorem siz31 : szT Tryz.prog 31 = some 1 := by unfold szT; rw [show Tryz.prog.info? 31 = some Tryz.t31 from Tryz.type31]; rfl
@[simp ↓] theorem ty31 {q : Bool → Nat → Prop} : goTy Tryz.prog 31 q = q false 1 := by simp only [goTy, agg31, siz31]
@[simp ↓] theorem sz31 {q : Nat → Prop} : goSz Tryz.prog 31 q = q 1 := by simp only [goSz, siz31]
theorem zer31 : zero? Tryz.prog 31 = some Go.Value.nilFunc := by unfold zero?; rw [show Tryz.prog.info? 31 = some Tryz.t31 from Tryz.type31]; rfl
@[simp ↓] theorem z31 {q : List Value → Prop} : goZ Tryz.prog 31 q = q [Go.Value.nilFunc] := by simp [goZ, zer31, Value.cells]
theorem agg32 : aggT Tryz.prog 32 = some false := by unfold aggT; rw [Tryz.underlying32]; rfl
@[simp] theorem siz32 : szT Tryz.prog 32 = some 1 := by unfold szT; rw [show Tryz.prog.info? 32 = some Tryz.t32 from Tryz.type32]; rfl
@[simp ↓] theorem ty32 {q : Bool → Nat → Prop} : goTy Tryz.prog 32 q = q false 1 := by simp only [goTy, agg32, siz32]
@[simp ↓] theorem sz32 {q : Nat → Prop} : goSz Tryz.prog 32 q = q 1 := by simp only [goSz, siz32]
theorem zer32 : zero? Tryz.prog 32 = some Go.Value.nilFunc := by unfold zero?; rw [show Tryz.prog.info? 32 = some Tryz.t32 from Tryz.type32]; rfl
@[simp ↓] theorem z32 {q : List Value → Prop} : goZ Tryz.prog 32 q = q [Go.Value.nilFunc] := by simp [goZ, zer32, Value.cells]
theorem agg33 : aggT Tryz.prog 33 = some false := by unfold aggT; rw [Tryz.underlying33]; rfl
@[simp] theorem siz33 : szT Tryz.prog 33 = some 1 := by unfold szT; rw [show Tryz.prog.info? 33 = some Tryz.t33 from Tryz.type33]; rfl
@[simp ↓] theorem ty33 {q : Bool → Nat → Prop} : goTy Tryz.prog 33 q = q false 1 := by simp only [goTy, agg33, siz33]
@[simp ↓] theorem sz33 {q : Nat → Prop} : goSz Tryz.prog 33 q = q 1 := by simp only [goSz, siz33]
theorem zer33 : zero? Tryz.prog 33 = some Go.Value.nilFunc := by unfold zero?; rw [show Tryz.prog.info? 33 = some Tryz.t33 from Tryz.type33]; rfl
@[simp ↓] theorem z33 {q : List Value → Prop} : goZ Tryz.prog 33 q = q [Go.Value.nilFunc] := by simp [goZ, zer33, Value.cells]
theorem agg34 : aggT Tryz.prog 34 = some false := by unfold aggT; rw [Tryz.underlying34]; rfl
@[simp] theorem siz34 : szT Tryz.prog 34 = some 1 := by unfold szT; rw [show Tryz.prog.info? 34 = some Tryz.t34 from Tryz.type34]; rfl
@[simp ↓] theorem ty34 {q : Bool → Nat → Prop} : goTy Tryz.prog 34 q = q false 1 := by simp only [goTy, agg34, siz34]
@[simp ↓] theorem sz34 {q : Nat → Prop} : goSz Tryz.prog 34 q = q 1 := by simp only [goSz, siz34]
theorem zer34 : zero? Tryz.prog 34 = some Go.Value.nilFunc := by unfold zero?; rw [show Tryz.prog.info? 34 = some Tryz.t34 from Tryz.type34]; rfl
@[simp ↓] theorem z34 {q : List Value → Prop} : goZ Tryz.prog 34 q = q [Go.Value.nilFunc] := by simp [goZ, zer34, Value.cells]
theorem agg35 : aggT Tryz.prog 35 = some false := by unfold aggT; rw [Tryz.underlying35]; rfl
@[simp] theorem siz35 : szT Tryz.prog 35 = some 1 := by unfold szT; rw [show Tryz.prog.info? 35 = some Tryz.t35 from Tryz.type35]; rfl
@[simp ↓] theorem ty35 {q : Bool → Nat → Prop} : goTy Tryz.prog 35 q = q false 1 := by simp only [goTy, agg35, siz35]
@[simp ↓] theorem sz35 {q : Nat → Prop} : goSz Tryz.prog 35 q = q 1 := by simp only [goSz, siz35]
theorem zer35 : zero? Tryz.prog 35 = some Go.Value.nilFunc := by unfold zero?; rw [show Tryz.prog.info? 35 = some Tryz.t35 from Tryz.type35]; rfl
@[simp ↓] theorem z35 {q : List Value → Prop} : goZ Tryz.prog 35 q = q [Go.Value.nilFunc] := by simp [goZ, zer35, Value.cells]
theorem agg36 : aggT Tryz.prog 36 = some false := by unfold aggT; rw [Tryz.underlying36]; rfl
@[simp] theorem siz36 : szT Tryz.prog 36 = some 1 := by unfold szT; rw [show Tryz.prog.info? 36 = some Tryz.t36 from Tryz.type36]; rfl
@[simp ↓] theorem ty36 {q : Bool → Nat → Prop} : goTy Tryz.prog 36 q = q false 1 := by simp only [goTy, agg36, siz36]
@[simp ↓] theorem sz36 {q : Nat → Prop} : goSz Tryz.prog 36 q = q 1 := by simp only [goSz, siz36]
theorem zer36 : zero? Tryz.prog 36 = some Go.Value.nilFunc := by unfold zero?; rw [show Tryz.prog.info? 36 = some Tryz.t36 from Tryz.type36]; rfl
@[simp ↓] theorem z36 {q : List Value → Prop} : goZ Tryz.prog 36 q = q [Go.Value.nilFunc] := by simp [goZ, zer36, Value.cells]
theorem agg37 : aggT Tryz.prog 37 = some false := by unfold aggT; rw [Tryz.underlying37]; rfl
@[simp] theorem siz37 : szT Tryz.prog 37 = some 1 := by unfold szT; rw [show Tryz.prog.info? 37 = some Tryz.t37 from Tryz.type37]; rfl
@[simp ↓] theorem ty37 {q : Bool → Nat → Prop} : goTy Tryz.prog 37 q = q false 1 := by simp only [goTy, agg37, siz37]
@[simp ↓] theorem sz37 {q : Nat → Prop} : goSz Tryz.prog 37 q = q 1 := by simp only [goSz, siz37]
theorem zer37 : zero? Tryz.prog 37 = some (Go.Value.slice none 0 0) := by unfold zero?; rw [show Tryz.prog.info? 37 = some Tryz.t37 from Tryz.type37]; rfl
@[simp ↓] theorem z37 {q : List Value → Prop} : goZ Tryz.prog 37 q = q [(Go.Value.slice none 0 0)] := by simp [goZ, zer37, Value.cells]
@[simp] theorem und37 : Tryz.prog.underlying 37 = some (Go.TypeDesc.slice 5) := opq Tryz.underlying37
@[simp ↓] theorem un37 {q : TypeDesc → Prop} : goUnd Tryz.prog 37 q = q (Go.TypeDesc.slice 5) := by simp only [goUnd, und37]
theorem slt37 : SlT Tryz.prog 37 5 1 1 := ⟨Tryz.underlying37, ⟨Tryz.t5, _, Tryz.type5, rfl, rfl, rfl, by simp, rfl⟩, by decide⟩
@[simp ↓] theorem sl37 {q : TypeId → Nat → List Value → Prop} : goSl Tryz.prog 37 q = q 5 1 [(Go.Value.int Go.IntKind.u8 0)] := by simp [goSl, und37, show zero? Tryz.prog 5 = some (Go.Value.int Go.IntKind.u8 0) from by unfold zero?; rw [show Tryz.prog.info? 5 = some Tryz.t5 from Tryz.type5]; rfl, show szT Tryz.prog 5 = some 1 from by unfold szT; rw [show Tryz.prog.info? 5 = some Tryz.t5 from Tryz.type5]; rfl, Value.cells]
theorem agg38 : aggT Tryz.prog 38 = some false := by unfold aggT; rw [Tryz.underlying38]; rfl
@[simp] theorem siz38 : szT Tryz.prog 38 = some 1 := by unfold szT; rw [show Tryz.prog.info? 38 = some Tryz.t38 from Tryz.type38]; rfl
@[simp ↓] theorem ty38 {q : Bool → Nat → Prop} : goTy Tryz.prog 38 q = q false 1 := by simp only [goTy, agg38, siz38]
@[simp ↓] theorem sz38 {q : Nat → Prop} : goSz Tryz.prog 38 q = q 1 := by simp only [goSz, siz38]
theorem zer38 : zero? Tryz.prog 38 = some (Go.Value.slice none 0 0) := by unfold zero?; rw [show Tryz.prog.info? 38 = some Tryz.t38 from Tryz.type38]; rfl
@[simp ↓] theorem z38 {q : List Value → Prop} : goZ Tryz.prog 38 q = q [(Go.Value.slice none 0 0)] := by simp [goZ, zer38, Value.cells]
@[simp] theorem und38 : Tryz.prog.underlying 38 = some (Go.TypeDesc.slice 150) := opq Tryz.underlying38
@[simp ↓] theorem un38 {q : TypeDesc → Prop} : goUnd Tryz.prog 38 q = q (Go.TypeDesc.slice 150) := by simp only [goUnd, und38]
theorem slt38 : SlT Tryz.prog 38 150 2 32 := ⟨Tryz.underlying38, ⟨Tryz.t150, _, Tryz.type150, rfl, rfl, rfl, by simp, rfl⟩, by decide⟩
@[simp ↓] theorem sl38 {q : TypeId → Nat → List Value → Prop} : goSl Tryz.prog 38 q = q 150 2 [Go.Value.string { data := #[] }, Go.Value.string { data := #[] }] := by simp [goSl, und38, show zero? Tryz.prog 150 = some (Go.Value.agg #[Go.Value.string { data := #[] }, Go.Value.string { data := #[] }]) from by unfold zero?; rw [show Tryz.prog.info? 150 = some Tryz.t150 from Tryz.type150]; rfl, show szT Tryz.prog 150 = some 2 from by unfold szT; rw [show Tryz.prog.info? 150 = some Tryz.t150 from Tryz.type150]; rfl, Value.cells]
theorem agg39 : aggT Tryz.prog 39 = some false := by unfold aggT; rw [Tryz.underlying39]; rfl
@[simp] theorem siz39 : szT Tryz.prog 39 = some 1 := by unfold szT; rw [show Tryz.prog.info? 39 = some Tryz.t39 from Tryz.type39]; rfl
@[simp ↓] theorem ty39 {q : Bool → Nat → Prop} : goTy Tryz.prog 39 q = q false 1 := by simp only [goTy, agg39, siz39]
@[simp ↓] theorem sz39 {q : Nat → Prop} : goSz Tryz.prog 39 q = q 1 := by simp only [goSz, siz39]
theorem zer39 : zero? Tryz.prog 39 = some (Go.Value.slice none 0 0) := by unfold zero?; rw [show Tryz.prog.info? 39 = some Tryz.t39 from Tryz.type39]; rfl
@[simp ↓] theorem z39 {q : List Value → Prop} : goZ Tryz.prog 39 q = q [(Go.Value.slice none 0 0)] := by simp [goZ, zer39, Value.cells]
@[simp] theorem und39 : Tryz.prog.underlying 39 = some (Go.TypeDesc.slice 154) := opq Tryz.underlying39
@[simp ↓] theorem un39 {q : TypeDesc → Prop} : goUnd Tryz.prog 39 q = q (Go.TypeDesc.slice 154) := by simp only [goUnd, und39]
theorem slt39 : SlT Tryz.prog 39 154 2 40 := ⟨Tryz.underlying39, ⟨Tryz.t154, _, Tryz.type154, rfl, rfl, rfl, by simp, rfl⟩, by decide⟩
@[simp ↓] theorem sl39 {q : TypeId → Nat → List Value → Prop} : goSl Tryz.prog 39 q = q 154 2 [Go.Value.string { data := #[] }, Go.Value.slice none 0 0] := by simp [goSl, und39, show zero? Tryz.prog 154 = some (Go.Value.agg #[Go.Value.string { data := #[] }, Go.Value.slice none 0 0]) from by unfold zero?; rw [show Tryz.prog.info? 154 = some Tryz.t154 from Tryz.type154]; rfl, show szT Tryz.prog 154 = some 2 from by unfold szT; rw [show Tryz.prog.info? 154 = some Tryz.t154 from Tryz.type154]; rfl, Value.cells]
theorem agg41 : aggT Tryz.prog 41 = some true := by unfold aggT; rw [Tryz.underlying41]; rfl
@[simp] theorem siz41 : szT Tryz.prog 41 = some 2 := by unfold szT; rw [show Tryz.prog.info? 41 = some Tryz.t41 from Tryz.type41]; rfl
@[simp ↓] theorem ty41 {q : Bool → Nat → Prop} : goTy Tryz.prog 41 q = q true 2 := by simp only [goTy, agg41, siz41]
@[simp ↓] theorem sz41 {q : Nat → Prop} : goSz Tryz.prog 41 q = q 2 := by simp only [goSz, siz41]
theorem zer41 : zero? Tryz.prog 41 = some (Go.Value.agg #[Go.Value.slice none 0 0, Go.Value.slice none 0 0]) := by unfold zero?; rw [show Tryz.prog.info? 41 = some Tryz.t41 from Tryz.type41]; rfl
@[simp ↓] theorem z41 {q : List Value → Prop} : goZ Tryz.prog 41 q = q [Go.Value.slice none 0 0, Go.Value.slice none 0 0] := by simp [goZ, zer41, Value.cells]
@[simp] theorem und41 : Tryz.prog.underlying 41 = some (Go.TypeDesc.struct
  #[{ name := "Sources", type := 38, offset := 0, embedded := false, tag := "", pkgPath := "", byteOffset := 0 },
    { name := "Targets", type := 39, offset := 1, embedded := false, tag := "", pkgPath := "", byteOffset := 24 }]) := opq Tryz.underlying41
@[simp ↓] theorem fld41_0 {q : Nat → TypeId → Prop} : goFld Tryz.prog 41 0 q = q 0 38 := by simp only [goFld, und41]; rfl
@[simp ↓] theorem fld41_1 {q : Nat → TypeId → Prop} : goFld Tryz.prog 41 1 q = q 1 39 := by simp only [goFld, und41]; rfl
@[simp ↓] theorem bld41 {q : List Value → List (Nat × Nat) → Prop} : goBld Tryz.prog 41 q = q [Go.Value.slice none 0 0, Go.Value.slice none 0 0] [(0, 1), (1, 1)] := by simp [goBld, und41, zer41, placesL, Value.cells]
theorem agg45 : aggT Tryz.prog 45 = some false := by unfold aggT; rw [Tryz.underlying45]; rfl
@[simp] theorem siz45 : szT Tryz.prog 45 = some 1 := by unfold szT; rw [show Tryz.prog.info? 45 = some Tryz.t45 from Tryz.type45]; rfl
@[simp ↓] theorem ty45 {q : Bool → Nat → Prop} : goTy Tryz.prog 45 q = q false 1 := by simp only [goTy, agg45, siz45]
@[simp ↓] theorem sz45 {q : Nat → Prop} : goSz Tryz.prog 45 q = q 1 := by simp only [goSz, siz45]
theorem zer45 : zero? Tryz.prog 45 = some Go.Value.nilFunc := by unfold zero?; rw [show Tryz.prog.info? 45 = some Tryz.t45 from Tryz.type45]; rfl
@[simp ↓] theorem z45 {q : List Value → Prop} : goZ Tryz.prog 45 q = q [Go.Value.nilFunc] := by simp [goZ, zer45, Value.cells]
theorem agg46 : aggT Tryz.prog 46 = some false := by unfold aggT; rw [Tryz.underlying46]; rfl
@[simp] theorem siz46 : szT Tryz.prog 46 = some 1 := by unfold szT; rw [show Tryz.prog.info? 46 = some Tryz.t46 from Tryz.type46]; rfl
@[simp ↓] theorem ty46 {q : Bool → Nat → Prop} : goTy Tryz.prog 46 q = q false 1 := by simp only [goTy, agg46, siz46]
@[simp ↓] theorem sz46 {q : Nat → Prop} : goSz Tryz.prog 46 q = q 1 := by simp only [goSz, siz46]
theorem zer46 : zero? Tryz.prog 46 = some Go.Value.nilFunc := by unfold zero?; rw [show Tryz.prog.info? 46 = some Tryz.t46 from Tryz.type46]; rfl
@[simp ↓] theorem z46 {q : List Value → Prop} : goZ Tryz.prog 46 q = q [Go.Value.nilFunc] := by simp [goZ, zer46, Value.cells]
theorem agg47 : aggT Tryz.prog 47 = some true := by unfold aggT; rw [Tryz.underlying47]; rfl
@[simp] theorem siz47 : szT Tryz.prog 47 = some 3 := by unfold szT; rw [show Tryz.prog.info? 47 = some Tryz.t47 from Tryz.type47]; rfl
@[simp ↓] theorem ty47 {q : Bool → Nat → Prop} : goTy Tryz.prog 47 q = q true 3 := by simp only [goTy, agg47, siz47]
@[simp ↓] theorem sz47 {q : Nat → Prop} : goSz Tryz.prog 47 q = q 3 := by simp only [goSz, siz47]
theorem zer47 : zero? Tryz.prog 47 = some (Go.Value.agg #[Go.Value.int Go.IntKind.i64 0, Go.Value.string { data := #[] }, Go.Value.slice none 0 0]) := by unfold zero?; rw [show Tryz.prog.info? 47 = some Tryz.t47 from Tryz.type47]; rfl
@[simp ↓] theorem z47 {q : List Value → Prop} : goZ Tryz.prog 47 q = q [Go.Value.int Go.IntKind.i64 0, Go.Value.string { data := #[] }, Go.Value.slice none 0 0] := by simp [goZ, zer47, Value.cells]
@[simp] theorem und47 : Tryz.prog.underlying 47 = some (Go.TypeDesc.struct
  #[{ name := "Code", type := 3, offset := 0, embedded := false, tag := "", pkgPath := "", byteOffset := 0 },
    { name := "Text", type := 9, offset := 1, embedded := false, tag := "", pkgPath := "", byteOffset := 8 },
    { name := "Chain", type := 26, offset := 2, embedded := false, tag := "", pkgPath := "", byteOffset := 24 }]) := opq Tryz.underlying47
@[simp ↓] theorem fld47_0 {q : Nat → TypeId → Prop} : goFld Tryz.prog 47 0 q = q 0 3 := by simp only [goFld, und47]; rfl
@[simp ↓] theorem fld47_1 {q : Nat → TypeId → Prop} : goFld Tryz.prog 47 1 q = q 1 9 := by simp only [goFld, und47]; rfl
@[simp ↓] theorem fld47_2 {q : Nat → TypeId → Prop} : goFld Tryz.prog 47 2 q = q 2 26 := by simp only [goFld, und47]; rfl
@[simp ↓] theorem bld47 {q : List Value → List (Nat × Nat) → Prop} : goBld Tryz.prog 47 q = q [Go.Value.int Go.IntKind.i64 0, Go.Value.string { data := #[] }, Go.Value.slice none 0 0] [(0, 1), (1, 1), (2, 1)] := by simp [goBld, und47, zer47, placesL, Value.cells]
theorem agg48 : aggT Tryz.prog 48 = some true := by unfold aggT; rw [Tryz.underlying48]; rfl
@[simp] theorem siz48 : szT Tryz.prog 48 = some 3 := by unfold szT; rw [show Tryz.prog.info? 48 = some Tryz.t48 from Tryz.type48]; rfl
@[simp ↓] theorem ty48 {q : Bool → Nat → Prop} : goTy Tryz.prog 48 q = q true 3 := by simp only [goTy, agg48, siz48]
@[simp ↓] theorem sz48 {q : Nat → Prop} : goSz Tryz.prog 48 q = q 3 := by simp only [goSz, siz48]
theorem zer48 : zero? Tryz.prog 48 = some (Go.Value.agg #[Go.Value.int Go.IntKind.i64 0, Go.Value.string { data := #[] }, Go.Value.slice none 0 0]) := by unfold zero?; rw [show Tryz.prog.info? 48 = some Tryz.t48 from Tryz.type48]; rfl
@[simp ↓] theorem z48 {q : List Value → Prop} : goZ Tryz.prog 48 q = q [Go.Value.int Go.IntKind.i64 0, Go.Value.string { data := #[] }, Go.Value.slice none 0 0] := by simp [goZ, zer48, Value.cells]
@[simp] theorem und48 : Tryz.prog.underlying 48 = some (Go.TypeDesc.struct
  #[{ name := "Code", type := 3, offset := 0, embedded := false, tag := "", pkgPath := "", byteOffset := 0 },
    { name := "Text", type := 9, offset := 1, embedded := false, tag := "", pkgPath := "", byteOffset := 8 },
    { name := "Chain", type := 26, offset := 2, embedded := false, tag := "", pkgPath := "", byteOffset := 24 }]) := opq Tryz.underlying48
@[simp ↓] theorem fld48_0 {q : Nat → TypeId → Prop} : goFld Tryz.prog 48 0 q = q 0 3 := by simp only [goFld, und48]; rfl
@[simp ↓] theorem fld48_1 {q : Nat → TypeId → Prop} : goFld Tryz.prog 48 1 q = q 1 9 := by simp only [goFld, und48]; rfl
@[simp ↓] theorem fld48_2 {q : Nat → TypeId → Prop} : goFld Tryz.prog 48 2 q = q 2 26 := by simp only [goFld, und48]; rfl
@[simp ↓] theorem bld48 {q : List Value → List (Nat × Nat) → Prop} : goBld Tryz.prog 48 q = q [Go.Value.int Go.IntKind.i64 0, Go.Value.string { data := #[] }, Go.Value.slice none 0 0] [(0, 1), (1, 1), (2, 1)] := by simp [goBld, und48, zer48, placesL, Value.cells]
theorem agg50 : aggT Tryz.prog 50 = some false := by unfold aggT; rw [Tryz.underlying50]; rfl
@[simp] theorem siz50 : szT Tryz.prog 50 = some 1 := by unfold szT; rw [show Tryz.prog.info? 50 = some Tryz.t50 from Tryz.type50]; rfl
@[simp ↓] theorem ty50 {q : Bool → Nat → Prop} : goTy Tryz.prog 50 q = q false 1 := by simp only [goTy, agg50, siz50]
@[simp ↓] theorem sz50 {q : Nat → Prop} : goSz Tryz.prog 50 q = q 1 := by simp only [goSz, siz50]
theorem zer50 : zero? Tryz.prog 50 = some Go.Value.nilFunc := by unfold zero?; rw [show Tryz.prog.info? 50 = some Tryz.t50 from Tryz.type50]; rfl
@[simp ↓] theorem z50 {q : List Value → Prop} : goZ Tryz.prog 50 q = q [Go.Value.nilFunc] := by simp [goZ, zer50, Value.cells]
theorem agg52 : aggT Tryz.prog 52 = some false := by unfold aggT; rw [Tryz.underlying52]; rfl
@[simp] theorem siz52 : szT Tryz.prog 52 = some 1 := by unfold szT; rw [show Tryz.prog.info? 52 = some Tryz.t52 from Tryz.type52]; rfl
@[simp ↓] theorem ty52 {q : Bool → Nat → Prop} : goTy Tryz.prog 52 q = q false 1 := by simp only [goTy, agg52, siz52]
@[simp ↓] theorem sz52 {q : Nat → Prop} : goSz Tryz.prog 52 q = q 1 := by simp only [goSz, siz52]
theorem zer52 : zero? Tryz.prog 52 = some (Go.Value.slice none 0 0) := by unfold zero?; rw [show Tryz.prog.info? 52 = some Tryz.t52 from Tryz.type52]; rfl
@[simp ↓] theorem z52 {q : List Value → Prop} : goZ Tryz.prog 52 q = q [(Go.Value.slice none 0 0)] := by simp [goZ, zer52, Value.cells]
@[simp] theorem und52 : Tryz.prog.underlying 52 = some (Go.TypeDesc.slice 177) := opq Tryz.underlying52
@[simp ↓] theorem un52 {q : TypeDesc → Prop} : goUnd Tryz.prog 52 q = q (Go.TypeDesc.slice 177) := by simp only [goUnd, und52]
theorem slt52 : SlT Tryz.prog 52 177 3 32 := ⟨Tryz.underlying52, ⟨Tryz.t177, _, Tryz.type177, rfl, rfl, rfl, by simp, rfl⟩, by decide⟩
@[simp ↓] theorem sl52 {q : TypeId → Nat → List Value → Prop} : goSl Tryz.prog 52 q = q 177 3 [Go.Value.int Go.IntKind.i64 0, Go.Value.string { data := #[] }, Go.Value.int Go.IntKind.i64 0] := by simp [goSl, und52, show zero? Tryz.prog 177 = some (Go.Value.agg #[Go.Value.int Go.IntKind.i64 0, Go.Value.string { data := #[] }, Go.Value.int Go.IntKind.i64 0]) from by unfold zero?; rw [show Tryz.prog.info? 177 = some Tryz.t177 from Tryz.type177]; rfl, show szT Tryz.prog 177 = some 3 from by unfold szT; rw [show Tryz.prog.info? 177 = some Tryz.t177 from Tryz.type177]; rfl, Value.cells]
theorem agg54 : aggT Tryz.prog 54 = some true := by unfold aggT; rw [Tryz.underlying54]; rfl
@[simp] theorem siz54 : szT Tryz.prog 54 = some 1 := by unfold szT; rw [show Tryz.prog.info? 54 = some Tryz.t54 from Tryz.type54]; rfl
@[simp ↓] theorem ty54 {q : Bool → Nat → Prop} : goTy Tryz.prog 54 q = q true 1 := by simp only [goTy, agg54, siz54]
@[simp ↓] theorem sz54 {q : Nat → Prop} : goSz Tryz.prog 54 q = q 1 := by simp only [goSz, siz54]
theorem zer54 : zero? Tryz.prog 54 = some (Go.Value.agg #[Go.Value.slice none 0 0]) := by unfold zero?; rw [show Tryz.prog.info? 54 = some Tryz.t54 from Tryz.type54]; rfl
@[simp ↓] theorem z54 {q : List Value → Prop} : goZ Tryz.prog 54 q = q [Go.Value.slice none 0 0] := by simp [goZ, zer54, Value.cells]
@[simp] theorem und54 : Tryz.prog.underlying 54 = some (Go.TypeDesc.struct
  #[{ name := "Code", type := 52, offset := 0, embedded := false, tag := "", pkgPath := "", byteOffset := 0 }]) := opq Tryz.underlying54
@[simp ↓] theorem fld54_0 {q : Nat → TypeId → Prop} : goFld Tryz.prog 54 0 q = q 0 52 := by simp only [goFld, und54]; rfl
@[simp ↓] theorem bld54 {q : List Value → List (Nat × Nat) → Prop} : goBld Tryz.prog 54 q = q [Go.Value.slice none 0 0] [(0, 1)] := by simp [goBld, und54, zer54, placesL, Value.cells]
theorem agg55 : aggT Tryz.prog 55 = some false := by unfold aggT; rw [Tryz.underlying55]; rfl
@[simp] theorem siz55 : szT Tryz.prog 55 = some 1 := by unfold szT; rw [show Tryz.prog.info? 55 = some Tryz.t55 from Tryz.type55]; rfl
@[simp ↓] theorem ty55 {q : Bool → Nat → Prop} : goTy Tryz.prog 55 q = q false 1 := by simp only [goTy, agg55, siz55]
@[simp ↓] theorem sz55 {q : Nat → Prop} : goSz Tryz.prog 55 q = q 1 := by simp only [goSz, siz55]
theorem zer55 : zero? Tryz.prog 55 = some (Go.Value.slice none 0 0) := by unfold zero?; rw [show Tryz.prog.info? 55 = some Tryz.t55 from Tryz.type55]; rfl
@[simp ↓] theorem z55 {q : List Value → Prop} : goZ Tryz.prog 55 q = q [(Go.Value.slice none 0 0)] := by simp [goZ, zer55, Value.cells]
@[simp] theorem und55 : Tryz.prog.underlying 55 = some (Go.TypeDesc.slice 129) := opq Tryz.underlying55
@[simp ↓] theorem un55 {q : TypeDesc → Prop} : goUnd Tryz.prog 55 q = q (Go.TypeDesc.slice 129) := by simp only [goUnd, und55]
theorem slt55 : SlT Tryz.prog 55 129 4 32 := ⟨Tryz.underlying55, ⟨Tryz.t129, _, Tryz.type129, rfl, rfl, rfl, by simp, rfl⟩, by decide⟩
@[simp ↓] theorem sl55 {q : TypeId → Nat → List Value → Prop} : goSl Tryz.prog 55 q = q 129 4 [Go.Value.string { data := #[] }, Go.Value.bool false, Go.Value.bool false, Go.Value.int Go.IntKind.i64 0] := by simp [goSl, und55, show zero? Tryz.prog 129 = some
  (Go.Value.agg
    #[Go.Value.string { data := #[] }, Go.Value.bool false, Go.Value.bool false, Go.Value.int Go.IntKind.i64 0]) from by unfold zero?; rw [show Tryz.prog.info? 129 = some Tryz.t129 from Tryz.type129]; rfl, show szT Tryz.prog 129 = some 4 from by unfold szT; rw [show Tryz.prog.info? 129 = some Tryz.t129 from Tryz.type129]; rfl, Value.cells]
theorem agg56 : aggT Tryz.prog 56 = some true := by unfold aggT; rw [Tryz.underlying56]; rfl
@[simp] theorem siz56 : szT Tryz.prog 56 = some 6 := by unfold szT; rw [show Tryz.prog.info? 56 = some Tryz.t56 from Tryz.type56]; rfl
@[simp ↓] theorem ty56 {q : Bool → Nat → Prop} : goTy Tryz.prog 56 q = q true 6 := by simp only [goTy, agg56, siz56]
@[simp ↓] theorem sz56 {q : Nat → Prop} : goSz Tryz.prog 56 q = q 6 := by simp only [goSz, siz56]
theorem zer56 : zero? Tryz.prog 56 = some
  (Go.Value.agg
    #[Go.Value.string { data := #[] }, Go.Value.int Go.IntKind.i64 0, Go.Value.int Go.IntKind.i64 0,
      Go.Value.string { data := #[] }, Go.Value.slice none 0 0, Go.Value.slice none 0 0]) := by unfold zero?; rw [show Tryz.prog.info? 56 = some Tryz.t56 from Tryz.type56]; rfl
@[simp ↓] theorem z56 {q : List Value → Prop} : goZ Tryz.prog 56 q = q [Go.Value.string { data := #[] }, Go.Value.int Go.IntKind.i64 0, Go.Value.int Go.IntKind.i64 0,
      Go.Value.string { data := #[] }, Go.Value.slice none 0 0, Go.Value.slice none 0 0] := by simp [goZ, zer56, Value.cells]
@[simp] theorem und56 : Tryz.prog.underlying 56 = some (Go.TypeDesc.struct
  #[{ name := "Name", type := 9, offset := 0, embedded := false, tag := "", pkgPath := "", byteOffset := 0 },
    { name := "Kind", type := 3, offset := 1, embedded := false, tag := "", pkgPath := "", byteOffset := 16 },
    { name := "Code", type := 3, offset := 2, embedded := false, tag := "", pkgPath := "", byteOffset := 24 },
    { name := "Text", type := 9, offset := 3, embedded := false, tag := "", pkgPath := "", byteOffset := 32 },
    { name := "Action", type := 54, offset := 4, embedded := false, tag := "", pkgPath := "", byteOffset := 48 },
    { name := "Links", type := 55, offset := 5, embedded := false, tag := "", pkgPath := "", byteOffset := 72 }]) := opq Tryz.underlying56
@[simp ↓] theorem fld56_0 {q : Nat → TypeId → Prop} : goFld Tryz.prog 56 0 q = q 0 9 := by simp only [goFld, und56]; rfl
@[simp ↓] theorem fld56_1 {q : Nat → TypeId → Prop} : goFld Tryz.prog 56 1 q = q 1 3 := by simp only [goFld, und56]; rfl
@[simp ↓] theorem fld56_2 {q : Nat → TypeId → Prop} : goFld Tryz.prog 56 2 q = q 2 3 := by simp only [goFld, und56]; rfl
@[simp ↓] theorem fld56_3 {q : Nat → TypeId → Prop} : goFld Tryz.prog 56 3 q = q 3 9 := by simp only [goFld, und56]; rfl
@[simp ↓] theorem fld56_4 {q : Nat → TypeId → Prop} : goFld Tryz.prog 56 4 q = q 4 54 := by simp only [goFld, und56]; rfl
@[simp ↓] theorem fld56_5 {q : Nat → TypeId → Prop} : goFld Tryz.prog 56 5 q = q 5 55 := by simp only [goFld, und56]; rfl
@[simp ↓] theorem bld56 {q : List Value → List (Nat × Nat) → Prop} : goBld Tryz.prog 56 q = q [Go.Value.string { data := #[] }, Go.Value.int Go.IntKind.i64 0, Go.Value.int Go.IntKind.i64 0,
      Go.Value.string { data := #[] }, Go.Value.slice none 0 0, Go.Value.slice none 0 0] [(0, 1), (1, 1), (2, 1), (3, 1), (4, 1), (5, 1)] := by simp [goBld, und56, zer56, placesL, Value.cells]
theorem agg57 : aggT Tryz.prog 57 = some true := by unfold aggT; rw [Tryz.underlying57]; rfl
@[simp] theorem siz57 : szT Tryz.prog 57 = some 6 := by unfold szT; rw [show Tryz.prog.info? 57 = some Tryz.t57 from Tryz.type57]; rfl
@[simp ↓] theorem ty57 {q : Bool → Nat → Prop} : goTy Tryz.prog 57 q = q true 6 := by simp only [goTy, agg57, siz57]
@[simp ↓] theorem sz57 {q : Nat → Prop} : goSz Tryz.prog 57 q = q 6 := by simp only [goSz, siz57]
theorem zer57 : zero? Tryz.prog 57 = some
  (Go.Value.agg
    #[Go.Value.string { data := #[] }, Go.Value.int Go.IntKind.i64 0, Go.Value.int Go.IntKind.i64 0,
      Go.Value.string { data := #[] }, Go.Value.slice none 0 0, Go.Value.slice none 0 0]) := by unfold zero?; rw [show Tryz.prog.info? 57 = some Tryz.t57 from Tryz.type57]; rfl
@[simp ↓] theorem z57 {q : List Value → Prop} : goZ Tryz.prog 57 q = q [Go.Value.string { data := #[] }, Go.Value.int Go.IntKind.i64 0, Go.Value.int Go.IntKind.i64 0,
      Go.Value.string { data := #[] }, Go.Value.slice none 0 0, Go.Value.slice none 0 0] := by simp [goZ, zer57, Value.cells]
@[simp] theorem und57 : Tryz.prog.underlying 57 = some (Go.TypeDesc.struct
  #[{ name := "Name", type := 9, offset := 0, embedded := false, tag := "", pkgPath := "", byteOffset := 0 },
    { name := "Kind", type := 3, offset := 1, embedded := false, tag := "", pkgPath := "", byteOffset := 16 },
    { name := "Code", type := 3, offset := 2, embedded := false, tag := "", pkgPath := "", byteOffset := 24 },
    { name := "Text", type := 9, offset := 3, embedded := false, tag := "", pkgPath := "", byteOffset := 32 },
    { name := "Action", type := 54, offset := 4, embedded := false, tag := "", pkgPath := "", byteOffset := 48 },
    { name := "Links", type := 55, offset := 5, embedded := false, tag := "", pkgPath := "", byteOffset := 72 }]) := opq Tryz.underlying57
@[simp ↓] theorem fld57_0 {q : Nat → TypeId → Prop} : goFld Tryz.prog 57 0 q = q 0 9 := by simp only [goFld, und57]; rfl
@[simp ↓] theorem fld57_1 {q : Nat → TypeId → Prop} : goFld Tryz.prog 57 1 q = q 1 3 := by simp only [goFld, und57]; rfl
@[simp ↓] theorem fld57_2 {q : Nat → TypeId → Prop} : goFld Tryz.prog 57 2 q = q 2 3 := by simp only [goFld, und57]; rfl
@[simp ↓] theorem fld57_3 {q : Nat → TypeId → Prop} : goFld Tryz.prog 57 3 q = q 3 9 := by simp only [goFld, und57]; rfl
@[simp ↓] theorem fld57_4 {q : Nat → TypeId → Prop} : goFld Tryz.prog 57 4 q = q 4 54 := by simp only [goFld, und57]; rfl
@[simp ↓] theorem fld57_5 {q : Nat → TypeId → Prop} : goFld Tryz.prog 57 5 q = q 5 55 := by simp only [goFld, und57]; rfl
@[simp ↓] theorem bld57 {q : List Value → List (Nat × Nat) → Prop} : goBld Tryz.prog 57 q = q [Go.Value.string { data := #[] }, Go.Value.int Go.IntKind.i64 0, Go.Value.int Go.IntKind.i64 0,
      Go.Value.string { data := #[] }, Go.Value.slice none 0 0, Go.Value.slice none 0 0] [(0, 1), (1, 1), (2, 1), (3, 1), (4, 1), (5, 1)] := by simp [goBld, und57, zer57, placesL, Value.cells]
theorem agg58 : aggT Tryz.prog 58 = some false := by unfold aggT; rw [Tryz.underlying58]; rfl
@[simp] theorem siz58 : szT Tryz.prog 58 = some 1 := by unfold szT; rw [show Tryz.prog.info? 58 = some Tryz.t58 from Tryz.type58]; rfl
@[simp ↓] theorem ty58 {q : Bool → Nat → Prop} : goTy Tryz.prog 58 q = q false 1 := by simp only [goTy, agg58, siz58]
@[simp ↓] theorem sz58 {q : Nat → Prop} : goSz Tryz.prog 58 q = q 1 := by simp only [goSz, siz58]
theorem zer58 : zero? Tryz.prog 58 = some Go.Value.nilFunc := by unfold zero?; rw [show Tryz.prog.info? 58 = some Tryz.t58 from Tryz.type58]; rfl
@[simp ↓] theorem z58 {q : List Value → Prop} : goZ Tryz.prog 58 q = q [Go.Value.nilFunc] := by simp [goZ, zer58, Value.cells]
theorem agg60 : aggT Tryz.prog 60 = some false := by unfold aggT; rw [Tryz.underlying60]; rfl
@[simp] theorem siz60 : szT Tryz.prog 60 = some 1 := by unfold szT; rw [show Tryz.prog.info? 60 = some Tryz.t60 from Tryz.type60]; rfl
@[simp ↓] theorem ty60 {q : Bool → Nat → Prop} : goTy Tryz.prog 60 q = q false 1 := by simp only [goTy, agg60, siz60]
@[simp ↓] theorem sz60 {q : Nat → Prop} : goSz Tryz.prog 60 q = q 1 := by simp only [goSz, siz60]
theorem zer60 : zero? Tryz.prog 60 = some Go.Value.nilFunc := by unfold zero?; rw [show Tryz.prog.info? 60 = some Tryz.t60 from Tryz.type60]; rfl
@[simp ↓] theorem z60 {q : List Value → Prop} : goZ Tryz.prog 60 q = q [Go.Value.nilFunc] := by simp [goZ, zer60, Value.cells]
theorem agg71 : aggT Tryz.prog 71 = some false := by unfold aggT; rw [Tryz.underlying71]; rfl
@[simp] theorem siz71 : szT Tryz.prog 71 = some 1 := by unfold szT; rw [show Tryz.prog.info? 71 = some Tryz.t71 from Tryz.type71]; rfl
@[simp ↓] theorem ty71 {q : Bool → Nat → Prop} : goTy Tryz.prog 71 q = q false 1 := by simp only [goTy, agg71, siz71]
@[simp ↓] theorem sz71 {q : Nat → Prop} : goSz Tryz.prog 71 q = q 1 := by simp only [goSz, siz71]
theorem zer71 : zero? Tryz.prog 71 = some Go.Value.nilFunc := by unfold zero?; rw [show Tryz.prog.info? 71 = some Tryz.t71 from Tryz.type71]; rfl
@[simp ↓] theorem z71 {q : List Value → Prop} : goZ Tryz.prog 71 q = q [Go.Value.nilFunc] := by simp [goZ, zer71, Value.cells]
theorem agg80 : aggT Tryz.prog 80 = some false := by unfold aggT; rw [Tryz.underlying80]; rfl
@[simp] theorem siz80 : szT Tryz.prog 80 = some 1 := by unfold szT; rw [show Tryz.prog.info? 80 = some Tryz.t80 from Tryz.type80]; rfl
@[simp ↓] theorem ty80 {q : Bool → Nat → Prop} : goTy Tryz.prog 80 q = q false 1 := by simp only [goTy, agg80, siz80]
@[simp ↓] theorem sz80 {q : Nat → Prop} : goSz Tryz.prog 80 q = q 1 := by simp only [goSz, siz80]
theorem zer80 : zero? Tryz.prog 80 = some Go.Value.nilFunc := by unfold zero?; rw [show Tryz.prog.info? 80 = some Tryz.t80 from Tryz.type80]; rfl
@[simp ↓] theorem z80 {q : List Value → Prop} : goZ Tryz.prog 80 q = q [Go.Value.nilFunc] := by simp [goZ, zer80, Value.cells]
theorem agg83 : aggT Tryz.prog 83 = some false := by unfold aggT; rw [Tryz.underlying83]; rfl
@[simp] theorem siz83 : szT Tryz.prog 83 = some 1 := by unfold szT; rw [show Tryz.prog.info? 83 = some Tryz.t83 from Tryz.type83]; rfl
@[simp ↓] theorem ty83 {q : Bool → Nat → Prop} : goTy Tryz.prog 83 q = q false 1 := by simp only [goTy, agg83, siz83]
@[simp ↓] theorem sz83 {q : Nat → Prop} : goSz Tryz.prog 83 q = q 1 := by simp only [goSz, siz83]
theorem zer83 : zero? Tryz.prog 83 = some (Go.Value.slice none 0 0) := by unfold zero?; rw [show Tryz.prog.info? 83 = some Tryz.t83 from Tryz.type83]; rfl
@[simp ↓] theorem z83 {q : List Value → Prop} : goZ Tryz.prog 83 q = q [(Go.Value.slice none 0 0)] := by simp [goZ, zer83, Value.cells]
@[simp] theorem und83 : Tryz.prog.underlying 83 = some (Go.TypeDesc.slice 87) := opq Tryz.underlying83
@[simp ↓] theorem un83 {q : TypeDesc → Prop} : goUnd Tryz.prog 83 q = q (Go.TypeDesc.slice 87) := by simp only [goUnd, und83]
theorem slt83 : SlT Tryz.prog 83 87 3 48 := ⟨Tryz.underlying83, ⟨Tryz.t87, _, Tryz.type87, rfl, rfl, rfl, by simp, rfl⟩, by decide⟩
@[simp ↓] theorem sl83 {q : TypeId → Nat → List Value → Prop} : goSl Tryz.prog 83 q = q 87 3 [Go.Value.int Go.IntKind.i64 0, Go.Value.string { data := #[] }, Go.Value.slice none 0 0] := by simp [goSl, und83, show zero? Tryz.prog 87 = some (Go.Value.agg #[Go.Value.int Go.IntKind.i64 0, Go.Value.string { data := #[] }, Go.Value.slice none 0 0]) from by unfold zero?; rw [show Tryz.prog.info? 87 = some Tryz.t87 from Tryz.type87]; rfl, show szT Tryz.prog 87 = some 3 from by unfold szT; rw [show Tryz.prog.info? 87 = some Tryz.t87 from Tryz.type87]; rfl, Value.cells]
theorem agg84 : aggT Tryz.prog 84 = some false := by unfold aggT; rw [Tryz.underlying84]; rfl
@[simp] theorem siz84 : szT Tryz.prog 84 = some 1 := by unfold szT; rw [show Tryz.prog.info? 84 = some Tryz.t84 from Tryz.type84]; rfl
@[simp ↓] theorem ty84 {q : Bool → Nat → Prop} : goTy Tryz.prog 84 q = q false 1 := by simp only [goTy, agg84, siz84]
@[simp ↓] theorem sz84 {q : Nat → Prop} : goSz Tryz.prog 84 q = q 1 := by simp only [goSz, siz84]
theorem zer84 : zero? Tryz.prog 84 = some Go.Value.nilFunc := by unfold zero?; rw [show Tryz.prog.info? 84 = some Tryz.t84 from Tryz.type84]; rfl
@[simp ↓] theorem z84 {q : List Value → Prop} : goZ Tryz.prog 84 q = q [Go.Value.nilFunc] := by simp [goZ, zer84, Value.cells]
theorem agg85 : aggT Tryz.prog 85 = some false := by unfold aggT; rw [Tryz.underlying85]; rfl
@[simp] theorem siz85 : szT Tryz.prog 85 = some 1 := by unfold szT; rw [show Tryz.prog.info? 85 = some Tryz.t85 from Tryz.type85]; rfl
@[simp ↓] theorem ty85 {q : Bool → Nat → Prop} : goTy Tryz.prog 85 q = q false 1 := by simp only [goTy, agg85, siz85]
@[simp ↓] theorem sz85 {q : Nat → Prop} : goSz Tryz.prog 85 q = q 1 := by simp only [goSz, siz85]
theorem zer85 : zero? Tryz.prog 85 = some Go.Value.nilFunc := by unfold zero?; rw [show Tryz.prog.info? 85 = some Tryz.t85 from Tryz.type85]; rfl
@[simp ↓] theorem z85 {q : List Value → Prop} : goZ Tryz.prog 85 q = q [Go.Value.nilFunc] := by simp [goZ, zer85, Value.cells]
theorem agg87 : aggT Tryz.prog 87 = some true := by unfold aggT; rw [Tryz.underlying87]; rfl
@[simp] theorem siz87 : szT Tryz.prog 87 = some 3 := by unfold szT; rw [show Tryz.prog.info? 87 = some Tryz.t87 from Tryz.type87]; rfl
@[simp ↓] theorem ty87 {q : Bool → Nat → Prop} : goTy Tryz.prog 87 q = q true 3 := by simp only [goTy, agg87, siz87]
@[simp ↓] theorem sz87 {q : Nat → Prop} : goSz Tryz.prog 87 q = q 3 := by simp only [goSz, siz87]
theorem zer87 : zero? Tryz.prog 87 = some (Go.Value.agg #[Go.Value.int Go.IntKind.i64 0, Go.Value.string { data := #[] }, Go.Value.slice none 0 0]) := by unfold zero?; rw [show Tryz.prog.info? 87 = some Tryz.t87 from Tryz.type87]; rfl
@[simp ↓] theorem z87 {q : List Value → Prop} : goZ Tryz.prog 87 q = q [Go.Value.int Go.IntKind.i64 0, Go.Value.string { data := #[] }, Go.Value.slice none 0 0] := by simp [goZ, zer87, Value.cells]
@[simp] theorem und87 : Tryz.prog.underlying 87 = some (Go.TypeDesc.struct
  #[{ name := "kind", type := 3, offset := 0, embedded := false, tag := "", pkgPath := "loop.example/kilndeed/spec",
      byteOffset := 0 },
    { name := "text", type := 9, offset := 1, embedded := false, tag := "", pkgPath := "loop.example/kilndeed/spec",
      byteOffset := 8 },
    { name := "action", type := 54, offset := 2, embedded := false, tag := "", pkgPath := "loop.example/kilndeed/spec",
      byteOffset := 24 }]) := opq Tryz.underlying87
@[simp ↓] theorem fld87_0 {q : Nat → TypeId → Prop} : goFld Tryz.prog 87 0 q = q 0 3 := by simp only [goFld, und87]; rfl
@[simp ↓] theorem fld87_1 {q : Nat → TypeId → Prop} : goFld Tryz.prog 87 1 q = q 1 9 := by simp only [goFld, und87]; rfl
@[simp ↓] theorem fld87_2 {q : Nat → TypeId → Prop} : goFld Tryz.prog 87 2 q = q 2 54 := by simp only [goFld, und87]; rfl
@[simp ↓] theorem bld87 {q : List Value → List (Nat × Nat) → Prop} : goBld Tryz.prog 87 q = q [Go.Value.int Go.IntKind.i64 0, Go.Value.string { data := #[] }, Go.Value.slice none 0 0] [(0, 1), (1, 1), (2, 1)] := by simp [goBld, und87, zer87, placesL, Value.cells]
theorem agg90 : aggT Tryz.prog 90 = some false := by unfold aggT; rw [Tryz.underlying90]; rfl
@[simp] theorem siz90 : szT Tryz.prog 90 = some 1 := by unfold szT; rw [show Tryz.prog.info? 90 = some Tryz.t90 from Tryz.type90]; rfl
@[simp ↓] theorem ty90 {q : Bool → Nat → Prop} : goTy Tryz.prog 90 q = q false 1 := by simp only [goTy, agg90, siz90]
@[simp ↓] theorem sz90 {q : Nat → Prop} : goSz Tryz.prog 90 q = q 1 := by simp only [goSz, siz90]
theorem zer90 : zero? Tryz.prog 90 = some Go.Value.nilFunc := by unfold zero?; rw [show Tryz.prog.info? 90 = some Tryz.t90 from Tryz.type90]; rfl
@[simp ↓] theorem z90 {q : List Value → Prop} : goZ Tryz.prog 90 q = q [Go.Value.nilFunc] := by simp [goZ, zer90, Value.cells]
theorem agg91 : aggT Tryz.prog 91 = some false := by unfold aggT; rw [Tryz.underlying91]; rfl
@[simp] theorem siz91 : szT Tryz.prog 91 = some 1 := by unfold szT; rw [show Tryz.prog.info? 91 = some Tryz.t91 from Tryz.type91]; rfl
@[simp ↓] theorem ty91 {q : Bool → Nat → Prop} : goTy Tryz.prog 91 q = q false 1 := by simp only [goTy, agg91, siz91]
@[simp ↓] theorem sz91 {q : Nat → Prop} : goSz Tryz.prog 91 q = q 1 := by simp only [goSz, siz91]
theorem zer91 : zero? Tryz.prog 91 = some (Go.Value.map none) := by unfold zero?; rw [show Tryz.prog.info? 91 = some Tryz.t91 from Tryz.type91]; rfl
@[simp ↓] theorem z91 {q : List Value → Prop} : goZ Tryz.prog 91 q = q [(Go.Value.map none)] := by simp [goZ, zer91, Value.cells]
@[simp] theorem und91 : Tryz.prog.underlying 91 = some (Go.TypeDesc.map 9 94) := opq Tryz.underlying91
@[simp ↓] theorem un91 {q : TypeDesc → Prop} : goUnd Tryz.prog 91 q = q (Go.TypeDesc.map 9 94) := by simp only [goUnd, und91]
theorem agg92 : aggT Tryz.prog 92 = some false := by unfold aggT; rw [Tryz.underlying92]; rfl
@[simp] theorem siz92 : szT Tryz.prog 92 = some 1 := by unfold szT; rw [show Tryz.prog.info? 92 = some Tryz.t92 from Tryz.type92]; rfl
@[simp ↓] theorem ty92 {q : Bool → Nat → Prop} : goTy Tryz.prog 92 q = q false 1 := by simp only [goTy, agg92, siz92]
@[simp ↓] theorem sz92 {q : Nat → Prop} : goSz Tryz.prog 92 q = q 1 := by simp only [goSz, siz92]
theorem zer92 : zero? Tryz.prog 92 = some Go.Value.nilFunc := by unfold zero?; rw [show Tryz.prog.info? 92 = some Tryz.t92 from Tryz.type92]; rfl
@[simp ↓] theorem z92 {q : List Value → Prop} : goZ Tryz.prog 92 q = q [Go.Value.nilFunc] := by simp [goZ, zer92, Value.cells]
theorem agg93 : aggT Tryz.prog 93 = some false := by unfold aggT; rw [Tryz.underlying93]; rfl
@[simp] theorem siz93 : szT Tryz.prog 93 = some 1 := by unfold szT; rw [show Tryz.prog.info? 93 = some Tryz.t93 from Tryz.type93]; rfl
@[simp ↓] theorem ty93 {q : Bool → Nat → Prop} : goTy Tryz.prog 93 q = q false 1 := by simp only [goTy, agg93, siz93]
@[simp ↓] theorem sz93 {q : Nat → Prop} : goSz Tryz.prog 93 q = q 1 := by simp only [goSz, siz93]
theorem zer93 : zero? Tryz.prog 93 = some (Go.Value.map none) := by unfold zero?; rw [show Tryz.prog.info? 93 = some Tryz.t93 from Tryz.type93]; rfl
@[simp ↓] theorem z93 {q : List Value → Prop} : goZ Tryz.prog 93 q = q [(Go.Value.map none)] := by simp [goZ, zer93, Value.cells]
@[simp] theorem und93 : Tryz.prog.underlying 93 = some (Go.TypeDesc.map 9 4) := opq Tryz.underlying93
@[simp ↓] theorem un93 {q : TypeDesc → Prop} : goUnd Tryz.prog 93 q = q (Go.TypeDesc.map 9 4) := by simp only [goUnd, und93]
theorem agg94 : aggT Tryz.prog 94 = some false := by unfold aggT; rw [Tryz.underlying94]; rfl
@[simp] theorem siz94 : szT Tryz.prog 94 = some 1 := by unfold szT; rw [show Tryz.prog.info? 94 = some Tryz.t94 from Tryz.type94]; rfl
@[simp ↓] theorem ty94 {q : Bool → Nat → Prop} : goTy Tryz.prog 94 q = q false 1 := by simp only [goTy, agg94, siz94]
@[simp ↓] theorem sz94 {q : Nat → Prop} : goSz Tryz.prog 94 q = q 1 := by simp only [goSz, siz94]
theorem zer94 : zero? Tryz.prog 94 = some (Go.Value.slice none 0 0) := by unfold zero?; rw [show Tryz.prog.info? 94 = some Tryz.t94 from Tryz.type94]; rfl
@[simp ↓] theorem z94 {q : List Value → Prop} : goZ Tryz.prog 94 q = q [(Go.Value.slice none 0 0)] := by simp [goZ, zer94, Value.cells]
@[simp] theorem und94 : Tryz.prog.underlying 94 = some (Go.TypeDesc.slice 96) := opq Tryz.underlying94
@[simp ↓] theorem un94 {q : TypeDesc → Prop} : goUnd Tryz.prog 94 q = q (Go.TypeDesc.slice 96) := by simp only [goUnd, und94]
theorem slt94 : SlT Tryz.prog 94 96 2 24 := ⟨Tryz.underlying94, ⟨Tryz.t96, _, Tryz.type96, rfl, rfl, rfl, by simp, rfl⟩, by decide⟩
@[simp ↓] theorem sl94 {q : TypeId → Nat → List Value → Prop} : goSl Tryz.prog 94 q = q 96 2 [Go.Value.int Go.IntKind.i64 0, Go.Value.string { data := #[] }] := by simp [goSl, und94, show zero? Tryz.prog 96 = some (Go.Value.agg #[Go.Value.int Go.IntKind.i64 0, Go.Value.string { data := #[] }]) from by unfold zero?; rw [show Tryz.prog.info? 96 = some Tryz.t96 from Tryz.type96]; rfl, show szT Tryz.prog 96 = some 2 from by unfold szT; rw [show Tryz.prog.info? 96 = some Tryz.t96 from Tryz.type96]; rfl, Value.cells]
theorem agg96 : aggT Tryz.prog 96 = some true := by unfold aggT; rw [Tryz.underlying96]; rfl
@[simp] theorem siz96 : szT Tryz.prog 96 = some 2 := by unfold szT; rw [show Tryz.prog.info? 96 = some Tryz.t96 from Tryz.type96]; rfl
@[simp ↓] theorem ty96 {q : Bool → Nat → Prop} : goTy Tryz.prog 96 q = q true 2 := by simp only [goTy, agg96, siz96]
@[simp ↓] theorem sz96 {q : Nat → Prop} : goSz Tryz.prog 96 q = q 2 := by simp only [goSz, siz96]
theorem zer96 : zero? Tryz.prog 96 = some (Go.Value.agg #[Go.Value.int Go.IntKind.i64 0, Go.Value.string { data := #[] }]) := by unfold zero?; rw [show Tryz.prog.info? 96 = some Tryz.t96 from Tryz.type96]; rfl
@[simp ↓] theorem z96 {q : List Value → Prop} : goZ Tryz.prog 96 q = q [Go.Value.int Go.IntKind.i64 0, Go.Value.string { data := #[] }] := by simp [goZ, zer96, Value.cells]
@[simp] theorem und96 : Tryz.prog.underlying 96 = some (Go.TypeDesc.struct
  #[{ name := "kind", type := 3, offset := 0, embedded := false, tag := "", pkgPath := "loop.example/kilndeed/impl",
      byteOffset := 0 },
    { name := "what", type := 9, offset := 1, embedded := false, tag := "", pkgPath := "loop.example/kilndeed/impl",
      byteOffset := 8 }]) := opq Tryz.underlying96
@[simp ↓] theorem fld96_0 {q : Nat → TypeId → Prop} : goFld Tryz.prog 96 0 q = q 0 3 := by simp only [goFld, und96]; rfl
@[simp ↓] theorem fld96_1 {q : Nat → TypeId → Prop} : goFld Tryz.prog 96 1 q = q 1 9 := by simp only [goFld, und96]; rfl
@[simp ↓] theorem bld96 {q : List Value → List (Nat × Nat) → Prop} : goBld Tryz.prog 96 q = q [Go.Value.int Go.IntKind.i64 0, Go.Value.string { data := #[] }] [(0, 1), (1, 1)] := by simp [goBld, und96, zer96, placesL, Value.cells]
theorem agg100 : aggT Tryz.prog 100 = some false := by unfold aggT; rw [Tryz.underlying100]; rfl
@[simp] theorem siz100 : szT Tryz.prog 100 = some 1 := by unfold szT; rw [show Tryz.prog.info? 100 = some Tryz.t100 from Tryz.type100]; rfl
@[simp ↓] theorem ty100 {q : Bool → Nat → Prop} : goTy Tryz.prog 100 q = q false 1 := by simp only [goTy, agg100, siz100]
@[simp ↓] theorem sz100 {q : Nat → Prop} : goSz Tryz.prog 100 q = q 1 := by simp only [goSz, siz100]
theorem zer100 : zero? Tryz.prog 100 = some Go.Value.nilFunc := by unfold zero?; rw [show Tryz.prog.info? 100 = some Tryz.t100 from Tryz.type100]; rfl
@[simp ↓] theorem z100 {q : List Value → Prop} : goZ Tryz.prog 100 q = q [Go.Value.nilFunc] := by simp [goZ, zer100, Value.cells]
theorem agg121 : aggT Tryz.prog 121 = some false := by unfold aggT; rw [Tryz.underlying121]; rfl
@[simp] theorem siz121 : szT Tryz.prog 121 = some 1 := by unfold szT; rw [show Tryz.prog.info? 121 = some Tryz.t121 from Tryz.type121]; rfl
@[simp ↓] theorem ty121 {q : Bool → Nat → Prop} : goTy Tryz.prog 121 q = q false 1 := by simp only [goTy, agg121, siz121]
@[simp ↓] theorem sz121 {q : Nat → Prop} : goSz Tryz.prog 121 q = q 1 := by simp only [goSz, siz121]
theorem zer121 : zero? Tryz.prog 121 = some Go.Value.nilFunc := by unfold zero?; rw [show Tryz.prog.info? 121 = some Tryz.t121 from Tryz.type121]; rfl
@[simp ↓] theorem z121 {q : List Value → Prop} : goZ Tryz.prog 121 q = q [Go.Value.nilFunc] := by simp [goZ, zer121, Value.cells]
theorem agg122 : aggT Tryz.prog 122 = some false := by unfold aggT; rw [Tryz.underlying122]; rfl
@[simp] theorem siz122 : szT Tryz.prog 122 = some 1 := by unfold szT; rw [show Tryz.prog.info? 122 = some Tryz.t122 from Tryz.type122]; rfl
@[simp ↓] theorem ty122 {q : Bool → Nat → Prop} : goTy Tryz.prog 122 q = q false 1 := by simp only [goTy, agg122, siz122]
@[simp ↓] theorem sz122 {q : Nat → Prop} : goSz Tryz.prog 122 q = q 1 := by simp only [goSz, siz122]
theorem zer122 : zero? Tryz.prog 122 = some (Go.Value.slice none 0 0) := by unfold zero?; rw [show Tryz.prog.info? 122 = some Tryz.t122 from Tryz.type122]; rfl
@[simp ↓] theorem z122 {q : List Value → Prop} : goZ Tryz.prog 122 q = q [(Go.Value.slice none 0 0)] := by simp [goZ, zer122, Value.cells]
@[simp] theorem und122 : Tryz.prog.underlying 122 = some (Go.TypeDesc.slice 3) := opq Tryz.underlying122
@[simp ↓] theorem un122 {q : TypeDesc → Prop} : goUnd Tryz.prog 122 q = q (Go.TypeDesc.slice 3) := by simp only [goUnd, und122]
theorem slt122 : SlT Tryz.prog 122 3 1 8 := ⟨Tryz.underlying122, ⟨Tryz.t3, _, Tryz.type3, rfl, rfl, rfl, by simp, rfl⟩, by decide⟩
@[simp ↓] theorem sl122 {q : TypeId → Nat → List Value → Prop} : goSl Tryz.prog 122 q = q 3 1 [(Go.Value.int Go.IntKind.i64 0)] := by simp [goSl, und122, show zero? Tryz.prog 3 = some (Go.Value.int Go.IntKind.i64 0) from by unfold zero?; rw [show Tryz.prog.info? 3 = some Tryz.t3 from Tryz.type3]; rfl, show szT Tryz.prog 3 = some 1 from by unfold szT; rw [show Tryz.prog.info? 3 = some Tryz.t3 from Tryz.type3]; rfl, Value.cells]
theorem agg123 : aggT Tryz.prog 123 = some false := by unfold aggT; rw [Tryz.underlying123]; rfl
@[simp] theorem siz123 : szT Tryz.prog 123 = some 1 := by unfold szT; rw [show Tryz.prog.info? 123 = some Tryz.t123 from Tryz.type123]; rfl
@[simp ↓] theorem ty123 {q : Bool → Nat → Prop} : goTy Tryz.prog 123 q = q false 1 := by simp only [goTy, agg123, siz123]
@[simp ↓] theorem sz123 {q : Nat → Prop} : goSz Tryz.prog 123 q = q 1 := by simp only [goSz, siz123]
theorem zer123 : zero? Tryz.prog 123 = some (Go.Value.map none) := by unfold zero?; rw [show Tryz.prog.info? 123 = some Tryz.t123 from Tryz.type123]; rfl
@[simp ↓] theorem z123 {q : List Value → Prop} : goZ Tryz.prog 123 q = q [(Go.Value.map none)] := by simp [goZ, zer123, Value.cells]
@[simp] theorem und123 : Tryz.prog.underlying 123 = some (Go.TypeDesc.map 3 3) := opq Tryz.underlying123
@[simp ↓] theorem un123 {q : TypeDesc → Prop} : goUnd Tryz.prog 123 q = q (Go.TypeDesc.map 3 3) := by simp only [goUnd, und123]
theorem agg126 : aggT Tryz.prog 126 = some false := by unfold aggT; rw [Tryz.underlying126]; rfl
@[simp] theorem siz126 : szT Tryz.prog 126 = some 1 := by unfold szT; rw [show Tryz.prog.info? 126 = some Tryz.t126 from Tryz.type126]; rfl
@[simp ↓] theorem ty126 {q : Bool → Nat → Prop} : goTy Tryz.prog 126 q = q false 1 := by simp only [goTy, agg126, siz126]
@[simp ↓] theorem sz126 {q : Nat → Prop} : goSz Tryz.prog 126 q = q 1 := by simp only [goSz, siz126]
theorem zer126 : zero? Tryz.prog 126 = some Go.Value.nilFunc := by unfold zero?; rw [show Tryz.prog.info? 126 = some Tryz.t126 from Tryz.type126]; rfl
@[simp ↓] theorem z126 {q : List Value → Prop} : goZ Tryz.prog 126 q = q [Go.Value.nilFunc] := by simp [goZ, zer126, Value.cells]
theorem agg129 : aggT Tryz.prog 129 = some true := by unfold aggT; rw [Tryz.underlying129]; rfl
@[simp] theorem siz129 : szT Tryz.prog 129 = some 4 := by unfold szT; rw [show Tryz.prog.info? 129 = some Tryz.t129 from Tryz.type129]; rfl
@[simp ↓] theorem ty129 {q : Bool → Nat → Prop} : goTy Tryz.prog 129 q = q true 4 := by simp only [goTy, agg129, siz129]
@[simp ↓] theorem sz129 {q : Nat → Prop} : goSz Tryz.prog 129 q = q 4 := by simp only [goSz, siz129]
theorem zer129 : zero? Tryz.prog 129 = some
  (Go.Value.agg
    #[Go.Value.string { data := #[] }, Go.Value.bool false, Go.Value.bool false, Go.Value.int Go.IntKind.i64 0]) := by unfold zero?; rw [show Tryz.prog.info? 129 = some Tryz.t129 from Tryz.type129]; rfl
@[simp ↓] theorem z129 {q : List Value → Prop} : goZ Tryz.prog 129 q = q [Go.Value.string { data := #[] }, Go.Value.bool false, Go.Value.bool false, Go.Value.int Go.IntKind.i64 0] := by simp [goZ, zer129, Value.cells]
@[simp] theorem und129 : Tryz.prog.underlying 129 = some (Go.TypeDesc.struct
  #[{ name := "Name", type := 9, offset := 0, embedded := false, tag := "", pkgPath := "", byteOffset := 0 },
    { name := "Ask", type := 4, offset := 1, embedded := false, tag := "", pkgPath := "", byteOffset := 16 },
    { name := "Has", type := 4, offset := 2, embedded := false, tag := "", pkgPath := "", byteOffset := 17 },
    { name := "At", type := 3, offset := 3, embedded := false, tag := "", pkgPath := "", byteOffset := 24 }]) := opq Tryz.underlying129
@[simp ↓] theorem fld129_0 {q : Nat → TypeId → Prop} : goFld Tryz.prog 129 0 q = q 0 9 := by simp only [goFld, und129]; rfl
@[simp ↓] theorem fld129_1 {q : Nat → TypeId → Prop} : goFld Tryz.prog 129 1 q = q 1 4 := by simp only [goFld, und129]; rfl
@[simp ↓] theorem fld129_2 {q : Nat → TypeId → Prop} : goFld Tryz.prog 129 2 q = q 2 4 := by simp only [goFld, und129]; rfl
@[simp ↓] theorem fld129_3 {q : Nat → TypeId → Prop} : goFld Tryz.prog 129 3 q = q 3 3 := by simp only [goFld, und129]; rfl
@[simp ↓] theorem bld129 {q : List Value → List (Nat × Nat) → Prop} : goBld Tryz.prog 129 q = q [Go.Value.string { data := #[] }, Go.Value.bool false, Go.Value.bool false, Go.Value.int Go.IntKind.i64 0] [(0, 1), (1, 1), (2, 1), (3, 1)] := by simp [goBld, und129, zer129, placesL, Value.cells]
theorem agg132 : aggT Tryz.prog 132 = some false := by unfold aggT; rw [Tryz.underlying132]; rfl
@[simp] theorem siz132 : szT Tryz.prog 132 = some 1 := by unfold szT; rw [show Tryz.prog.info? 132 = some Tryz.t132 from Tryz.type132]; rfl
@[simp ↓] theorem ty132 {q : Bool → Nat → Prop} : goTy Tryz.prog 132 q = q false 1 := by simp only [goTy, agg132, siz132]
@[simp ↓] theorem sz132 {q : Nat → Prop} : goSz Tryz.prog 132 q = q 1 := by simp only [goSz, siz132]
theorem zer132 : zero? Tryz.prog 132 = some (Go.Value.pointer none) := by unfold zero?; rw [show Tryz.prog.info? 132 = some Tryz.t132 from Tryz.type132]; rfl
@[simp ↓] theorem z132 {q : List Value → Prop} : goZ Tryz.prog 132 q = q [(Go.Value.pointer none)] := by simp [goZ, zer132, Value.cells]
@[simp] theorem und132 : Tryz.prog.underlying 132 = some (Go.TypeDesc.pointer 137) := opq Tryz.underlying132
@[simp ↓] theorem un132 {q : TypeDesc → Prop} : goUnd Tryz.prog 132 q = q (Go.TypeDesc.pointer 137) := by simp only [goUnd, und132]
theorem agg135 : aggT Tryz.prog 135 = some false := by unfold aggT; rw [Tryz.underlying135]; rfl
@[simp] theorem siz135 : szT Tryz.prog 135 = some 1 := by unfold szT; rw [show Tryz.prog.info? 135 = some Tryz.t135 from Tryz.type135]; rfl
@[simp ↓] theorem ty135 {q : Bool → Nat → Prop} : goTy Tryz.prog 135 q = q false 1 := by simp only [goTy, agg135, siz135]
@[simp ↓] theorem sz135 {q : Nat → Prop} : goSz Tryz.prog 135 q = q 1 := by simp only [goSz, siz135]
theorem zer135 : zero? Tryz.prog 135 = some (Go.Value.slice none 0 0) := by unfold zero?; rw [show Tryz.prog.info? 135 = some Tryz.t135 from Tryz.type135]; rfl
@[simp ↓] theorem z135 {q : List Value → Prop} : goZ Tryz.prog 135 q = q [(Go.Value.slice none 0 0)] := by simp [goZ, zer135, Value.cells]
@[simp] theorem und135 : Tryz.prog.underlying 135 = some (Go.TypeDesc.slice 4) := opq Tryz.underlying135
@[simp ↓] theorem un135 {q : TypeDesc → Prop} : goUnd Tryz.prog 135 q = q (Go.TypeDesc.slice 4) := by simp only [goUnd, und135]
theorem slt135 : SlT Tryz.prog 135 4 1 1 := ⟨Tryz.underlying135, ⟨Tryz.t4, _, Tryz.type4, rfl, rfl, rfl, by simp, rfl⟩, by decide⟩
@[simp ↓] theorem sl135 {q : TypeId → Nat → List Value → Prop} : goSl Tryz.prog 135 q = q 4 1 [(Go.Value.bool false)] := by simp [goSl, und135, show zero? Tryz.prog 4 = some (Go.Value.bool false) from by unfold zero?; rw [show Tryz.prog.info? 4 = some Tryz.t4 from Tryz.type4]; rfl, show szT Tryz.prog 4 = some 1 from by unfold szT; rw [show Tryz.prog.info? 4 = some Tryz.t4 from Tryz.type4]; rfl, Value.cells]
theorem agg137 : aggT Tryz.prog 137 = some true := by unfold aggT; rw [Tryz.underlying137]; rfl
@[simp] theorem siz137 : szT Tryz.prog 137 = some 4 := by unfold szT; rw [show Tryz.prog.info? 137 = some Tryz.t137 from Tryz.type137]; rfl
@[simp ↓] theorem ty137 {q : Bool → Nat → Prop} : goTy Tryz.prog 137 q = q true 4 := by simp only [goTy, agg137, siz137]
@[simp ↓] theorem sz137 {q : Nat → Prop} : goSz Tryz.prog 137 q = q 4 := by simp only [goSz, siz137]
theorem zer137 : zero? Tryz.prog 137 = some
  (Go.Value.agg
    #[Go.Value.slice none 0 0, Go.Value.slice none 0 0, Go.Value.slice none 0 0, Go.Value.int Go.IntKind.i64 0]) := by unfold zero?; rw [show Tryz.prog.info? 137 = some Tryz.t137 from Tryz.type137]; rfl
@[simp ↓] theorem z137 {q : List Value → Prop} : goZ Tryz.prog 137 q = q [Go.Value.slice none 0 0, Go.Value.slice none 0 0, Go.Value.slice none 0 0, Go.Value.int Go.IntKind.i64 0] := by simp [goZ, zer137, Value.cells]
@[simp] theorem und137 : Tryz.prog.underlying 137 = some (Go.TypeDesc.struct
  #[{ name := "a", type := 30, offset := 0, embedded := false, tag := "", pkgPath := "loop.example/kilndeed/spec",
      byteOffset := 0 },
    { name := "listed", type := 135, offset := 1, embedded := false, tag := "", pkgPath := "loop.example/kilndeed/spec",
      byteOffset := 24 },
    { name := "order", type := 122, offset := 2, embedded := false, tag := "", pkgPath := "loop.example/kilndeed/spec",
      byteOffset := 48 },
    { name := "deep", type := 3, offset := 3, embedded := false, tag := "", pkgPath := "loop.example/kilndeed/spec",
      byteOffset := 72 }]) := opq Tryz.underlying137
@[simp ↓] theorem fld137_0 {q : Nat → TypeId → Prop} : goFld Tryz.prog 137 0 q = q 0 30 := by simp only [goFld, und137]; rfl
@[simp ↓] theorem fld137_1 {q : Nat → TypeId → Prop} : goFld Tryz.prog 137 1 q = q 1 135 := by simp only [goFld, und137]; rfl
@[simp ↓] theorem fld137_2 {q : Nat → TypeId → Prop} : goFld Tryz.prog 137 2 q = q 2 122 := by simp only [goFld, und137]; rfl
@[simp ↓] theorem fld137_3 {q : Nat → TypeId → Prop} : goFld Tryz.prog 137 3 q = q 3 3 := by simp only [goFld, und137]; rfl
@[simp ↓] theorem bld137 {q : List Value → List (Nat × Nat) → Prop} : goBld Tryz.prog 137 q = q [Go.Value.slice none 0 0, Go.Value.slice none 0 0, Go.Value.slice none 0 0, Go.Value.int Go.IntKind.i64 0] [(0, 1), (1, 1), (2, 1), (3, 1)] := by simp [goBld, und137, zer137, placesL, Value.cells]
theorem agg150 : aggT Tryz.prog 150 = some true := by unfold aggT; rw [Tryz.underlying150]; rfl
@[simp] theorem siz150 : szT Tryz.prog 150 = some 2 := by unfold szT; rw [show Tryz.prog.info? 150 = some Tryz.t150 from Tryz.type150]; rfl
@[simp ↓] theorem ty150 {q : Bool → Nat → Prop} : goTy Tryz.prog 150 q = q true 2 := by simp only [goTy, agg150, siz150]
@[simp ↓] theorem sz150 {q : Nat → Prop} : goSz Tryz.prog 150 q = q 2 := by simp only [goSz, siz150]
theorem zer150 : zero? Tryz.prog 150 = some (Go.Value.agg #[Go.Value.string { data := #[] }, Go.Value.string { data := #[] }]) := by unfold zero?; rw [show Tryz.prog.info? 150 = some Tryz.t150 from Tryz.type150]; rfl
@[simp ↓] theorem z150 {q : List Value → Prop} : goZ Tryz.prog 150 q = q [Go.Value.string { data := #[] }, Go.Value.string { data := #[] }] := by simp [goZ, zer150, Value.cells]
@[simp] theorem und150 : Tryz.prog.underlying 150 = some (Go.TypeDesc.struct
  #[{ name := "Name", type := 9, offset := 0, embedded := false, tag := "", pkgPath := "", byteOffset := 0 },
    { name := "Text", type := 9, offset := 1, embedded := false, tag := "", pkgPath := "", byteOffset := 16 }]) := opq Tryz.underlying150
@[simp ↓] theorem fld150_0 {q : Nat → TypeId → Prop} : goFld Tryz.prog 150 0 q = q 0 9 := by simp only [goFld, und150]; rfl
@[simp ↓] theorem fld150_1 {q : Nat → TypeId → Prop} : goFld Tryz.prog 150 1 q = q 1 9 := by simp only [goFld, und150]; rfl
@[simp ↓] theorem bld150 {q : List Value → List (Nat × Nat) → Prop} : goBld Tryz.prog 150 q = q [Go.Value.string { data := #[] }, Go.Value.string { data := #[] }] [(0, 1), (1, 1)] := by simp [goBld, und150, zer150, placesL, Value.cells]
theorem agg154 : aggT Tryz.prog 154 = some true := by unfold aggT; rw [Tryz.underlying154]; rfl
@[simp] theorem siz154 : szT Tryz.prog 154 = some 2 := by unfold szT; rw [show Tryz.prog.info? 154 = some Tryz.t154 from Tryz.type154]; rfl
@[simp ↓] theorem ty154 {q : Bool → Nat → Prop} : goTy Tryz.prog 154 q = q true 2 := by simp only [goTy, agg154, siz154]
@[simp ↓] theorem sz154 {q : Nat → Prop} : goSz Tryz.prog 154 q = q 2 := by simp only [goSz, siz154]
theorem zer154 : zero? Tryz.prog 154 = some (Go.Value.agg #[Go.Value.string { data := #[] }, Go.Value.slice none 0 0]) := by unfold zero?; rw [show Tryz.prog.info? 154 = some Tryz.t154 from Tryz.type154]; rfl
@[simp ↓] theorem z154 {q : List Value → Prop} : goZ Tryz.prog 154 q = q [Go.Value.string { data := #[] }, Go.Value.slice none 0 0] := by simp [goZ, zer154, Value.cells]
@[simp] theorem und154 : Tryz.prog.underlying 154 = some (Go.TypeDesc.struct
  #[{ name := "Name", type := 9, offset := 0, embedded := false, tag := "", pkgPath := "", byteOffset := 0 },
    { name := "Action", type := 54, offset := 1, embedded := false, tag := "", pkgPath := "", byteOffset := 16 }]) := opq Tryz.underlying154
@[simp ↓] theorem fld154_0 {q : Nat → TypeId → Prop} : goFld Tryz.prog 154 0 q = q 0 9 := by simp only [goFld, und154]; rfl
@[simp ↓] theorem fld154_1 {q : Nat → TypeId → Prop} : goFld Tryz.prog 154 1 q = q 1 54 := by simp only [goFld, und154]; rfl
@[simp ↓] theorem bld154 {q : List Value → List (Nat × Nat) → Prop} : goBld Tryz.prog 154 q = q [Go.Value.string { data := #[] }, Go.Value.slice none 0 0] [(0, 1), (1, 1)] := by simp [goBld, und154, zer154, placesL, Value.cells]
theorem agg156 : aggT Tryz.prog 156 = some false := by unfold aggT; rw [Tryz.underlying156]; rfl
@[simp] theorem siz156 : szT Tryz.prog 156 = some 1 := by unfold szT; rw [show Tryz.prog.info? 156 = some Tryz.t156 from Tryz.type156]; rfl
@[simp ↓] theorem ty156 {q : Bool → Nat → Prop} : goTy Tryz.prog 156 q = q false 1 := by simp only [goTy, agg156, siz156]
@[simp ↓] theorem sz156 {q : Nat → Prop} : goSz Tryz.prog 156 q = q 1 := by simp only [goSz, siz156]
theorem zer156 : zero? Tryz.prog 156 = some (Go.Value.slice none 0 0) := by unfold zero?; rw [show Tryz.prog.info? 156 = some Tryz.t156 from Tryz.type156]; rfl
@[simp ↓] theorem z156 {q : List Value → Prop} : goZ Tryz.prog 156 q = q [(Go.Value.slice none 0 0)] := by simp [goZ, zer156, Value.cells]
@[simp] theorem und156 : Tryz.prog.underlying 156 = some (Go.TypeDesc.slice 281) := opq Tryz.underlying156
@[simp ↓] theorem un156 {q : TypeDesc → Prop} : goUnd Tryz.prog 156 q = q (Go.TypeDesc.slice 281) := by simp only [goUnd, und156]
theorem slt156 : SlT Tryz.prog 156 281 3 32 := ⟨Tryz.underlying156, ⟨Tryz.t281, _, Tryz.type281, rfl, rfl, rfl, by simp, rfl⟩, by decide⟩
@[simp ↓] theorem sl156 {q : TypeId → Nat → List Value → Prop} : goSl Tryz.prog 156 q = q 281 3 [Go.Value.int Go.IntKind.i64 0, Go.Value.string { data := #[] }, Go.Value.int Go.IntKind.i64 0] := by simp [goSl, und156, show zero? Tryz.prog 281 = some (Go.Value.agg #[Go.Value.int Go.IntKind.i64 0, Go.Value.string { data := #[] }, Go.Value.int Go.IntKind.i64 0]) from by unfold zero?; rw [show Tryz.prog.info? 281 = some Tryz.t281 from Tryz.type281]; rfl, show szT Tryz.prog 281 = some 3 from by unfold szT; rw [show Tryz.prog.info? 281 = some Tryz.t281 from Tryz.type281]; rfl, Value.cells]
theorem agg158 : aggT Tryz.prog 158 = some true := by unfold aggT; rw [Tryz.underlying158]; rfl
@[simp] theorem siz158 : szT Tryz.prog 158 = some 1 := by unfold szT; rw [show Tryz.prog.info? 158 = some Tryz.t158 from Tryz.type158]; rfl
@[simp ↓] theorem ty158 {q : Bool → Nat → Prop} : goTy Tryz.prog 158 q = q true 1 := by simp only [goTy, agg158, siz158]
@[simp ↓] theorem sz158 {q : Nat → Prop} : goSz Tryz.prog 158 q = q 1 := by simp only [goSz, siz158]
theorem zer158 : zero? Tryz.prog 158 = some (Go.Value.agg #[Go.Value.slice none 0 0]) := by unfold zero?; rw [show Tryz.prog.info? 158 = some Tryz.t158 from Tryz.type158]; rfl
@[simp ↓] theorem z158 {q : List Value → Prop} : goZ Tryz.prog 158 q = q [Go.Value.slice none 0 0] := by simp [goZ, zer158, Value.cells]
@[simp] theorem und158 : Tryz.prog.underlying 158 = some (Go.TypeDesc.struct
  #[{ name := "Code", type := 156, offset := 0, embedded := false, tag := "", pkgPath := "", byteOffset := 0 }]) := opq Tryz.underlying158
@[simp ↓] theorem fld158_0 {q : Nat → TypeId → Prop} : goFld Tryz.prog 158 0 q = q 0 156 := by simp only [goFld, und158]; rfl
@[simp ↓] theorem bld158 {q : List Value → List (Nat × Nat) → Prop} : goBld Tryz.prog 158 q = q [Go.Value.slice none 0 0] [(0, 1)] := by simp [goBld, und158, zer158, placesL, Value.cells]
theorem agg159 : aggT Tryz.prog 159 = some false := by unfold aggT; rw [Tryz.underlying159]; rfl
@[simp] theorem siz159 : szT Tryz.prog 159 = some 1 := by unfold szT; rw [show Tryz.prog.info? 159 = some Tryz.t159 from Tryz.type159]; rfl
@[simp ↓] theorem ty159 {q : Bool → Nat → Prop} : goTy Tryz.prog 159 q = q false 1 := by simp only [goTy, agg159, siz159]
@[simp ↓] theorem sz159 {q : Nat → Prop} : goSz Tryz.prog 159 q = q 1 := by simp only [goSz, siz159]
theorem zer159 : zero? Tryz.prog 159 = some (Go.Value.slice none 0 0) := by unfold zero?; rw [show Tryz.prog.info? 159 = some Tryz.t159 from Tryz.type159]; rfl
@[simp ↓] theorem z159 {q : List Value → Prop} : goZ Tryz.prog 159 q = q [(Go.Value.slice none 0 0)] := by simp [goZ, zer159, Value.cells]
@[simp] theorem und159 : Tryz.prog.underlying 159 = some (Go.TypeDesc.slice 248) := opq Tryz.underlying159
@[simp ↓] theorem un159 {q : TypeDesc → Prop} : goUnd Tryz.prog 159 q = q (Go.TypeDesc.slice 248) := by simp only [goUnd, und159]
theorem slt159 : SlT Tryz.prog 159 248 4 32 := ⟨Tryz.underlying159, ⟨Tryz.t248, _, Tryz.type248, rfl, rfl, rfl, by simp, rfl⟩, by decide⟩
@[simp ↓] theorem sl159 {q : TypeId → Nat → List Value → Prop} : goSl Tryz.prog 159 q = q 248 4 [Go.Value.string { data := #[] }, Go.Value.bool false, Go.Value.bool false, Go.Value.int Go.IntKind.i64 0] := by simp [goSl, und159, show zero? Tryz.prog 248 = some
  (Go.Value.agg
    #[Go.Value.string { data := #[] }, Go.Value.bool false, Go.Value.bool false, Go.Value.int Go.IntKind.i64 0]) from by unfold zero?; rw [show Tryz.prog.info? 248 = some Tryz.t248 from Tryz.type248]; rfl, show szT Tryz.prog 248 = some 4 from by unfold szT; rw [show Tryz.prog.info? 248 = some Tryz.t248 from Tryz.type248]; rfl, Value.cells]
theorem agg161 : aggT Tryz.prog 161 = some true := by unfold aggT; rw [Tryz.underlying161]; rfl
@[simp] theorem siz161 : szT Tryz.prog 161 = some 6 := by unfold szT; rw [show Tryz.prog.info? 161 = some Tryz.t161 from Tryz.type161]; rfl
@[simp ↓] theorem ty161 {q : Bool → Nat → Prop} : goTy Tryz.prog 161 q = q true 6 := by simp only [goTy, agg161, siz161]
@[simp ↓] theorem sz161 {q : Nat → Prop} : goSz Tryz.prog 161 q = q 6 := by simp only [goSz, siz161]
theorem zer161 : zero? Tryz.prog 161 = some
  (Go.Value.agg
    #[Go.Value.string { data := #[] }, Go.Value.int Go.IntKind.i64 0, Go.Value.int Go.IntKind.i64 0,
      Go.Value.string { data := #[] }, Go.Value.slice none 0 0, Go.Value.slice none 0 0]) := by unfold zero?; rw [show Tryz.prog.info? 161 = some Tryz.t161 from Tryz.type161]; rfl
@[simp ↓] theorem z161 {q : List Value → Prop} : goZ Tryz.prog 161 q = q [Go.Value.string { data := #[] }, Go.Value.int Go.IntKind.i64 0, Go.Value.int Go.IntKind.i64 0,
      Go.Value.string { data := #[] }, Go.Value.slice none 0 0, Go.Value.slice none 0 0] := by simp [goZ, zer161, Value.cells]
@[simp] theorem und161 : Tryz.prog.underlying 161 = some (Go.TypeDesc.struct
  #[{ name := "Name", type := 9, offset := 0, embedded := false, tag := "", pkgPath := "", byteOffset := 0 },
    { name := "Kind", type := 3, offset := 1, embedded := false, tag := "", pkgPath := "", byteOffset := 16 },
    { name := "Code", type := 3, offset := 2, embedded := false, tag := "", pkgPath := "", byteOffset := 24 },
    { name := "Text", type := 9, offset := 3, embedded := false, tag := "", pkgPath := "", byteOffset := 32 },
    { name := "Action", type := 158, offset := 4, embedded := false, tag := "", pkgPath := "", byteOffset := 48 },
    { name := "Links", type := 159, offset := 5, embedded := false, tag := "", pkgPath := "", byteOffset := 72 }]) := opq Tryz.underlying161
@[simp ↓] theorem fld161_0 {q : Nat → TypeId → Prop} : goFld Tryz.prog 161 0 q = q 0 9 := by simp only [goFld, und161]; rfl
@[simp ↓] theorem fld161_1 {q : Nat → TypeId → Prop} : goFld Tryz.prog 161 1 q = q 1 3 := by simp only [goFld, und161]; rfl
@[simp ↓] theorem fld161_2 {q : Nat → TypeId → Prop} : goFld Tryz.prog 161 2 q = q 2 3 := by simp only [goFld, und161]; rfl
@[simp ↓] theorem fld161_3 {q : Nat → TypeId → Prop} : goFld Tryz.prog 161 3 q = q 3 9 := by simp only [goFld, und161]; rfl
@[simp ↓] theorem fld161_4 {q : Nat → TypeId → Prop} : goFld Tryz.prog 161 4 q = q 4 158 := by simp only [goFld, und161]; rfl
@[simp ↓] theorem fld161_5 {q : Nat → TypeId → Prop} : goFld Tryz.prog 161 5 q = q 5 159 := by simp only [goFld, und161]; rfl
@[simp ↓] theorem bld161 {q : List Value → List (Nat × Nat) → Prop} : goBld Tryz.prog 161 q = q [Go.Value.string { data := #[] }, Go.Value.int Go.IntKind.i64 0, Go.Value.int Go.IntKind.i64 0,
      Go.Value.string { data := #[] }, Go.Value.slice none 0 0, Go.Value.slice none 0 0] [(0, 1), (1, 1), (2, 1), (3, 1), (4, 1), (5, 1)] := by simp [goBld, und161, zer161, placesL, Value.cells]
theorem agg177 : aggT Tryz.prog 177 = some true := by unfold aggT; rw [Tryz.underlying177]; rfl
@[simp] theorem siz177 : szT Tryz.prog 177 = some 3 := by unfold szT; rw [show Tryz.prog.info? 177 = some Tryz.t177 from Tryz.type177]; rfl
@[simp ↓] theorem ty177 {q : Bool → Nat → Prop} : goTy Tryz.prog 177 q = q true 3 := by simp only [goTy, agg177, siz177]
@[simp ↓] theorem sz177 {q : Nat → Prop} : goSz Tryz.prog 177 q = q 3 := by simp only [goSz, siz177]
theorem zer177 : zero? Tryz.prog 177 = some (Go.Value.agg #[Go.Value.int Go.IntKind.i64 0, Go.Value.string { data := #[] }, Go.Value.int Go.IntKind.i64 0]) := by unfold zero?; rw [show Tryz.prog.info? 177 = some Tryz.t177 from Tryz.type177]; rfl
@[simp ↓] theorem z177 {q : List Value → Prop} : goZ Tryz.prog 177 q = q [Go.Value.int Go.IntKind.i64 0, Go.Value.string { data := #[] }, Go.Value.int Go.IntKind.i64 0] := by simp [goZ, zer177, Value.cells]
@[simp] theorem und177 : Tryz.prog.underlying 177 = some (Go.TypeDesc.struct
  #[{ name := "Op", type := 3, offset := 0, embedded := false, tag := "", pkgPath := "", byteOffset := 0 },
    { name := "Text", type := 9, offset := 1, embedded := false, tag := "", pkgPath := "", byteOffset := 8 },
    { name := "N", type := 3, offset := 2, embedded := false, tag := "", pkgPath := "", byteOffset := 24 }]) := opq Tryz.underlying177
@[simp ↓] theorem fld177_0 {q : Nat → TypeId → Prop} : goFld Tryz.prog 177 0 q = q 0 3 := by simp only [goFld, und177]; rfl
@[simp ↓] theorem fld177_1 {q : Nat → TypeId → Prop} : goFld Tryz.prog 177 1 q = q 1 9 := by simp only [goFld, und177]; rfl
@[simp ↓] theorem fld177_2 {q : Nat → TypeId → Prop} : goFld Tryz.prog 177 2 q = q 2 3 := by simp only [goFld, und177]; rfl
@[simp ↓] theorem bld177 {q : List Value → List (Nat × Nat) → Prop} : goBld Tryz.prog 177 q = q [Go.Value.int Go.IntKind.i64 0, Go.Value.string { data := #[] }, Go.Value.int Go.IntKind.i64 0] [(0, 1), (1, 1), (2, 1)] := by simp [goBld, und177, zer177, placesL, Value.cells]
theorem agg200 : aggT Tryz.prog 200 = some false := by unfold aggT; rw [Tryz.underlying200]; rfl
@[simp] theorem siz200 : szT Tryz.prog 200 = some 1 := by unfold szT; rw [show Tryz.prog.info? 200 = some Tryz.t200 from Tryz.type200]; rfl
@[simp ↓] theorem ty200 {q : Bool → Nat → Prop} : goTy Tryz.prog 200 q = q false 1 := by simp only [goTy, agg200, siz200]
@[simp ↓] theorem sz200 {q : Nat → Prop} : goSz Tryz.prog 200 q = q 1 := by simp only [goSz, siz200]
theorem zer200 : zero? Tryz.prog 200 = some Go.Value.nilFunc := by unfold zero?; rw [show Tryz.prog.info? 200 = some Tryz.t200 from Tryz.type200]; rfl
@[simp ↓] theorem z200 {q : List Value → Prop} : goZ Tryz.prog 200 q = q [Go.Value.nilFunc] := by simp [goZ, zer200, Value.cells]
theorem agg201 : aggT Tryz.prog 201 = some false := by unfold aggT; rw [Tryz.underlying201]; rfl
@[simp] theorem siz201 : szT Tryz.prog 201 = some 1 := by unfold szT; rw [show Tryz.prog.info? 201 = some Tryz.t201 from Tryz.type201]; rfl
@[simp ↓] theorem ty201 {q : Bool → Nat → Prop} : goTy Tryz.prog 201 q = q false 1 := by simp only [goTy, agg201, siz201]
@[simp ↓] theorem sz201 {q : Nat → Prop} : goSz Tryz.prog 201 q = q 1 := by simp only [goSz, siz201]
theorem zer201 : zero? Tryz.prog 201 = some Go.Value.nilFunc := by unfold zero?; rw [show Tryz.prog.info? 201 = some Tryz.t201 from Tryz.type201]; rfl
@[simp ↓] theorem z201 {q : List Value → Prop} : goZ Tryz.prog 201 q = q [Go.Value.nilFunc] := by simp [goZ, zer201, Value.cells]
theorem agg216 : aggT Tryz.prog 216 = some false := by unfold aggT; rw [Tryz.underlying216]; rfl
@[simp] theorem siz216 : szT Tryz.prog 216 = some 1 := by unfold szT; rw [show Tryz.prog.info? 216 = some Tryz.t216 from Tryz.type216]; rfl
@[simp ↓] theorem ty216 {q : Bool → Nat → Prop} : goTy Tryz.prog 216 q = q false 1 := by simp only [goTy, agg216, siz216]
@[simp ↓] theorem sz216 {q : Nat → Prop} : goSz Tryz.prog 216 q = q 1 := by simp only [goSz, siz216]
theorem zer216 : zero? Tryz.prog 216 = some (Go.Value.pointer none) := by unfold zero?; rw [show Tryz.prog.info? 216 = some Tryz.t216 from Tryz.type216]; rfl
@[simp ↓] theorem z216 {q : List Value → Prop} : goZ Tryz.prog 216 q = q [(Go.Value.pointer none)] := by simp [goZ, zer216, Value.cells]
@[simp] theorem und216 : Tryz.prog.underlying 216 = some (Go.TypeDesc.pointer 218) := opq Tryz.underlying216
@[simp ↓] theorem un216 {q : TypeDesc → Prop} : goUnd Tryz.prog 216 q = q (Go.TypeDesc.pointer 218) := by simp only [goUnd, und216]
theorem agg218 : aggT Tryz.prog 218 = some true := by unfold aggT; rw [Tryz.underlying218]; rfl
@[simp] theorem siz218 : szT Tryz.prog 218 = some 2 := by unfold szT; rw [show Tryz.prog.info? 218 = some Tryz.t218 from Tryz.type218]; rfl
@[simp ↓] theorem ty218 {q : Bool → Nat → Prop} : goTy Tryz.prog 218 q = q true 2 := by simp only [goTy, agg218, siz218]
@[simp ↓] theorem sz218 {q : Nat → Prop} : goSz Tryz.prog 218 q = q 2 := by simp only [goSz, siz218]
theorem zer218 : zero? Tryz.prog 218 = some (Go.Value.agg #[Go.Value.pointer none, Go.Value.slice none 0 0]) := by unfold zero?; rw [show Tryz.prog.info? 218 = some Tryz.t218 from Tryz.type218]; rfl
@[simp ↓] theorem z218 {q : List Value → Prop} : goZ Tryz.prog 218 q = q [Go.Value.pointer none, Go.Value.slice none 0 0] := by simp [goZ, zer218, Value.cells]
@[simp] theorem und218 : Tryz.prog.underlying 218 = some (Go.TypeDesc.struct
  #[{ name := "addr", type := 216, offset := 0, embedded := false, tag := "", pkgPath := "strings", byteOffset := 0 },
    { name := "buf", type := 37, offset := 1, embedded := false, tag := "", pkgPath := "strings", byteOffset := 8 }]) := opq Tryz.underlying218
@[simp ↓] theorem fld218_0 {q : Nat → TypeId → Prop} : goFld Tryz.prog 218 0 q = q 0 216 := by simp only [goFld, und218]; rfl
@[simp ↓] theorem fld218_1 {q : Nat → TypeId → Prop} : goFld Tryz.prog 218 1 q = q 1 37 := by simp only [goFld, und218]; rfl
@[simp ↓] theorem bld218 {q : List Value → List (Nat × Nat) → Prop} : goBld Tryz.prog 218 q = q [Go.Value.pointer none, Go.Value.slice none 0 0] [(0, 1), (1, 1)] := by simp [goBld, und218, zer218, placesL, Value.cells]
theorem agg220 : aggT Tryz.prog 220 = some false := by unfold aggT; rw [Tryz.underlying220]; rfl
@[simp] theorem siz220 : szT Tryz.prog 220 = some 1 := by unfold szT; rw [show Tryz.prog.info? 220 = some Tryz.t220 from Tryz.type220]; rfl
@[simp ↓] theorem ty220 {q : Bool → Nat → Prop} : goTy Tryz.prog 220 q = q false 1 := by simp only [goTy, agg220, siz220]
@[simp ↓] theorem sz220 {q : Nat → Prop} : goSz Tryz.prog 220 q = q 1 := by simp only [goSz, siz220]
theorem zer220 : zero? Tryz.prog 220 = some Go.Value.nilIface := by unfold zero?; rw [show Tryz.prog.info? 220 = some Tryz.t220 from Tryz.type220]; rfl
@[simp ↓] theorem z220 {q : List Value → Prop} : goZ Tryz.prog 220 q = q [Go.Value.nilIface] := by simp [goZ, zer220, Value.cells]
theorem agg248 : aggT Tryz.prog 248 = some true := by unfold aggT; rw [Tryz.underlying248]; rfl
@[simp] theorem siz248 : szT Tryz.prog 248 = some 4 := by unfold szT; rw [show Tryz.prog.info? 248 = some Tryz.t248 from Tryz.type248]; rfl
@[simp ↓] theorem ty248 {q : Bool → Nat → Prop} : goTy Tryz.prog 248 q = q true 4 := by simp only [goTy, agg248, siz248]
@[simp ↓] theorem sz248 {q : Nat → Prop} : goSz Tryz.prog 248 q = q 4 := by simp only [goSz, siz248]
theorem zer248 : zero? Tryz.prog 248 = some
  (Go.Value.agg
    #[Go.Value.string { data := #[] }, Go.Value.bool false, Go.Value.bool false, Go.Value.int Go.IntKind.i64 0]) := by unfold zero?; rw [show Tryz.prog.info? 248 = some Tryz.t248 from Tryz.type248]; rfl
@[simp ↓] theorem z248 {q : List Value → Prop} : goZ Tryz.prog 248 q = q [Go.Value.string { data := #[] }, Go.Value.bool false, Go.Value.bool false, Go.Value.int Go.IntKind.i64 0] := by simp [goZ, zer248, Value.cells]
@[simp] theorem und248 : Tryz.prog.underlying 248 = some (Go.TypeDesc.struct
  #[{ name := "Name", type := 9, offset := 0, embedded := false, tag := "", pkgPath := "", byteOffset := 0 },
    { name := "Ask", type := 4, offset := 1, embedded := false, tag := "", pkgPath := "", byteOffset := 16 },
    { name := "Has", type := 4, offset := 2, embedded := false, tag := "", pkgPath := "", byteOffset := 17 },
    { name := "At", type := 3, offset := 3, embedded := false, tag := "", pkgPath := "", byteOffset := 24 }]) := opq Tryz.underlying248
@[simp ↓] theorem fld248_0 {q : Nat → TypeId → Prop} : goFld Tryz.prog 248 0 q = q 0 9 := by simp only [goFld, und248]; rfl
@[simp ↓] theorem fld248_1 {q : Nat → TypeId → Prop} : goFld Tryz.prog 248 1 q = q 1 4 := by simp only [goFld, und248]; rfl
@[simp ↓] theorem fld248_2 {q : Nat → TypeId → Prop} : goFld Tryz.prog 248 2 q = q 2 4 := by simp only [goFld, und248]; rfl
@[simp ↓] theorem fld248_3 {q : Nat → TypeId → Prop} : goFld Tryz.prog 248 3 q = q 3 3 := by simp only [goFld, und248]; rfl
@[simp ↓] theorem bld248 {q : List Value → List (Nat × Nat) → Prop} : goBld Tryz.prog 248 q = q [Go.Value.string { data := #[] }, Go.Value.bool false, Go.Value.bool false, Go.Value.int Go.IntKind.i64 0] [(0, 1), (1, 1), (2, 1), (3, 1)] := by simp [goBld, und248, zer248, placesL, Value.cells]
theorem agg252 : aggT Tryz.prog 252 = some false := by unfold aggT; rw [Tryz.underlying252]; rfl
@[simp] theorem siz252 : szT Tryz.prog 252 = some 1 := by unfold szT; rw [show Tryz.prog.info? 252 = some Tryz.t252 from Tryz.type252]; rfl
@[simp ↓] theorem ty252 {q : Bool → Nat → Prop} : goTy Tryz.prog 252 q = q false 1 := by simp only [goTy, agg252, siz252]
@[simp ↓] theorem sz252 {q : Nat → Prop} : goSz Tryz.prog 252 q = q 1 := by simp only [goSz, siz252]
theorem zer252 : zero? Tryz.prog 252 = some (Go.Value.pointer none) := by unfold zero?; rw [show Tryz.prog.info? 252 = some Tryz.t252 from Tryz.type252]; rfl
@[simp ↓] theorem z252 {q : List Value → Prop} : goZ Tryz.prog 252 q = q [(Go.Value.pointer none)] := by simp [goZ, zer252, Value.cells]
@[simp] theorem und252 : Tryz.prog.underlying 252 = some (Go.TypeDesc.pointer 5) := opq Tryz.underlying252
@[simp ↓] theorem un252 {q : TypeDesc → Prop} : goUnd Tryz.prog 252 q = q (Go.TypeDesc.pointer 5) := by simp only [goUnd, und252]
theorem agg262 : aggT Tryz.prog 262 = some false := by unfold aggT; rw [Tryz.underlying262]; rfl
@[simp] theorem siz262 : szT Tryz.prog 262 = some 1 := by unfold szT; rw [show Tryz.prog.info? 262 = some Tryz.t262 from Tryz.type262]; rfl
@[simp ↓] theorem ty262 {q : Bool → Nat → Prop} : goTy Tryz.prog 262 q = q false 1 := by simp only [goTy, agg262, siz262]
@[simp ↓] theorem sz262 {q : Nat → Prop} : goSz Tryz.prog 262 q = q 1 := by simp only [goSz, siz262]
theorem zer262 : zero? Tryz.prog 262 = some (Go.Value.int Go.IntKind.u32 0) := by unfold zero?; rw [show Tryz.prog.info? 262 = some Tryz.t262 from Tryz.type262]; rfl
@[simp ↓] theorem z262 {q : List Value → Prop} : goZ Tryz.prog 262 q = q [(Go.Value.int Go.IntKind.u32 0)] := by simp [goZ, zer262, Value.cells]
@[simp] theorem und262 : Tryz.prog.underlying 262 = some (Go.TypeDesc.int Go.IntKind.u32) := opq Tryz.underlying262
@[simp ↓] theorem un262 {q : TypeDesc → Prop} : goUnd Tryz.prog 262 q = q (Go.TypeDesc.int Go.IntKind.u32) := by simp only [goUnd, und262]
theorem agg264 : aggT Tryz.prog 264 = some false := by unfold aggT; rw [Tryz.underlying264]; rfl
@[simp] theorem siz264 : szT Tryz.prog 264 = some 1 := by unfold szT; rw [show Tryz.prog.info? 264 = some Tryz.t264 from Tryz.type264]; rfl
@[simp ↓] theorem ty264 {q : Bool → Nat → Prop} : goTy Tryz.prog 264 q = q false 1 := by simp only [goTy, agg264, siz264]
@[simp ↓] theorem sz264 {q : Nat → Prop} : goSz Tryz.prog 264 q = q 1 := by simp only [goSz, siz264]
theorem zer264 : zero? Tryz.prog 264 = some (Go.Value.int Go.IntKind.u64 0) := by unfold zero?; rw [show Tryz.prog.info? 264 = some Tryz.t264 from Tryz.type264]; rfl
@[simp ↓] theorem z264 {q : List Value → Prop} : goZ Tryz.prog 264 q = q [(Go.Value.int Go.IntKind.u64 0)] := by simp [goZ, zer264, Value.cells]
@[simp] theorem und264 : Tryz.prog.underlying 264 = some (Go.TypeDesc.int Go.IntKind.u64) := opq Tryz.underlying264
@[simp ↓] theorem un264 {q : TypeDesc → Prop} : goUnd Tryz.prog 264 q = q (Go.TypeDesc.int Go.IntKind.u64) := by simp only [goUnd, und264]
theorem agg281 : aggT Tryz.prog 281 = some true := by unfold aggT; rw [Tryz.underlying281]; rfl
@[simp] theorem siz281 : szT Tryz.prog 281 = some 3 := by unfold szT; rw [show Tryz.prog.info? 281 = some Tryz.t281 from Tryz.type281]; rfl
@[simp ↓] theorem ty281 {q : Bool → Nat → Prop} : goTy Tryz.prog 281 q = q true 3 := by simp only [goTy, agg281, siz281]
@[simp ↓] theorem sz281 {q : Nat → Prop} : goSz Tryz.prog 281 q = q 3 := by simp only [goSz, siz281]
theorem zer281 : zero? Tryz.prog 281 = some (Go.Value.agg #[Go.Value.int Go.IntKind.i64 0, Go.Value.string { data := #[] }, Go.Value.int Go.IntKind.i64 0]) := by unfold zero?; rw [show Tryz.prog.info? 281 = some Tryz.t281 from Tryz.type281]; rfl
@[simp ↓] theorem z281 {q : List Value → Prop} : goZ Tryz.prog 281 q = q [Go.Value.int Go.IntKind.i64 0, Go.Value.string { data := #[] }, Go.Value.int Go.IntKind.i64 0] := by simp [goZ, zer281, Value.cells]
@[simp] theorem und281 : Tryz.prog.underlying 281 = some (Go.TypeDesc.struct
  #[{ name := "Op", type := 3, offset := 0, embedded := false, tag := "", pkgPath := "", byteOffset := 0 },
    { name := "Text", type := 9, offset := 1, embedded := false, tag := "", pkgPath := "", byteOffset := 8 },
    { name := "N", type := 3, offset := 2, embedded := false, tag := "", pkgPath := "", byteOffset := 24 }]) := opq Tryz.underlying281
@[simp ↓] theorem fld281_0 {q : Nat → TypeId → Prop} : goFld Tryz.prog 281 0 q = q 0 3 := by simp only [goFld, und281]; rfl
@[simp ↓] theorem fld281_1 {q : Nat → TypeId → Prop} : goFld Tryz.prog 281 1 q = q 1 9 := by simp only [goFld, und281]; rfl
@[simp ↓] theorem fld281_2 {q : Nat → TypeId → Prop} : goFld Tryz.prog 281 2 q = q 2 3 := by simp only [goFld, und281]; rfl
@[simp ↓] theorem bld281 {q : List Value → List (Nat × Nat) → Prop} : goBld Tryz.prog 281 q = q [Go.Value.int Go.IntKind.i64 0, Go.Value.string { data := #[] }, Go.Value.int Go.IntKind.i64 0] [(0, 1), (1, 1), (2, 1)] := by simp [goBld, und281, zer281, placesL, Value.cells]
theorem agg283 : aggT Tryz.prog 283 = some false := by unfold aggT; rw [Tryz.underlying283]; rfl
@[simp] theorem siz283 : szT Tryz.prog 283 = some 1 := by unfold szT; rw [show Tryz.prog.info? 283 = some Tryz.t283 from Tryz.type283]; rfl
@[simp ↓] theorem ty283 {q : Bool → Nat → Prop} : goTy Tryz.prog 283 q = q false 1 := by simp only [goTy, agg283, siz283]
@[simp ↓] theorem sz283 {q : Nat → Prop} : goSz Tryz.prog 283 q = q 1 := by simp only [goSz, siz283]
theorem zer283 : zero? Tryz.prog 283 = some (Go.Value.pointer none) := by unfold zero?; rw [show Tryz.prog.info? 283 = some Tryz.t283 from Tryz.type283]; rfl
@[simp ↓] theorem z283 {q : List Value → Prop} : goZ Tryz.prog 283 q = q [(Go.Value.pointer none)] := by simp [goZ, zer283, Value.cells]
@[simp] theorem und283 : Tryz.prog.underlying 283 = some (Go.TypeDesc.unsafePointer) := opq Tryz.underlying283
@[simp ↓] theorem un283 {q : TypeDesc → Prop} : goUnd Tryz.prog 283 q = q (Go.TypeDesc.unsafePointer) := by simp only [goUnd, und283]
theorem agg296 : aggT Tryz.prog 296 = some true := by unfold aggT; rw [Tryz.underlying296]; rfl
@[simp] theorem siz296 : szT Tryz.prog 296 = some 20 := by unfold szT; rw [show Tryz.prog.info? 296 = some Tryz.t296 from Tryz.type296]; rfl
@[simp ↓] theorem ty296 {q : Bool → Nat → Prop} : goTy Tryz.prog 296 q = q true 20 := by simp only [goTy, agg296, siz296]
@[simp ↓] theorem sz296 {q : Nat → Prop} : goSz Tryz.prog 296 q = q 20 := by simp only [goSz, siz296]
theorem zer296 : zero? Tryz.prog 296 = some
  (Go.Value.agg
    #[Go.Value.int Go.IntKind.u64 0, Go.Value.int Go.IntKind.u64 0, Go.Value.int Go.IntKind.u64 0,
      Go.Value.int Go.IntKind.u64 0, Go.Value.int Go.IntKind.u64 0, Go.Value.int Go.IntKind.u64 0,
      Go.Value.int Go.IntKind.u64 0, Go.Value.int Go.IntKind.u64 0, Go.Value.int Go.IntKind.u64 0,
      Go.Value.int Go.IntKind.u64 0, Go.Value.int Go.IntKind.u64 0, Go.Value.int Go.IntKind.u64 0,
      Go.Value.int Go.IntKind.u64 0, Go.Value.int Go.IntKind.u64 0, Go.Value.int Go.IntKind.u64 0,
      Go.Value.int Go.IntKind.u64 0, Go.Value.int Go.IntKind.u64 0, Go.Value.int Go.IntKind.u64 0,
      Go.Value.int Go.IntKind.u64 0, Go.Value.int Go.IntKind.u64 0]) := by unfold zero?; rw [show Tryz.prog.info? 296 = some Tryz.t296 from Tryz.type296]; rfl
@[simp ↓] theorem z296 {q : List Value → Prop} : goZ Tryz.prog 296 q = q [Go.Value.int Go.IntKind.u64 0, Go.Value.int Go.IntKind.u64 0, Go.Value.int Go.IntKind.u64 0,
      Go.Value.int Go.IntKind.u64 0, Go.Value.int Go.IntKind.u64 0, Go.Value.int Go.IntKind.u64 0,
      Go.Value.int Go.IntKind.u64 0, Go.Value.int Go.IntKind.u64 0, Go.Value.int Go.IntKind.u64 0,
      Go.Value.int Go.IntKind.u64 0, Go.Value.int Go.IntKind.u64 0, Go.Value.int Go.IntKind.u64 0,
      Go.Value.int Go.IntKind.u64 0, Go.Value.int Go.IntKind.u64 0, Go.Value.int Go.IntKind.u64 0,
      Go.Value.int Go.IntKind.u64 0, Go.Value.int Go.IntKind.u64 0, Go.Value.int Go.IntKind.u64 0,
      Go.Value.int Go.IntKind.u64 0, Go.Value.int Go.IntKind.u64 0] := by simp [goZ, zer296, Value.cells]
@[simp] theorem und296 : Tryz.prog.underlying 296 = some (Go.TypeDesc.array 20 264) := opq Tryz.underlying296
@[simp ↓] theorem un296 {q : TypeDesc → Prop} : goUnd Tryz.prog 296 q = q (Go.TypeDesc.array 20 264) := by simp only [goUnd, und296]
theorem agg307 : aggT Tryz.prog 307 = some true := by unfold aggT; rw [Tryz.underlying307]; rfl
@[simp] theorem siz307 : szT Tryz.prog 307 = some 4 := by unfold szT; rw [show Tryz.prog.info? 307 = some Tryz.t307 from Tryz.type307]; rfl
@[simp ↓] theorem ty307 {q : Bool → Nat → Prop} : goTy Tryz.prog 307 q = q true 4 := by simp only [goTy, agg307, siz307]
@[simp ↓] theorem sz307 {q : Nat → Prop} : goSz Tryz.prog 307 q = q 4 := by simp only [goSz, siz307]
theorem zer307 : zero? Tryz.prog 307 = some
  (Go.Value.agg #[Go.Value.pointer none, Go.Value.pointer none, Go.Value.pointer none, Go.Value.string { data := #[] }]) := by unfold zero?; rw [show Tryz.prog.info? 307 = some Tryz.t307 from Tryz.type307]; rfl
@[simp ↓] theorem z307 {q : List Value → Prop} : goZ Tryz.prog 307 q = q [Go.Value.pointer none, Go.Value.pointer none, Go.Value.pointer none, Go.Value.string { data := #[] }] := by simp [goZ, zer307, Value.cells]
@[simp] theorem und307 : Tryz.prog.underlying 307 = some (Go.TypeDesc.struct
  #[{ name := "_interface", type := 17, offset := 0, embedded := false, tag := "", pkgPath := "runtime",
      byteOffset := 0 },
    { name := "concrete", type := 17, offset := 1, embedded := false, tag := "", pkgPath := "runtime",
      byteOffset := 8 },
    { name := "asserted", type := 17, offset := 2, embedded := false, tag := "", pkgPath := "runtime",
      byteOffset := 16 },
    { name := "missingMethod", type := 9, offset := 3, embedded := false, tag := "", pkgPath := "runtime",
      byteOffset := 24 }]) := opq Tryz.underlying307
@[simp ↓] theorem fld307_0 {q : Nat → TypeId → Prop} : goFld Tryz.prog 307 0 q = q 0 17 := by simp only [goFld, und307]; rfl
@[simp ↓] theorem fld307_1 {q : Nat → TypeId → Prop} : goFld Tryz.prog 307 1 q = q 1 17 := by simp only [goFld, und307]; rfl
@[simp ↓] theorem fld307_2 {q : Nat → TypeId → Prop} : goFld Tryz.prog 307 2 q = q 2 17 := by simp only [goFld, und307]; rfl
@[simp ↓] theorem fld307_3 {q : Nat → TypeId → Prop} : goFld Tryz.prog 307 3 q = q 3 9 := by simp only [goFld, und307]; rfl
@[simp ↓] theorem bld307 {q : List Value → List (Nat × Nat) → Prop} : goBld Tryz.prog 307 q = q [Go.Value.pointer none, Go.Value.pointer none, Go.Value.pointer none, Go.Value.string { data := #[] }] [(0, 1), (1, 1), (2, 1), (3, 1)] := by simp [goBld, und307, zer307, placesL, Value.cells]
theorem agg308 : aggT Tryz.prog 308 = some true := by unfold aggT; rw [Tryz.underlying308]; rfl
@[simp] theorem siz308 : szT Tryz.prog 308 = some 0 := by unfold szT; rw [show Tryz.prog.info? 308 = some Tryz.t308 from Tryz.type308]; rfl
@[simp ↓] theorem ty308 {q : Bool → Nat → Prop} : goTy Tryz.prog 308 q = q true 0 := by simp only [goTy, agg308, siz308]
@[simp ↓] theorem sz308 {q : Nat → Prop} : goSz Tryz.prog 308 q = q 0 := by simp only [goSz, siz308]
theorem zer308 : zero? Tryz.prog 308 = some (Go.Value.agg #[]) := by unfold zero?; rw [show Tryz.prog.info? 308 = some Tryz.t308 from Tryz.type308]; rfl
@[simp ↓] theorem z308 {q : List Value → Prop} : goZ Tryz.prog 308 q = q [] := by simp [goZ, zer308, Value.cells]
@[simp] theorem und308 : Tryz.prog.underlying 308 = some (Go.TypeDesc.array 0 16) := opq Tryz.underlying308
@[simp ↓] theorem un308 {q : TypeDesc → Prop} : goUnd Tryz.prog 308 q = q (Go.TypeDesc.array 0 16) := by simp only [goUnd, und308]
theorem agg310 : aggT Tryz.prog 310 = some true := by unfold aggT; rw [Tryz.underlying310]; rfl
@[simp] theorem siz310 : szT Tryz.prog 310 = some 0 := by unfold szT; rw [show Tryz.prog.info? 310 = some Tryz.t310 from Tryz.type310]; rfl
@[simp ↓] theorem ty310 {q : Bool → Nat → Prop} : goTy Tryz.prog 310 q = q true 0 := by simp only [goTy, agg310, siz310]
@[simp ↓] theorem sz310 {q : Nat → Prop} : goSz Tryz.prog 310 q = q 0 := by simp only [goSz, siz310]
theorem zer310 : zero? Tryz.prog 310 = some (Go.Value.agg #[]) := by unfold zero?; rw [show Tryz.prog.info? 310 = some Tryz.t310 from Tryz.type310]; rfl
@[simp ↓] theorem z310 {q : List Value → Prop} : goZ Tryz.prog 310 q = q [] := by simp [goZ, zer310, Value.cells]
@[simp] theorem und310 : Tryz.prog.underlying 310 = some (Go.TypeDesc.struct
  #[{ name := "_", type := 308, offset := 0, embedded := false, tag := "", pkgPath := "runtime", byteOffset := 0 }]) := opq Tryz.underlying310
@[simp ↓] theorem fld310_0 {q : Nat → TypeId → Prop} : goFld Tryz.prog 310 0 q = q 0 308 := by simp only [goFld, und310]; rfl
@[simp ↓] theorem bld310 {q : List Value → List (Nat × Nat) → Prop} : goBld Tryz.prog 310 q = q [] [(0, 0)] := by simp [goBld, und310, zer310, placesL, Value.cells]
theorem agg312 : aggT Tryz.prog 312 = some false := by unfold aggT; rw [Tryz.underlying312]; rfl
@[simp] theorem siz312 : szT Tryz.prog 312 = some 1 := by unfold szT; rw [show Tryz.prog.info? 312 = some Tryz.t312 from Tryz.type312]; rfl
@[simp ↓] theorem ty312 {q : Bool → Nat → Prop} : goTy Tryz.prog 312 q = q false 1 := by simp only [goTy, agg312, siz312]
@[simp ↓] theorem sz312 {q : Nat → Prop} : goSz Tryz.prog 312 q = q 1 := by simp only [goSz, siz312]
theorem zer312 : zero? Tryz.prog 312 = some (Go.Value.int Go.IntKind.u8 0) := by unfold zero?; rw [show Tryz.prog.info? 312 = some Tryz.t312 from Tryz.type312]; rfl
@[simp ↓] theorem z312 {q : List Value → Prop} : goZ Tryz.prog 312 q = q [(Go.Value.int Go.IntKind.u8 0)] := by simp [goZ, zer312, Value.cells]
@[simp] theorem und312 : Tryz.prog.underlying 312 = some (Go.TypeDesc.int Go.IntKind.u8) := opq Tryz.underlying312
@[simp ↓] theorem un312 {q : TypeDesc → Prop} : goUnd Tryz.prog 312 q = q (Go.TypeDesc.int Go.IntKind.u8) := by simp only [goUnd, und312]
theorem agg313 : aggT Tryz.prog 313 = some false := by unfold aggT; rw [Tryz.underlying313]; rfl
@[simp] theorem siz313 : szT Tryz.prog 313 = some 1 := by unfold szT; rw [show Tryz.prog.info? 313 = some Tryz.t313 from Tryz.type313]; rfl
@[simp ↓] theorem ty313 {q : Bool → Nat → Prop} : goTy Tryz.prog 313 q = q false 1 := by simp only [goTy, agg313, siz313]
@[simp ↓] theorem sz313 {q : Nat → Prop} : goSz Tryz.prog 313 q = q 1 := by simp only [goSz, siz313]
theorem zer313 : zero? Tryz.prog 313 = some (Go.Value.int Go.IntKind.u8 0) := by unfold zero?; rw [show Tryz.prog.info? 313 = some Tryz.t313 from Tryz.type313]; rfl
@[simp ↓] theorem z313 {q : List Value → Prop} : goZ Tryz.prog 313 q = q [(Go.Value.int Go.IntKind.u8 0)] := by simp [goZ, zer313, Value.cells]
@[simp] theorem und313 : Tryz.prog.underlying 313 = some (Go.TypeDesc.int Go.IntKind.u8) := opq Tryz.underlying313
@[simp ↓] theorem un313 {q : TypeDesc → Prop} : goUnd Tryz.prog 313 q = q (Go.TypeDesc.int Go.IntKind.u8) := by simp only [goUnd, und313]
theorem agg314 : aggT Tryz.prog 314 = some false := by unfold aggT; rw [Tryz.underlying314]; rfl
@[simp] theorem siz314 : szT Tryz.prog 314 = some 1 := by unfold szT; rw [show Tryz.prog.info? 314 = some Tryz.t314 from Tryz.type314]; rfl
@[simp ↓] theorem ty314 {q : Bool → Nat → Prop} : goTy Tryz.prog 314 q = q false 1 := by simp only [goTy, agg314, siz314]
@[simp ↓] theorem sz314 {q : Nat → Prop} : goSz Tryz.prog 314 q = q 1 := by simp only [goSz, siz314]
theorem zer314 : zero? Tryz.prog 314 = some Go.Value.nilFunc := by unfold zero?; rw [show Tryz.prog.info? 314 = some Tryz.t314 from Tryz.type314]; rfl
@[simp ↓] theorem z314 {q : List Value → Prop} : goZ Tryz.prog 314 q = q [Go.Value.nilFunc] := by simp [goZ, zer314, Value.cells]
theorem agg315 : aggT Tryz.prog 315 = some false := by unfold aggT; rw [Tryz.underlying315]; rfl
@[simp] theorem siz315 : szT Tryz.prog 315 = some 1 := by unfold szT; rw [show Tryz.prog.info? 315 = some Tryz.t315 from Tryz.type315]; rfl
@[simp ↓] theorem ty315 {q : Bool → Nat → Prop} : goTy Tryz.prog 315 q = q false 1 := by simp only [goTy, agg315, siz315]
@[simp ↓] theorem sz315 {q : Nat → Prop} : goSz Tryz.prog 315 q = q 1 := by simp only [goSz, siz315]
theorem zer315 : zero? Tryz.prog 315 = some (Go.Value.int Go.IntKind.i32 0) := by unfold zero?; rw [show Tryz.prog.info? 315 = some Tryz.t315 from Tryz.type315]; rfl
@[simp ↓] theorem z315 {q : List Value → Prop} : goZ Tryz.prog 315 q = q [(Go.Value.int Go.IntKind.i32 0)] := by simp [goZ, zer315, Value.cells]
@[simp] theorem und315 : Tryz.prog.underlying 315 = some (Go.TypeDesc.int Go.IntKind.i32) := opq Tryz.underlying315
@[simp ↓] theorem un315 {q : TypeDesc → Prop} : goUnd Tryz.prog 315 q = q (Go.TypeDesc.int Go.IntKind.i32) := by simp only [goUnd, und315]
theorem agg316 : aggT Tryz.prog 316 = some false := by unfold aggT; rw [Tryz.underlying316]; rfl
@[simp] theorem siz316 : szT Tryz.prog 316 = some 1 := by unfold szT; rw [show Tryz.prog.info? 316 = some Tryz.t316 from Tryz.type316]; rfl
@[simp ↓] theorem ty316 {q : Bool → Nat → Prop} : goTy Tryz.prog 316 q = q false 1 := by simp only [goTy, agg316, siz316]
@[simp ↓] theorem sz316 {q : Nat → Prop} : goSz Tryz.prog 316 q = q 1 := by simp only [goSz, siz316]
theorem zer316 : zero? Tryz.prog 316 = some (Go.Value.int Go.IntKind.i32 0) := by unfold zero?; rw [show Tryz.prog.info? 316 = some Tryz.t316 from Tryz.type316]; rfl
@[simp ↓] theorem z316 {q : List Value → Prop} : goZ Tryz.prog 316 q = q [(Go.Value.int Go.IntKind.i32 0)] := by simp [goZ, zer316, Value.cells]
@[simp] theorem und316 : Tryz.prog.underlying 316 = some (Go.TypeDesc.int Go.IntKind.i32) := opq Tryz.underlying316
@[simp ↓] theorem un316 {q : TypeDesc → Prop} : goUnd Tryz.prog 316 q = q (Go.TypeDesc.int Go.IntKind.i32) := by simp only [goUnd, und316]
theorem agg318 : aggT Tryz.prog 318 = some true := by unfold aggT; rw [Tryz.underlying318]; rfl
@[simp] theorem siz318 : szT Tryz.prog 318 = some 11 := by unfold szT; rw [show Tryz.prog.info? 318 = some Tryz.t318 from Tryz.type318]; rfl
@[simp ↓] theorem ty318 {q : Bool → Nat → Prop} : goTy Tryz.prog 318 q = q true 11 := by simp only [goTy, agg318, siz318]
@[simp ↓] theorem sz318 {q : Nat → Prop} : goSz Tryz.prog 318 q = q 11 := by simp only [goSz, siz318]
theorem zer318 : zero? Tryz.prog 318 = some
  (Go.Value.agg
    #[Go.Value.int Go.IntKind.u64 0, Go.Value.int Go.IntKind.u64 0, Go.Value.int Go.IntKind.u32 0,
      Go.Value.int Go.IntKind.u8 0, Go.Value.int Go.IntKind.u8 0, Go.Value.int Go.IntKind.u8 0,
      Go.Value.int Go.IntKind.u8 0, Go.Value.nilFunc, Go.Value.pointer none, Go.Value.int Go.IntKind.i32 0,
      Go.Value.int Go.IntKind.i32 0]) := by unfold zero?; rw [show Tryz.prog.info? 318 = some Tryz.t318 from Tryz.type318]; rfl
@[simp ↓] theorem z318 {q : List Value → Prop} : goZ Tryz.prog 318 q = q [Go.Value.int Go.IntKind.u64 0, Go.Value.int Go.IntKind.u64 0, Go.Value.int Go.IntKind.u32 0,
      Go.Value.int Go.IntKind.u8 0, Go.Value.int Go.IntKind.u8 0, Go.Value.int Go.IntKind.u8 0,
      Go.Value.int Go.IntKind.u8 0, Go.Value.nilFunc, Go.Value.pointer none, Go.Value.int Go.IntKind.i32 0,
      Go.Value.int Go.IntKind.i32 0] := by simp [goZ, zer318, Value.cells]
@[simp] theorem und318 : Tryz.prog.underlying 318 = some (Go.TypeDesc.struct
  #[{ name := "Size_", type := 12, offset := 0, embedded := false, tag := "", pkgPath := "", byteOffset := 0 },
    { name := "PtrBytes", type := 12, offset := 1, embedded := false, tag := "", pkgPath := "", byteOffset := 8 },
    { name := "Hash", type := 262, offset := 2, embedded := false, tag := "", pkgPath := "", byteOffset := 16 },
    { name := "TFlag", type := 312, offset := 3, embedded := false, tag := "", pkgPath := "", byteOffset := 20 },
    { name := "Align_", type := 5, offset := 4, embedded := false, tag := "", pkgPath := "", byteOffset := 21 },
    { name := "FieldAlign_", type := 5, offset := 5, embedded := false, tag := "", pkgPath := "", byteOffset := 22 },
    { name := "Kind_", type := 313, offset := 6, embedded := false, tag := "", pkgPath := "", byteOffset := 23 },
    { name := "Equal", type := 314, offset := 7, embedded := false, tag := "", pkgPath := "", byteOffset := 24 },
    { name := "GCData", type := 252, offset := 8, embedded := false, tag := "", pkgPath := "", byteOffset := 32 },
    { name := "Str", type := 315, offset := 9, embedded := false, tag := "", pkgPath := "", byteOffset := 40 },
    { name := "PtrToThis", type := 316, offset := 10, embedded := false, tag := "", pkgPath := "", byteOffset := 44 }]) := opq Tryz.underlying318
@[simp ↓] theorem fld318_0 {q : Nat → TypeId → Prop} : goFld Tryz.prog 318 0 q = q 0 12 := by simp only [goFld, und318]; rfl
@[simp ↓] theorem fld318_1 {q : Nat → TypeId → Prop} : goFld Tryz.prog 318 1 q = q 1 12 := by simp only [goFld, und318]; rfl
@[simp ↓] theorem fld318_2 {q : Nat → TypeId → Prop} : goFld Tryz.prog 318 2 q = q 2 262 := by simp only [goFld, und318]; rfl
@[simp ↓] theorem fld318_3 {q : Nat → TypeId → Prop} : goFld Tryz.prog 318 3 q = q 3 312 := by simp only [goFld, und318]; rfl
@[simp ↓] theorem fld318_4 {q : Nat → TypeId → Prop} : goFld Tryz.prog 318 4 q = q 4 5 := by simp only [goFld, und318]; rfl
@[simp ↓] theorem fld318_5 {q : Nat → TypeId → Prop} : goFld Tryz.prog 318 5 q = q 5 5 := by simp only [goFld, und318]; rfl
@[simp ↓] theorem fld318_6 {q : Nat → TypeId → Prop} : goFld Tryz.prog 318 6 q = q 6 313 := by simp only [goFld, und318]; rfl
@[simp ↓] theorem fld318_7 {q : Nat → TypeId → Prop} : goFld Tryz.prog 318 7 q = q 7 314 := by simp only [goFld, und318]; rfl
@[simp ↓] theorem fld318_8 {q : Nat → TypeId → Prop} : goFld Tryz.prog 318 8 q = q 8 252 := by simp only [goFld, und318]; rfl
@[simp ↓] theorem fld318_9 {q : Nat → TypeId → Prop} : goFld Tryz.prog 318 9 q = q 9 315 := by simp only [goFld, und318]; rfl
@[simp ↓] theorem fld318_10 {q : Nat → TypeId → Prop} : goFld Tryz.prog 318 10 q = q 10 316 := by simp only [goFld, und318]; rfl
@[simp ↓] theorem bld318 {q : List Value → List (Nat × Nat) → Prop} : goBld Tryz.prog 318 q = q [Go.Value.int Go.IntKind.u64 0, Go.Value.int Go.IntKind.u64 0, Go.Value.int Go.IntKind.u32 0,
      Go.Value.int Go.IntKind.u8 0, Go.Value.int Go.IntKind.u8 0, Go.Value.int Go.IntKind.u8 0,
      Go.Value.int Go.IntKind.u8 0, Go.Value.nilFunc, Go.Value.pointer none, Go.Value.int Go.IntKind.i32 0,
      Go.Value.int Go.IntKind.i32 0] [(0, 1), (1, 1), (2, 1), (3, 1), (4, 1), (5, 1), (6, 1), (7, 1), (8, 1), (9, 1), (10, 1)] := by simp [goBld, und318, zer318, placesL, Value.cells]
end Go.Proofs.YtbigpkfdeaigeaaGreatDoor
