import Derived.Test.YtephpieeibcihaaGreatDoorProg
import Derived.Test.YtephpieeibcihaaGreatDoorAm20
set_option linter.all false
namespace Go.Proofs.YtephpieeibcihaaGreatDoor
open Go Go.Am Go.Proofs
set_option maxRecDepth 100000
theorem agg1 : aggT Tryz.prog 1 = some false := by unfold aggT; rw [Tryz.underlying1]; rfl
@[simp] theorem siz1 : szT Tryz.prog 1 = some 1 := by unfold szT; rw [show Tryz.prog.info? 1 = some Tryz.t1 from Tryz.type1]; rfl
@[simp ↓] theorem ty1 {q : Bool → Nat → Prop} : goTy Tryz.prog 1 q = q false 1 := by simp only [goTy, agg1, siz1]
@[simp ↓] theorem sz1 {q : Nat → Prop} : goSz Tryz.prog 1 q = q 1 := by simp only [goSz, siz1]
theorem zer1 : zero? Tryz.prog 1 = some Go.Value.nilFunc := by unfold zero?; rw [show Tryz.prog.info? 1 = some Tryz.t1 from Tryz.type1]; rfl
@[simp ↓] theorem z1 {q : List Value → Prop} : goZ Tryz.prog 1 q = q [Go.Value.nilFunc] := by simp [goZ, zer1, Value.cells]
theorem agg2 : aggT Tryz.prog 2 = some false := by unfold aggT; rw [Tryz.underlying2]; rfl
@[simp] theorem siz2 : szT Tryz.prog 2 = some 1 := by unfold szT; rw [show Tryz.prog.info? 2 = some Tryz.t2 from Tryz.type2]; rfl
@[simp ↓] theorem ty2 {q : Bool → Nat → Prop} : goTy Tryz.prog 2 q = q false 1 := by simp only [goTy, agg2, siz2]
@[simp ↓] theorem sz2 {q : Nat → Prop} : goSz Tryz.prog 2 q = q 1 := by simp only [goSz, siz2]
theorem zer2 : zero? Tryz.prog 2 = some (Go.Value.int Go.IntKind.i64 0) := by unfold zero?; rw [show Tryz.prog.info? 2 = some Tryz.t2 from Tryz.type2]; rfl
@[simp ↓] theorem z2 {q : List Value → Prop} : goZ Tryz.prog 2 q = q [(Go.Value.int Go.IntKind.i64 0)] := by simp [goZ, zer2, Value.cells]
@[simp] theorem und2 : Tryz.prog.underlying 2 = some (Go.TypeDesc.int Go.IntKind.i64) := opq Tryz.underlying2
@[simp ↓] theorem un2 {q : TypeDesc → Prop} : goUnd Tryz.prog 2 q = q (Go.TypeDesc.int Go.IntKind.i64) := by simp only [goUnd, und2]
theorem agg3 : aggT Tryz.prog 3 = some false := by unfold aggT; rw [Tryz.underlying3]; rfl
@[simp] theorem siz3 : szT Tryz.prog 3 = some 1 := by unfold szT; rw [show Tryz.prog.info? 3 = some Tryz.t3 from Tryz.type3]; rfl
@[simp ↓] theorem ty3 {q : Bool → Nat → Prop} : goTy Tryz.prog 3 q = q false 1 := by simp only [goTy, agg3, siz3]
@[simp ↓] theorem sz3 {q : Nat → Prop} : goSz Tryz.prog 3 q = q 1 := by simp only [goSz, siz3]
theorem zer3 : zero? Tryz.prog 3 = some (Go.Value.int Go.IntKind.i64 0) := by unfold zero?; rw [show Tryz.prog.info? 3 = some Tryz.t3 from Tryz.type3]; rfl
@[simp ↓] theorem z3 {q : List Value → Prop} : goZ Tryz.prog 3 q = q [(Go.Value.int Go.IntKind.i64 0)] := by simp [goZ, zer3, Value.cells]
@[simp] theorem und3 : Tryz.prog.underlying 3 = some (Go.TypeDesc.int Go.IntKind.i64) := opq Tryz.underlying3
@[simp ↓] theorem un3 {q : TypeDesc → Prop} : goUnd Tryz.prog 3 q = q (Go.TypeDesc.int Go.IntKind.i64) := by simp only [goUnd, und3]
theorem agg4 : aggT Tryz.prog 4 = some false := by unfold aggT; rw [Tryz.underlying4]; rfl
@[simp] theorem siz4 : szT Tryz.prog 4 = some 1 := by unfold szT; rw [show Tryz.prog.info? 4 = some Tryz.t4 from Tryz.type4]; rfl
@[simp ↓] theorem ty4 {q : Bool → Nat → Prop} : goTy Tryz.prog 4 q = q false 1 := by simp only [goTy, agg4, siz4]
@[simp ↓] theorem sz4 {q : Nat → Prop} : goSz Tryz.prog 4 q = q 1 := by simp only [goSz, siz4]
theorem zer4 : zero? Tryz.prog 4 = some (Go.Value.bool false) := by unfold zero?; rw [show Tryz.prog.info? 4 = some Tryz.t4 from Tryz.type4]; rfl
@[simp ↓] theorem z4 {q : List Value → Prop} : goZ Tryz.prog 4 q = q [(Go.Value.bool false)] := by simp [goZ, zer4, Value.cells]
@[simp] theorem und4 : Tryz.prog.underlying 4 = some (Go.TypeDesc.bool) := opq Tryz.underlying4
@[simp ↓] theorem un4 {q : TypeDesc → Prop} : goUnd Tryz.prog 4 q = q (Go.TypeDesc.bool) := by simp only [goUnd, und4]
theorem agg5 : aggT Tryz.prog 5 = some false := by unfold aggT; rw [Tryz.underlying5]; rfl
@[simp] theorem siz5 : szT Tryz.prog 5 = some 1 := by unfold szT; rw [show Tryz.prog.info? 5 = some Tryz.t5 from Tryz.type5]; rfl
@[simp ↓] theorem ty5 {q : Bool → Nat → Prop} : goTy Tryz.prog 5 q = q false 1 := by simp only [goTy, agg5, siz5]
@[simp ↓] theorem sz5 {q : Nat → Prop} : goSz Tryz.prog 5 q = q 1 := by simp only [goSz, siz5]
theorem zer5 : zero? Tryz.prog 5 = some (Go.Value.int Go.IntKind.u8 0) := by unfold zero?; rw [show Tryz.prog.info? 5 = some Tryz.t5 from Tryz.type5]; rfl
@[simp ↓] theorem z5 {q : List Value → Prop} : goZ Tryz.prog 5 q = q [(Go.Value.int Go.IntKind.u8 0)] := by simp [goZ, zer5, Value.cells]
@[simp] theorem und5 : Tryz.prog.underlying 5 = some (Go.TypeDesc.int Go.IntKind.u8) := opq Tryz.underlying5
@[simp ↓] theorem un5 {q : TypeDesc → Prop} : goUnd Tryz.prog 5 q = q (Go.TypeDesc.int Go.IntKind.u8) := by simp only [goUnd, und5]
theorem agg6 : aggT Tryz.prog 6 = some false := by unfold aggT; rw [Tryz.underlying6]; rfl
@[simp] theorem siz6 : szT Tryz.prog 6 = some 1 := by unfold szT; rw [show Tryz.prog.info? 6 = some Tryz.t6 from Tryz.type6]; rfl
@[simp ↓] theorem ty6 {q : Bool → Nat → Prop} : goTy Tryz.prog 6 q = q false 1 := by simp only [goTy, agg6, siz6]
@[simp ↓] theorem sz6 {q : Nat → Prop} : goSz Tryz.prog 6 q = q 1 := by simp only [goSz, siz6]
theorem zer6 : zero? Tryz.prog 6 = some (Go.Value.int Go.IntKind.u8 0) := by unfold zero?; rw [show Tryz.prog.info? 6 = some Tryz.t6 from Tryz.type6]; rfl
@[simp ↓] theorem z6 {q : List Value → Prop} : goZ Tryz.prog 6 q = q [(Go.Value.int Go.IntKind.u8 0)] := by simp [goZ, zer6, Value.cells]
@[simp] theorem und6 : Tryz.prog.underlying 6 = some (Go.TypeDesc.int Go.IntKind.u8) := opq Tryz.underlying6
@[simp ↓] theorem un6 {q : TypeDesc → Prop} : goUnd Tryz.prog 6 q = q (Go.TypeDesc.int Go.IntKind.u8) := by simp only [goUnd, und6]
theorem agg7 : aggT Tryz.prog 7 = some true := by unfold aggT; rw [Tryz.underlying7]; rfl
@[simp] theorem siz7 : szT Tryz.prog 7 = some 4 := by unfold szT; rw [show Tryz.prog.info? 7 = some Tryz.t7 from Tryz.type7]; rfl
@[simp ↓] theorem ty7 {q : Bool → Nat → Prop} : goTy Tryz.prog 7 q = q true 4 := by simp only [goTy, agg7, siz7]
@[simp ↓] theorem sz7 {q : Nat → Prop} : goSz Tryz.prog 7 q = q 4 := by simp only [goSz, siz7]
theorem zer7 : zero? Tryz.prog 7 = some
  (Go.Value.agg
    #[Go.Value.int Go.IntKind.i64 0, Go.Value.int Go.IntKind.i64 0, Go.Value.bool false, Go.Value.int Go.IntKind.u8 0]) := by unfold zero?; rw [show Tryz.prog.info? 7 = some Tryz.t7 from Tryz.type7]; rfl
@[simp ↓] theorem z7 {q : List Value → Prop} : goZ Tryz.prog 7 q = q [Go.Value.int Go.IntKind.i64 0, Go.Value.int Go.IntKind.i64 0, Go.Value.bool false, Go.Value.int Go.IntKind.u8 0] := by simp [goZ, zer7, Value.cells]
@[simp] theorem und7 : Tryz.prog.underlying 7 = some (Go.TypeDesc.struct
  #[{ name := "x", type := 2, offset := 0, embedded := false, tag := "", pkgPath := "runtime", byteOffset := 0 },
    { name := "y", type := 3, offset := 1, embedded := false, tag := "", pkgPath := "runtime", byteOffset := 8 },
    { name := "signed", type := 4, offset := 2, embedded := false, tag := "", pkgPath := "runtime", byteOffset := 16 },
    { name := "code", type := 6, offset := 3, embedded := false, tag := "", pkgPath := "runtime", byteOffset := 17 }]) := opq Tryz.underlying7
@[simp ↓] theorem fld7_0 {q : Nat → TypeId → Prop} : goFld Tryz.prog 7 0 q = q 0 2 := by simp only [goFld, und7]; rfl
@[simp ↓] theorem fld7_1 {q : Nat → TypeId → Prop} : goFld Tryz.prog 7 1 q = q 1 3 := by simp only [goFld, und7]; rfl
@[simp ↓] theorem fld7_2 {q : Nat → TypeId → Prop} : goFld Tryz.prog 7 2 q = q 2 4 := by simp only [goFld, und7]; rfl
@[simp ↓] theorem fld7_3 {q : Nat → TypeId → Prop} : goFld Tryz.prog 7 3 q = q 3 6 := by simp only [goFld, und7]; rfl
@[simp ↓] theorem bld7 {q : List Value → List (Nat × Nat) → Prop} : goBld Tryz.prog 7 q = q [Go.Value.int Go.IntKind.i64 0, Go.Value.int Go.IntKind.i64 0, Go.Value.bool false, Go.Value.int Go.IntKind.u8 0] [(0, 1), (1, 1), (2, 1), (3, 1)] := by simp [goBld, und7, zer7, placesL, Value.cells]
theorem agg8 : aggT Tryz.prog 8 = some true := by unfold aggT; rw [Tryz.underlying8]; rfl
@[simp] theorem siz8 : szT Tryz.prog 8 = some 4 := by unfold szT; rw [show Tryz.prog.info? 8 = some Tryz.t8 from Tryz.type8]; rfl
@[simp ↓] theorem ty8 {q : Bool → Nat → Prop} : goTy Tryz.prog 8 q = q true 4 := by simp only [goTy, agg8, siz8]
@[simp ↓] theorem sz8 {q : Nat → Prop} : goSz Tryz.prog 8 q = q 4 := by simp only [goSz, siz8]
theorem zer8 : zero? Tryz.prog 8 = some
  (Go.Value.agg
    #[Go.Value.int Go.IntKind.i64 0, Go.Value.int Go.IntKind.i64 0, Go.Value.bool false, Go.Value.int Go.IntKind.u8 0]) := by unfold zero?; rw [show Tryz.prog.info? 8 = some Tryz.t8 from Tryz.type8]; rfl
@[simp ↓] theorem z8 {q : List Value → Prop} : goZ Tryz.prog 8 q = q [Go.Value.int Go.IntKind.i64 0, Go.Value.int Go.IntKind.i64 0, Go.Value.bool false, Go.Value.int Go.IntKind.u8 0] := by simp [goZ, zer8, Value.cells]
@[simp] theorem und8 : Tryz.prog.underlying 8 = some (Go.TypeDesc.struct
  #[{ name := "x", type := 2, offset := 0, embedded := false, tag := "", pkgPath := "runtime", byteOffset := 0 },
    { name := "y", type := 3, offset := 1, embedded := false, tag := "", pkgPath := "runtime", byteOffset := 8 },
    { name := "signed", type := 4, offset := 2, embedded := false, tag := "", pkgPath := "runtime", byteOffset := 16 },
    { name := "code", type := 6, offset := 3, embedded := false, tag := "", pkgPath := "runtime", byteOffset := 17 }]) := opq Tryz.underlying8
@[simp ↓] theorem fld8_0 {q : Nat → TypeId → Prop} : goFld Tryz.prog 8 0 q = q 0 2 := by simp only [goFld, und8]; rfl
@[simp ↓] theorem fld8_1 {q : Nat → TypeId → Prop} : goFld Tryz.prog 8 1 q = q 1 3 := by simp only [goFld, und8]; rfl
@[simp ↓] theorem fld8_2 {q : Nat → TypeId → Prop} : goFld Tryz.prog 8 2 q = q 2 4 := by simp only [goFld, und8]; rfl
@[simp ↓] theorem fld8_3 {q : Nat → TypeId → Prop} : goFld Tryz.prog 8 3 q = q 3 6 := by simp only [goFld, und8]; rfl
@[simp ↓] theorem bld8 {q : List Value → List (Nat × Nat) → Prop} : goBld Tryz.prog 8 q = q [Go.Value.int Go.IntKind.i64 0, Go.Value.int Go.IntKind.i64 0, Go.Value.bool false, Go.Value.int Go.IntKind.u8 0] [(0, 1), (1, 1), (2, 1), (3, 1)] := by simp [goBld, und8, zer8, placesL, Value.cells]
theorem agg9 : aggT Tryz.prog 9 = some false := by unfold aggT; rw [Tryz.underlying9]; rfl
@[simp] theorem siz9 : szT Tryz.prog 9 = some 1 := by unfold szT; rw [show Tryz.prog.info? 9 = some Tryz.t9 from Tryz.type9]; rfl
@[simp ↓] theorem ty9 {q : Bool → Nat → Prop} : goTy Tryz.prog 9 q = q false 1 := by simp only [goTy, agg9, siz9]
@[simp ↓] theorem sz9 {q : Nat → Prop} : goSz Tryz.prog 9 q = q 1 := by simp only [goSz, siz9]
theorem zer9 : zero? Tryz.prog 9 = some (Go.Value.string { data := #[] }) := by unfold zero?; rw [show Tryz.prog.info? 9 = some Tryz.t9 from Tryz.type9]; rfl
@[simp ↓] theorem z9 {q : List Value → Prop} : goZ Tryz.prog 9 q = q [(Go.Value.string { data := #[] })] := by simp [goZ, zer9, Value.cells]
@[simp] theorem und9 : Tryz.prog.underlying 9 = some (Go.TypeDesc.string) := opq Tryz.underlying9
@[simp ↓] theorem un9 {q : TypeDesc → Prop} : goUnd Tryz.prog 9 q = q (Go.TypeDesc.string) := by simp only [goUnd, und9]
theorem agg10 : aggT Tryz.prog 10 = some false := by unfold aggT; rw [Tryz.underlying10]; rfl
@[simp] theorem siz10 : szT Tryz.prog 10 = some 1 := by unfold szT; rw [show Tryz.prog.info? 10 = some Tryz.t10 from Tryz.type10]; rfl
@[simp ↓] theorem ty10 {q : Bool → Nat → Prop} : goTy Tryz.prog 10 q = q false 1 := by simp only [goTy, agg10, siz10]
@[simp ↓] theorem sz10 {q : Nat → Prop} : goSz Tryz.prog 10 q = q 1 := by simp only [goSz, siz10]
theorem zer10 : zero? Tryz.prog 10 = some (Go.Value.string { data := #[] }) := by unfold zero?; rw [show Tryz.prog.info? 10 = some Tryz.t10 from Tryz.type10]; rfl
@[simp ↓] theorem z10 {q : List Value → Prop} : goZ Tryz.prog 10 q = q [(Go.Value.string { data := #[] })] := by simp [goZ, zer10, Value.cells]
@[simp] theorem und10 : Tryz.prog.underlying 10 = some (Go.TypeDesc.string) := opq Tryz.underlying10
@[simp ↓] theorem un10 {q : TypeDesc → Prop} : goUnd Tryz.prog 10 q = q (Go.TypeDesc.string) := by simp only [goUnd, und10]
theorem agg11 : aggT Tryz.prog 11 = some false := by unfold aggT; rw [Tryz.underlying11]; rfl
@[simp] theorem siz11 : szT Tryz.prog 11 = some 1 := by unfold szT; rw [show Tryz.prog.info? 11 = some Tryz.t11 from Tryz.type11]; rfl
@[simp ↓] theorem ty11 {q : Bool → Nat → Prop} : goTy Tryz.prog 11 q = q false 1 := by simp only [goTy, agg11, siz11]
@[simp ↓] theorem sz11 {q : Nat → Prop} : goSz Tryz.prog 11 q = q 1 := by simp only [goSz, siz11]
theorem zer11 : zero? Tryz.prog 11 = some (Go.Value.string { data := #[] }) := by unfold zero?; rw [show Tryz.prog.info? 11 = some Tryz.t11 from Tryz.type11]; rfl
@[simp ↓] theorem z11 {q : List Value → Prop} : goZ Tryz.prog 11 q = q [(Go.Value.string { data := #[] })] := by simp [goZ, zer11, Value.cells]
@[simp] theorem und11 : Tryz.prog.underlying 11 = some (Go.TypeDesc.string) := opq Tryz.underlying11
@[simp ↓] theorem un11 {q : TypeDesc → Prop} : goUnd Tryz.prog 11 q = q (Go.TypeDesc.string) := by simp only [goUnd, und11]
theorem agg12 : aggT Tryz.prog 12 = some false := by unfold aggT; rw [Tryz.underlying12]; rfl
@[simp] theorem siz12 : szT Tryz.prog 12 = some 1 := by unfold szT; rw [show Tryz.prog.info? 12 = some Tryz.t12 from Tryz.type12]; rfl
@[simp ↓] theorem ty12 {q : Bool → Nat → Prop} : goTy Tryz.prog 12 q = q false 1 := by simp only [goTy, agg12, siz12]
@[simp ↓] theorem sz12 {q : Nat → Prop} : goSz Tryz.prog 12 q = q 1 := by simp only [goSz, siz12]
theorem zer12 : zero? Tryz.prog 12 = some (Go.Value.int Go.IntKind.u64 0) := by unfold zero?; rw [show Tryz.prog.info? 12 = some Tryz.t12 from Tryz.type12]; rfl
@[simp ↓] theorem z12 {q : List Value → Prop} : goZ Tryz.prog 12 q = q [(Go.Value.int Go.IntKind.u64 0)] := by simp [goZ, zer12, Value.cells]
@[simp] theorem und12 : Tryz.prog.underlying 12 = some (Go.TypeDesc.int Go.IntKind.u64) := opq Tryz.underlying12
@[simp ↓] theorem un12 {q : TypeDesc → Prop} : goUnd Tryz.prog 12 q = q (Go.TypeDesc.int Go.IntKind.u64) := by simp only [goUnd, und12]
theorem agg13 : aggT Tryz.prog 13 = some true := by unfold aggT; rw [Tryz.underlying13]; rfl
@[simp] theorem siz13 : szT Tryz.prog 13 = some 2 := by unfold szT; rw [show Tryz.prog.info? 13 = some Tryz.t13 from Tryz.type13]; rfl
@[simp ↓] theorem ty13 {q : Bool → Nat → Prop} : goTy Tryz.prog 13 q = q true 2 := by simp only [goTy, agg13, siz13]
@[simp ↓] theorem sz13 {q : Nat → Prop} : goSz Tryz.prog 13 q = q 2 := by simp only [goSz, siz13]
theorem zer13 : zero? Tryz.prog 13 = some (Go.Value.agg #[Go.Value.string { data := #[] }, Go.Value.int Go.IntKind.u64 0]) := by unfold zero?; rw [show Tryz.prog.info? 13 = some Tryz.t13 from Tryz.type13]; rfl
@[simp ↓] theorem z13 {q : List Value → Prop} : goZ Tryz.prog 13 q = q [Go.Value.string { data := #[] }, Go.Value.int Go.IntKind.u64 0] := by simp [goZ, zer13, Value.cells]
@[simp] theorem und13 : Tryz.prog.underlying 13 = some (Go.TypeDesc.struct
  #[{ name := "msg", type := 9, offset := 0, embedded := false, tag := "", pkgPath := "runtime", byteOffset := 0 },
    { name := "addr", type := 12, offset := 1, embedded := false, tag := "", pkgPath := "runtime", byteOffset := 16 }]) := opq Tryz.underlying13
@[simp ↓] theorem fld13_0 {q : Nat → TypeId → Prop} : goFld Tryz.prog 13 0 q = q 0 9 := by simp only [goFld, und13]; rfl
@[simp ↓] theorem fld13_1 {q : Nat → TypeId → Prop} : goFld Tryz.prog 13 1 q = q 1 12 := by simp only [goFld, und13]; rfl
@[simp ↓] theorem bld13 {q : List Value → List (Nat × Nat) → Prop} : goBld Tryz.prog 13 q = q [Go.Value.string { data := #[] }, Go.Value.int Go.IntKind.u64 0] [(0, 1), (1, 1)] := by simp [goBld, und13, zer13, placesL, Value.cells]
theorem agg14 : aggT Tryz.prog 14 = some true := by unfold aggT; rw [Tryz.underlying14]; rfl
@[simp] theorem siz14 : szT Tryz.prog 14 = some 2 := by unfold szT; rw [show Tryz.prog.info? 14 = some Tryz.t14 from Tryz.type14]; rfl
@[simp ↓] theorem ty14 {q : Bool → Nat → Prop} : goTy Tryz.prog 14 q = q true 2 := by simp only [goTy, agg14, siz14]
@[simp ↓] theorem sz14 {q : Nat → Prop} : goSz Tryz.prog 14 q = q 2 := by simp only [goSz, siz14]
theorem zer14 : zero? Tryz.prog 14 = some (Go.Value.agg #[Go.Value.string { data := #[] }, Go.Value.int Go.IntKind.u64 0]) := by unfold zero?; rw [show Tryz.prog.info? 14 = some Tryz.t14 from Tryz.type14]; rfl
@[simp ↓] theorem z14 {q : List Value → Prop} : goZ Tryz.prog 14 q = q [Go.Value.string { data := #[] }, Go.Value.int Go.IntKind.u64 0] := by simp [goZ, zer14, Value.cells]
@[simp] theorem und14 : Tryz.prog.underlying 14 = some (Go.TypeDesc.struct
  #[{ name := "msg", type := 9, offset := 0, embedded := false, tag := "", pkgPath := "runtime", byteOffset := 0 },
    { name := "addr", type := 12, offset := 1, embedded := false, tag := "", pkgPath := "runtime", byteOffset := 16 }]) := opq Tryz.underlying14
@[simp ↓] theorem fld14_0 {q : Nat → TypeId → Prop} : goFld Tryz.prog 14 0 q = q 0 9 := by simp only [goFld, und14]; rfl
@[simp ↓] theorem fld14_1 {q : Nat → TypeId → Prop} : goFld Tryz.prog 14 1 q = q 1 12 := by simp only [goFld, und14]; rfl
@[simp ↓] theorem bld14 {q : List Value → List (Nat × Nat) → Prop} : goBld Tryz.prog 14 q = q [Go.Value.string { data := #[] }, Go.Value.int Go.IntKind.u64 0] [(0, 1), (1, 1)] := by simp [goBld, und14, zer14, placesL, Value.cells]
theorem agg15 : aggT Tryz.prog 15 = some false := by unfold aggT; rw [Tryz.underlying15]; rfl
@[simp] theorem siz15 : szT Tryz.prog 15 = some 1 := by unfold szT; rw [show Tryz.prog.info? 15 = some Tryz.t15 from Tryz.type15]; rfl
@[simp ↓] theorem ty15 {q : Bool → Nat → Prop} : goTy Tryz.prog 15 q = q false 1 := by simp only [goTy, agg15, siz15]
@[simp ↓] theorem sz15 {q : Nat → Prop} : goSz Tryz.prog 15 q = q 1 := by simp only [goSz, siz15]
theorem zer15 : zero? Tryz.prog 15 = some (Go.Value.pointer none) := by unfold zero?; rw [show Tryz.prog.info? 15 = some Tryz.t15 from Tryz.type15]; rfl
@[simp ↓] theorem z15 {q : List Value → Prop} : goZ Tryz.prog 15 q = q [(Go.Value.pointer none)] := by simp [goZ, zer15, Value.cells]
@[simp] theorem und15 : Tryz.prog.underlying 15 = some (Go.TypeDesc.pointer 341) := opq Tryz.underlying15
@[simp ↓] theorem un15 {q : TypeDesc → Prop} : goUnd Tryz.prog 15 q = q (Go.TypeDesc.pointer 341) := by simp only [goUnd, und15]
theorem agg16 : aggT Tryz.prog 16 = some false := by unfold aggT; rw [Tryz.underlying16]; rfl
@[simp] theorem siz16 : szT Tryz.prog 16 = some 1 := by unfold szT; rw [show Tryz.prog.info? 16 = some Tryz.t16 from Tryz.type16]; rfl
@[simp ↓] theorem ty16 {q : Bool → Nat → Prop} : goTy Tryz.prog 16 q = q false 1 := by simp only [goTy, agg16, siz16]
@[simp ↓] theorem sz16 {q : Nat → Prop} : goSz Tryz.prog 16 q = q 1 := by simp only [goSz, siz16]
theorem zer16 : zero? Tryz.prog 16 = some (Go.Value.pointer none) := by unfold zero?; rw [show Tryz.prog.info? 16 = some Tryz.t16 from Tryz.type16]; rfl
@[simp ↓] theorem z16 {q : List Value → Prop} : goZ Tryz.prog 16 q = q [(Go.Value.pointer none)] := by simp [goZ, zer16, Value.cells]
@[simp] theorem und16 : Tryz.prog.underlying 16 = some (Go.TypeDesc.pointer 344) := opq Tryz.underlying16
@[simp ↓] theorem un16 {q : TypeDesc → Prop} : goUnd Tryz.prog 16 q = q (Go.TypeDesc.pointer 344) := by simp only [goUnd, und16]
theorem agg17 : aggT Tryz.prog 17 = some false := by unfold aggT; rw [Tryz.underlying17]; rfl
@[simp] theorem siz17 : szT Tryz.prog 17 = some 1 := by unfold szT; rw [show Tryz.prog.info? 17 = some Tryz.t17 from Tryz.type17]; rfl
@[simp ↓] theorem ty17 {q : Bool → Nat → Prop} : goTy Tryz.prog 17 q = q false 1 := by simp only [goTy, agg17, siz17]
@[simp ↓] theorem sz17 {q : Nat → Prop} : goSz Tryz.prog 17 q = q 1 := by simp only [goSz, siz17]
theorem zer17 : zero? Tryz.prog 17 = some (Go.Value.pointer none) := by unfold zero?; rw [show Tryz.prog.info? 17 = some Tryz.t17 from Tryz.type17]; rfl
@[simp ↓] theorem z17 {q : List Value → Prop} : goZ Tryz.prog 17 q = q [(Go.Value.pointer none)] := by simp [goZ, zer17, Value.cells]
@[simp] theorem und17 : Tryz.prog.underlying 17 = some (Go.TypeDesc.pointer 351) := opq Tryz.underlying17
@[simp ↓] theorem un17 {q : TypeDesc → Prop} : goUnd Tryz.prog 17 q = q (Go.TypeDesc.pointer 351) := by simp only [goUnd, und17]
theorem agg18 : aggT Tryz.prog 18 = some true := by unfold aggT; rw [Tryz.underlying18]; rfl
@[simp] theorem siz18 : szT Tryz.prog 18 = some 1 := by unfold szT; rw [show Tryz.prog.info? 18 = some Tryz.t18 from Tryz.type18]; rfl
@[simp ↓] theorem ty18 {q : Bool → Nat → Prop} : goTy Tryz.prog 18 q = q true 1 := by simp only [goTy, agg18, siz18]
@[simp ↓] theorem sz18 {q : Nat → Prop} : goSz Tryz.prog 18 q = q 1 := by simp only [goSz, siz18]
theorem zer18 : zero? Tryz.prog 18 = some (Go.Value.agg #[Go.Value.pointer none]) := by unfold zero?; rw [show Tryz.prog.info? 18 = some Tryz.t18 from Tryz.type18]; rfl
@[simp ↓] theorem z18 {q : List Value → Prop} : goZ Tryz.prog 18 q = q [Go.Value.pointer none] := by simp [goZ, zer18, Value.cells]
@[simp] theorem und18 : Tryz.prog.underlying 18 = some (Go.TypeDesc.struct
  #[{ name := "typ", type := 17, offset := 0, embedded := false, tag := "", pkgPath := "internal/runtime/maps",
      byteOffset := 0 }]) := opq Tryz.underlying18
@[simp ↓] theorem fld18_0 {q : Nat → TypeId → Prop} : goFld Tryz.prog 18 0 q = q 0 17 := by simp only [goFld, und18]; rfl
@[simp ↓] theorem bld18 {q : List Value → List (Nat × Nat) → Prop} : goBld Tryz.prog 18 q = q [Go.Value.pointer none] [(0, 1)] := by simp [goBld, und18, zer18, placesL, Value.cells]
theorem agg19 : aggT Tryz.prog 19 = some true := by unfold aggT; rw [Tryz.underlying19]; rfl
@[simp] theorem siz19 : szT Tryz.prog 19 = some 1 := by unfold szT; rw [show Tryz.prog.info? 19 = some Tryz.t19 from Tryz.type19]; rfl
@[simp ↓] theorem ty19 {q : Bool → Nat → Prop} : goTy Tryz.prog 19 q = q true 1 := by simp only [goTy, agg19, siz19]
@[simp ↓] theorem sz19 {q : Nat → Prop} : goSz Tryz.prog 19 q = q 1 := by simp only [goSz, siz19]
theorem zer19 : zero? Tryz.prog 19 = some (Go.Value.agg #[Go.Value.pointer none]) := by unfold zero?; rw [show Tryz.prog.info? 19 = some Tryz.t19 from Tryz.type19]; rfl
@[simp ↓] theorem z19 {q : List Value → Prop} : goZ Tryz.prog 19 q = q [Go.Value.pointer none] := by simp [goZ, zer19, Value.cells]
@[simp] theorem und19 : Tryz.prog.underlying 19 = some (Go.TypeDesc.struct
  #[{ name := "typ", type := 17, offset := 0, embedded := false, tag := "", pkgPath := "internal/runtime/maps",
      byteOffset := 0 }]) := opq Tryz.underlying19
@[simp ↓] theorem fld19_0 {q : Nat → TypeId → Prop} : goFld Tryz.prog 19 0 q = q 0 17 := by simp only [goFld, und19]; rfl
@[simp ↓] theorem bld19 {q : List Value → List (Nat × Nat) → Prop} : goBld Tryz.prog 19 q = q [Go.Value.pointer none] [(0, 1)] := by simp [goBld, und19, zer19, placesL, Value.cells]
theorem agg20 : aggT Tryz.prog 20 = some false := by unfold aggT; rw [Tryz.underlying20]; rfl
@[simp] theorem siz20 : szT Tryz.prog 20 = some 1 := by unfold szT; rw [show Tryz.prog.info? 20 = some Tryz.t20 from Tryz.type20]; rfl
@[simp ↓] theorem ty20 {q : Bool → Nat → Prop} : goTy Tryz.prog 20 q = q false 1 := by simp only [goTy, agg20, siz20]
@[simp ↓] theorem sz20 {q : Nat → Prop} : goSz Tryz.prog 20 q = q 1 := by simp only [goSz, siz20]
theorem zer20 : zero? Tryz.prog 20 = some Go.Value.nilIface := by unfold zero?; rw [show Tryz.prog.info? 20 = some Tryz.t20 from Tryz.type20]; rfl
@[simp ↓] theorem z20 {q : List Value → Prop} : goZ Tryz.prog 20 q = q [Go.Value.nilIface] := by simp [goZ, zer20, Value.cells]
theorem agg21 : aggT Tryz.prog 21 = some false := by unfold aggT; rw [Tryz.underlying21]; rfl
@[simp] theorem siz21 : szT Tryz.prog 21 = some 1 := by unfold szT; rw [show Tryz.prog.info? 21 = some Tryz.t21 from Tryz.type21]; rfl
@[simp ↓] theorem ty21 {q : Bool → Nat → Prop} : goTy Tryz.prog 21 q = q false 1 := by simp only [goTy, agg21, siz21]
@[simp ↓] theorem sz21 {q : Nat → Prop} : goSz Tryz.prog 21 q = q 1 := by simp only [goSz, siz21]
theorem zer21 : zero? Tryz.prog 21 = some (Go.Value.int Go.IntKind.i32 0) := by unfold zero?; rw [show Tryz.prog.info? 21 = some Tryz.t21 from Tryz.type21]; rfl
@[simp ↓] theorem z21 {q : List Value → Prop} : goZ Tryz.prog 21 q = q [(Go.Value.int Go.IntKind.i32 0)] := by simp [goZ, zer21, Value.cells]
@[simp] theorem und21 : Tryz.prog.underlying 21 = some (Go.TypeDesc.int Go.IntKind.i32) := opq Tryz.underlying21
@[simp ↓] theorem un21 {q : TypeDesc → Prop} : goUnd Tryz.prog 21 q = q (Go.TypeDesc.int Go.IntKind.i32) := by simp only [goUnd, und21]
theorem agg22 : aggT Tryz.prog 22 = some false := by unfold aggT; rw [Tryz.underlying22]; rfl
@[simp] theorem siz22 : szT Tryz.prog 22 = some 1 := by unfold szT; rw [show Tryz.prog.info? 22 = some Tryz.t22 from Tryz.type22]; rfl
@[simp ↓] theorem ty22 {q : Bool → Nat → Prop} : goTy Tryz.prog 22 q = q false 1 := by simp only [goTy, agg22, siz22]
@[simp ↓] theorem sz22 {q : Nat → Prop} : goSz Tryz.prog 22 q = q 1 := by simp only [goSz, siz22]
theorem zer22 : zero? Tryz.prog 22 = some (Go.Value.slice none 0 0) := by unfold zero?; rw [show Tryz.prog.info? 22 = some Tryz.t22 from Tryz.type22]; rfl
@[simp ↓] theorem z22 {q : List Value → Prop} : goZ Tryz.prog 22 q = q [(Go.Value.slice none 0 0)] := by simp [goZ, zer22, Value.cells]
@[simp] theorem und22 : Tryz.prog.underlying 22 = some (Go.TypeDesc.slice 53) := opq Tryz.underlying22
@[simp ↓] theorem un22 {q : TypeDesc → Prop} : goUnd Tryz.prog 22 q = q (Go.TypeDesc.slice 53) := by simp only [goUnd, und22]
theorem slt22 : SlT Tryz.prog 22 53 1 24 := ⟨Tryz.underlying22, ⟨Tryz.t53, _, Tryz.type53, rfl, rfl, rfl, by simp, rfl⟩, by decide⟩
@[simp ↓] theorem sl22 {q : TypeId → Nat → List Value → Prop} : goSl Tryz.prog 22 q = q 53 1 [Go.Value.slice none 0 0] := by simp [goSl, und22, show zero? Tryz.prog 53 = some (Go.Value.agg #[Go.Value.slice none 0 0]) from by unfold zero?; rw [show Tryz.prog.info? 53 = some Tryz.t53 from Tryz.type53]; rfl, show szT Tryz.prog 53 = some 1 from by unfold szT; rw [show Tryz.prog.info? 53 = some Tryz.t53 from Tryz.type53]; rfl, Value.cells]
theorem agg23 : aggT Tryz.prog 23 = some false := by unfold aggT; rw [Tryz.underlying23]; rfl
@[simp] theorem siz23 : szT Tryz.prog 23 = some 1 := by unfold szT; rw [show Tryz.prog.info? 23 = some Tryz.t23 from Tryz.type23]; rfl
@[simp ↓] theorem ty23 {q : Bool → Nat → Prop} : goTy Tryz.prog 23 q = q false 1 := by simp only [goTy, agg23, siz23]
@[simp ↓] theorem sz23 {q : Nat → Prop} : goSz Tryz.prog 23 q = q 1 := by simp only [goSz, siz23]
theorem zer23 : zero? Tryz.prog 23 = some Go.Value.nilFunc := by unfold zero?; rw [show Tryz.prog.info? 23 = some Tryz.t23 from Tryz.type23]; rfl
@[simp ↓] theorem z23 {q : List Value → Prop} : goZ Tryz.prog 23 q = q [Go.Value.nilFunc] := by simp [goZ, zer23, Value.cells]
theorem agg24 : aggT Tryz.prog 24 = some false := by unfold aggT; rw [Tryz.underlying24]; rfl
@[simp] theorem siz24 : szT Tryz.prog 24 = some 1 := by unfold szT; rw [show Tryz.prog.info? 24 = some Tryz.t24 from Tryz.type24]; rfl
@[simp ↓] theorem ty24 {q : Bool → Nat → Prop} : goTy Tryz.prog 24 q = q false 1 := by simp only [goTy, agg24, siz24]
@[simp ↓] theorem sz24 {q : Nat → Prop} : goSz Tryz.prog 24 q = q 1 := by simp only [goSz, siz24]
theorem zer24 : zero? Tryz.prog 24 = some (Go.Value.slice none 0 0) := by unfold zero?; rw [show Tryz.prog.info? 24 = some Tryz.t24 from Tryz.type24]; rfl
@[simp ↓] theorem z24 {q : List Value → Prop} : goZ Tryz.prog 24 q = q [(Go.Value.slice none 0 0)] := by simp [goZ, zer24, Value.cells]
@[simp] theorem und24 : Tryz.prog.underlying 24 = some (Go.TypeDesc.slice 9) := opq Tryz.underlying24
@[simp ↓] theorem un24 {q : TypeDesc → Prop} : goUnd Tryz.prog 24 q = q (Go.TypeDesc.slice 9) := by simp only [goUnd, und24]
theorem slt24 : SlT Tryz.prog 24 9 1 16 := ⟨Tryz.underlying24, ⟨Tryz.t9, _, Tryz.type9, rfl, rfl, rfl, by simp, rfl⟩, by decide⟩
@[simp ↓] theorem sl24 {q : TypeId → Nat → List Value → Prop} : goSl Tryz.prog 24 q = q 9 1 [(Go.Value.string { data := #[] })] := by simp [goSl, und24, show zero? Tryz.prog 9 = some (Go.Value.string { data := #[] }) from by unfold zero?; rw [show Tryz.prog.info? 9 = some Tryz.t9 from Tryz.type9]; rfl, show szT Tryz.prog 9 = some 1 from by unfold szT; rw [show Tryz.prog.info? 9 = some Tryz.t9 from Tryz.type9]; rfl, Value.cells]
theorem agg25 : aggT Tryz.prog 25 = some false := by unfold aggT; rw [Tryz.underlying25]; rfl
@[simp] theorem siz25 : szT Tryz.prog 25 = some 1 := by unfold szT; rw [show Tryz.prog.info? 25 = some Tryz.t25 from Tryz.type25]; rfl
@[simp ↓] theorem ty25 {q : Bool → Nat → Prop} : goTy Tryz.prog 25 q = q false 1 := by simp only [goTy, agg25, siz25]
@[simp ↓] theorem sz25 {q : Nat → Prop} : goSz Tryz.prog 25 q = q 1 := by simp only [goSz, siz25]
theorem zer25 : zero? Tryz.prog 25 = some Go.Value.nilFunc := by unfold zero?; rw [show Tryz.prog.info? 25 = some Tryz.t25 from Tryz.type25]; rfl
@[simp ↓] theorem z25 {q : List Value → Prop} : goZ Tryz.prog 25 q = q [Go.Value.nilFunc] := by simp [goZ, zer25, Value.cells]
theorem agg26 : aggT Tryz.prog 26 = some false := by unfold aggT; rw [Tryz.underlying26]; rfl
@[simp] theorem siz26 : szT Tryz.prog 26 = some 1 := by unfold szT; rw [show Tryz.prog.info? 26 = some Tryz.t26 from Tryz.type26]; rfl
@[simp ↓] theorem ty26 {q : Bool → Nat → Prop} : goTy Tryz.prog 26 q = q false 1 := by simp only [goTy, agg26, siz26]
@[simp ↓] theorem sz26 {q : Nat → Prop} : goSz Tryz.prog 26 q = q 1 := by simp only [goSz, siz26]
theorem zer26 : zero? Tryz.prog 26 = some (Go.Value.slice none 0 0) := by unfold zero?; rw [show Tryz.prog.info? 26 = some Tryz.t26 from Tryz.type26]; rfl
@[simp ↓] theorem z26 {q : List Value → Prop} : goZ Tryz.prog 26 q = q [(Go.Value.slice none 0 0)] := by simp [goZ, zer26, Value.cells]
@[simp] theorem und26 : Tryz.prog.underlying 26 = some (Go.TypeDesc.slice 58) := opq Tryz.underlying26
@[simp ↓] theorem un26 {q : TypeDesc → Prop} : goUnd Tryz.prog 26 q = q (Go.TypeDesc.slice 58) := by simp only [goUnd, und26]
theorem slt26 : SlT Tryz.prog 26 58 1 24 := ⟨Tryz.underlying26, ⟨Tryz.t58, _, Tryz.type58, rfl, rfl, rfl, by simp, rfl⟩, by decide⟩
@[simp ↓] theorem sl26 {q : TypeId → Nat → List Value → Prop} : goSl Tryz.prog 26 q = q 58 1 [Go.Value.slice none 0 0] := by simp [goSl, und26, show zero? Tryz.prog 58 = some (Go.Value.agg #[Go.Value.slice none 0 0]) from by unfold zero?; rw [show Tryz.prog.info? 58 = some Tryz.t58 from Tryz.type58]; rfl, show szT Tryz.prog 58 = some 1 from by unfold szT; rw [show Tryz.prog.info? 58 = some Tryz.t58 from Tryz.type58]; rfl, Value.cells]
theorem agg27 : aggT Tryz.prog 27 = some false := by unfold aggT; rw [Tryz.underlying27]; rfl
@[simp] theorem siz27 : szT Tryz.prog 27 = some 1 := by unfold szT; rw [show Tryz.prog.info? 27 = some Tryz.t27 from Tryz.type27]; rfl
@[simp ↓] theorem ty27 {q : Bool → Nat → Prop} : goTy Tryz.prog 27 q = q false 1 := by simp only [goTy, agg27, siz27]
@[simp ↓] theorem sz27 {q : Nat → Prop} : goSz Tryz.prog 27 q = q 1 := by simp only [goSz, siz27]
theorem zer27 : zero? Tryz.prog 27 = some Go.Value.nilFunc := by unfold zero?; rw [show Tryz.prog.info? 27 = some Tryz.t27 from Tryz.type27]; rfl
@[simp ↓] theorem z27 {q : List Value → Prop} : goZ Tryz.prog 27 q = q [Go.Value.nilFunc] := by simp [goZ, zer27, Value.cells]
theorem agg28 : aggT Tryz.prog 28 = some false := by unfold aggT; rw [Tryz.underlying28]; rfl
@[simp] theorem siz28 : szT Tryz.prog 28 = some 1 := by unfold szT; rw [show Tryz.prog.info? 28 = some Tryz.t28 from Tryz.type28]; rfl
@[simp ↓] theorem ty28 {q : Bool → Nat → Prop} : goTy Tryz.prog 28 q = q false 1 := by simp only [goTy, agg28, siz28]
@[simp ↓] theorem sz28 {q : Nat → Prop} : goSz Tryz.prog 28 q = q 1 := by simp only [goSz, siz28]
theorem zer28 : zero? Tryz.prog 28 = some Go.Value.nilFunc := by unfold zero?; rw [show Tryz.prog.info? 28 = some Tryz.t28 from Tryz.type28]; rfl
@[simp ↓] theorem z28 {q : List Value → Prop} : goZ Tryz.prog 28 q = q [Go.Value.nilFunc] := by simp [goZ, zer28, Value.cells]
theorem agg29 : aggT Tryz.prog 29 = some false := by unfold aggT; rw [Tryz.underlying29]; rfl
@[simp] theorem siz29 : szT Tryz.prog 29 = some 1 := by unfold szT; rw [show Tryz.prog.info? 29 = some Tryz.t29 from Tryz.type29]; rfl
@[simp ↓] theorem ty29 {q : Bool → Nat → Prop} : goTy Tryz.prog 29 q = q false 1 := by simp only [goTy, agg29, siz29]
@[simp ↓] theorem sz29 {q : Nat → Prop} : goSz Tryz.prog 29 q = q 1 := by simp only [goSz, siz29]
theorem zer29 : zero? Tryz.prog 29 = some Go.Value.nilFunc := by unfold zero?; rw [show Tryz.prog.info? 29 = some Tryz.t29 from Tryz.type29]; rfl
@[simp ↓] theorem z29 {q : List Value → Prop} : goZ Tryz.prog 29 q = q [Go.Value.nilFunc] := by simp [goZ, zer29, Value.cells]
theorem agg31 : aggT Tryz.prog 31 = some false := by unfold aggT; rw [Tryz.underlying31]; rfl
@[simp] theorem siz31 : szT Tryz.prog 31 = some 1 := by unfold szT; rw [show Tryz.prog.info? 31 = some Tryz.t31 from Tryz.type31]; rfl
@[simp ↓] theorem ty31 {q : Bool → Nat → Prop} : goTy Tryz.prog 31 q = q false 1 := by simp only [goTy, agg31, siz31]
@[simp ↓] theorem sz31 {q : Nat → Prop} : goSz Tryz.prog 31 q = q 1 := by simp only [goSz, siz31]
theorem zer31 : zero? Tryz.prog 31 = some Go.Value.nilFunc := by unfold zero?; rw [show Tryz.prog.info? 31 = some Tryz.t31 from Tryz.type31]; rfl
@[simp ↓] theorem z31 {q : List Value → Prop} : goZ Tryz.prog 31 q = q [Go.Value.nilFunc] := by simp [goZ, zer31, Value.cells]
theorem agg32 : aggT Tryz.prog 32 = some false := by unfold aggT; rw [Tryz.underlying32]; rfl
@[simp] theorem siz32 : szT Tryz.prog 32 = some 1 := by unfold szT; rw [show Tryz.prog.info? 32 = some Tryz.t32 from Tryz.type32]; rfl
@[simp ↓] theorem ty32 {q : Bool → Nat → Prop} : goTy Tryz.prog 32 q = q false 1 := by simp only [goTy, agg32, siz32]
@[simp ↓] theorem sz32 {q : Nat → Prop} : goSz Tryz.prog 32 q = q 1 := by simp only [goSz, siz32]
theorem zer32 : zero? Tryz.prog 32 = some Go.Value.nilFunc := by unfold zero?; rw [show Tryz.prog.info? 32 = some Tryz.t32 from Tryz.type32]; rfl
@[simp ↓] theorem z32 {q : List Value → Prop} : goZ Tryz.prog 32 q = q [Go.Value.nilFunc] := by simp [goZ, zer32, Value.cells]
theorem agg33 : aggT Tryz.prog 33 = some false := by unfold aggT; rw [Tryz.underlying33]; rfl
@[simp] theorem siz33 : szT Tryz.prog 33 = some 1 := by unfold szT; rw [show Tryz.prog.info? 33 = some Tryz.t33 from Tryz.type33]; rfl
@[simp ↓] theorem ty33 {q : Bool → Nat → Prop} : goTy Tryz.prog 33 q = q false 1 := by simp only [goTy, agg33, siz33]
@[simp ↓] theorem sz33 {q : Nat → Prop} : goSz Tryz.prog 33 q = q 1 := by simp only [goSz, siz33]
theorem zer33 : zero? Tryz.prog 33 = some (Go.Value.slice none 0 0) := by unfold zero?; rw [show Tryz.prog.info? 33 = some Tryz.t33 from Tryz.type33]; rfl
@[simp ↓] theorem z33 {q : List Value → Prop} : goZ Tryz.prog 33 q = q [(Go.Value.slice none 0 0)] := by simp [goZ, zer33, Value.cells]
@[simp] theorem und33 : Tryz.prog.underlying 33 = some (Go.TypeDesc.slice 155) := opq Tryz.underlying33
@[simp ↓] theorem un33 {q : TypeDesc → Prop} : goUnd Tryz.prog 33 q = q (Go.TypeDesc.slice 155) := by simp only [goUnd, und33]
theorem slt33 : SlT Tryz.prog 33 155 2 32 := ⟨Tryz.underlying33, ⟨Tryz.t155, _, Tryz.type155, rfl, rfl, rfl, by simp, rfl⟩, by decide⟩
@[simp ↓] theorem sl33 {q : TypeId → Nat → List Value → Prop} : goSl Tryz.prog 33 q = q 155 2 [Go.Value.string { data := #[] }, Go.Value.string { data := #[] }] := by simp [goSl, und33, show zero? Tryz.prog 155 = some (Go.Value.agg #[Go.Value.string { data := #[] }, Go.Value.string { data := #[] }]) from by unfold zero?; rw [show Tryz.prog.info? 155 = some Tryz.t155 from Tryz.type155]; rfl, show szT Tryz.prog 155 = some 2 from by unfold szT; rw [show Tryz.prog.info? 155 = some Tryz.t155 from Tryz.type155]; rfl, Value.cells]
theorem agg34 : aggT Tryz.prog 34 = some false := by unfold aggT; rw [Tryz.underlying34]; rfl
@[simp] theorem siz34 : szT Tryz.prog 34 = some 1 := by unfold szT; rw [show Tryz.prog.info? 34 = some Tryz.t34 from Tryz.type34]; rfl
@[simp ↓] theorem ty34 {q : Bool → Nat → Prop} : goTy Tryz.prog 34 q = q false 1 := by simp only [goTy, agg34, siz34]
@[simp ↓] theorem sz34 {q : Nat → Prop} : goSz Tryz.prog 34 q = q 1 := by simp only [goSz, siz34]
theorem zer34 : zero? Tryz.prog 34 = some (Go.Value.slice none 0 0) := by unfold zero?; rw [show Tryz.prog.info? 34 = some Tryz.t34 from Tryz.type34]; rfl
@[simp ↓] theorem z34 {q : List Value → Prop} : goZ Tryz.prog 34 q = q [(Go.Value.slice none 0 0)] := by simp [goZ, zer34, Value.cells]
@[simp] theorem und34 : Tryz.prog.underlying 34 = some (Go.TypeDesc.slice 161) := opq Tryz.underlying34
@[simp ↓] theorem un34 {q : TypeDesc → Prop} : goUnd Tryz.prog 34 q = q (Go.TypeDesc.slice 161) := by simp only [goUnd, und34]
theorem slt34 : SlT Tryz.prog 34 161 2 40 := ⟨Tryz.underlying34, ⟨Tryz.t161, _, Tryz.type161, rfl, rfl, rfl, by simp, rfl⟩, by decide⟩
@[simp ↓] theorem sl34 {q : TypeId → Nat → List Value → Prop} : goSl Tryz.prog 34 q = q 161 2 [Go.Value.string { data := #[] }, Go.Value.slice none 0 0] := by simp [goSl, und34, show zero? Tryz.prog 161 = some (Go.Value.agg #[Go.Value.string { data := #[] }, Go.Value.slice none 0 0]) from by unfold zero?; rw [show Tryz.prog.info? 161 = some Tryz.t161 from Tryz.type161]; rfl, show szT Tryz.prog 161 = some 2 from by unfold szT; rw [show Tryz.prog.info? 161 = some Tryz.t161 from Tryz.type161]; rfl, Value.cells]
theorem agg35 : aggT Tryz.prog 35 = some true := by unfold aggT; rw [Tryz.underlying35]; rfl
@[simp] theorem siz35 : szT Tryz.prog 35 = some 2 := by unfold szT; rw [show Tryz.prog.info? 35 = some Tryz.t35 from Tryz.type35]; rfl
@[simp ↓] theorem ty35 {q : Bool → Nat → Prop} : goTy Tryz.prog 35 q = q true 2 := by simp only [goTy, agg35, siz35]
@[simp ↓] theorem sz35 {q : Nat → Prop} : goSz Tryz.prog 35 q = q 2 := by simp only [goSz, siz35]
theorem zer35 : zero? Tryz.prog 35 = some (Go.Value.agg #[Go.Value.slice none 0 0, Go.Value.slice none 0 0]) := by unfold zero?; rw [show Tryz.prog.info? 35 = some Tryz.t35 from Tryz.type35]; rfl
@[simp ↓] theorem z35 {q : List Value → Prop} : goZ Tryz.prog 35 q = q [Go.Value.slice none 0 0, Go.Value.slice none 0 0] := by simp [goZ, zer35, Value.cells]
@[simp] theorem und35 : Tryz.prog.underlying 35 = some (Go.TypeDesc.struct
  #[{ name := "Sources", type := 33, offset := 0, embedded := false, tag := "", pkgPath := "", byteOffset := 0 },
    { name := "Targets", type := 34, offset := 1, embedded := false, tag := "", pkgPath := "", byteOffset := 24 }]) := opq Tryz.underlying35
@[simp ↓] theorem fld35_0 {q : Nat → TypeId → Prop} : goFld Tryz.prog 35 0 q = q 0 33 := by simp only [goFld, und35]; rfl
@[simp ↓] theorem fld35_1 {q : Nat → TypeId → Prop} : goFld Tryz.prog 35 1 q = q 1 34 := by simp only [goFld, und35]; rfl
@[simp ↓] theorem bld35 {q : List Value → List (Nat × Nat) → Prop} : goBld Tryz.prog 35 q = q [Go.Value.slice none 0 0, Go.Value.slice none 0 0] [(0, 1), (1, 1)] := by simp [goBld, und35, zer35, placesL, Value.cells]
theorem agg36 : aggT Tryz.prog 36 = some true := by unfold aggT; rw [Tryz.underlying36]; rfl
@[simp] theorem siz36 : szT Tryz.prog 36 = some 2 := by unfold szT; rw [show Tryz.prog.info? 36 = some Tryz.t36 from Tryz.type36]; rfl
@[simp ↓] theorem ty36 {q : Bool → Nat → Prop} : goTy Tryz.prog 36 q = q true 2 := by simp only [goTy, agg36, siz36]
@[simp ↓] theorem sz36 {q : Nat → Prop} : goSz Tryz.prog 36 q = q 2 := by simp only [goSz, siz36]
theorem zer36 : zero? Tryz.prog 36 = some (Go.Value.agg #[Go.Value.slice none 0 0, Go.Value.slice none 0 0]) := by unfold zero?; rw [show Tryz.prog.info? 36 = some Tryz.t36 from Tryz.type36]; rfl
@[simp ↓] theorem z36 {q : List Value → Prop} : goZ Tryz.prog 36 q = q [Go.Value.slice none 0 0, Go.Value.slice none 0 0] := by simp [goZ, zer36, Value.cells]
@[simp] theorem und36 : Tryz.prog.underlying 36 = some (Go.TypeDesc.struct
  #[{ name := "Sources", type := 33, offset := 0, embedded := false, tag := "", pkgPath := "", byteOffset := 0 },
    { name := "Targets", type := 34, offset := 1, embedded := false, tag := "", pkgPath := "", byteOffset := 24 }]) := opq Tryz.underlying36
@[simp ↓] theorem fld36_0 {q : Nat → TypeId → Prop} : goFld Tryz.prog 36 0 q = q 0 33 := by simp only [goFld, und36]; rfl
@[simp ↓] theorem fld36_1 {q : Nat → TypeId → Prop} : goFld Tryz.prog 36 1 q = q 1 34 := by simp only [goFld, und36]; rfl
@[simp ↓] theorem bld36 {q : List Value → List (Nat × Nat) → Prop} : goBld Tryz.prog 36 q = q [Go.Value.slice none 0 0, Go.Value.slice none 0 0] [(0, 1), (1, 1)] := by simp [goBld, und36, zer36, placesL, Value.cells]
theorem agg37 : aggT Tryz.prog 37 = some false := by unfold aggT; rw [Tryz.underlying37]; rfl
@[simp] theorem siz37 : szT Tryz.prog 37 = some 1 := by unfold szT; rw [show Tryz.prog.info? 37 = some Tryz.t37 from Tryz.type37]; rfl
@[simp ↓] theorem ty37 {q : Bool → Nat → Prop} : goTy Tryz.prog 37 q = q false 1 := by simp only [goTy, agg37, siz37]
@[simp ↓] theorem sz37 {q : Nat → Prop} : goSz Tryz.prog 37 q = q 1 := by simp only [goSz, siz37]
theorem zer37 : zero? Tryz.prog 37 = some Go.Value.nilFunc := by unfold zero?; rw [show Tryz.prog.info? 37 = some Tryz.t37 from Tryz.type37]; rfl
@[simp ↓] theorem z37 {q : List Value → Prop} : goZ Tryz.prog 37 q = q [Go.Value.nilFunc] := by simp [goZ, zer37, Value.cells]
theorem agg39 : aggT Tryz.prog 39 = some true := by unfold aggT; rw [Tryz.underlying39]; rfl
@[simp] theorem siz39 : szT Tryz.prog 39 = some 3 := by unfold szT; rw [show Tryz.prog.info? 39 = some Tryz.t39 from Tryz.type39]; rfl
@[simp ↓] theorem ty39 {q : Bool → Nat → Prop} : goTy Tryz.prog 39 q = q true 3 := by simp only [goTy, agg39, siz39]
@[simp ↓] theorem sz39 {q : Nat → Prop} : goSz Tryz.prog 39 q = q 3 := by simp only [goSz, siz39]
theorem zer39 : zero? Tryz.prog 39 = some (Go.Value.agg #[Go.Value.int Go.IntKind.i64 0, Go.Value.string { data := #[] }, Go.Value.slice none 0 0]) := by unfold zero?; rw [show Tryz.prog.info? 39 = some Tryz.t39 from Tryz.type39]; rfl
@[simp ↓] theorem z39 {q : List Value → Prop} : goZ Tryz.prog 39 q = q [Go.Value.int Go.IntKind.i64 0, Go.Value.string { data := #[] }, Go.Value.slice none 0 0] := by simp [goZ, zer39, Value.cells]
@[simp] theorem und39 : Tryz.prog.underlying 39 = some (Go.TypeDesc.struct
  #[{ name := "Code", type := 3, offset := 0, embedded := false, tag := "", pkgPath := "", byteOffset := 0 },
    { name := "Text", type := 9, offset := 1, embedded := false, tag := "", pkgPath := "", byteOffset := 8 },
    { name := "Chain", type := 24, offset := 2, embedded := false, tag := "", pkgPath := "", byteOffset := 24 }]) := opq Tryz.underlying39
@[simp ↓] theorem fld39_0 {q : Nat → TypeId → Prop} : goFld Tryz.prog 39 0 q = q 0 3 := by simp only [goFld, und39]; rfl
@[simp ↓] theorem fld39_1 {q : Nat → TypeId → Prop} : goFld Tryz.prog 39 1 q = q 1 9 := by simp only [goFld, und39]; rfl
@[simp ↓] theorem fld39_2 {q : Nat → TypeId → Prop} : goFld Tryz.prog 39 2 q = q 2 24 := by simp only [goFld, und39]; rfl
@[simp ↓] theorem bld39 {q : List Value → List (Nat × Nat) → Prop} : goBld Tryz.prog 39 q = q [Go.Value.int Go.IntKind.i64 0, Go.Value.string { data := #[] }, Go.Value.slice none 0 0] [(0, 1), (1, 1), (2, 1)] := by simp [goBld, und39, zer39, placesL, Value.cells]
theorem agg41 : aggT Tryz.prog 41 = some false := by unfold aggT; rw [Tryz.underlying41]; rfl
@[simp] theorem siz41 : szT Tryz.prog 41 = some 1 := by unfold szT; rw [show Tryz.prog.info? 41 = some Tryz.t41 from Tryz.type41]; rfl
@[simp ↓] theorem ty41 {q : Bool → Nat → Prop} : goTy Tryz.prog 41 q = q false 1 := by simp only [goTy, agg41, siz41]
@[simp ↓] theorem sz41 {q : Nat → Prop} : goSz Tryz.prog 41 q = q 1 := by simp only [goSz, siz41]
theorem zer41 : zero? Tryz.prog 41 = some (Go.Value.slice none 0 0) := by unfold zero?; rw [show Tryz.prog.info? 41 = some Tryz.t41 from Tryz.type41]; rfl
@[simp ↓] theorem z41 {q : List Value → Prop} : goZ Tryz.prog 41 q = q [(Go.Value.slice none 0 0)] := by simp [goZ, zer41, Value.cells]
@[simp] theorem und41 : Tryz.prog.underlying 41 = some (Go.TypeDesc.slice 162) := opq Tryz.underlying41
@[simp ↓] theorem un41 {q : TypeDesc → Prop} : goUnd Tryz.prog 41 q = q (Go.TypeDesc.slice 162) := by simp only [goUnd, und41]
theorem slt41 : SlT Tryz.prog 41 162 2 32 := ⟨Tryz.underlying41, ⟨Tryz.t162, _, Tryz.type162, rfl, rfl, rfl, by simp, rfl⟩, by decide⟩
@[simp ↓] theorem sl41 {q : TypeId → Nat → List Value → Prop} : goSl Tryz.prog 41 q = q 162 2 [Go.Value.string { data := #[] }, Go.Value.string { data := #[] }] := by simp [goSl, und41, show zero? Tryz.prog 162 = some (Go.Value.agg #[Go.Value.string { data := #[] }, Go.Value.string { data := #[] }]) from by unfold zero?; rw [show Tryz.prog.info? 162 = some Tryz.t162 from Tryz.type162]; rfl, show szT Tryz.prog 162 = some 2 from by unfold szT; rw [show Tryz.prog.info? 162 = some Tryz.t162 from Tryz.type162]; rfl, Value.cells]
theorem agg42 : aggT Tryz.prog 42 = some false := by unfold aggT; rw [Tryz.underlying42]; rfl
@[simp] theorem siz42 : szT Tryz.prog 42 = some 1 := by unfold szT; rw [show Tryz.prog.info? 42 = some Tryz.t42 from Tryz.type42]; rfl
@[simp ↓] theorem ty42 {q : Bool → Nat → Prop} : goTy Tryz.prog 42 q = q false 1 := by simp only [goTy, agg42, siz42]
@[simp ↓] theorem sz42 {q : Nat → Prop} : goSz Tryz.prog 42 q = q 1 := by simp only [goSz, siz42]
theorem zer42 : zero? Tryz.prog 42 = some (Go.Value.slice none 0 0) := by unfold zero?; rw [show Tryz.prog.info? 42 = some Tryz.t42 from Tryz.type42]; rfl
@[simp ↓] theorem z42 {q : List Value → Prop} : goZ Tryz.prog 42 q = q [(Go.Value.slice none 0 0)] := by simp [goZ, zer42, Value.cells]
@[simp] theorem und42 : Tryz.prog.underlying 42 = some (Go.TypeDesc.slice 164) := opq Tryz.underlying42
@[simp ↓] theorem un42 {q : TypeDesc → Prop} : goUnd Tryz.prog 42 q = q (Go.TypeDesc.slice 164) := by simp only [goUnd, und42]
theorem slt42 : SlT Tryz.prog 42 164 2 40 := ⟨Tryz.underlying42, ⟨Tryz.t164, _, Tryz.type164, rfl, rfl, rfl, by simp, rfl⟩, by decide⟩
@[simp ↓] theorem sl42 {q : TypeId → Nat → List Value → Prop} : goSl Tryz.prog 42 q = q 164 2 [Go.Value.string { data := #[] }, Go.Value.slice none 0 0] := by simp [goSl, und42, show zero? Tryz.prog 164 = some (Go.Value.agg #[Go.Value.string { data := #[] }, Go.Value.slice none 0 0]) from by unfold zero?; rw [show Tryz.prog.info? 164 = some Tryz.t164 from Tryz.type164]; rfl, show szT Tryz.prog 164 = some 2 from by unfold szT; rw [show Tryz.prog.info? 164 = some Tryz.t164 from Tryz.type164]; rfl, Value.cells]
theorem agg44 : aggT Tryz.prog 44 = some true := by unfold aggT; rw [Tryz.underlying44]; rfl
@[simp] theorem siz44 : szT Tryz.prog 44 = some 2 := by unfold szT; rw [show Tryz.prog.info? 44 = some Tryz.t44 from Tryz.type44]; rfl
@[simp ↓] theorem ty44 {q : Bool → Nat → Prop} : goTy Tryz.prog 44 q = q true 2 := by simp only [goTy, agg44, siz44]
@[simp ↓] theorem sz44 {q : Nat → Prop} : goSz Tryz.prog 44 q = q 2 := by simp only [goSz, siz44]
theorem zer44 : zero? Tryz.prog 44 = some (Go.Value.agg #[Go.Value.slice none 0 0, Go.Value.slice none 0 0]) := by unfold zero?; rw [show Tryz.prog.info? 44 = some Tryz.t44 from Tryz.type44]; rfl
@[simp ↓] theorem z44 {q : List Value → Prop} : goZ Tryz.prog 44 q = q [Go.Value.slice none 0 0, Go.Value.slice none 0 0] := by simp [goZ, zer44, Value.cells]
@[simp] theorem und44 : Tryz.prog.underlying 44 = some (Go.TypeDesc.struct
  #[{ name := "Sources", type := 41, offset := 0, embedded := false, tag := "", pkgPath := "", byteOffset := 0 },
    { name := "Targets", type := 42, offset := 1, embedded := false, tag := "", pkgPath := "", byteOffset := 24 }]) := opq Tryz.underlying44
@[simp ↓] theorem fld44_0 {q : Nat → TypeId → Prop} : goFld Tryz.prog 44 0 q = q 0 41 := by simp only [goFld, und44]; rfl
@[simp ↓] theorem fld44_1 {q : Nat → TypeId → Prop} : goFld Tryz.prog 44 1 q = q 1 42 := by simp only [goFld, und44]; rfl
@[simp ↓] theorem bld44 {q : List Value → List (Nat × Nat) → Prop} : goBld Tryz.prog 44 q = q [Go.Value.slice none 0 0, Go.Value.slice none 0 0] [(0, 1), (1, 1)] := by simp [goBld, und44, zer44, placesL, Value.cells]
theorem agg46 : aggT Tryz.prog 46 = some false := by unfold aggT; rw [Tryz.underlying46]; rfl
@[simp] theorem siz46 : szT Tryz.prog 46 = some 1 := by unfold szT; rw [show Tryz.prog.info? 46 = some Tryz.t46 from Tryz.type46]; rfl
@[simp ↓] theorem ty46 {q : Bool → Nat → Prop} : goTy Tryz.prog 46 q = q false 1 := by simp only [goTy, agg46, siz46]
@[simp ↓] theorem sz46 {q : Nat → Prop} : goSz Tryz.prog 46 q = q 1 := by simp only [goSz, siz46]
theorem zer46 : zero? Tryz.prog 46 = some Go.Value.nilFunc := by unfold zero?; rw [show Tryz.prog.info? 46 = some Tryz.t46 from Tryz.type46]; rfl
@[simp ↓] theorem z46 {q : List Value → Prop} : goZ Tryz.prog 46 q = q [Go.Value.nilFunc] := by simp [goZ, zer46, Value.cells]
theorem agg47 : aggT Tryz.prog 47 = some false := by unfold aggT; rw [Tryz.underlying47]; rfl
@[simp] theorem siz47 : szT Tryz.prog 47 = some 1 := by unfold szT; rw [show Tryz.prog.info? 47 = some Tryz.t47 from Tryz.type47]; rfl
@[simp ↓] theorem ty47 {q : Bool → Nat → Prop} : goTy Tryz.prog 47 q = q false 1 := by simp only [goTy, agg47, siz47]
@[simp ↓] theorem sz47 {q : Nat → Prop} : goSz Tryz.prog 47 q = q 1 := by simp only [goSz, siz47]
theorem zer47 : zero? Tryz.prog 47 = some Go.Value.nilFunc := by unfold zero?; rw [show Tryz.prog.info? 47 = some Tryz.t47 from Tryz.type47]; rfl
@[simp ↓] theorem z47 {q : List Value → Prop} : goZ Tryz.prog 47 q = q [Go.Value.nilFunc] := by simp [goZ, zer47, Value.cells]
theorem agg48 : aggT Tryz.prog 48 = some false := by unfold aggT; rw [Tryz.underlying48]; rfl
@[simp] theorem siz48 : szT Tryz.prog 48 = some 1 := by unfold szT; rw [show Tryz.prog.info? 48 = some Tryz.t48 from Tryz.type48]; rfl
@[simp ↓] theorem ty48 {q : Bool → Nat → Prop} : goTy Tryz.prog 48 q = q false 1 := by simp only [goTy, agg48, siz48]
@[simp ↓] theorem sz48 {q : Nat → Prop} : goSz Tryz.prog 48 q = q 1 := by simp only [goSz, siz48]
theorem zer48 : zero? Tryz.prog 48 = some Go.Value.nilFunc := by unfold zero?; rw [show Tryz.prog.info? 48 = some Tryz.t48 from Tryz.type48]; rfl
@[simp ↓] theorem z48 {q : List Value → Prop} : goZ Tryz.prog 48 q = q [Go.Value.nilFunc] := by simp [goZ, zer48, Value.cells]
theorem agg49 : aggT Tryz.prog 49 = some false := by unfold aggT; rw [Tryz.underlying49]; rfl
@[simp] theorem siz49 : szT Tryz.prog 49 = some 1 := by unfold szT; rw [show Tryz.prog.info? 49 = some Tryz.t49 from Tryz.type49]; rfl
@[simp ↓] theorem ty49 {q : Bool → Nat → Prop} : goTy Tryz.prog 49 q = q false 1 := by simp only [goTy, agg49, siz49]
@[simp ↓] theorem sz49 {q : Nat → Prop} : goSz Tryz.prog 49 q = q 1 := by simp only [goSz, siz49]
theorem zer49 : zero? Tryz.prog 49 = some Go.Value.nilFunc := by unfold zero?; rw [show Tryz.prog.info? 49 = some Tryz.t49 from Tryz.type49]; rfl
@[simp ↓] theorem z49 {q : List Value → Prop} : goZ Tryz.prog 49 q = q [Go.Value.nilFunc] := by simp [goZ, zer49, Value.cells]
theorem agg50 : aggT Tryz.prog 50 = some false := by unfold aggT; rw [Tryz.underlying50]; rfl
@[simp] theorem siz50 : szT Tryz.prog 50 = some 1 := by unfold szT; rw [show Tryz.prog.info? 50 = some Tryz.t50 from Tryz.type50]; rfl
@[simp ↓] theorem ty50 {q : Bool → Nat → Prop} : goTy Tryz.prog 50 q = q false 1 := by simp only [goTy, agg50, siz50]
@[simp ↓] theorem sz50 {q : Nat → Prop} : goSz Tryz.prog 50 q = q 1 := by simp only [goSz, siz50]
theorem zer50 : zero? Tryz.prog 50 = some Go.Value.nilFunc := by unfold zero?; rw [show Tryz.prog.info? 50 = some Tryz.t50 from Tryz.type50]; rfl
@[simp ↓] theorem z50 {q : List Value → Prop} : goZ Tryz.prog 50 q = q [Go.Value.nilFunc] := by simp [goZ, zer50, Value.cells]
theorem agg51 : aggT Tryz.prog 51 = some false := by unfold aggT; rw [Tryz.underlying51]; rfl
@[simp] theorem siz51 : szT Tryz.prog 51 = some 1 := by unfold szT; rw [show Tryz.prog.info? 51 = some Tryz.t51 from Tryz.type51]; rfl
@[simp ↓] theorem ty51 {q : Bool → Nat → Prop} : goTy Tryz.prog 51 q = q false 1 := by simp only [goTy, agg51, siz51]
@[simp ↓] theorem sz51 {q : Nat → Prop} : goSz Tryz.prog 51 q = q 1 := by simp only [goSz, siz51]
theorem zer51 : zero? Tryz.prog 51 = some (Go.Value.slice none 0 0) := by unfold zero?; rw [show Tryz.prog.info? 51 = some Tryz.t51 from Tryz.type51]; rfl
@[simp ↓] theorem z51 {q : List Value → Prop} : goZ Tryz.prog 51 q = q [(Go.Value.slice none 0 0)] := by simp [goZ, zer51, Value.cells]
@[simp] theorem und51 : Tryz.prog.underlying 51 = some (Go.TypeDesc.slice 174) := opq Tryz.underlying51
@[simp ↓] theorem un51 {q : TypeDesc → Prop} : goUnd Tryz.prog 51 q = q (Go.TypeDesc.slice 174) := by simp only [goUnd, und51]
theorem slt51 : SlT Tryz.prog 51 174 6 96 := ⟨Tryz.underlying51, ⟨Tryz.t174, _, Tryz.type174, rfl, rfl, rfl, by simp, rfl⟩, by decide⟩
@[simp ↓] theorem sl51 {q : TypeId → Nat → List Value → Prop} : goSl Tryz.prog 51 q = q 174 6 [Go.Value.string { data := #[] }, Go.Value.int Go.IntKind.i64 0, Go.Value.int Go.IntKind.i64 0,
      Go.Value.string { data := #[] }, Go.Value.slice none 0 0, Go.Value.slice none 0 0] := by simp [goSl, und51, show zero? Tryz.prog 174 = some
  (Go.Value.agg
    #[Go.Value.string { data := #[] }, Go.Value.int Go.IntKind.i64 0, Go.Value.int Go.IntKind.i64 0,
      Go.Value.string { data := #[] }, Go.Value.slice none 0 0, Go.Value.slice none 0 0]) from by unfold zero?; rw [show Tryz.prog.info? 174 = some Tryz.t174 from Tryz.type174]; rfl, show szT Tryz.prog 174 = some 6 from by unfold szT; rw [show Tryz.prog.info? 174 = some Tryz.t174 from Tryz.type174]; rfl, Value.cells]
theorem agg52 : aggT Tryz.prog 52 = some true := by unfold aggT; rw [Tryz.underlying52]; rfl
@[simp] theorem siz52 : szT Tryz.prog 52 = some 1 := by unfold szT; rw [show Tryz.prog.info? 52 = some Tryz.t52 from Tryz.type52]; rfl
@[simp ↓] theorem ty52 {q : Bool → Nat → Prop} : goTy Tryz.prog 52 q = q true 1 := by simp only [goTy, agg52, siz52]
@[simp ↓] theorem sz52 {q : Nat → Prop} : goSz Tryz.prog 52 q = q 1 := by simp only [goSz, siz52]
theorem zer52 : zero? Tryz.prog 52 = some (Go.Value.agg #[Go.Value.slice none 0 0]) := by unfold zero?; rw [show Tryz.prog.info? 52 = some Tryz.t52 from Tryz.type52]; rfl
@[simp ↓] theorem z52 {q : List Value → Prop} : goZ Tryz.prog 52 q = q [Go.Value.slice none 0 0] := by simp [goZ, zer52, Value.cells]
@[simp] theorem und52 : Tryz.prog.underlying 52 = some (Go.TypeDesc.struct
  #[{ name := "Deeds", type := 51, offset := 0, embedded := false, tag := "", pkgPath := "", byteOffset := 0 }]) := opq Tryz.underlying52
@[simp ↓] theorem fld52_0 {q : Nat → TypeId → Prop} : goFld Tryz.prog 52 0 q = q 0 51 := by simp only [goFld, und52]; rfl
@[simp ↓] theorem bld52 {q : List Value → List (Nat × Nat) → Prop} : goBld Tryz.prog 52 q = q [Go.Value.slice none 0 0] [(0, 1)] := by simp [goBld, und52, zer52, placesL, Value.cells]
theorem agg53 : aggT Tryz.prog 53 = some true := by unfold aggT; rw [Tryz.underlying53]; rfl
@[simp] theorem siz53 : szT Tryz.prog 53 = some 1 := by unfold szT; rw [show Tryz.prog.info? 53 = some Tryz.t53 from Tryz.type53]; rfl
@[simp ↓] theorem ty53 {q : Bool → Nat → Prop} : goTy Tryz.prog 53 q = q true 1 := by simp only [goTy, agg53, siz53]
@[simp ↓] theorem sz53 {q : Nat → Prop} : goSz Tryz.prog 53 q = q 1 := by simp only [goSz, siz53]
theorem zer53 : zero? Tryz.prog 53 = some (Go.Value.agg #[Go.Value.slice none 0 0]) := by unfold zero?; rw [show Tryz.prog.info? 53 = some Tryz.t53 from Tryz.type53]; rfl
@[simp ↓] theorem z53 {q : List Value → Prop} : goZ Tryz.prog 53 q = q [Go.Value.slice none 0 0] := by simp [goZ, zer53, Value.cells]
@[simp] theorem und53 : Tryz.prog.underlying 53 = some (Go.TypeDesc.struct
  #[{ name := "Deeds", type := 51, offset := 0, embedded := false, tag := "", pkgPath := "", byteOffset := 0 }]) := opq Tryz.underlying53
@[simp ↓] theorem fld53_0 {q : Nat → TypeId → Prop} : goFld Tryz.prog 53 0 q = q 0 51 := by simp only [goFld, und53]; rfl
@[simp ↓] theorem bld53 {q : List Value → List (Nat × Nat) → Prop} : goBld Tryz.prog 53 q = q [Go.Value.slice none 0 0] [(0, 1)] := by simp [goBld, und53, zer53, placesL, Value.cells]
theorem agg54 : aggT Tryz.prog 54 = some false := by unfold aggT; rw [Tryz.underlying54]; rfl
@[simp] theorem siz54 : szT Tryz.prog 54 = some 1 := by unfold szT; rw [show Tryz.prog.info? 54 = some Tryz.t54 from Tryz.type54]; rfl
@[simp ↓] theorem ty54 {q : Bool → Nat → Prop} : goTy Tryz.prog 54 q = q false 1 := by simp only [goTy, agg54, siz54]
@[simp ↓] theorem sz54 {q : Nat → Prop} : goSz Tryz.prog 54 q = q 1 := by simp only [goSz, siz54]
theorem zer54 : zero? Tryz.prog 54 = some Go.Value.nilFunc := by unfold zero?; rw [show Tryz.prog.info? 54 = some Tryz.t54 from Tryz.type54]; rfl
@[simp ↓] theorem z54 {q : List Value → Prop} : goZ Tryz.prog 54 q = q [Go.Value.nilFunc] := by simp [goZ, zer54, Value.cells]
theorem agg56 : aggT Tryz.prog 56 = some false := by unfold aggT; rw [Tryz.underlying56]; rfl
@[simp] theorem siz56 : szT Tryz.prog 56 = some 1 := by unfold szT; rw [show Tryz.prog.info? 56 = some Tryz.t56 from Tryz.type56]; rfl
@[simp ↓] theorem ty56 {q : Bool → Nat → Prop} : goTy Tryz.prog 56 q = q false 1 := by simp only [goTy, agg56, siz56]
@[simp ↓] theorem sz56 {q : Nat → Prop} : goSz Tryz.prog 56 q = q 1 := by simp only [goSz, siz56]
theorem zer56 : zero? Tryz.prog 56 = some (Go.Value.slice none 0 0) := by unfold zero?; rw [show Tryz.prog.info? 56 = some Tryz.t56 from Tryz.type56]; rfl
@[simp ↓] theorem z56 {q : List Value → Prop} : goZ Tryz.prog 56 q = q [(Go.Value.slice none 0 0)] := by simp [goZ, zer56, Value.cells]
@[simp] theorem und56 : Tryz.prog.underlying 56 = some (Go.TypeDesc.slice 82) := opq Tryz.underlying56
@[simp ↓] theorem un56 {q : TypeDesc → Prop} : goUnd Tryz.prog 56 q = q (Go.TypeDesc.slice 82) := by simp only [goUnd, und56]
theorem slt56 : SlT Tryz.prog 56 82 6 96 := ⟨Tryz.underlying56, ⟨Tryz.t82, _, Tryz.type82, rfl, rfl, rfl, by simp, rfl⟩, by decide⟩
@[simp ↓] theorem sl56 {q : TypeId → Nat → List Value → Prop} : goSl Tryz.prog 56 q = q 82 6 [Go.Value.string { data := #[] }, Go.Value.int Go.IntKind.i64 0, Go.Value.int Go.IntKind.i64 0,
      Go.Value.string { data := #[] }, Go.Value.slice none 0 0, Go.Value.slice none 0 0] := by simp [goSl, und56, show zero? Tryz.prog 82 = some
  (Go.Value.agg
    #[Go.Value.string { data := #[] }, Go.Value.int Go.IntKind.i64 0, Go.Value.int Go.IntKind.i64 0,
      Go.Value.string { data := #[] }, Go.Value.slice none 0 0, Go.Value.slice none 0 0]) from by unfold zero?; rw [show Tryz.prog.info? 82 = some Tryz.t82 from Tryz.type82]; rfl, show szT Tryz.prog 82 = some 6 from by unfold szT; rw [show Tryz.prog.info? 82 = some Tryz.t82 from Tryz.type82]; rfl, Value.cells]
theorem agg58 : aggT Tryz.prog 58 = some true := by unfold aggT; rw [Tryz.underlying58]; rfl
@[simp] theorem siz58 : szT Tryz.prog 58 = some 1 := by unfold szT; rw [show Tryz.prog.info? 58 = some Tryz.t58 from Tryz.type58]; rfl
@[simp ↓] theorem ty58 {q : Bool → Nat → Prop} : goTy Tryz.prog 58 q = q true 1 := by simp only [goTy, agg58, siz58]
@[simp ↓] theorem sz58 {q : Nat → Prop} : goSz Tryz.prog 58 q = q 1 := by simp only [goSz, siz58]
theorem zer58 : zero? Tryz.prog 58 = some (Go.Value.agg #[Go.Value.slice none 0 0]) := by unfold zero?; rw [show Tryz.prog.info? 58 = some Tryz.t58 from Tryz.type58]; rfl
@[simp ↓] theorem z58 {q : List Value → Prop} : goZ Tryz.prog 58 q = q [Go.Value.slice none 0 0] := by simp [goZ, zer58, Value.cells]
@[simp] theorem und58 : Tryz.prog.underlying 58 = some (Go.TypeDesc.struct
  #[{ name := "Deeds", type := 56, offset := 0, embedded := false, tag := "", pkgPath := "", byteOffset := 0 }]) := opq Tryz.underlying58
@[simp ↓] theorem fld58_0 {q : Nat → TypeId → Prop} : goFld Tryz.prog 58 0 q = q 0 56 := by simp only [goFld, und58]; rfl
@[simp ↓] theorem bld58 {q : List Value → List (Nat × Nat) → Prop} : goBld Tryz.prog 58 q = q [Go.Value.slice none 0 0] [(0, 1)] := by simp [goBld, und58, zer58, placesL, Value.cells]
theorem agg60 : aggT Tryz.prog 60 = some false := by unfold aggT; rw [Tryz.underlying60]; rfl
@[simp] theorem siz60 : szT Tryz.prog 60 = some 1 := by unfold szT; rw [show Tryz.prog.info? 60 = some Tryz.t60 from Tryz.type60]; rfl
@[simp ↓] theorem ty60 {q : Bool → Nat → Prop} : goTy Tryz.prog 60 q = q false 1 := by simp only [goTy, agg60, siz60]
@[simp ↓] theorem sz60 {q : Nat → Prop} : goSz Tryz.prog 60 q = q 1 := by simp only [goSz, siz60]
theorem zer60 : zero? Tryz.prog 60 = some Go.Value.nilFunc := by unfold zero?; rw [show Tryz.prog.info? 60 = some Tryz.t60 from Tryz.type60]; rfl
@[simp ↓] theorem z60 {q : List Value → Prop} : goZ Tryz.prog 60 q = q [Go.Value.nilFunc] := by simp [goZ, zer60, Value.cells]
theorem agg61 : aggT Tryz.prog 61 = some false := by unfold aggT; rw [Tryz.underlying61]; rfl
@[simp] theorem siz61 : szT Tryz.prog 61 = some 1 := by unfold szT; rw [show Tryz.prog.info? 61 = some Tryz.t61 from Tryz.type61]; rfl
@[simp ↓] theorem ty61 {q : Bool → Nat → Prop} : goTy Tryz.prog 61 q = q false 1 := by simp only [goTy, agg61, siz61]
@[simp ↓] theorem sz61 {q : Nat → Prop} : goSz Tryz.prog 61 q = q 1 := by simp only [goSz, siz61]
theorem zer61 : zero? Tryz.prog 61 = some Go.Value.nilFunc := by unfold zero?; rw [show Tryz.prog.info? 61 = some Tryz.t61 from Tryz.type61]; rfl
@[simp ↓] theorem z61 {q : List Value → Prop} : goZ Tryz.prog 61 q = q [Go.Value.nilFunc] := by simp [goZ, zer61, Value.cells]
theorem agg62 : aggT Tryz.prog 62 = some false := by unfold aggT; rw [Tryz.underlying62]; rfl
@[simp] theorem siz62 : szT Tryz.prog 62 = some 1 := by unfold szT; rw [show Tryz.prog.info? 62 = some Tryz.t62 from Tryz.type62]; rfl
@[simp ↓] theorem ty62 {q : Bool → Nat → Prop} : goTy Tryz.prog 62 q = q false 1 := by simp only [goTy, agg62, siz62]
@[simp ↓] theorem sz62 {q : Nat → Prop} : goSz Tryz.prog 62 q = q 1 := by simp only [goSz, siz62]
theorem zer62 : zero? Tryz.prog 62 = some Go.Value.nilFunc := by unfold zero?; rw [show Tryz.prog.info? 62 = some Tryz.t62 from Tryz.type62]; rfl
@[simp ↓] theorem z62 {q : List Value → Prop} : goZ Tryz.prog 62 q = q [Go.Value.nilFunc] := by simp [goZ, zer62, Value.cells]
theorem agg70 : aggT Tryz.prog 70 = some false := by unfold aggT; rw [Tryz.underlying70]; rfl
@[simp] theorem siz70 : szT Tryz.prog 70 = some 1 := by unfold szT; rw [show Tryz.prog.info? 70 = some Tryz.t70 from Tryz.type70]; rfl
@[simp ↓] theorem ty70 {q : Bool → Nat → Prop} : goTy Tryz.prog 70 q = q false 1 := by simp only [goTy, agg70, siz70]
@[simp ↓] theorem sz70 {q : Nat → Prop} : goSz Tryz.prog 70 q = q 1 := by simp only [goSz, siz70]
theorem zer70 : zero? Tryz.prog 70 = some Go.Value.nilFunc := by unfold zero?; rw [show Tryz.prog.info? 70 = some Tryz.t70 from Tryz.type70]; rfl
@[simp ↓] theorem z70 {q : List Value → Prop} : goZ Tryz.prog 70 q = q [Go.Value.nilFunc] := by simp [goZ, zer70, Value.cells]
theorem agg72 : aggT Tryz.prog 72 = some false := by unfold aggT; rw [Tryz.underlying72]; rfl
@[simp] theorem siz72 : szT Tryz.prog 72 = some 1 := by unfold szT; rw [show Tryz.prog.info? 72 = some Tryz.t72 from Tryz.type72]; rfl
@[simp ↓] theorem ty72 {q : Bool → Nat → Prop} : goTy Tryz.prog 72 q = q false 1 := by simp only [goTy, agg72, siz72]
@[simp ↓] theorem sz72 {q : Nat → Prop} : goSz Tryz.prog 72 q = q 1 := by simp only [goSz, siz72]
theorem zer72 : zero? Tryz.prog 72 = some Go.Value.nilFunc := by unfold zero?; rw [show Tryz.prog.info? 72 = some Tryz.t72 from Tryz.type72]; rfl
@[simp ↓] theorem z72 {q : List Value → Prop} : goZ Tryz.prog 72 q = q [Go.Value.nilFunc] := by simp [goZ, zer72, Value.cells]
theorem agg75 : aggT Tryz.prog 75 = some false := by unfold aggT; rw [Tryz.underlying75]; rfl
@[simp] theorem siz75 : szT Tryz.prog 75 = some 1 := by unfold szT; rw [show Tryz.prog.info? 75 = some Tryz.t75 from Tryz.type75]; rfl
@[simp ↓] theorem ty75 {q : Bool → Nat → Prop} : goTy Tryz.prog 75 q = q false 1 := by simp only [goTy, agg75, siz75]
@[simp ↓] theorem sz75 {q : Nat → Prop} : goSz Tryz.prog 75 q = q 1 := by simp only [goSz, siz75]
theorem zer75 : zero? Tryz.prog 75 = some Go.Value.nilFunc := by unfold zero?; rw [show Tryz.prog.info? 75 = some Tryz.t75 from Tryz.type75]; rfl
@[simp ↓] theorem z75 {q : List Value → Prop} : goZ Tryz.prog 75 q = q [Go.Value.nilFunc] := by simp [goZ, zer75, Value.cells]
theorem agg77 : aggT Tryz.prog 77 = some false := by unfold aggT; rw [Tryz.underlying77]; rfl
@[simp] theorem siz77 : szT Tryz.prog 77 = some 1 := by unfold szT; rw [show Tryz.prog.info? 77 = some Tryz.t77 from Tryz.type77]; rfl
@[simp ↓] theorem ty77 {q : Bool → Nat → Prop} : goTy Tryz.prog 77 q = q false 1 := by simp only [goTy, agg77, siz77]
@[simp ↓] theorem sz77 {q : Nat → Prop} : goSz Tryz.prog 77 q = q 1 := by simp only [goSz, siz77]
theorem zer77 : zero? Tryz.prog 77 = some (Go.Value.slice none 0 0) := by unfold zero?; rw [show Tryz.prog.info? 77 = some Tryz.t77 from Tryz.type77]; rfl
@[simp ↓] theorem z77 {q : List Value → Prop} : goZ Tryz.prog 77 q = q [(Go.Value.slice none 0 0)] := by simp [goZ, zer77, Value.cells]
@[simp] theorem und77 : Tryz.prog.underlying 77 = some (Go.TypeDesc.slice 140) := opq Tryz.underlying77
@[simp ↓] theorem un77 {q : TypeDesc → Prop} : goUnd Tryz.prog 77 q = q (Go.TypeDesc.slice 140) := by simp only [goUnd, und77]
theorem slt77 : SlT Tryz.prog 77 140 3 32 := ⟨Tryz.underlying77, ⟨Tryz.t140, _, Tryz.type140, rfl, rfl, rfl, by simp, rfl⟩, by decide⟩
@[simp ↓] theorem sl77 {q : TypeId → Nat → List Value → Prop} : goSl Tryz.prog 77 q = q 140 3 [Go.Value.int Go.IntKind.i64 0, Go.Value.string { data := #[] }, Go.Value.int Go.IntKind.i64 0] := by simp [goSl, und77, show zero? Tryz.prog 140 = some (Go.Value.agg #[Go.Value.int Go.IntKind.i64 0, Go.Value.string { data := #[] }, Go.Value.int Go.IntKind.i64 0]) from by unfold zero?; rw [show Tryz.prog.info? 140 = some Tryz.t140 from Tryz.type140]; rfl, show szT Tryz.prog 140 = some 3 from by unfold szT; rw [show Tryz.prog.info? 140 = some Tryz.t140 from Tryz.type140]; rfl, Value.cells]
theorem agg79 : aggT Tryz.prog 79 = some true := by unfold aggT; rw [Tryz.underlying79]; rfl
@[simp] theorem siz79 : szT Tryz.prog 79 = some 1 := by unfold szT; rw [show Tryz.prog.info? 79 = some Tryz.t79 from Tryz.type79]; rfl
@[simp ↓] theorem ty79 {q : Bool → Nat → Prop} : goTy Tryz.prog 79 q = q true 1 := by simp only [goTy, agg79, siz79]
@[simp ↓] theorem sz79 {q : Nat → Prop} : goSz Tryz.prog 79 q = q 1 := by simp only [goSz, siz79]
theorem zer79 : zero? Tryz.prog 79 = some (Go.Value.agg #[Go.Value.slice none 0 0]) := by unfold zero?; rw [show Tryz.prog.info? 79 = some Tryz.t79 from Tryz.type79]; rfl
@[simp ↓] theorem z79 {q : List Value → Prop} : goZ Tryz.prog 79 q = q [Go.Value.slice none 0 0] := by simp [goZ, zer79, Value.cells]
@[simp] theorem und79 : Tryz.prog.underlying 79 = some (Go.TypeDesc.struct
  #[{ name := "Code", type := 77, offset := 0, embedded := false, tag := "", pkgPath := "", byteOffset := 0 }]) := opq Tryz.underlying79
@[simp ↓] theorem fld79_0 {q : Nat → TypeId → Prop} : goFld Tryz.prog 79 0 q = q 0 77 := by simp only [goFld, und79]; rfl
@[simp ↓] theorem bld79 {q : List Value → List (Nat × Nat) → Prop} : goBld Tryz.prog 79 q = q [Go.Value.slice none 0 0] [(0, 1)] := by simp [goBld, und79, zer79, placesL, Value.cells]
theorem agg80 : aggT Tryz.prog 80 = some false := by unfold aggT; rw [Tryz.underlying80]; rfl
@[simp] theorem siz80 : szT Tryz.prog 80 = some 1 := by unfold szT; rw [show Tryz.prog.info? 80 = some Tryz.t80 from Tryz.type80]; rfl
@[simp ↓] theorem ty80 {q : Bool → Nat → Prop} : goTy Tryz.prog 80 q = q false 1 := by simp only [goTy, agg80, siz80]
@[simp ↓] theorem sz80 {q : Nat → Prop} : goSz Tryz.prog 80 q = q 1 := by simp only [goSz, siz80]
theorem zer80 : zero? Tryz.prog 80 = some (Go.Value.slice none 0 0) := by unfold zero?; rw [show Tryz.prog.info? 80 = some Tryz.t80 from Tryz.type80]; rfl
@[simp ↓] theorem z80 {q : List Value → Prop} : goZ Tryz.prog 80 q = q [(Go.Value.slice none 0 0)] := by simp [goZ, zer80, Value.cells]
@[simp] theorem und80 : Tryz.prog.underlying 80 = some (Go.TypeDesc.slice 123) := opq Tryz.underlying80
@[simp ↓] theorem un80 {q : TypeDesc → Prop} : goUnd Tryz.prog 80 q = q (Go.TypeDesc.slice 123) := by simp only [goUnd, und80]
theorem slt80 : SlT Tryz.prog 80 123 4 32 := ⟨Tryz.underlying80, ⟨Tryz.t123, _, Tryz.type123, rfl, rfl, rfl, by simp, rfl⟩, by decide⟩
@[simp ↓] theorem sl80 {q : TypeId → Nat → List Value → Prop} : goSl Tryz.prog 80 q = q 123 4 [Go.Value.string { data := #[] }, Go.Value.bool false, Go.Value.bool false, Go.Value.int Go.IntKind.i64 0] := by simp [goSl, und80, show zero? Tryz.prog 123 = some
  (Go.Value.agg
    #[Go.Value.string { data := #[] }, Go.Value.bool false, Go.Value.bool false, Go.Value.int Go.IntKind.i64 0]) from by unfold zero?; rw [show Tryz.prog.info? 123 = some Tryz.t123 from Tryz.type123]; rfl, show szT Tryz.prog 123 = some 4 from by unfold szT; rw [show Tryz.prog.info? 123 = some Tryz.t123 from Tryz.type123]; rfl, Value.cells]
theorem agg82 : aggT Tryz.prog 82 = some true := by unfold aggT; rw [Tryz.underlying82]; rfl
@[simp] theorem siz82 : szT Tryz.prog 82 = some 6 := by unfold szT; rw [show Tryz.prog.info? 82 = some Tryz.t82 from Tryz.type82]; rfl
@[simp ↓] theorem ty82 {q : Bool → Nat → Prop} : goTy Tryz.prog 82 q = q true 6 := by simp only [goTy, agg82, siz82]
@[simp ↓] theorem sz82 {q : Nat → Prop} : goSz Tryz.prog 82 q = q 6 := by simp only [goSz, siz82]
theorem zer82 : zero? Tryz.prog 82 = some
  (Go.Value.agg
    #[Go.Value.string { data := #[] }, Go.Value.int Go.IntKind.i64 0, Go.Value.int Go.IntKind.i64 0,
      Go.Value.string { data := #[] }, Go.Value.slice none 0 0, Go.Value.slice none 0 0]) := by unfold zero?; rw [show Tryz.prog.info? 82 = some Tryz.t82 from Tryz.type82]; rfl
@[simp ↓] theorem z82 {q : List Value → Prop} : goZ Tryz.prog 82 q = q [Go.Value.string { data := #[] }, Go.Value.int Go.IntKind.i64 0, Go.Value.int Go.IntKind.i64 0,
      Go.Value.string { data := #[] }, Go.Value.slice none 0 0, Go.Value.slice none 0 0] := by simp [goZ, zer82, Value.cells]
@[simp] theorem und82 : Tryz.prog.underlying 82 = some (Go.TypeDesc.struct
  #[{ name := "Name", type := 9, offset := 0, embedded := false, tag := "", pkgPath := "", byteOffset := 0 },
    { name := "Kind", type := 3, offset := 1, embedded := false, tag := "", pkgPath := "", byteOffset := 16 },
    { name := "Code", type := 3, offset := 2, embedded := false, tag := "", pkgPath := "", byteOffset := 24 },
    { name := "Text", type := 9, offset := 3, embedded := false, tag := "", pkgPath := "", byteOffset := 32 },
    { name := "Action", type := 79, offset := 4, embedded := false, tag := "", pkgPath := "", byteOffset := 48 },
    { name := "Links", type := 80, offset := 5, embedded := false, tag := "", pkgPath := "", byteOffset := 72 }]) := opq Tryz.underlying82
@[simp ↓] theorem fld82_0 {q : Nat → TypeId → Prop} : goFld Tryz.prog 82 0 q = q 0 9 := by simp only [goFld, und82]; rfl
@[simp ↓] theorem fld82_1 {q : Nat → TypeId → Prop} : goFld Tryz.prog 82 1 q = q 1 3 := by simp only [goFld, und82]; rfl
@[simp ↓] theorem fld82_2 {q : Nat → TypeId → Prop} : goFld Tryz.prog 82 2 q = q 2 3 := by simp only [goFld, und82]; rfl
@[simp ↓] theorem fld82_3 {q : Nat → TypeId → Prop} : goFld Tryz.prog 82 3 q = q 3 9 := by simp only [goFld, und82]; rfl
@[simp ↓] theorem fld82_4 {q : Nat → TypeId → Prop} : goFld Tryz.prog 82 4 q = q 4 79 := by simp only [goFld, und82]; rfl
@[simp ↓] theorem fld82_5 {q : Nat → TypeId → Prop} : goFld Tryz.prog 82 5 q = q 5 80 := by simp only [goFld, und82]; rfl
@[simp ↓] theorem bld82 {q : List Value → List (Nat × Nat) → Prop} : goBld Tryz.prog 82 q = q [Go.Value.string { data := #[] }, Go.Value.int Go.IntKind.i64 0, Go.Value.int Go.IntKind.i64 0,
      Go.Value.string { data := #[] }, Go.Value.slice none 0 0, Go.Value.slice none 0 0] [(0, 1), (1, 1), (2, 1), (3, 1), (4, 1), (5, 1)] := by simp [goBld, und82, zer82, placesL, Value.cells]
theorem agg83 : aggT Tryz.prog 83 = some false := by unfold aggT; rw [Tryz.underlying83]; rfl
@[simp] theorem siz83 : szT Tryz.prog 83 = some 1 := by unfold szT; rw [show Tryz.prog.info? 83 = some Tryz.t83 from Tryz.type83]; rfl
@[simp ↓] theorem ty83 {q : Bool → Nat → Prop} : goTy Tryz.prog 83 q = q false 1 := by simp only [goTy, agg83, siz83]
@[simp ↓] theorem sz83 {q : Nat → Prop} : goSz Tryz.prog 83 q = q 1 := by simp only [goSz, siz83]
theorem zer83 : zero? Tryz.prog 83 = some Go.Value.nilFunc := by unfold zero?; rw [show Tryz.prog.info? 83 = some Tryz.t83 from Tryz.type83]; rfl
@[simp ↓] theorem z83 {q : List Value → Prop} : goZ Tryz.prog 83 q = q [Go.Value.nilFunc] := by simp [goZ, zer83, Value.cells]
theorem agg95 : aggT Tryz.prog 95 = some false := by unfold aggT; rw [Tryz.underlying95]; rfl
@[simp] theorem siz95 : szT Tryz.prog 95 = some 1 := by unfold szT; rw [show Tryz.prog.info? 95 = some Tryz.t95 from Tryz.type95]; rfl
@[simp ↓] theorem ty95 {q : Bool → Nat → Prop} : goTy Tryz.prog 95 q = q false 1 := by simp only [goTy, agg95, siz95]
@[simp ↓] theorem sz95 {q : Nat → Prop} : goSz Tryz.prog 95 q = q 1 := by simp only [goSz, siz95]
theorem zer95 : zero? Tryz.prog 95 = some (Go.Value.slice none 0 0) := by unfold zero?; rw [show Tryz.prog.info? 95 = some Tryz.t95 from Tryz.type95]; rfl
@[simp ↓] theorem z95 {q : List Value → Prop} : goZ Tryz.prog 95 q = q [(Go.Value.slice none 0 0)] := by simp [goZ, zer95, Value.cells]
@[simp] theorem und95 : Tryz.prog.underlying 95 = some (Go.TypeDesc.slice 192) := opq Tryz.underlying95
@[simp ↓] theorem un95 {q : TypeDesc → Prop} : goUnd Tryz.prog 95 q = q (Go.TypeDesc.slice 192) := by simp only [goUnd, und95]
theorem slt95 : SlT Tryz.prog 95 192 6 96 := ⟨Tryz.underlying95, ⟨Tryz.t192, _, Tryz.type192, rfl, rfl, rfl, by simp, rfl⟩, by decide⟩
@[simp ↓] theorem sl95 {q : TypeId → Nat → List Value → Prop} : goSl Tryz.prog 95 q = q 192 6 [Go.Value.string { data := #[] }, Go.Value.int Go.IntKind.i64 0, Go.Value.string { data := #[] },
      Go.Value.slice none 0 0, Go.Value.slice none 0 0, Go.Value.bool false] := by simp [goSl, und95, show zero? Tryz.prog 192 = some
  (Go.Value.agg
    #[Go.Value.string { data := #[] }, Go.Value.int Go.IntKind.i64 0, Go.Value.string { data := #[] },
      Go.Value.slice none 0 0, Go.Value.slice none 0 0, Go.Value.bool false]) from by unfold zero?; rw [show Tryz.prog.info? 192 = some Tryz.t192 from Tryz.type192]; rfl, show szT Tryz.prog 192 = some 6 from by unfold szT; rw [show Tryz.prog.info? 192 = some Tryz.t192 from Tryz.type192]; rfl, Value.cells]
theorem agg97 : aggT Tryz.prog 97 = some true := by unfold aggT; rw [Tryz.underlying97]; rfl
@[simp] theorem siz97 : szT Tryz.prog 97 = some 9 := by unfold szT; rw [show Tryz.prog.info? 97 = some Tryz.t97 from Tryz.type97]; rfl
@[simp ↓] theorem ty97 {q : Bool → Nat → Prop} : goTy Tryz.prog 97 q = q true 9 := by simp only [goTy, agg97, siz97]
@[simp ↓] theorem sz97 {q : Nat → Prop} : goSz Tryz.prog 97 q = q 9 := by simp only [goSz, siz97]
theorem zer97 : zero? Tryz.prog 97 = some
  (Go.Value.agg
    #[Go.Value.slice none 0 0, Go.Value.slice none 0 0, Go.Value.slice none 0 0, Go.Value.slice none 0 0,
      Go.Value.slice none 0 0, Go.Value.int Go.IntKind.i64 0, Go.Value.string { data := #[] }, Go.Value.slice none 0 0,
      Go.Value.bool false]) := by unfold zero?; rw [show Tryz.prog.info? 97 = some Tryz.t97 from Tryz.type97]; rfl
@[simp ↓] theorem z97 {q : List Value → Prop} : goZ Tryz.prog 97 q = q [Go.Value.slice none 0 0, Go.Value.slice none 0 0, Go.Value.slice none 0 0, Go.Value.slice none 0 0,
      Go.Value.slice none 0 0, Go.Value.int Go.IntKind.i64 0, Go.Value.string { data := #[] }, Go.Value.slice none 0 0,
      Go.Value.bool false] := by simp [goZ, zer97, Value.cells]
@[simp] theorem und97 : Tryz.prog.underlying 97 = some (Go.TypeDesc.struct
  #[{ name := "sp", type := 44, offset := 0, embedded := false, tag := "", pkgPath := "loop.example/kilndeed/spec",
      byteOffset := 0 },
    { name := "made", type := 95, offset := 2, embedded := false, tag := "", pkgPath := "loop.example/kilndeed/spec",
      byteOffset := 48 },
    { name := "order", type := 24, offset := 3, embedded := false, tag := "", pkgPath := "loop.example/kilndeed/spec",
      byteOffset := 72 },
    { name := "stack", type := 24, offset := 4, embedded := false, tag := "", pkgPath := "loop.example/kilndeed/spec",
      byteOffset := 96 },
    { name := "stop", type := 39, offset := 5, embedded := false, tag := "", pkgPath := "loop.example/kilndeed/spec",
      byteOffset := 120 },
    { name := "dead", type := 4, offset := 8, embedded := false, tag := "", pkgPath := "loop.example/kilndeed/spec",
      byteOffset := 168 }]) := opq Tryz.underlying97
@[simp ↓] theorem fld97_0 {q : Nat → TypeId → Prop} : goFld Tryz.prog 97 0 q = q 0 44 := by simp only [goFld, und97]; rfl
@[simp ↓] theorem fld97_1 {q : Nat → TypeId → Prop} : goFld Tryz.prog 97 1 q = q 2 95 := by simp only [goFld, und97]; rfl
@[simp ↓] theorem fld97_2 {q : Nat → TypeId → Prop} : goFld Tryz.prog 97 2 q = q 3 24 := by simp only [goFld, und97]; rfl
@[simp ↓] theorem fld97_3 {q : Nat → TypeId → Prop} : goFld Tryz.prog 97 3 q = q 4 24 := by simp only [goFld, und97]; rfl
@[simp ↓] theorem fld97_4 {q : Nat → TypeId → Prop} : goFld Tryz.prog 97 4 q = q 5 39 := by simp only [goFld, und97]; rfl
@[simp ↓] theorem fld97_5 {q : Nat → TypeId → Prop} : goFld Tryz.prog 97 5 q = q 8 4 := by simp only [goFld, und97]; rfl
@[simp ↓] theorem bld97 {q : List Value → List (Nat × Nat) → Prop} : goBld Tryz.prog 97 q = q [Go.Value.slice none 0 0, Go.Value.slice none 0 0, Go.Value.slice none 0 0, Go.Value.slice none 0 0,
      Go.Value.slice none 0 0, Go.Value.int Go.IntKind.i64 0, Go.Value.string { data := #[] }, Go.Value.slice none 0 0,
      Go.Value.bool false] [(0, 2), (2, 1), (3, 1), (4, 1), (5, 3), (8, 1)] := by simp [goBld, und97, zer97, placesL, Value.cells]
theorem agg98 : aggT Tryz.prog 98 = some false := by unfold aggT; rw [Tryz.underlying98]; rfl
@[simp] theorem siz98 : szT Tryz.prog 98 = some 1 := by unfold szT; rw [show Tryz.prog.info? 98 = some Tryz.t98 from Tryz.type98]; rfl
@[simp ↓] theorem ty98 {q : Bool → Nat → Prop} : goTy Tryz.prog 98 q = q false 1 := by simp only [goTy, agg98, siz98]
@[simp ↓] theorem sz98 {q : Nat → Prop} : goSz Tryz.prog 98 q = q 1 := by simp only [goSz, siz98]
theorem zer98 : zero? Tryz.prog 98 = some (Go.Value.pointer none) := by unfold zero?; rw [show Tryz.prog.info? 98 = some Tryz.t98 from Tryz.type98]; rfl
@[simp ↓] theorem z98 {q : List Value → Prop} : goZ Tryz.prog 98 q = q [(Go.Value.pointer none)] := by simp [goZ, zer98, Value.cells]
@[simp] theorem und98 : Tryz.prog.underlying 98 = some (Go.TypeDesc.pointer 97) := opq Tryz.underlying98
@[simp ↓] theorem un98 {q : TypeDesc → Prop} : goUnd Tryz.prog 98 q = q (Go.TypeDesc.pointer 97) := by simp only [goUnd, und98]
theorem agg107 : aggT Tryz.prog 107 = some false := by unfold aggT; rw [Tryz.underlying107]; rfl
@[simp] theorem siz107 : szT Tryz.prog 107 = some 1 := by unfold szT; rw [show Tryz.prog.info? 107 = some Tryz.t107 from Tryz.type107]; rfl
@[simp ↓] theorem ty107 {q : Bool → Nat → Prop} : goTy Tryz.prog 107 q = q false 1 := by simp only [goTy, agg107, siz107]
@[simp ↓] theorem sz107 {q : Nat → Prop} : goSz Tryz.prog 107 q = q 1 := by simp only [goSz, siz107]
theorem zer107 : zero? Tryz.prog 107 = some Go.Value.nilFunc := by unfold zero?; rw [show Tryz.prog.info? 107 = some Tryz.t107 from Tryz.type107]; rfl
@[simp ↓] theorem z107 {q : List Value → Prop} : goZ Tryz.prog 107 q = q [Go.Value.nilFunc] := by simp [goZ, zer107, Value.cells]
theorem agg123 : aggT Tryz.prog 123 = some true := by unfold aggT; rw [Tryz.underlying123]; rfl
@[simp] theorem siz123 : szT Tryz.prog 123 = some 4 := by unfold szT; rw [show Tryz.prog.info? 123 = some Tryz.t123 from Tryz.type123]; rfl
@[simp ↓] theorem ty123 {q : Bool → Nat → Prop} : goTy Tryz.prog 123 q = q true 4 := by simp only [goTy, agg123, siz123]
@[simp ↓] theorem sz123 {q : Nat → Prop} : goSz Tryz.prog 123 q = q 4 := by simp only [goSz, siz123]
theorem zer123 : zero? Tryz.prog 123 = some
  (Go.Value.agg
    #[Go.Value.string { data := #[] }, Go.Value.bool false, Go.Value.bool false, Go.Value.int Go.IntKind.i64 0]) := by unfold zero?; rw [show Tryz.prog.info? 123 = some Tryz.t123 from Tryz.type123]; rfl
@[simp ↓] theorem z123 {q : List Value → Prop} : goZ Tryz.prog 123 q = q [Go.Value.string { data := #[] }, Go.Value.bool false, Go.Value.bool false, Go.Value.int Go.IntKind.i64 0] := by simp [goZ, zer123, Value.cells]
@[simp] theorem und123 : Tryz.prog.underlying 123 = some (Go.TypeDesc.struct
  #[{ name := "Name", type := 9, offset := 0, embedded := false, tag := "", pkgPath := "", byteOffset := 0 },
    { name := "Ask", type := 4, offset := 1, embedded := false, tag := "", pkgPath := "", byteOffset := 16 },
    { name := "Has", type := 4, offset := 2, embedded := false, tag := "", pkgPath := "", byteOffset := 17 },
    { name := "At", type := 3, offset := 3, embedded := false, tag := "", pkgPath := "", byteOffset := 24 }]) := opq Tryz.underlying123
@[simp ↓] theorem fld123_0 {q : Nat → TypeId → Prop} : goFld Tryz.prog 123 0 q = q 0 9 := by simp only [goFld, und123]; rfl
@[simp ↓] theorem fld123_1 {q : Nat → TypeId → Prop} : goFld Tryz.prog 123 1 q = q 1 4 := by simp only [goFld, und123]; rfl
@[simp ↓] theorem fld123_2 {q : Nat → TypeId → Prop} : goFld Tryz.prog 123 2 q = q 2 4 := by simp only [goFld, und123]; rfl
@[simp ↓] theorem fld123_3 {q : Nat → TypeId → Prop} : goFld Tryz.prog 123 3 q = q 3 3 := by simp only [goFld, und123]; rfl
@[simp ↓] theorem bld123 {q : List Value → List (Nat × Nat) → Prop} : goBld Tryz.prog 123 q = q [Go.Value.string { data := #[] }, Go.Value.bool false, Go.Value.bool false, Go.Value.int Go.IntKind.i64 0] [(0, 1), (1, 1), (2, 1), (3, 1)] := by simp [goBld, und123, zer123, placesL, Value.cells]
theorem agg126 : aggT Tryz.prog 126 = some false := by unfold aggT; rw [Tryz.underlying126]; rfl
@[simp] theorem siz126 : szT Tryz.prog 126 = some 1 := by unfold szT; rw [show Tryz.prog.info? 126 = some Tryz.t126 from Tryz.type126]; rfl
@[simp ↓] theorem ty126 {q : Bool → Nat → Prop} : goTy Tryz.prog 126 q = q false 1 := by simp only [goTy, agg126, siz126]
@[simp ↓] theorem sz126 {q : Nat → Prop} : goSz Tryz.prog 126 q = q 1 := by simp only [goSz, siz126]
theorem zer126 : zero? Tryz.prog 126 = some Go.Value.nilFunc := by unfold zero?; rw [show Tryz.prog.info? 126 = some Tryz.t126 from Tryz.type126]; rfl
@[simp ↓] theorem z126 {q : List Value → Prop} : goZ Tryz.prog 126 q = q [Go.Value.nilFunc] := by simp [goZ, zer126, Value.cells]
theorem agg127 : aggT Tryz.prog 127 = some false := by unfold aggT; rw [Tryz.underlying127]; rfl
@[simp] theorem siz127 : szT Tryz.prog 127 = some 1 := by unfold szT; rw [show Tryz.prog.info? 127 = some Tryz.t127 from Tryz.type127]; rfl
@[simp ↓] theorem ty127 {q : Bool → Nat → Prop} : goTy Tryz.prog 127 q = q false 1 := by simp only [goTy, agg127, siz127]
@[simp ↓] theorem sz127 {q : Nat → Prop} : goSz Tryz.prog 127 q = q 1 := by simp only [goSz, siz127]
theorem zer127 : zero? Tryz.prog 127 = some (Go.Value.pointer none) := by unfold zero?; rw [show Tryz.prog.info? 127 = some Tryz.t127 from Tryz.type127]; rfl
@[simp ↓] theorem z127 {q : List Value → Prop} : goZ Tryz.prog 127 q = q [(Go.Value.pointer none)] := by simp [goZ, zer127, Value.cells]
@[simp] theorem und127 : Tryz.prog.underlying 127 = some (Go.TypeDesc.pointer 130) := opq Tryz.underlying127
@[simp ↓] theorem un127 {q : TypeDesc → Prop} : goUnd Tryz.prog 127 q = q (Go.TypeDesc.pointer 130) := by simp only [goUnd, und127]
theorem agg128 : aggT Tryz.prog 128 = some false := by unfold aggT; rw [Tryz.underlying128]; rfl
@[simp] theorem siz128 : szT Tryz.prog 128 = some 1 := by unfold szT; rw [show Tryz.prog.info? 128 = some Tryz.t128 from Tryz.type128]; rfl
@[simp ↓] theorem ty128 {q : Bool → Nat → Prop} : goTy Tryz.prog 128 q = q false 1 := by simp only [goTy, agg128, siz128]
@[simp ↓] theorem sz128 {q : Nat → Prop} : goSz Tryz.prog 128 q = q 1 := by simp only [goSz, siz128]
theorem zer128 : zero? Tryz.prog 128 = some (Go.Value.map none) := by unfold zero?; rw [show Tryz.prog.info? 128 = some Tryz.t128 from Tryz.type128]; rfl
@[simp ↓] theorem z128 {q : List Value → Prop} : goZ Tryz.prog 128 q = q [(Go.Value.map none)] := by simp [goZ, zer128, Value.cells]
@[simp] theorem und128 : Tryz.prog.underlying 128 = some (Go.TypeDesc.map 9 3) := opq Tryz.underlying128
@[simp ↓] theorem un128 {q : TypeDesc → Prop} : goUnd Tryz.prog 128 q = q (Go.TypeDesc.map 9 3) := by simp only [goUnd, und128]
theorem agg130 : aggT Tryz.prog 130 = some true := by unfold aggT; rw [Tryz.underlying130]; rfl
@[simp] theorem siz130 : szT Tryz.prog 130 = some 9 := by unfold szT; rw [show Tryz.prog.info? 130 = some Tryz.t130 from Tryz.type130]; rfl
@[simp ↓] theorem ty130 {q : Bool → Nat → Prop} : goTy Tryz.prog 130 q = q true 9 := by simp only [goTy, agg130, siz130]
@[simp ↓] theorem sz130 {q : Nat → Prop} : goSz Tryz.prog 130 q = q 9 := by simp only [goSz, siz130]
theorem zer130 : zero? Tryz.prog 130 = some
  (Go.Value.agg
    #[Go.Value.slice none 0 0, Go.Value.slice none 0 0, Go.Value.slice none 0 0, Go.Value.map none,
      Go.Value.slice none 0 0, Go.Value.int Go.IntKind.i64 0, Go.Value.string { data := #[] }, Go.Value.slice none 0 0,
      Go.Value.bool false]) := by unfold zero?; rw [show Tryz.prog.info? 130 = some Tryz.t130 from Tryz.type130]; rfl
@[simp ↓] theorem z130 {q : List Value → Prop} : goZ Tryz.prog 130 q = q [Go.Value.slice none 0 0, Go.Value.slice none 0 0, Go.Value.slice none 0 0, Go.Value.map none,
      Go.Value.slice none 0 0, Go.Value.int Go.IntKind.i64 0, Go.Value.string { data := #[] }, Go.Value.slice none 0 0,
      Go.Value.bool false] := by simp [goZ, zer130, Value.cells]
@[simp] theorem und130 : Tryz.prog.underlying 130 = some (Go.TypeDesc.struct
  #[{ name := "sp", type := 44, offset := 0, embedded := false, tag := "", pkgPath := "loop.example/kilndeed/impl",
      byteOffset := 0 },
    { name := "deeds", type := 56, offset := 2, embedded := false, tag := "", pkgPath := "loop.example/kilndeed/impl",
      byteOffset := 48 },
    { name := "place", type := 128, offset := 3, embedded := false, tag := "", pkgPath := "loop.example/kilndeed/impl",
      byteOffset := 72 },
    { name := "way", type := 24, offset := 4, embedded := false, tag := "", pkgPath := "loop.example/kilndeed/impl",
      byteOffset := 80 },
    { name := "end", type := 39, offset := 5, embedded := false, tag := "", pkgPath := "loop.example/kilndeed/impl",
      byteOffset := 104 },
    { name := "ended", type := 4, offset := 8, embedded := false, tag := "", pkgPath := "loop.example/kilndeed/impl",
      byteOffset := 152 }]) := opq Tryz.underlying130
@[simp ↓] theorem fld130_0 {q : Nat → TypeId → Prop} : goFld Tryz.prog 130 0 q = q 0 44 := by simp only [goFld, und130]; rfl
@[simp ↓] theorem fld130_1 {q : Nat → TypeId → Prop} : goFld Tryz.prog 130 1 q = q 2 56 := by simp only [goFld, und130]; rfl
@[simp ↓] theorem fld130_2 {q : Nat → TypeId → Prop} : goFld Tryz.prog 130 2 q = q 3 128 := by simp only [goFld, und130]; rfl
@[simp ↓] theorem fld130_3 {q : Nat → TypeId → Prop} : goFld Tryz.prog 130 3 q = q 4 24 := by simp only [goFld, und130]; rfl
@[simp ↓] theorem fld130_4 {q : Nat → TypeId → Prop} : goFld Tryz.prog 130 4 q = q 5 39 := by simp only [goFld, und130]; rfl
@[simp ↓] theorem fld130_5 {q : Nat → TypeId → Prop} : goFld Tryz.prog 130 5 q = q 8 4 := by simp only [goFld, und130]; rfl
@[simp ↓] theorem bld130 {q : List Value → List (Nat × Nat) → Prop} : goBld Tryz.prog 130 q = q [Go.Value.slice none 0 0, Go.Value.slice none 0 0, Go.Value.slice none 0 0, Go.Value.map none,
      Go.Value.slice none 0 0, Go.Value.int Go.IntKind.i64 0, Go.Value.string { data := #[] }, Go.Value.slice none 0 0,
      Go.Value.bool false] [(0, 2), (2, 1), (3, 1), (4, 1), (5, 3), (8, 1)] := by simp [goBld, und130, zer130, placesL, Value.cells]
theorem agg131 : aggT Tryz.prog 131 = some false := by unfold aggT; rw [Tryz.underlying131]; rfl
@[simp] theorem siz131 : szT Tryz.prog 131 = some 1 := by unfold szT; rw [show Tryz.prog.info? 131 = some Tryz.t131 from Tryz.type131]; rfl
@[simp ↓] theorem ty131 {q : Bool → Nat → Prop} : goTy Tryz.prog 131 q = q false 1 := by simp only [goTy, agg131, siz131]
@[simp ↓] theorem sz131 {q : Nat → Prop} : goSz Tryz.prog 131 q = q 1 := by simp only [goSz, siz131]
theorem zer131 : zero? Tryz.prog 131 = some Go.Value.nilFunc := by unfold zero?; rw [show Tryz.prog.info? 131 = some Tryz.t131 from Tryz.type131]; rfl
@[simp ↓] theorem z131 {q : List Value → Prop} : goZ Tryz.prog 131 q = q [Go.Value.nilFunc] := by simp [goZ, zer131, Value.cells]
theorem agg140 : aggT Tryz.prog 140 = some true := by unfold aggT; rw [Tryz.underlying140]; rfl
@[simp] theorem siz140 : szT Tryz.prog 140 = some 3 := by unfold szT; rw [show Tryz.prog.info? 140 = some Tryz.t140 from Tryz.type140]; rfl
@[simp ↓] theorem ty140 {q : Bool → Nat → Prop} : goTy Tryz.prog 140 q = q true 3 := by simp only [goTy, agg140, siz140]
@[simp ↓] theorem sz140 {q : Nat → Prop} : goSz Tryz.prog 140 q = q 3 := by simp only [goSz, siz140]
theorem zer140 : zero? Tryz.prog 140 = some (Go.Value.agg #[Go.Value.int Go.IntKind.i64 0, Go.Value.string { data := #[] }, Go.Value.int Go.IntKind.i64 0]) := by unfold zero?; rw [show Tryz.prog.info? 140 = some Tryz.t140 from Tryz.type140]; rfl
@[simp ↓] theorem z140 {q : List Value → Prop} : goZ Tryz.prog 140 q = q [Go.Value.int Go.IntKind.i64 0, Go.Value.string { data := #[] }, Go.Value.int Go.IntKind.i64 0] := by simp [goZ, zer140, Value.cells]
@[simp] theorem und140 : Tryz.prog.underlying 140 = some (Go.TypeDesc.struct
  #[{ name := "Op", type := 3, offset := 0, embedded := false, tag := "", pkgPath := "", byteOffset := 0 },
    { name := "Text", type := 9, offset := 1, embedded := false, tag := "", pkgPath := "", byteOffset := 8 },
    { name := "N", type := 3, offset := 2, embedded := false, tag := "", pkgPath := "", byteOffset := 24 }]) := opq Tryz.underlying140
@[simp ↓] theorem fld140_0 {q : Nat → TypeId → Prop} : goFld Tryz.prog 140 0 q = q 0 3 := by simp only [goFld, und140]; rfl
@[simp ↓] theorem fld140_1 {q : Nat → TypeId → Prop} : goFld Tryz.prog 140 1 q = q 1 9 := by simp only [goFld, und140]; rfl
@[simp ↓] theorem fld140_2 {q : Nat → TypeId → Prop} : goFld Tryz.prog 140 2 q = q 2 3 := by simp only [goFld, und140]; rfl
@[simp ↓] theorem bld140 {q : List Value → List (Nat × Nat) → Prop} : goBld Tryz.prog 140 q = q [Go.Value.int Go.IntKind.i64 0, Go.Value.string { data := #[] }, Go.Value.int Go.IntKind.i64 0] [(0, 1), (1, 1), (2, 1)] := by simp [goBld, und140, zer140, placesL, Value.cells]
theorem agg152 : aggT Tryz.prog 152 = some false := by unfold aggT; rw [Tryz.underlying152]; rfl
@[simp] theorem siz152 : szT Tryz.prog 152 = some 1 := by unfold szT; rw [show Tryz.prog.info? 152 = some Tryz.t152 from Tryz.type152]; rfl
@[simp ↓] theorem ty152 {q : Bool → Nat → Prop} : goTy Tryz.prog 152 q = q false 1 := by simp only [goTy, agg152, siz152]
@[simp ↓] theorem sz152 {q : Nat → Prop} : goSz Tryz.prog 152 q = q 1 := by simp only [goSz, siz152]
theorem zer152 : zero? Tryz.prog 152 = some (Go.Value.slice none 0 0) := by unfold zero?; rw [show Tryz.prog.info? 152 = some Tryz.t152 from Tryz.type152]; rfl
@[simp ↓] theorem z152 {q : List Value → Prop} : goZ Tryz.prog 152 q = q [(Go.Value.slice none 0 0)] := by simp [goZ, zer152, Value.cells]
@[simp] theorem und152 : Tryz.prog.underlying 152 = some (Go.TypeDesc.slice 5) := opq Tryz.underlying152
@[simp ↓] theorem un152 {q : TypeDesc → Prop} : goUnd Tryz.prog 152 q = q (Go.TypeDesc.slice 5) := by simp only [goUnd, und152]
theorem slt152 : SlT Tryz.prog 152 5 1 1 := ⟨Tryz.underlying152, ⟨Tryz.t5, _, Tryz.type5, rfl, rfl, rfl, by simp, rfl⟩, by decide⟩
@[simp ↓] theorem sl152 {q : TypeId → Nat → List Value → Prop} : goSl Tryz.prog 152 q = q 5 1 [(Go.Value.int Go.IntKind.u8 0)] := by simp [goSl, und152, show zero? Tryz.prog 5 = some (Go.Value.int Go.IntKind.u8 0) from by unfold zero?; rw [show Tryz.prog.info? 5 = some Tryz.t5 from Tryz.type5]; rfl, show szT Tryz.prog 5 = some 1 from by unfold szT; rw [show Tryz.prog.info? 5 = some Tryz.t5 from Tryz.type5]; rfl, Value.cells]
theorem agg155 : aggT Tryz.prog 155 = some true := by unfold aggT; rw [Tryz.underlying155]; rfl
@[simp] theorem siz155 : szT Tryz.prog 155 = some 2 := by unfold szT; rw [show Tryz.prog.info? 155 = some Tryz.t155 from Tryz.type155]; rfl
@[simp ↓] theorem ty155 {q : Bool → Nat → Prop} : goTy Tryz.prog 155 q = q true 2 := by simp only [goTy, agg155, siz155]
@[simp ↓] theorem sz155 {q : Nat → Prop} : goSz Tryz.prog 155 q = q 2 := by simp only [goSz, siz155]
theorem zer155 : zero? Tryz.prog 155 = some (Go.Value.agg #[Go.Value.string { data := #[] }, Go.Value.string { data := #[] }]) := by unfold zero?; rw [show Tryz.prog.info? 155 = some Tryz.t155 from Tryz.type155]; rfl
@[simp ↓] theorem z155 {q : List Value → Prop} : goZ Tryz.prog 155 q = q [Go.Value.string { data := #[] }, Go.Value.string { data := #[] }] := by simp [goZ, zer155, Value.cells]
@[simp] theorem und155 : Tryz.prog.underlying 155 = some (Go.TypeDesc.struct
  #[{ name := "Name", type := 9, offset := 0, embedded := false, tag := "", pkgPath := "", byteOffset := 0 },
    { name := "Text", type := 9, offset := 1, embedded := false, tag := "", pkgPath := "", byteOffset := 16 }]) := opq Tryz.underlying155
@[simp ↓] theorem fld155_0 {q : Nat → TypeId → Prop} : goFld Tryz.prog 155 0 q = q 0 9 := by simp only [goFld, und155]; rfl
@[simp ↓] theorem fld155_1 {q : Nat → TypeId → Prop} : goFld Tryz.prog 155 1 q = q 1 9 := by simp only [goFld, und155]; rfl
@[simp ↓] theorem bld155 {q : List Value → List (Nat × Nat) → Prop} : goBld Tryz.prog 155 q = q [Go.Value.string { data := #[] }, Go.Value.string { data := #[] }] [(0, 1), (1, 1)] := by simp [goBld, und155, zer155, placesL, Value.cells]
theorem agg157 : aggT Tryz.prog 157 = some false := by unfold aggT; rw [Tryz.underlying157]; rfl
@[simp] theorem siz157 : szT Tryz.prog 157 = some 1 := by unfold szT; rw [show Tryz.prog.info? 157 = some Tryz.t157 from Tryz.type157]; rfl
@[simp ↓] theorem ty157 {q : Bool → Nat → Prop} : goTy Tryz.prog 157 q = q false 1 := by simp only [goTy, agg157, siz157]
@[simp ↓] theorem sz157 {q : Nat → Prop} : goSz Tryz.prog 157 q = q 1 := by simp only [goSz, siz157]
theorem zer157 : zero? Tryz.prog 157 = some (Go.Value.slice none 0 0) := by unfold zero?; rw [show Tryz.prog.info? 157 = some Tryz.t157 from Tryz.type157]; rfl
@[simp ↓] theorem z157 {q : List Value → Prop} : goZ Tryz.prog 157 q = q [(Go.Value.slice none 0 0)] := by simp [goZ, zer157, Value.cells]
@[simp] theorem und157 : Tryz.prog.underlying 157 = some (Go.TypeDesc.slice 312) := opq Tryz.underlying157
@[simp ↓] theorem un157 {q : TypeDesc → Prop} : goUnd Tryz.prog 157 q = q (Go.TypeDesc.slice 312) := by simp only [goUnd, und157]
theorem slt157 : SlT Tryz.prog 157 312 3 32 := ⟨Tryz.underlying157, ⟨Tryz.t312, _, Tryz.type312, rfl, rfl, rfl, by simp, rfl⟩, by decide⟩
@[simp ↓] theorem sl157 {q : TypeId → Nat → List Value → Prop} : goSl Tryz.prog 157 q = q 312 3 [Go.Value.int Go.IntKind.i64 0, Go.Value.string { data := #[] }, Go.Value.int Go.IntKind.i64 0] := by simp [goSl, und157, show zero? Tryz.prog 312 = some (Go.Value.agg #[Go.Value.int Go.IntKind.i64 0, Go.Value.string { data := #[] }, Go.Value.int Go.IntKind.i64 0]) from by unfold zero?; rw [show Tryz.prog.info? 312 = some Tryz.t312 from Tryz.type312]; rfl, show szT Tryz.prog 312 = some 3 from by unfold szT; rw [show Tryz.prog.info? 312 = some Tryz.t312 from Tryz.type312]; rfl, Value.cells]
theorem agg159 : aggT Tryz.prog 159 = some true := by unfold aggT; rw [Tryz.underlying159]; rfl
@[simp] theorem siz159 : szT Tryz.prog 159 = some 1 := by unfold szT; rw [show Tryz.prog.info? 159 = some Tryz.t159 from Tryz.type159]; rfl
@[simp ↓] theorem ty159 {q : Bool → Nat → Prop} : goTy Tryz.prog 159 q = q true 1 := by simp only [goTy, agg159, siz159]
@[simp ↓] theorem sz159 {q : Nat → Prop} : goSz Tryz.prog 159 q = q 1 := by simp only [goSz, siz159]
theorem zer159 : zero? Tryz.prog 159 = some (Go.Value.agg #[Go.Value.slice none 0 0]) := by unfold zero?; rw [show Tryz.prog.info? 159 = some Tryz.t159 from Tryz.type159]; rfl
@[simp ↓] theorem z159 {q : List Value → Prop} : goZ Tryz.prog 159 q = q [Go.Value.slice none 0 0] := by simp [goZ, zer159, Value.cells]
@[simp] theorem und159 : Tryz.prog.underlying 159 = some (Go.TypeDesc.struct
  #[{ name := "Code", type := 157, offset := 0, embedded := false, tag := "", pkgPath := "", byteOffset := 0 }]) := opq Tryz.underlying159
@[simp ↓] theorem fld159_0 {q : Nat → TypeId → Prop} : goFld Tryz.prog 159 0 q = q 0 157 := by simp only [goFld, und159]; rfl
@[simp ↓] theorem bld159 {q : List Value → List (Nat × Nat) → Prop} : goBld Tryz.prog 159 q = q [Go.Value.slice none 0 0] [(0, 1)] := by simp [goBld, und159, zer159, placesL, Value.cells]
theorem agg161 : aggT Tryz.prog 161 = some true := by unfold aggT; rw [Tryz.underlying161]; rfl
@[simp] theorem siz161 : szT Tryz.prog 161 = some 2 := by unfold szT; rw [show Tryz.prog.info? 161 = some Tryz.t161 from Tryz.type161]; rfl
@[simp ↓] theorem ty161 {q : Bool → Nat → Prop} : goTy Tryz.prog 161 q = q true 2 := by simp only [goTy, agg161, siz161]
@[simp ↓] theorem sz161 {q : Nat → Prop} : goSz Tryz.prog 161 q = q 2 := by simp only [goSz, siz161]
theorem zer161 : zero? Tryz.prog 161 = some (Go.Value.agg #[Go.Value.string { data := #[] }, Go.Value.slice none 0 0]) := by unfold zero?; rw [show Tryz.prog.info? 161 = some Tryz.t161 from Tryz.type161]; rfl
@[simp ↓] theorem z161 {q : List Value → Prop} : goZ Tryz.prog 161 q = q [Go.Value.string { data := #[] }, Go.Value.slice none 0 0] := by simp [goZ, zer161, Value.cells]
@[simp] theorem und161 : Tryz.prog.underlying 161 = some (Go.TypeDesc.struct
  #[{ name := "Name", type := 9, offset := 0, embedded := false, tag := "", pkgPath := "", byteOffset := 0 },
    { name := "Action", type := 159, offset := 1, embedded := false, tag := "", pkgPath := "", byteOffset := 16 }]) := opq Tryz.underlying161
@[simp ↓] theorem fld161_0 {q : Nat → TypeId → Prop} : goFld Tryz.prog 161 0 q = q 0 9 := by simp only [goFld, und161]; rfl
@[simp ↓] theorem fld161_1 {q : Nat → TypeId → Prop} : goFld Tryz.prog 161 1 q = q 1 159 := by simp only [goFld, und161]; rfl
@[simp ↓] theorem bld161 {q : List Value → List (Nat × Nat) → Prop} : goBld Tryz.prog 161 q = q [Go.Value.string { data := #[] }, Go.Value.slice none 0 0] [(0, 1), (1, 1)] := by simp [goBld, und161, zer161, placesL, Value.cells]
theorem agg162 : aggT Tryz.prog 162 = some true := by unfold aggT; rw [Tryz.underlying162]; rfl
@[simp] theorem siz162 : szT Tryz.prog 162 = some 2 := by unfold szT; rw [show Tryz.prog.info? 162 = some Tryz.t162 from Tryz.type162]; rfl
@[simp ↓] theorem ty162 {q : Bool → Nat → Prop} : goTy Tryz.prog 162 q = q true 2 := by simp only [goTy, agg162, siz162]
@[simp ↓] theorem sz162 {q : Nat → Prop} : goSz Tryz.prog 162 q = q 2 := by simp only [goSz, siz162]
theorem zer162 : zero? Tryz.prog 162 = some (Go.Value.agg #[Go.Value.string { data := #[] }, Go.Value.string { data := #[] }]) := by unfold zero?; rw [show Tryz.prog.info? 162 = some Tryz.t162 from Tryz.type162]; rfl
@[simp ↓] theorem z162 {q : List Value → Prop} : goZ Tryz.prog 162 q = q [Go.Value.string { data := #[] }, Go.Value.string { data := #[] }] := by simp [goZ, zer162, Value.cells]
@[simp] theorem und162 : Tryz.prog.underlying 162 = some (Go.TypeDesc.struct
  #[{ name := "Name", type := 9, offset := 0, embedded := false, tag := "", pkgPath := "", byteOffset := 0 },
    { name := "Text", type := 9, offset := 1, embedded := false, tag := "", pkgPath := "", byteOffset := 16 }]) := opq Tryz.underlying162
@[simp ↓] theorem fld162_0 {q : Nat → TypeId → Prop} : goFld Tryz.prog 162 0 q = q 0 9 := by simp only [goFld, und162]; rfl
@[simp ↓] theorem fld162_1 {q : Nat → TypeId → Prop} : goFld Tryz.prog 162 1 q = q 1 9 := by simp only [goFld, und162]; rfl
@[simp ↓] theorem bld162 {q : List Value → List (Nat × Nat) → Prop} : goBld Tryz.prog 162 q = q [Go.Value.string { data := #[] }, Go.Value.string { data := #[] }] [(0, 1), (1, 1)] := by simp [goBld, und162, zer162, placesL, Value.cells]
theorem agg164 : aggT Tryz.prog 164 = some true := by unfold aggT; rw [Tryz.underlying164]; rfl
@[simp] theorem siz164 : szT Tryz.prog 164 = some 2 := by unfold szT; rw [show Tryz.prog.info? 164 = some Tryz.t164 from Tryz.type164]; rfl
@[simp ↓] theorem ty164 {q : Bool → Nat → Prop} : goTy Tryz.prog 164 q = q true 2 := by simp only [goTy, agg164, siz164]
@[simp ↓] theorem sz164 {q : Nat → Prop} : goSz Tryz.prog 164 q = q 2 := by simp only [goSz, siz164]
theorem zer164 : zero? Tryz.prog 164 = some (Go.Value.agg #[Go.Value.string { data := #[] }, Go.Value.slice none 0 0]) := by unfold zero?; rw [show Tryz.prog.info? 164 = some Tryz.t164 from Tryz.type164]; rfl
@[simp ↓] theorem z164 {q : List Value → Prop} : goZ Tryz.prog 164 q = q [Go.Value.string { data := #[] }, Go.Value.slice none 0 0] := by simp [goZ, zer164, Value.cells]
@[simp] theorem und164 : Tryz.prog.underlying 164 = some (Go.TypeDesc.struct
  #[{ name := "Name", type := 9, offset := 0, embedded := false, tag := "", pkgPath := "", byteOffset := 0 },
    { name := "Action", type := 79, offset := 1, embedded := false, tag := "", pkgPath := "", byteOffset := 16 }]) := opq Tryz.underlying164
@[simp ↓] theorem fld164_0 {q : Nat → TypeId → Prop} : goFld Tryz.prog 164 0 q = q 0 9 := by simp only [goFld, und164]; rfl
@[simp ↓] theorem fld164_1 {q : Nat → TypeId → Prop} : goFld Tryz.prog 164 1 q = q 1 79 := by simp only [goFld, und164]; rfl
@[simp ↓] theorem bld164 {q : List Value → List (Nat × Nat) → Prop} : goBld Tryz.prog 164 q = q [Go.Value.string { data := #[] }, Go.Value.slice none 0 0] [(0, 1), (1, 1)] := by simp [goBld, und164, zer164, placesL, Value.cells]
theorem agg168 : aggT Tryz.prog 168 = some false := by unfold aggT; rw [Tryz.underlying168]; rfl
@[simp] theorem siz168 : szT Tryz.prog 168 = some 1 := by unfold szT; rw [show Tryz.prog.info? 168 = some Tryz.t168 from Tryz.type168]; rfl
@[simp ↓] theorem ty168 {q : Bool → Nat → Prop} : goTy Tryz.prog 168 q = q false 1 := by simp only [goTy, agg168, siz168]
@[simp ↓] theorem sz168 {q : Nat → Prop} : goSz Tryz.prog 168 q = q 1 := by simp only [goSz, siz168]
theorem zer168 : zero? Tryz.prog 168 = some Go.Value.nilFunc := by unfold zero?; rw [show Tryz.prog.info? 168 = some Tryz.t168 from Tryz.type168]; rfl
@[simp ↓] theorem z168 {q : List Value → Prop} : goZ Tryz.prog 168 q = q [Go.Value.nilFunc] := by simp [goZ, zer168, Value.cells]
theorem agg172 : aggT Tryz.prog 172 = some false := by unfold aggT; rw [Tryz.underlying172]; rfl
@[simp] theorem siz172 : szT Tryz.prog 172 = some 1 := by unfold szT; rw [show Tryz.prog.info? 172 = some Tryz.t172 from Tryz.type172]; rfl
@[simp ↓] theorem ty172 {q : Bool → Nat → Prop} : goTy Tryz.prog 172 q = q false 1 := by simp only [goTy, agg172, siz172]
@[simp ↓] theorem sz172 {q : Nat → Prop} : goSz Tryz.prog 172 q = q 1 := by simp only [goSz, siz172]
theorem zer172 : zero? Tryz.prog 172 = some (Go.Value.slice none 0 0) := by unfold zero?; rw [show Tryz.prog.info? 172 = some Tryz.t172 from Tryz.type172]; rfl
@[simp ↓] theorem z172 {q : List Value → Prop} : goZ Tryz.prog 172 q = q [(Go.Value.slice none 0 0)] := by simp [goZ, zer172, Value.cells]
@[simp] theorem und172 : Tryz.prog.underlying 172 = some (Go.TypeDesc.slice 280) := opq Tryz.underlying172
@[simp ↓] theorem un172 {q : TypeDesc → Prop} : goUnd Tryz.prog 172 q = q (Go.TypeDesc.slice 280) := by simp only [goUnd, und172]
theorem slt172 : SlT Tryz.prog 172 280 4 32 := ⟨Tryz.underlying172, ⟨Tryz.t280, _, Tryz.type280, rfl, rfl, rfl, by simp, rfl⟩, by decide⟩
@[simp ↓] theorem sl172 {q : TypeId → Nat → List Value → Prop} : goSl Tryz.prog 172 q = q 280 4 [Go.Value.string { data := #[] }, Go.Value.bool false, Go.Value.bool false, Go.Value.int Go.IntKind.i64 0] := by simp [goSl, und172, show zero? Tryz.prog 280 = some
  (Go.Value.agg
    #[Go.Value.string { data := #[] }, Go.Value.bool false, Go.Value.bool false, Go.Value.int Go.IntKind.i64 0]) from by unfold zero?; rw [show Tryz.prog.info? 280 = some Tryz.t280 from Tryz.type280]; rfl, show szT Tryz.prog 280 = some 4 from by unfold szT; rw [show Tryz.prog.info? 280 = some Tryz.t280 from Tryz.type280]; rfl, Value.cells]
theorem agg174 : aggT Tryz.prog 174 = some true := by unfold aggT; rw [Tryz.underlying174]; rfl
@[simp] theorem siz174 : szT Tryz.prog 174 = some 6 := by unfold szT; rw [show Tryz.prog.info? 174 = some Tryz.t174 from Tryz.type174]; rfl
@[simp ↓] theorem ty174 {q : Bool → Nat → Prop} : goTy Tryz.prog 174 q = q true 6 := by simp only [goTy, agg174, siz174]
@[simp ↓] theorem sz174 {q : Nat → Prop} : goSz Tryz.prog 174 q = q 6 := by simp only [goSz, siz174]
theorem zer174 : zero? Tryz.prog 174 = some
  (Go.Value.agg
    #[Go.Value.string { data := #[] }, Go.Value.int Go.IntKind.i64 0, Go.Value.int Go.IntKind.i64 0,
      Go.Value.string { data := #[] }, Go.Value.slice none 0 0, Go.Value.slice none 0 0]) := by unfold zero?; rw [show Tryz.prog.info? 174 = some Tryz.t174 from Tryz.type174]; rfl
@[simp ↓] theorem z174 {q : List Value → Prop} : goZ Tryz.prog 174 q = q [Go.Value.string { data := #[] }, Go.Value.int Go.IntKind.i64 0, Go.Value.int Go.IntKind.i64 0,
      Go.Value.string { data := #[] }, Go.Value.slice none 0 0, Go.Value.slice none 0 0] := by simp [goZ, zer174, Value.cells]
@[simp] theorem und174 : Tryz.prog.underlying 174 = some (Go.TypeDesc.struct
  #[{ name := "Name", type := 9, offset := 0, embedded := false, tag := "", pkgPath := "", byteOffset := 0 },
    { name := "Kind", type := 3, offset := 1, embedded := false, tag := "", pkgPath := "", byteOffset := 16 },
    { name := "Code", type := 3, offset := 2, embedded := false, tag := "", pkgPath := "", byteOffset := 24 },
    { name := "Text", type := 9, offset := 3, embedded := false, tag := "", pkgPath := "", byteOffset := 32 },
    { name := "Action", type := 159, offset := 4, embedded := false, tag := "", pkgPath := "", byteOffset := 48 },
    { name := "Links", type := 172, offset := 5, embedded := false, tag := "", pkgPath := "", byteOffset := 72 }]) := opq Tryz.underlying174
@[simp ↓] theorem fld174_0 {q : Nat → TypeId → Prop} : goFld Tryz.prog 174 0 q = q 0 9 := by simp only [goFld, und174]; rfl
@[simp ↓] theorem fld174_1 {q : Nat → TypeId → Prop} : goFld Tryz.prog 174 1 q = q 1 3 := by simp only [goFld, und174]; rfl
@[simp ↓] theorem fld174_2 {q : Nat → TypeId → Prop} : goFld Tryz.prog 174 2 q = q 2 3 := by simp only [goFld, und174]; rfl
@[simp ↓] theorem fld174_3 {q : Nat → TypeId → Prop} : goFld Tryz.prog 174 3 q = q 3 9 := by simp only [goFld, und174]; rfl
@[simp ↓] theorem fld174_4 {q : Nat → TypeId → Prop} : goFld Tryz.prog 174 4 q = q 4 159 := by simp only [goFld, und174]; rfl
@[simp ↓] theorem fld174_5 {q : Nat → TypeId → Prop} : goFld Tryz.prog 174 5 q = q 5 172 := by simp only [goFld, und174]; rfl
@[simp ↓] theorem bld174 {q : List Value → List (Nat × Nat) → Prop} : goBld Tryz.prog 174 q = q [Go.Value.string { data := #[] }, Go.Value.int Go.IntKind.i64 0, Go.Value.int Go.IntKind.i64 0,
      Go.Value.string { data := #[] }, Go.Value.slice none 0 0, Go.Value.slice none 0 0] [(0, 1), (1, 1), (2, 1), (3, 1), (4, 1), (5, 1)] := by simp [goBld, und174, zer174, placesL, Value.cells]
theorem agg180 : aggT Tryz.prog 180 = some false := by unfold aggT; rw [Tryz.underlying180]; rfl
@[simp] theorem siz180 : szT Tryz.prog 180 = some 1 := by unfold szT; rw [show Tryz.prog.info? 180 = some Tryz.t180 from Tryz.type180]; rfl
@[simp ↓] theorem ty180 {q : Bool → Nat → Prop} : goTy Tryz.prog 180 q = q false 1 := by simp only [goTy, agg180, siz180]
@[simp ↓] theorem sz180 {q : Nat → Prop} : goSz Tryz.prog 180 q = q 1 := by simp only [goSz, siz180]
theorem zer180 : zero? Tryz.prog 180 = some (Go.Value.slice none 0 0) := by unfold zero?; rw [show Tryz.prog.info? 180 = some Tryz.t180 from Tryz.type180]; rfl
@[simp ↓] theorem z180 {q : List Value → Prop} : goZ Tryz.prog 180 q = q [(Go.Value.slice none 0 0)] := by simp [goZ, zer180, Value.cells]
@[simp] theorem und180 : Tryz.prog.underlying 180 = some (Go.TypeDesc.slice 185) := opq Tryz.underlying180
@[simp ↓] theorem un180 {q : TypeDesc → Prop} : goUnd Tryz.prog 180 q = q (Go.TypeDesc.slice 185) := by simp only [goUnd, und180]
theorem slt180 : SlT Tryz.prog 180 185 3 32 := ⟨Tryz.underlying180, ⟨Tryz.t185, _, Tryz.type185, rfl, rfl, rfl, by simp, rfl⟩, by decide⟩
@[simp ↓] theorem sl180 {q : TypeId → Nat → List Value → Prop} : goSl Tryz.prog 180 q = q 185 3 [Go.Value.bool false, Go.Value.int Go.IntKind.i64 0, Go.Value.string { data := #[] }] := by simp [goSl, und180, show zero? Tryz.prog 185 = some (Go.Value.agg #[Go.Value.bool false, Go.Value.int Go.IntKind.i64 0, Go.Value.string { data := #[] }]) from by unfold zero?; rw [show Tryz.prog.info? 185 = some Tryz.t185 from Tryz.type185]; rfl, show szT Tryz.prog 185 = some 3 from by unfold szT; rw [show Tryz.prog.info? 185 = some Tryz.t185 from Tryz.type185]; rfl, Value.cells]
theorem agg182 : aggT Tryz.prog 182 = some true := by unfold aggT; rw [Tryz.underlying182]; rfl
@[simp] theorem siz182 : szT Tryz.prog 182 = some 6 := by unfold szT; rw [show Tryz.prog.info? 182 = some Tryz.t182 from Tryz.type182]; rfl
@[simp ↓] theorem ty182 {q : Bool → Nat → Prop} : goTy Tryz.prog 182 q = q true 6 := by simp only [goTy, agg182, siz182]
@[simp ↓] theorem sz182 {q : Nat → Prop} : goSz Tryz.prog 182 q = q 6 := by simp only [goSz, siz182]
theorem zer182 : zero? Tryz.prog 182 = some
  (Go.Value.agg
    #[Go.Value.bool false, Go.Value.int Go.IntKind.i64 0, Go.Value.string { data := #[] }, Go.Value.bool false,
      Go.Value.string { data := #[] }, Go.Value.int Go.IntKind.i64 0]) := by unfold zero?; rw [show Tryz.prog.info? 182 = some Tryz.t182 from Tryz.type182]; rfl
@[simp ↓] theorem z182 {q : List Value → Prop} : goZ Tryz.prog 182 q = q [Go.Value.bool false, Go.Value.int Go.IntKind.i64 0, Go.Value.string { data := #[] }, Go.Value.bool false,
      Go.Value.string { data := #[] }, Go.Value.int Go.IntKind.i64 0] := by simp [goZ, zer182, Value.cells]
@[simp] theorem und182 : Tryz.prog.underlying 182 = some (Go.TypeDesc.struct
  #[{ name := "Over", type := 4, offset := 0, embedded := false, tag := "", pkgPath := "", byteOffset := 0 },
    { name := "Code", type := 3, offset := 1, embedded := false, tag := "", pkgPath := "", byteOffset := 8 },
    { name := "Text", type := 9, offset := 2, embedded := false, tag := "", pkgPath := "", byteOffset := 16 },
    { name := "Ask", type := 4, offset := 3, embedded := false, tag := "", pkgPath := "", byteOffset := 32 },
    { name := "Name", type := 9, offset := 4, embedded := false, tag := "", pkgPath := "", byteOffset := 40 },
    { name := "Steps", type := 3, offset := 5, embedded := false, tag := "", pkgPath := "", byteOffset := 56 }]) := opq Tryz.underlying182
@[simp ↓] theorem fld182_0 {q : Nat → TypeId → Prop} : goFld Tryz.prog 182 0 q = q 0 4 := by simp only [goFld, und182]; rfl
@[simp ↓] theorem fld182_1 {q : Nat → TypeId → Prop} : goFld Tryz.prog 182 1 q = q 1 3 := by simp only [goFld, und182]; rfl
@[simp ↓] theorem fld182_2 {q : Nat → TypeId → Prop} : goFld Tryz.prog 182 2 q = q 2 9 := by simp only [goFld, und182]; rfl
@[simp ↓] theorem fld182_3 {q : Nat → TypeId → Prop} : goFld Tryz.prog 182 3 q = q 3 4 := by simp only [goFld, und182]; rfl
@[simp ↓] theorem fld182_4 {q : Nat → TypeId → Prop} : goFld Tryz.prog 182 4 q = q 4 9 := by simp only [goFld, und182]; rfl
@[simp ↓] theorem fld182_5 {q : Nat → TypeId → Prop} : goFld Tryz.prog 182 5 q = q 5 3 := by simp only [goFld, und182]; rfl
@[simp ↓] theorem bld182 {q : List Value → List (Nat × Nat) → Prop} : goBld Tryz.prog 182 q = q [Go.Value.bool false, Go.Value.int Go.IntKind.i64 0, Go.Value.string { data := #[] }, Go.Value.bool false,
      Go.Value.string { data := #[] }, Go.Value.int Go.IntKind.i64 0] [(0, 1), (1, 1), (2, 1), (3, 1), (4, 1), (5, 1)] := by simp [goBld, und182, zer182, placesL, Value.cells]
theorem agg185 : aggT Tryz.prog 185 = some true := by unfold aggT; rw [Tryz.underlying185]; rfl
@[simp] theorem siz185 : szT Tryz.prog 185 = some 3 := by unfold szT; rw [show Tryz.prog.info? 185 = some Tryz.t185 from Tryz.type185]; rfl
@[simp ↓] theorem ty185 {q : Bool → Nat → Prop} : goTy Tryz.prog 185 q = q true 3 := by simp only [goTy, agg185, siz185]
@[simp ↓] theorem sz185 {q : Nat → Prop} : goSz Tryz.prog 185 q = q 3 := by simp only [goSz, siz185]
theorem zer185 : zero? Tryz.prog 185 = some (Go.Value.agg #[Go.Value.bool false, Go.Value.int Go.IntKind.i64 0, Go.Value.string { data := #[] }]) := by unfold zero?; rw [show Tryz.prog.info? 185 = some Tryz.t185 from Tryz.type185]; rfl
@[simp ↓] theorem z185 {q : List Value → Prop} : goZ Tryz.prog 185 q = q [Go.Value.bool false, Go.Value.int Go.IntKind.i64 0, Go.Value.string { data := #[] }] := by simp [goZ, zer185, Value.cells]
@[simp] theorem und185 : Tryz.prog.underlying 185 = some (Go.TypeDesc.struct
  #[{ name := "Has", type := 4, offset := 0, embedded := false, tag := "", pkgPath := "", byteOffset := 0 },
    { name := "Code", type := 3, offset := 1, embedded := false, tag := "", pkgPath := "", byteOffset := 8 },
    { name := "Text", type := 9, offset := 2, embedded := false, tag := "", pkgPath := "", byteOffset := 16 }]) := opq Tryz.underlying185
@[simp ↓] theorem fld185_0 {q : Nat → TypeId → Prop} : goFld Tryz.prog 185 0 q = q 0 4 := by simp only [goFld, und185]; rfl
@[simp ↓] theorem fld185_1 {q : Nat → TypeId → Prop} : goFld Tryz.prog 185 1 q = q 1 3 := by simp only [goFld, und185]; rfl
@[simp ↓] theorem fld185_2 {q : Nat → TypeId → Prop} : goFld Tryz.prog 185 2 q = q 2 9 := by simp only [goFld, und185]; rfl
@[simp ↓] theorem bld185 {q : List Value → List (Nat × Nat) → Prop} : goBld Tryz.prog 185 q = q [Go.Value.bool false, Go.Value.int Go.IntKind.i64 0, Go.Value.string { data := #[] }] [(0, 1), (1, 1), (2, 1)] := by simp [goBld, und185, zer185, placesL, Value.cells]
theorem agg190 : aggT Tryz.prog 190 = some false := by unfold aggT; rw [Tryz.underlying190]; rfl
@[simp] theorem siz190 : szT Tryz.prog 190 = some 1 := by unfold szT; rw [show Tryz.prog.info? 190 = some Tryz.t190 from Tryz.type190]; rfl
@[simp ↓] theorem ty190 {q : Bool → Nat → Prop} : goTy Tryz.prog 190 q = q false 1 := by simp only [goTy, agg190, siz190]
@[simp ↓] theorem sz190 {q : Nat → Prop} : goSz Tryz.prog 190 q = q 1 := by simp only [goSz, siz190]
theorem zer190 : zero? Tryz.prog 190 = some (Go.Value.slice none 0 0) := by unfold zero?; rw [show Tryz.prog.info? 190 = some Tryz.t190 from Tryz.type190]; rfl
@[simp ↓] theorem z190 {q : List Value → Prop} : goZ Tryz.prog 190 q = q [(Go.Value.slice none 0 0)] := by simp [goZ, zer190, Value.cells]
@[simp] theorem und190 : Tryz.prog.underlying 190 = some (Go.TypeDesc.slice 195) := opq Tryz.underlying190
@[simp ↓] theorem un190 {q : TypeDesc → Prop} : goUnd Tryz.prog 190 q = q (Go.TypeDesc.slice 195) := by simp only [goUnd, und190]
theorem slt190 : SlT Tryz.prog 190 195 3 24 := ⟨Tryz.underlying190, ⟨Tryz.t195, _, Tryz.type195, rfl, rfl, rfl, by simp, rfl⟩, by decide⟩
@[simp ↓] theorem sl190 {q : TypeId → Nat → List Value → Prop} : goSl Tryz.prog 190 q = q 195 3 [Go.Value.string { data := #[] }, Go.Value.bool false, Go.Value.bool false] := by simp [goSl, und190, show zero? Tryz.prog 195 = some (Go.Value.agg #[Go.Value.string { data := #[] }, Go.Value.bool false, Go.Value.bool false]) from by unfold zero?; rw [show Tryz.prog.info? 195 = some Tryz.t195 from Tryz.type195]; rfl, show szT Tryz.prog 195 = some 3 from by unfold szT; rw [show Tryz.prog.info? 195 = some Tryz.t195 from Tryz.type195]; rfl, Value.cells]
theorem agg192 : aggT Tryz.prog 192 = some true := by unfold aggT; rw [Tryz.underlying192]; rfl
@[simp] theorem siz192 : szT Tryz.prog 192 = some 6 := by unfold szT; rw [show Tryz.prog.info? 192 = some Tryz.t192 from Tryz.type192]; rfl
@[simp ↓] theorem ty192 {q : Bool → Nat → Prop} : goTy Tryz.prog 192 q = q true 6 := by simp only [goTy, agg192, siz192]
@[simp ↓] theorem sz192 {q : Nat → Prop} : goSz Tryz.prog 192 q = q 6 := by simp only [goSz, siz192]
theorem zer192 : zero? Tryz.prog 192 = some
  (Go.Value.agg
    #[Go.Value.string { data := #[] }, Go.Value.int Go.IntKind.i64 0, Go.Value.string { data := #[] },
      Go.Value.slice none 0 0, Go.Value.slice none 0 0, Go.Value.bool false]) := by unfold zero?; rw [show Tryz.prog.info? 192 = some Tryz.t192 from Tryz.type192]; rfl
@[simp ↓] theorem z192 {q : List Value → Prop} : goZ Tryz.prog 192 q = q [Go.Value.string { data := #[] }, Go.Value.int Go.IntKind.i64 0, Go.Value.string { data := #[] },
      Go.Value.slice none 0 0, Go.Value.slice none 0 0, Go.Value.bool false] := by simp [goZ, zer192, Value.cells]
@[simp] theorem und192 : Tryz.prog.underlying 192 = some (Go.TypeDesc.struct
  #[{ name := "name", type := 9, offset := 0, embedded := false, tag := "", pkgPath := "loop.example/kilndeed/spec",
      byteOffset := 0 },
    { name := "r", type := 39, offset := 1, embedded := false, tag := "", pkgPath := "loop.example/kilndeed/spec",
      byteOffset := 16 },
    { name := "seen", type := 190, offset := 4, embedded := false, tag := "", pkgPath := "loop.example/kilndeed/spec",
      byteOffset := 64 },
    { name := "done", type := 4, offset := 5, embedded := false, tag := "", pkgPath := "loop.example/kilndeed/spec",
      byteOffset := 88 }]) := opq Tryz.underlying192
@[simp ↓] theorem fld192_0 {q : Nat → TypeId → Prop} : goFld Tryz.prog 192 0 q = q 0 9 := by simp only [goFld, und192]; rfl
@[simp ↓] theorem fld192_1 {q : Nat → TypeId → Prop} : goFld Tryz.prog 192 1 q = q 1 39 := by simp only [goFld, und192]; rfl
@[simp ↓] theorem fld192_2 {q : Nat → TypeId → Prop} : goFld Tryz.prog 192 2 q = q 4 190 := by simp only [goFld, und192]; rfl
@[simp ↓] theorem fld192_3 {q : Nat → TypeId → Prop} : goFld Tryz.prog 192 3 q = q 5 4 := by simp only [goFld, und192]; rfl
@[simp ↓] theorem bld192 {q : List Value → List (Nat × Nat) → Prop} : goBld Tryz.prog 192 q = q [Go.Value.string { data := #[] }, Go.Value.int Go.IntKind.i64 0, Go.Value.string { data := #[] },
      Go.Value.slice none 0 0, Go.Value.slice none 0 0, Go.Value.bool false] [(0, 1), (1, 3), (4, 1), (5, 1)] := by simp [goBld, und192, zer192, placesL, Value.cells]
theorem agg195 : aggT Tryz.prog 195 = some true := by unfold aggT; rw [Tryz.underlying195]; rfl
@[simp] theorem siz195 : szT Tryz.prog 195 = some 3 := by unfold szT; rw [show Tryz.prog.info? 195 = some Tryz.t195 from Tryz.type195]; rfl
@[simp ↓] theorem ty195 {q : Bool → Nat → Prop} : goTy Tryz.prog 195 q = q true 3 := by simp only [goTy, agg195, siz195]
@[simp ↓] theorem sz195 {q : Nat → Prop} : goSz Tryz.prog 195 q = q 3 := by simp only [goSz, siz195]
theorem zer195 : zero? Tryz.prog 195 = some (Go.Value.agg #[Go.Value.string { data := #[] }, Go.Value.bool false, Go.Value.bool false]) := by unfold zero?; rw [show Tryz.prog.info? 195 = some Tryz.t195 from Tryz.type195]; rfl
@[simp ↓] theorem z195 {q : List Value → Prop} : goZ Tryz.prog 195 q = q [Go.Value.string { data := #[] }, Go.Value.bool false, Go.Value.bool false] := by simp [goZ, zer195, Value.cells]
@[simp] theorem und195 : Tryz.prog.underlying 195 = some (Go.TypeDesc.struct
  #[{ name := "name", type := 9, offset := 0, embedded := false, tag := "", pkgPath := "loop.example/kilndeed/spec",
      byteOffset := 0 },
    { name := "ask", type := 4, offset := 1, embedded := false, tag := "", pkgPath := "loop.example/kilndeed/spec",
      byteOffset := 16 },
    { name := "has", type := 4, offset := 2, embedded := false, tag := "", pkgPath := "loop.example/kilndeed/spec",
      byteOffset := 17 }]) := opq Tryz.underlying195
@[simp ↓] theorem fld195_0 {q : Nat → TypeId → Prop} : goFld Tryz.prog 195 0 q = q 0 9 := by simp only [goFld, und195]; rfl
@[simp ↓] theorem fld195_1 {q : Nat → TypeId → Prop} : goFld Tryz.prog 195 1 q = q 1 4 := by simp only [goFld, und195]; rfl
@[simp ↓] theorem fld195_2 {q : Nat → TypeId → Prop} : goFld Tryz.prog 195 2 q = q 2 4 := by simp only [goFld, und195]; rfl
@[simp ↓] theorem bld195 {q : List Value → List (Nat × Nat) → Prop} : goBld Tryz.prog 195 q = q [Go.Value.string { data := #[] }, Go.Value.bool false, Go.Value.bool false] [(0, 1), (1, 1), (2, 1)] := by simp [goBld, und195, zer195, placesL, Value.cells]
theorem agg200 : aggT Tryz.prog 200 = some false := by unfold aggT; rw [Tryz.underlying200]; rfl
@[simp] theorem siz200 : szT Tryz.prog 200 = some 1 := by unfold szT; rw [show Tryz.prog.info? 200 = some Tryz.t200 from Tryz.type200]; rfl
@[simp ↓] theorem ty200 {q : Bool → Nat → Prop} : goTy Tryz.prog 200 q = q false 1 := by simp only [goTy, agg200, siz200]
@[simp ↓] theorem sz200 {q : Nat → Prop} : goSz Tryz.prog 200 q = q 1 := by simp only [goSz, siz200]
theorem zer200 : zero? Tryz.prog 200 = some Go.Value.nilFunc := by unfold zero?; rw [show Tryz.prog.info? 200 = some Tryz.t200 from Tryz.type200]; rfl
@[simp ↓] theorem z200 {q : List Value → Prop} : goZ Tryz.prog 200 q = q [Go.Value.nilFunc] := by simp [goZ, zer200, Value.cells]
theorem agg202 : aggT Tryz.prog 202 = some false := by unfold aggT; rw [Tryz.underlying202]; rfl
@[simp] theorem siz202 : szT Tryz.prog 202 = some 1 := by unfold szT; rw [show Tryz.prog.info? 202 = some Tryz.t202 from Tryz.type202]; rfl
@[simp ↓] theorem ty202 {q : Bool → Nat → Prop} : goTy Tryz.prog 202 q = q false 1 := by simp only [goTy, agg202, siz202]
@[simp ↓] theorem sz202 {q : Nat → Prop} : goSz Tryz.prog 202 q = q 1 := by simp only [goSz, siz202]
theorem zer202 : zero? Tryz.prog 202 = some (Go.Value.pointer none) := by unfold zero?; rw [show Tryz.prog.info? 202 = some Tryz.t202 from Tryz.type202]; rfl
@[simp ↓] theorem z202 {q : List Value → Prop} : goZ Tryz.prog 202 q = q [(Go.Value.pointer none)] := by simp [goZ, zer202, Value.cells]
@[simp] theorem und202 : Tryz.prog.underlying 202 = some (Go.TypeDesc.pointer 204) := opq Tryz.underlying202
@[simp ↓] theorem un202 {q : TypeDesc → Prop} : goUnd Tryz.prog 202 q = q (Go.TypeDesc.pointer 204) := by simp only [goUnd, und202]
theorem agg204 : aggT Tryz.prog 204 = some true := by unfold aggT; rw [Tryz.underlying204]; rfl
@[simp] theorem siz204 : szT Tryz.prog 204 = some 11 := by unfold szT; rw [show Tryz.prog.info? 204 = some Tryz.t204 from Tryz.type204]; rfl
@[simp ↓] theorem ty204 {q : Bool → Nat → Prop} : goTy Tryz.prog 204 q = q true 11 := by simp only [goTy, agg204, siz204]
@[simp ↓] theorem sz204 {q : Nat → Prop} : goSz Tryz.prog 204 q = q 11 := by simp only [goSz, siz204]
theorem zer204 : zero? Tryz.prog 204 = some
  (Go.Value.agg
    #[Go.Value.slice none 0 0, Go.Value.slice none 0 0, Go.Value.int Go.IntKind.i64 0, Go.Value.int Go.IntKind.i64 0,
      Go.Value.int Go.IntKind.i64 0, Go.Value.bool false, Go.Value.int Go.IntKind.i64 0,
      Go.Value.string { data := #[] }, Go.Value.bool false, Go.Value.string { data := #[] },
      Go.Value.int Go.IntKind.i64 0]) := by unfold zero?; rw [show Tryz.prog.info? 204 = some Tryz.t204 from Tryz.type204]; rfl
@[simp ↓] theorem z204 {q : List Value → Prop} : goZ Tryz.prog 204 q = q [Go.Value.slice none 0 0, Go.Value.slice none 0 0, Go.Value.int Go.IntKind.i64 0, Go.Value.int Go.IntKind.i64 0,
      Go.Value.int Go.IntKind.i64 0, Go.Value.bool false, Go.Value.int Go.IntKind.i64 0,
      Go.Value.string { data := #[] }, Go.Value.bool false, Go.Value.string { data := #[] },
      Go.Value.int Go.IntKind.i64 0] := by simp [goZ, zer204, Value.cells]
@[simp] theorem und204 : Tryz.prog.underlying 204 = some (Go.TypeDesc.struct
  #[{ name := "code", type := 77, offset := 0, embedded := false, tag := "", pkgPath := "loop.example/kilndeed/impl",
      byteOffset := 0 },
    { name := "stack", type := 24, offset := 1, embedded := false, tag := "", pkgPath := "loop.example/kilndeed/impl",
      byteOffset := 24 },
    { name := "at", type := 3, offset := 2, embedded := false, tag := "", pkgPath := "loop.example/kilndeed/impl",
      byteOffset := 48 },
    { name := "steps", type := 3, offset := 3, embedded := false, tag := "", pkgPath := "loop.example/kilndeed/impl",
      byteOffset := 56 },
    { name := "looks", type := 3, offset := 4, embedded := false, tag := "", pkgPath := "loop.example/kilndeed/impl",
      byteOffset := 64 },
    { name := "turn", type := 182, offset := 5, embedded := false, tag := "", pkgPath := "loop.example/kilndeed/impl",
      byteOffset := 72 }]) := opq Tryz.underlying204
@[simp ↓] theorem fld204_0 {q : Nat → TypeId → Prop} : goFld Tryz.prog 204 0 q = q 0 77 := by simp only [goFld, und204]; rfl
@[simp ↓] theorem fld204_1 {q : Nat → TypeId → Prop} : goFld Tryz.prog 204 1 q = q 1 24 := by simp only [goFld, und204]; rfl
@[simp ↓] theorem fld204_2 {q : Nat → TypeId → Prop} : goFld Tryz.prog 204 2 q = q 2 3 := by simp only [goFld, und204]; rfl
@[simp ↓] theorem fld204_3 {q : Nat → TypeId → Prop} : goFld Tryz.prog 204 3 q = q 3 3 := by simp only [goFld, und204]; rfl
@[simp ↓] theorem fld204_4 {q : Nat → TypeId → Prop} : goFld Tryz.prog 204 4 q = q 4 3 := by simp only [goFld, und204]; rfl
@[simp ↓] theorem fld204_5 {q : Nat → TypeId → Prop} : goFld Tryz.prog 204 5 q = q 5 182 := by simp only [goFld, und204]; rfl
@[simp ↓] theorem bld204 {q : List Value → List (Nat × Nat) → Prop} : goBld Tryz.prog 204 q = q [Go.Value.slice none 0 0, Go.Value.slice none 0 0, Go.Value.int Go.IntKind.i64 0, Go.Value.int Go.IntKind.i64 0,
      Go.Value.int Go.IntKind.i64 0, Go.Value.bool false, Go.Value.int Go.IntKind.i64 0,
      Go.Value.string { data := #[] }, Go.Value.bool false, Go.Value.string { data := #[] },
      Go.Value.int Go.IntKind.i64 0] [(0, 1), (1, 1), (2, 1), (3, 1), (4, 1), (5, 6)] := by simp [goBld, und204, zer204, placesL, Value.cells]
theorem agg210 : aggT Tryz.prog 210 = some false := by unfold aggT; rw [Tryz.underlying210]; rfl
@[simp] theorem siz210 : szT Tryz.prog 210 = some 1 := by unfold szT; rw [show Tryz.prog.info? 210 = some Tryz.t210 from Tryz.type210]; rfl
@[simp ↓] theorem ty210 {q : Bool → Nat → Prop} : goTy Tryz.prog 210 q = q false 1 := by simp only [goTy, agg210, siz210]
@[simp ↓] theorem sz210 {q : Nat → Prop} : goSz Tryz.prog 210 q = q 1 := by simp only [goSz, siz210]
theorem zer210 : zero? Tryz.prog 210 = some Go.Value.nilFunc := by unfold zero?; rw [show Tryz.prog.info? 210 = some Tryz.t210 from Tryz.type210]; rfl
@[simp ↓] theorem z210 {q : List Value → Prop} : goZ Tryz.prog 210 q = q [Go.Value.nilFunc] := by simp [goZ, zer210, Value.cells]
theorem agg217 : aggT Tryz.prog 217 = some false := by unfold aggT; rw [Tryz.underlying217]; rfl
@[simp] theorem siz217 : szT Tryz.prog 217 = some 1 := by unfold szT; rw [show Tryz.prog.info? 217 = some Tryz.t217 from Tryz.type217]; rfl
@[simp ↓] theorem ty217 {q : Bool → Nat → Prop} : goTy Tryz.prog 217 q = q false 1 := by simp only [goTy, agg217, siz217]
@[simp ↓] theorem sz217 {q : Nat → Prop} : goSz Tryz.prog 217 q = q 1 := by simp only [goSz, siz217]
theorem zer217 : zero? Tryz.prog 217 = some (Go.Value.int Go.IntKind.u64 0) := by unfold zero?; rw [show Tryz.prog.info? 217 = some Tryz.t217 from Tryz.type217]; rfl
@[simp ↓] theorem z217 {q : List Value → Prop} : goZ Tryz.prog 217 q = q [(Go.Value.int Go.IntKind.u64 0)] := by simp [goZ, zer217, Value.cells]
@[simp] theorem und217 : Tryz.prog.underlying 217 = some (Go.TypeDesc.int Go.IntKind.u64) := opq Tryz.underlying217
@[simp ↓] theorem un217 {q : TypeDesc → Prop} : goUnd Tryz.prog 217 q = q (Go.TypeDesc.int Go.IntKind.u64) := by simp only [goUnd, und217]
theorem agg237 : aggT Tryz.prog 237 = some false := by unfold aggT; rw [Tryz.underlying237]; rfl
@[simp] theorem siz237 : szT Tryz.prog 237 = some 1 := by unfold szT; rw [show Tryz.prog.info? 237 = some Tryz.t237 from Tryz.type237]; rfl
@[simp ↓] theorem ty237 {q : Bool → Nat → Prop} : goTy Tryz.prog 237 q = q false 1 := by simp only [goTy, agg237, siz237]
@[simp ↓] theorem sz237 {q : Nat → Prop} : goSz Tryz.prog 237 q = q 1 := by simp only [goSz, siz237]
theorem zer237 : zero? Tryz.prog 237 = some (Go.Value.int Go.IntKind.u64 0) := by unfold zero?; rw [show Tryz.prog.info? 237 = some Tryz.t237 from Tryz.type237]; rfl
@[simp ↓] theorem z237 {q : List Value → Prop} : goZ Tryz.prog 237 q = q [(Go.Value.int Go.IntKind.u64 0)] := by simp [goZ, zer237, Value.cells]
@[simp] theorem und237 : Tryz.prog.underlying 237 = some (Go.TypeDesc.int Go.IntKind.u64) := opq Tryz.underlying237
@[simp ↓] theorem un237 {q : TypeDesc → Prop} : goUnd Tryz.prog 237 q = q (Go.TypeDesc.int Go.IntKind.u64) := by simp only [goUnd, und237]
theorem agg242 : aggT Tryz.prog 242 = some false := by unfold aggT; rw [Tryz.underlying242]; rfl
@[simp] theorem siz242 : szT Tryz.prog 242 = some 1 := by unfold szT; rw [show Tryz.prog.info? 242 = some Tryz.t242 from Tryz.type242]; rfl
@[simp ↓] theorem ty242 {q : Bool → Nat → Prop} : goTy Tryz.prog 242 q = q false 1 := by simp only [goTy, agg242, siz242]
@[simp ↓] theorem sz242 {q : Nat → Prop} : goSz Tryz.prog 242 q = q 1 := by simp only [goSz, siz242]
theorem zer242 : zero? Tryz.prog 242 = some Go.Value.nilFunc := by unfold zero?; rw [show Tryz.prog.info? 242 = some Tryz.t242 from Tryz.type242]; rfl
@[simp ↓] theorem z242 {q : List Value → Prop} : goZ Tryz.prog 242 q = q [Go.Value.nilFunc] := by simp [goZ, zer242, Value.cells]
theorem agg247 : aggT Tryz.prog 247 = some true := by unfold aggT; rw [Tryz.underlying247]; rfl
@[simp] theorem siz247 : szT Tryz.prog 247 = some 10 := by unfold szT; rw [show Tryz.prog.info? 247 = some Tryz.t247 from Tryz.type247]; rfl
@[simp ↓] theorem ty247 {q : Bool → Nat → Prop} : goTy Tryz.prog 247 q = q true 10 := by simp only [goTy, agg247, siz247]
@[simp ↓] theorem sz247 {q : Nat → Prop} : goSz Tryz.prog 247 q = q 10 := by simp only [goSz, siz247]
theorem zer247 : zero? Tryz.prog 247 = some
  (Go.Value.agg
    #[Go.Value.int Go.IntKind.i64 0, Go.Value.slice none 0 0, Go.Value.int Go.IntKind.i64 0,
      Go.Value.int Go.IntKind.i64 0, Go.Value.bool false, Go.Value.int Go.IntKind.i64 0,
      Go.Value.string { data := #[] }, Go.Value.bool false, Go.Value.string { data := #[] }, Go.Value.bool false]) := by unfold zero?; rw [show Tryz.prog.info? 247 = some Tryz.t247 from Tryz.type247]; rfl
@[simp ↓] theorem z247 {q : List Value → Prop} : goZ Tryz.prog 247 q = q [Go.Value.int Go.IntKind.i64 0, Go.Value.slice none 0 0, Go.Value.int Go.IntKind.i64 0,
      Go.Value.int Go.IntKind.i64 0, Go.Value.bool false, Go.Value.int Go.IntKind.i64 0,
      Go.Value.string { data := #[] }, Go.Value.bool false, Go.Value.string { data := #[] }, Go.Value.bool false] := by simp [goZ, zer247, Value.cells]
@[simp] theorem und247 : Tryz.prog.underlying 247 = some (Go.TypeDesc.struct
  #[{ name := "at", type := 3, offset := 0, embedded := false, tag := "", pkgPath := "loop.example/kilndeed/spec",
      byteOffset := 0 },
    { name := "stack", type := 24, offset := 1, embedded := false, tag := "", pkgPath := "loop.example/kilndeed/spec",
      byteOffset := 8 },
    { name := "steps", type := 3, offset := 2, embedded := false, tag := "", pkgPath := "loop.example/kilndeed/spec",
      byteOffset := 32 },
    { name := "looks", type := 3, offset := 3, embedded := false, tag := "", pkgPath := "loop.example/kilndeed/spec",
      byteOffset := 40 },
    { name := "over", type := 4, offset := 4, embedded := false, tag := "", pkgPath := "loop.example/kilndeed/spec",
      byteOffset := 48 },
    { name := "code", type := 3, offset := 5, embedded := false, tag := "", pkgPath := "loop.example/kilndeed/spec",
      byteOffset := 56 },
    { name := "text", type := 9, offset := 6, embedded := false, tag := "", pkgPath := "loop.example/kilndeed/spec",
      byteOffset := 64 },
    { name := "ask", type := 4, offset := 7, embedded := false, tag := "", pkgPath := "loop.example/kilndeed/spec",
      byteOffset := 80 },
    { name := "name", type := 9, offset := 8, embedded := false, tag := "", pkgPath := "loop.example/kilndeed/spec",
      byteOffset := 88 },
    { name := "wait", type := 4, offset := 9, embedded := false, tag := "", pkgPath := "loop.example/kilndeed/spec",
      byteOffset := 104 }]) := opq Tryz.underlying247
@[simp ↓] theorem fld247_0 {q : Nat → TypeId → Prop} : goFld Tryz.prog 247 0 q = q 0 3 := by simp only [goFld, und247]; rfl
@[simp ↓] theorem fld247_1 {q : Nat → TypeId → Prop} : goFld Tryz.prog 247 1 q = q 1 24 := by simp only [goFld, und247]; rfl
@[simp ↓] theorem fld247_2 {q : Nat → TypeId → Prop} : goFld Tryz.prog 247 2 q = q 2 3 := by simp only [goFld, und247]; rfl
@[simp ↓] theorem fld247_3 {q : Nat → TypeId → Prop} : goFld Tryz.prog 247 3 q = q 3 3 := by simp only [goFld, und247]; rfl
@[simp ↓] theorem fld247_4 {q : Nat → TypeId → Prop} : goFld Tryz.prog 247 4 q = q 4 4 := by simp only [goFld, und247]; rfl
@[simp ↓] theorem fld247_5 {q : Nat → TypeId → Prop} : goFld Tryz.prog 247 5 q = q 5 3 := by simp only [goFld, und247]; rfl
@[simp ↓] theorem fld247_6 {q : Nat → TypeId → Prop} : goFld Tryz.prog 247 6 q = q 6 9 := by simp only [goFld, und247]; rfl
@[simp ↓] theorem fld247_7 {q : Nat → TypeId → Prop} : goFld Tryz.prog 247 7 q = q 7 4 := by simp only [goFld, und247]; rfl
@[simp ↓] theorem fld247_8 {q : Nat → TypeId → Prop} : goFld Tryz.prog 247 8 q = q 8 9 := by simp only [goFld, und247]; rfl
@[simp ↓] theorem fld247_9 {q : Nat → TypeId → Prop} : goFld Tryz.prog 247 9 q = q 9 4 := by simp only [goFld, und247]; rfl
@[simp ↓] theorem bld247 {q : List Value → List (Nat × Nat) → Prop} : goBld Tryz.prog 247 q = q [Go.Value.int Go.IntKind.i64 0, Go.Value.slice none 0 0, Go.Value.int Go.IntKind.i64 0,
      Go.Value.int Go.IntKind.i64 0, Go.Value.bool false, Go.Value.int Go.IntKind.i64 0,
      Go.Value.string { data := #[] }, Go.Value.bool false, Go.Value.string { data := #[] }, Go.Value.bool false] [(0, 1), (1, 1), (2, 1), (3, 1), (4, 1), (5, 1), (6, 1), (7, 1), (8, 1), (9, 1)] := by simp [goBld, und247, zer247, placesL, Value.cells]
theorem agg251 : aggT Tryz.prog 251 = some false := by unfold aggT; rw [Tryz.underlying251]; rfl
@[simp] theorem siz251 : szT Tryz.prog 251 = some 1 := by unfold szT; rw [show Tryz.prog.info? 251 = some Tryz.t251 from Tryz.type251]; rfl
@[simp ↓] theorem ty251 {q : Bool → Nat → Prop} : goTy Tryz.prog 251 q = q false 1 := by simp only [goTy, agg251, siz251]
@[simp ↓] theorem sz251 {q : Nat → Prop} : goSz Tryz.prog 251 q = q 1 := by simp only [goSz, siz251]
theorem zer251 : zero? Tryz.prog 251 = some Go.Value.nilFunc := by unfold zero?; rw [show Tryz.prog.info? 251 = some Tryz.t251 from Tryz.type251]; rfl
@[simp ↓] theorem z251 {q : List Value → Prop} : goZ Tryz.prog 251 q = q [Go.Value.nilFunc] := by simp [goZ, zer251, Value.cells]
theorem agg254 : aggT Tryz.prog 254 = some false := by unfold aggT; rw [Tryz.underlying254]; rfl
@[simp] theorem siz254 : szT Tryz.prog 254 = some 1 := by unfold szT; rw [show Tryz.prog.info? 254 = some Tryz.t254 from Tryz.type254]; rfl
@[simp ↓] theorem ty254 {q : Bool → Nat → Prop} : goTy Tryz.prog 254 q = q false 1 := by simp only [goTy, agg254, siz254]
@[simp ↓] theorem sz254 {q : Nat → Prop} : goSz Tryz.prog 254 q = q 1 := by simp only [goSz, siz254]
theorem zer254 : zero? Tryz.prog 254 = some Go.Value.nilFunc := by unfold zero?; rw [show Tryz.prog.info? 254 = some Tryz.t254 from Tryz.type254]; rfl
@[simp ↓] theorem z254 {q : List Value → Prop} : goZ Tryz.prog 254 q = q [Go.Value.nilFunc] := by simp [goZ, zer254, Value.cells]
theorem agg263 : aggT Tryz.prog 263 = some false := by unfold aggT; rw [Tryz.underlying263]; rfl
@[simp] theorem siz263 : szT Tryz.prog 263 = some 1 := by unfold szT; rw [show Tryz.prog.info? 263 = some Tryz.t263 from Tryz.type263]; rfl
@[simp ↓] theorem ty263 {q : Bool → Nat → Prop} : goTy Tryz.prog 263 q = q false 1 := by simp only [goTy, agg263, siz263]
@[simp ↓] theorem sz263 {q : Nat → Prop} : goSz Tryz.prog 263 q = q 1 := by simp only [goSz, siz263]
theorem zer263 : zero? Tryz.prog 263 = some (Go.Value.pointer none) := by unfold zero?; rw [show Tryz.prog.info? 263 = some Tryz.t263 from Tryz.type263]; rfl
@[simp ↓] theorem z263 {q : List Value → Prop} : goZ Tryz.prog 263 q = q [(Go.Value.pointer none)] := by simp [goZ, zer263, Value.cells]
@[simp] theorem und263 : Tryz.prog.underlying 263 = some (Go.TypeDesc.pointer 5) := opq Tryz.underlying263
@[simp ↓] theorem un263 {q : TypeDesc → Prop} : goUnd Tryz.prog 263 q = q (Go.TypeDesc.pointer 5) := by simp only [goUnd, und263]
theorem agg273 : aggT Tryz.prog 273 = some false := by unfold aggT; rw [Tryz.underlying273]; rfl
@[simp] theorem siz273 : szT Tryz.prog 273 = some 1 := by unfold szT; rw [show Tryz.prog.info? 273 = some Tryz.t273 from Tryz.type273]; rfl
@[simp ↓] theorem ty273 {q : Bool → Nat → Prop} : goTy Tryz.prog 273 q = q false 1 := by simp only [goTy, agg273, siz273]
@[simp ↓] theorem sz273 {q : Nat → Prop} : goSz Tryz.prog 273 q = q 1 := by simp only [goSz, siz273]
theorem zer273 : zero? Tryz.prog 273 = some Go.Value.nilFunc := by unfold zero?; rw [show Tryz.prog.info? 273 = some Tryz.t273 from Tryz.type273]; rfl
@[simp ↓] theorem z273 {q : List Value → Prop} : goZ Tryz.prog 273 q = q [Go.Value.nilFunc] := by simp [goZ, zer273, Value.cells]
theorem agg275 : aggT Tryz.prog 275 = some false := by unfold aggT; rw [Tryz.underlying275]; rfl
@[simp] theorem siz275 : szT Tryz.prog 275 = some 1 := by unfold szT; rw [show Tryz.prog.info? 275 = some Tryz.t275 from Tryz.type275]; rfl
@[simp ↓] theorem ty275 {q : Bool → Nat → Prop} : goTy Tryz.prog 275 q = q false 1 := by simp only [goTy, agg275, siz275]
@[simp ↓] theorem sz275 {q : Nat → Prop} : goSz Tryz.prog 275 q = q 1 := by simp only [goSz, siz275]
theorem zer275 : zero? Tryz.prog 275 = some (Go.Value.int Go.IntKind.u32 0) := by unfold zero?; rw [show Tryz.prog.info? 275 = some Tryz.t275 from Tryz.type275]; rfl
@[simp ↓] theorem z275 {q : List Value → Prop} : goZ Tryz.prog 275 q = q [(Go.Value.int Go.IntKind.u32 0)] := by simp [goZ, zer275, Value.cells]
@[simp] theorem und275 : Tryz.prog.underlying 275 = some (Go.TypeDesc.int Go.IntKind.u32) := opq Tryz.underlying275
@[simp ↓] theorem un275 {q : TypeDesc → Prop} : goUnd Tryz.prog 275 q = q (Go.TypeDesc.int Go.IntKind.u32) := by simp only [goUnd, und275]
theorem agg280 : aggT Tryz.prog 280 = some true := by unfold aggT; rw [Tryz.underlying280]; rfl
@[simp] theorem siz280 : szT Tryz.prog 280 = some 4 := by unfold szT; rw [show Tryz.prog.info? 280 = some Tryz.t280 from Tryz.type280]; rfl
@[simp ↓] theorem ty280 {q : Bool → Nat → Prop} : goTy Tryz.prog 280 q = q true 4 := by simp only [goTy, agg280, siz280]
@[simp ↓] theorem sz280 {q : Nat → Prop} : goSz Tryz.prog 280 q = q 4 := by simp only [goSz, siz280]
theorem zer280 : zero? Tryz.prog 280 = some
  (Go.Value.agg
    #[Go.Value.string { data := #[] }, Go.Value.bool false, Go.Value.bool false, Go.Value.int Go.IntKind.i64 0]) := by unfold zero?; rw [show Tryz.prog.info? 280 = some Tryz.t280 from Tryz.type280]; rfl
@[simp ↓] theorem z280 {q : List Value → Prop} : goZ Tryz.prog 280 q = q [Go.Value.string { data := #[] }, Go.Value.bool false, Go.Value.bool false, Go.Value.int Go.IntKind.i64 0] := by simp [goZ, zer280, Value.cells]
@[simp] theorem und280 : Tryz.prog.underlying 280 = some (Go.TypeDesc.struct
  #[{ name := "Name", type := 9, offset := 0, embedded := false, tag := "", pkgPath := "", byteOffset := 0 },
    { name := "Ask", type := 4, offset := 1, embedded := false, tag := "", pkgPath := "", byteOffset := 16 },
    { name := "Has", type := 4, offset := 2, embedded := false, tag := "", pkgPath := "", byteOffset := 17 },
    { name := "At", type := 3, offset := 3, embedded := false, tag := "", pkgPath := "", byteOffset := 24 }]) := opq Tryz.underlying280
@[simp ↓] theorem fld280_0 {q : Nat → TypeId → Prop} : goFld Tryz.prog 280 0 q = q 0 9 := by simp only [goFld, und280]; rfl
@[simp ↓] theorem fld280_1 {q : Nat → TypeId → Prop} : goFld Tryz.prog 280 1 q = q 1 4 := by simp only [goFld, und280]; rfl
@[simp ↓] theorem fld280_2 {q : Nat → TypeId → Prop} : goFld Tryz.prog 280 2 q = q 2 4 := by simp only [goFld, und280]; rfl
@[simp ↓] theorem fld280_3 {q : Nat → TypeId → Prop} : goFld Tryz.prog 280 3 q = q 3 3 := by simp only [goFld, und280]; rfl
@[simp ↓] theorem bld280 {q : List Value → List (Nat × Nat) → Prop} : goBld Tryz.prog 280 q = q [Go.Value.string { data := #[] }, Go.Value.bool false, Go.Value.bool false, Go.Value.int Go.IntKind.i64 0] [(0, 1), (1, 1), (2, 1), (3, 1)] := by simp [goBld, und280, zer280, placesL, Value.cells]
theorem agg312 : aggT Tryz.prog 312 = some true := by unfold aggT; rw [Tryz.underlying312]; rfl
@[simp] theorem siz312 : szT Tryz.prog 312 = some 3 := by unfold szT; rw [show Tryz.prog.info? 312 = some Tryz.t312 from Tryz.type312]; rfl
@[simp ↓] theorem ty312 {q : Bool → Nat → Prop} : goTy Tryz.prog 312 q = q true 3 := by simp only [goTy, agg312, siz312]
@[simp ↓] theorem sz312 {q : Nat → Prop} : goSz Tryz.prog 312 q = q 3 := by simp only [goSz, siz312]
theorem zer312 : zero? Tryz.prog 312 = some (Go.Value.agg #[Go.Value.int Go.IntKind.i64 0, Go.Value.string { data := #[] }, Go.Value.int Go.IntKind.i64 0]) := by unfold zero?; rw [show Tryz.prog.info? 312 = some Tryz.t312 from Tryz.type312]; rfl
@[simp ↓] theorem z312 {q : List Value → Prop} : goZ Tryz.prog 312 q = q [Go.Value.int Go.IntKind.i64 0, Go.Value.string { data := #[] }, Go.Value.int Go.IntKind.i64 0] := by simp [goZ, zer312, Value.cells]
@[simp] theorem und312 : Tryz.prog.underlying 312 = some (Go.TypeDesc.struct
  #[{ name := "Op", type := 3, offset := 0, embedded := false, tag := "", pkgPath := "", byteOffset := 0 },
    { name := "Text", type := 9, offset := 1, embedded := false, tag := "", pkgPath := "", byteOffset := 8 },
    { name := "N", type := 3, offset := 2, embedded := false, tag := "", pkgPath := "", byteOffset := 24 }]) := opq Tryz.underlying312
@[simp ↓] theorem fld312_0 {q : Nat → TypeId → Prop} : goFld Tryz.prog 312 0 q = q 0 3 := by simp only [goFld, und312]; rfl
@[simp ↓] theorem fld312_1 {q : Nat → TypeId → Prop} : goFld Tryz.prog 312 1 q = q 1 9 := by simp only [goFld, und312]; rfl
@[simp ↓] theorem fld312_2 {q : Nat → TypeId → Prop} : goFld Tryz.prog 312 2 q = q 2 3 := by simp only [goFld, und312]; rfl
@[simp ↓] theorem bld312 {q : List Value → List (Nat × Nat) → Prop} : goBld Tryz.prog 312 q = q [Go.Value.int Go.IntKind.i64 0, Go.Value.string { data := #[] }, Go.Value.int Go.IntKind.i64 0] [(0, 1), (1, 1), (2, 1)] := by simp [goBld, und312, zer312, placesL, Value.cells]
theorem agg323 : aggT Tryz.prog 323 = some true := by unfold aggT; rw [Tryz.underlying323]; rfl
@[simp] theorem siz323 : szT Tryz.prog 323 = some 20 := by unfold szT; rw [show Tryz.prog.info? 323 = some Tryz.t323 from Tryz.type323]; rfl
@[simp ↓] theorem ty323 {q : Bool → Nat → Prop} : goTy Tryz.prog 323 q = q true 20 := by simp only [goTy, agg323, siz323]
@[simp ↓] theorem sz323 {q : Nat → Prop} : goSz Tryz.prog 323 q = q 20 := by simp only [goSz, siz323]
theorem zer323 : zero? Tryz.prog 323 = some
  (Go.Value.agg
    #[Go.Value.int Go.IntKind.u64 0, Go.Value.int Go.IntKind.u64 0, Go.Value.int Go.IntKind.u64 0,
      Go.Value.int Go.IntKind.u64 0, Go.Value.int Go.IntKind.u64 0, Go.Value.int Go.IntKind.u64 0,
      Go.Value.int Go.IntKind.u64 0, Go.Value.int Go.IntKind.u64 0, Go.Value.int Go.IntKind.u64 0,
      Go.Value.int Go.IntKind.u64 0, Go.Value.int Go.IntKind.u64 0, Go.Value.int Go.IntKind.u64 0,
      Go.Value.int Go.IntKind.u64 0, Go.Value.int Go.IntKind.u64 0, Go.Value.int Go.IntKind.u64 0,
      Go.Value.int Go.IntKind.u64 0, Go.Value.int Go.IntKind.u64 0, Go.Value.int Go.IntKind.u64 0,
      Go.Value.int Go.IntKind.u64 0, Go.Value.int Go.IntKind.u64 0]) := by unfold zero?; rw [show Tryz.prog.info? 323 = some Tryz.t323 from Tryz.type323]; rfl
@[simp ↓] theorem z323 {q : List Value → Prop} : goZ Tryz.prog 323 q = q [Go.Value.int Go.IntKind.u64 0, Go.Value.int Go.IntKind.u64 0, Go.Value.int Go.IntKind.u64 0,
      Go.Value.int Go.IntKind.u64 0, Go.Value.int Go.IntKind.u64 0, Go.Value.int Go.IntKind.u64 0,
      Go.Value.int Go.IntKind.u64 0, Go.Value.int Go.IntKind.u64 0, Go.Value.int Go.IntKind.u64 0,
      Go.Value.int Go.IntKind.u64 0, Go.Value.int Go.IntKind.u64 0, Go.Value.int Go.IntKind.u64 0,
      Go.Value.int Go.IntKind.u64 0, Go.Value.int Go.IntKind.u64 0, Go.Value.int Go.IntKind.u64 0,
      Go.Value.int Go.IntKind.u64 0, Go.Value.int Go.IntKind.u64 0, Go.Value.int Go.IntKind.u64 0,
      Go.Value.int Go.IntKind.u64 0, Go.Value.int Go.IntKind.u64 0] := by simp [goZ, zer323, Value.cells]
@[simp] theorem und323 : Tryz.prog.underlying 323 = some (Go.TypeDesc.array 20 217) := opq Tryz.underlying323
@[simp ↓] theorem un323 {q : TypeDesc → Prop} : goUnd Tryz.prog 323 q = q (Go.TypeDesc.array 20 217) := by simp only [goUnd, und323]
theorem agg341 : aggT Tryz.prog 341 = some true := by unfold aggT; rw [Tryz.underlying341]; rfl
@[simp] theorem siz341 : szT Tryz.prog 341 = some 4 := by unfold szT; rw [show Tryz.prog.info? 341 = some Tryz.t341 from Tryz.type341]; rfl
@[simp ↓] theorem ty341 {q : Bool → Nat → Prop} : goTy Tryz.prog 341 q = q true 4 := by simp only [goTy, agg341, siz341]
@[simp ↓] theorem sz341 {q : Nat → Prop} : goSz Tryz.prog 341 q = q 4 := by simp only [goSz, siz341]
theorem zer341 : zero? Tryz.prog 341 = some
  (Go.Value.agg #[Go.Value.pointer none, Go.Value.pointer none, Go.Value.pointer none, Go.Value.string { data := #[] }]) := by unfold zero?; rw [show Tryz.prog.info? 341 = some Tryz.t341 from Tryz.type341]; rfl
@[simp ↓] theorem z341 {q : List Value → Prop} : goZ Tryz.prog 341 q = q [Go.Value.pointer none, Go.Value.pointer none, Go.Value.pointer none, Go.Value.string { data := #[] }] := by simp [goZ, zer341, Value.cells]
@[simp] theorem und341 : Tryz.prog.underlying 341 = some (Go.TypeDesc.struct
  #[{ name := "_interface", type := 17, offset := 0, embedded := false, tag := "", pkgPath := "runtime",
      byteOffset := 0 },
    { name := "concrete", type := 17, offset := 1, embedded := false, tag := "", pkgPath := "runtime",
      byteOffset := 8 },
    { name := "asserted", type := 17, offset := 2, embedded := false, tag := "", pkgPath := "runtime",
      byteOffset := 16 },
    { name := "missingMethod", type := 9, offset := 3, embedded := false, tag := "", pkgPath := "runtime",
      byteOffset := 24 }]) := opq Tryz.underlying341
@[simp ↓] theorem fld341_0 {q : Nat → TypeId → Prop} : goFld Tryz.prog 341 0 q = q 0 17 := by simp only [goFld, und341]; rfl
@[simp ↓] theorem fld341_1 {q : Nat → TypeId → Prop} : goFld Tryz.prog 341 1 q = q 1 17 := by simp only [goFld, und341]; rfl
@[simp ↓] theorem fld341_2 {q : Nat → TypeId → Prop} : goFld Tryz.prog 341 2 q = q 2 17 := by simp only [goFld, und341]; rfl
@[simp ↓] theorem fld341_3 {q : Nat → TypeId → Prop} : goFld Tryz.prog 341 3 q = q 3 9 := by simp only [goFld, und341]; rfl
@[simp ↓] theorem bld341 {q : List Value → List (Nat × Nat) → Prop} : goBld Tryz.prog 341 q = q [Go.Value.pointer none, Go.Value.pointer none, Go.Value.pointer none, Go.Value.string { data := #[] }] [(0, 1), (1, 1), (2, 1), (3, 1)] := by simp [goBld, und341, zer341, placesL, Value.cells]
theorem agg342 : aggT Tryz.prog 342 = some true := by unfold aggT; rw [Tryz.underlying342]; rfl
@[simp] theorem siz342 : szT Tryz.prog 342 = some 0 := by unfold szT; rw [show Tryz.prog.info? 342 = some Tryz.t342 from Tryz.type342]; rfl
@[simp ↓] theorem ty342 {q : Bool → Nat → Prop} : goTy Tryz.prog 342 q = q true 0 := by simp only [goTy, agg342, siz342]
@[simp ↓] theorem sz342 {q : Nat → Prop} : goSz Tryz.prog 342 q = q 0 := by simp only [goSz, siz342]
theorem zer342 : zero? Tryz.prog 342 = some (Go.Value.agg #[]) := by unfold zero?; rw [show Tryz.prog.info? 342 = some Tryz.t342 from Tryz.type342]; rfl
@[simp ↓] theorem z342 {q : List Value → Prop} : goZ Tryz.prog 342 q = q [] := by simp [goZ, zer342, Value.cells]
@[simp] theorem und342 : Tryz.prog.underlying 342 = some (Go.TypeDesc.array 0 16) := opq Tryz.underlying342
@[simp ↓] theorem un342 {q : TypeDesc → Prop} : goUnd Tryz.prog 342 q = q (Go.TypeDesc.array 0 16) := by simp only [goUnd, und342]
theorem agg344 : aggT Tryz.prog 344 = some true := by unfold aggT; rw [Tryz.underlying344]; rfl
@[simp] theorem siz344 : szT Tryz.prog 344 = some 0 := by unfold szT; rw [show Tryz.prog.info? 344 = some Tryz.t344 from Tryz.type344]; rfl
@[simp ↓] theorem ty344 {q : Bool → Nat → Prop} : goTy Tryz.prog 344 q = q true 0 := by simp only [goTy, agg344, siz344]
@[simp ↓] theorem sz344 {q : Nat → Prop} : goSz Tryz.prog 344 q = q 0 := by simp only [goSz, siz344]
theorem zer344 : zero? Tryz.prog 344 = some (Go.Value.agg #[]) := by unfold zero?; rw [show Tryz.prog.info? 344 = some Tryz.t344 from Tryz.type344]; rfl
@[simp ↓] theorem z344 {q : List Value → Prop} : goZ Tryz.prog 344 q = q [] := by simp [goZ, zer344, Value.cells]
@[simp] theorem und344 : Tryz.prog.underlying 344 = some (Go.TypeDesc.struct
  #[{ name := "_", type := 342, offset := 0, embedded := false, tag := "", pkgPath := "runtime", byteOffset := 0 }]) := opq Tryz.underlying344
@[simp ↓] theorem fld344_0 {q : Nat → TypeId → Prop} : goFld Tryz.prog 344 0 q = q 0 342 := by simp only [goFld, und344]; rfl
@[simp ↓] theorem bld344 {q : List Value → List (Nat × Nat) → Prop} : goBld Tryz.prog 344 q = q [] [(0, 0)] := by simp [goBld, und344, zer344, placesL, Value.cells]
theorem agg345 : aggT Tryz.prog 345 = some false := by unfold aggT; rw [Tryz.underlying345]; rfl
@[simp] theorem siz345 : szT Tryz.prog 345 = some 1 := by unfold szT; rw [show Tryz.prog.info? 345 = some Tryz.t345 from Tryz.type345]; rfl
@[simp ↓] theorem ty345 {q : Bool → Nat → Prop} : goTy Tryz.prog 345 q = q false 1 := by simp only [goTy, agg345, siz345]
@[simp ↓] theorem sz345 {q : Nat → Prop} : goSz Tryz.prog 345 q = q 1 := by simp only [goSz, siz345]
theorem zer345 : zero? Tryz.prog 345 = some (Go.Value.int Go.IntKind.u8 0) := by unfold zero?; rw [show Tryz.prog.info? 345 = some Tryz.t345 from Tryz.type345]; rfl
@[simp ↓] theorem z345 {q : List Value → Prop} : goZ Tryz.prog 345 q = q [(Go.Value.int Go.IntKind.u8 0)] := by simp [goZ, zer345, Value.cells]
@[simp] theorem und345 : Tryz.prog.underlying 345 = some (Go.TypeDesc.int Go.IntKind.u8) := opq Tryz.underlying345
@[simp ↓] theorem un345 {q : TypeDesc → Prop} : goUnd Tryz.prog 345 q = q (Go.TypeDesc.int Go.IntKind.u8) := by simp only [goUnd, und345]
theorem agg346 : aggT Tryz.prog 346 = some false := by unfold aggT; rw [Tryz.underlying346]; rfl
@[simp] theorem siz346 : szT Tryz.prog 346 = some 1 := by unfold szT; rw [show Tryz.prog.info? 346 = some Tryz.t346 from Tryz.type346]; rfl
@[simp ↓] theorem ty346 {q : Bool → Nat → Prop} : goTy Tryz.prog 346 q = q false 1 := by simp only [goTy, agg346, siz346]
@[simp ↓] theorem sz346 {q : Nat → Prop} : goSz Tryz.prog 346 q = q 1 := by simp only [goSz, siz346]
theorem zer346 : zero? Tryz.prog 346 = some (Go.Value.int Go.IntKind.u8 0) := by unfold zero?; rw [show Tryz.prog.info? 346 = some Tryz.t346 from Tryz.type346]; rfl
@[simp ↓] theorem z346 {q : List Value → Prop} : goZ Tryz.prog 346 q = q [(Go.Value.int Go.IntKind.u8 0)] := by simp [goZ, zer346, Value.cells]
@[simp] theorem und346 : Tryz.prog.underlying 346 = some (Go.TypeDesc.int Go.IntKind.u8) := opq Tryz.underlying346
@[simp ↓] theorem un346 {q : TypeDesc → Prop} : goUnd Tryz.prog 346 q = q (Go.TypeDesc.int Go.IntKind.u8) := by simp only [goUnd, und346]
theorem agg347 : aggT Tryz.prog 347 = some false := by unfold aggT; rw [Tryz.underlying347]; rfl
@[simp] theorem siz347 : szT Tryz.prog 347 = some 1 := by unfold szT; rw [show Tryz.prog.info? 347 = some Tryz.t347 from Tryz.type347]; rfl
@[simp ↓] theorem ty347 {q : Bool → Nat → Prop} : goTy Tryz.prog 347 q = q false 1 := by simp only [goTy, agg347, siz347]
@[simp ↓] theorem sz347 {q : Nat → Prop} : goSz Tryz.prog 347 q = q 1 := by simp only [goSz, siz347]
theorem zer347 : zero? Tryz.prog 347 = some Go.Value.nilFunc := by unfold zero?; rw [show Tryz.prog.info? 347 = some Tryz.t347 from Tryz.type347]; rfl
@[simp ↓] theorem z347 {q : List Value → Prop} : goZ Tryz.prog 347 q = q [Go.Value.nilFunc] := by simp [goZ, zer347, Value.cells]
theorem agg348 : aggT Tryz.prog 348 = some false := by unfold aggT; rw [Tryz.underlying348]; rfl
@[simp] theorem siz348 : szT Tryz.prog 348 = some 1 := by unfold szT; rw [show Tryz.prog.info? 348 = some Tryz.t348 from Tryz.type348]; rfl
@[simp ↓] theorem ty348 {q : Bool → Nat → Prop} : goTy Tryz.prog 348 q = q false 1 := by simp only [goTy, agg348, siz348]
@[simp ↓] theorem sz348 {q : Nat → Prop} : goSz Tryz.prog 348 q = q 1 := by simp only [goSz, siz348]
theorem zer348 : zero? Tryz.prog 348 = some (Go.Value.int Go.IntKind.i32 0) := by unfold zero?; rw [show Tryz.prog.info? 348 = some Tryz.t348 from Tryz.type348]; rfl
@[simp ↓] theorem z348 {q : List Value → Prop} : goZ Tryz.prog 348 q = q [(Go.Value.int Go.IntKind.i32 0)] := by simp [goZ, zer348, Value.cells]
@[simp] theorem und348 : Tryz.prog.underlying 348 = some (Go.TypeDesc.int Go.IntKind.i32) := opq Tryz.underlying348
@[simp ↓] theorem un348 {q : TypeDesc → Prop} : goUnd Tryz.prog 348 q = q (Go.TypeDesc.int Go.IntKind.i32) := by simp only [goUnd, und348]
theorem agg349 : aggT Tryz.prog 349 = some false := by unfold aggT; rw [Tryz.underlying349]; rfl
@[simp] theorem siz349 : szT Tryz.prog 349 = some 1 := by unfold szT; rw [show Tryz.prog.info? 349 = some Tryz.t349 from Tryz.type349]; rfl
@[simp ↓] theorem ty349 {q : Bool → Nat → Prop} : goTy Tryz.prog 349 q = q false 1 := by simp only [goTy, agg349, siz349]
@[simp ↓] theorem sz349 {q : Nat → Prop} : goSz Tryz.prog 349 q = q 1 := by simp only [goSz, siz349]
theorem zer349 : zero? Tryz.prog 349 = some (Go.Value.int Go.IntKind.i32 0) := by unfold zero?; rw [show Tryz.prog.info? 349 = some Tryz.t349 from Tryz.type349]; rfl
@[simp ↓] theorem z349 {q : List Value → Prop} : goZ Tryz.prog 349 q = q [(Go.Value.int Go.IntKind.i32 0)] := by simp [goZ, zer349, Value.cells]
@[simp] theorem und349 : Tryz.prog.underlying 349 = some (Go.TypeDesc.int Go.IntKind.i32) := opq Tryz.underlying349
@[simp ↓] theorem un349 {q : TypeDesc → Prop} : goUnd Tryz.prog 349 q = q (Go.TypeDesc.int Go.IntKind.i32) := by simp only [goUnd, und349]
theorem agg351 : aggT Tryz.prog 351 = some true := by unfold aggT; rw [Tryz.underlying351]; rfl
@[simp] theorem siz351 : szT Tryz.prog 351 = some 11 := by unfold szT; rw [show Tryz.prog.info? 351 = some Tryz.t351 from Tryz.type351]; rfl
@[simp ↓] theorem ty351 {q : Bool → Nat → Prop} : goTy Tryz.prog 351 q = q true 11 := by simp only [goTy, agg351, siz351]
@[simp ↓] theorem sz351 {q : Nat → Prop} : goSz Tryz.prog 351 q = q 11 := by simp only [goSz, siz351]
theorem zer351 : zero? Tryz.prog 351 = some
  (Go.Value.agg
    #[Go.Value.int Go.IntKind.u64 0, Go.Value.int Go.IntKind.u64 0, Go.Value.int Go.IntKind.u32 0,
      Go.Value.int Go.IntKind.u8 0, Go.Value.int Go.IntKind.u8 0, Go.Value.int Go.IntKind.u8 0,
      Go.Value.int Go.IntKind.u8 0, Go.Value.nilFunc, Go.Value.pointer none, Go.Value.int Go.IntKind.i32 0,
      Go.Value.int Go.IntKind.i32 0]) := by unfold zero?; rw [show Tryz.prog.info? 351 = some Tryz.t351 from Tryz.type351]; rfl
@[simp ↓] theorem z351 {q : List Value → Prop} : goZ Tryz.prog 351 q = q [Go.Value.int Go.IntKind.u64 0, Go.Value.int Go.IntKind.u64 0, Go.Value.int Go.IntKind.u32 0,
      Go.Value.int Go.IntKind.u8 0, Go.Value.int Go.IntKind.u8 0, Go.Value.int Go.IntKind.u8 0,
      Go.Value.int Go.IntKind.u8 0, Go.Value.nilFunc, Go.Value.pointer none, Go.Value.int Go.IntKind.i32 0,
      Go.Value.int Go.IntKind.i32 0] := by simp [goZ, zer351, Value.cells]
@[simp] theorem und351 : Tryz.prog.underlying 351 = some (Go.TypeDesc.struct
  #[{ name := "Size_", type := 12, offset := 0, embedded := false, tag := "", pkgPath := "", byteOffset := 0 },
    { name := "PtrBytes", type := 12, offset := 1, embedded := false, tag := "", pkgPath := "", byteOffset := 8 },
    { name := "Hash", type := 275, offset := 2, embedded := false, tag := "", pkgPath := "", byteOffset := 16 },
    { name := "TFlag", type := 345, offset := 3, embedded := false, tag := "", pkgPath := "", byteOffset := 20 },
    { name := "Align_", type := 5, offset := 4, embedded := false, tag := "", pkgPath := "", byteOffset := 21 },
    { name := "FieldAlign_", type := 5, offset := 5, embedded := false, tag := "", pkgPath := "", byteOffset := 22 },
    { name := "Kind_", type := 346, offset := 6, embedded := false, tag := "", pkgPath := "", byteOffset := 23 },
    { name := "Equal", type := 347, offset := 7, embedded := false, tag := "", pkgPath := "", byteOffset := 24 },
    { name := "GCData", type := 263, offset := 8, embedded := false, tag := "", pkgPath := "", byteOffset := 32 },
    { name := "Str", type := 348, offset := 9, embedded := false, tag := "", pkgPath := "", byteOffset := 40 },
    { name := "PtrToThis", type := 349, offset := 10, embedded := false, tag := "", pkgPath := "", byteOffset := 44 }]) := opq Tryz.underlying351
@[simp ↓] theorem fld351_0 {q : Nat → TypeId → Prop} : goFld Tryz.prog 351 0 q = q 0 12 := by simp only [goFld, und351]; rfl
@[simp ↓] theorem fld351_1 {q : Nat → TypeId → Prop} : goFld Tryz.prog 351 1 q = q 1 12 := by simp only [goFld, und351]; rfl
@[simp ↓] theorem fld351_2 {q : Nat → TypeId → Prop} : goFld Tryz.prog 351 2 q = q 2 275 := by simp only [goFld, und351]; rfl
@[simp ↓] theorem fld351_3 {q : Nat → TypeId → Prop} : goFld Tryz.prog 351 3 q = q 3 345 := by simp only [goFld, und351]; rfl
@[simp ↓] theorem fld351_4 {q : Nat → TypeId → Prop} : goFld Tryz.prog 351 4 q = q 4 5 := by simp only [goFld, und351]; rfl
@[simp ↓] theorem fld351_5 {q : Nat → TypeId → Prop} : goFld Tryz.prog 351 5 q = q 5 5 := by simp only [goFld, und351]; rfl
@[simp ↓] theorem fld351_6 {q : Nat → TypeId → Prop} : goFld Tryz.prog 351 6 q = q 6 346 := by simp only [goFld, und351]; rfl
@[simp ↓] theorem fld351_7 {q : Nat → TypeId → Prop} : goFld Tryz.prog 351 7 q = q 7 347 := by simp only [goFld, und351]; rfl
@[simp ↓] theorem fld351_8 {q : Nat → TypeId → Prop} : goFld Tryz.prog 351 8 q = q 8 263 := by simp only [goFld, und351]; rfl
@[simp ↓] theorem fld351_9 {q : Nat → TypeId → Prop} : goFld Tryz.prog 351 9 q = q 9 348 := by simp only [goFld, und351]; rfl
@[simp ↓] theorem fld351_10 {q : Nat → TypeId → Prop} : goFld Tryz.prog 351 10 q = q 10 349 := by simp only [goFld, und351]; rfl
@[simp ↓] theorem bld351 {q : List Value → List (Nat × Nat) → Prop} : goBld Tryz.prog 351 q = q [Go.Value.int Go.IntKind.u64 0, Go.Value.int Go.IntKind.u64 0, Go.Value.int Go.IntKind.u32 0,
      Go.Value.int Go.IntKind.u8 0, Go.Value.int Go.IntKind.u8 0, Go.Value.int Go.IntKind.u8 0,
      Go.Value.int Go.IntKind.u8 0, Go.Value.nilFunc, Go.Value.pointer none, Go.Value.int Go.IntKind.i32 0,
      Go.Value.int Go.IntKind.i32 0] [(0, 1), (1, 1), (2, 1), (3, 1), (4, 1), (5, 1), (6, 1), (7, 1), (8, 1), (9, 1), (10, 1)] := by simp [goBld, und351, zer351, placesL, Value.cells]
end Go.Proofs.YtephpieeibcihaaGreatDoor
