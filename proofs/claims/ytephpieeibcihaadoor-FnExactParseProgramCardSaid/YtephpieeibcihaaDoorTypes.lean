/- Facts about the seat's types, for the abstract machine. No condition. -/
import Derived.Test.YtephpieeibcihaaDoorProg
import Derived.Test.YtephpieeibcihaaDoorAm20
namespace Go.Proofs.YtephpieeibcihaaDoor
open Go Go.Am Go.Proofs
set_option linter.unusedSimpArgs false
set_option maxRecDepth 100000
theorem agg1 : aggT Tryd.prog 1 = some false := by unfold aggT; rw [Tryd.underlying1]; rfl
@[simp] theorem siz1 : szT Tryd.prog 1 = some 1 := by unfold szT; rw [show Tryd.prog.info? 1 = some Tryd.t1 from Tryd.type1]; rfl
@[simp ↓] theorem ty1 {q : Bool → Nat → Prop} : goTy Tryd.prog 1 q = q false 1 := by simp only [goTy, agg1, siz1]
@[simp ↓] theorem sz1 {q : Nat → Prop} : goSz Tryd.prog 1 q = q 1 := by simp only [goSz, siz1]
theorem zer1 : zero? Tryd.prog 1 = some Go.Value.nilFunc := by unfold zero?; rw [show Tryd.prog.info? 1 = some Tryd.t1 from Tryd.type1]; rfl
@[simp ↓] theorem z1 {q : List Value → Prop} : goZ Tryd.prog 1 q = q [Go.Value.nilFunc] := by simp [goZ, zer1, Value.cells]
theorem agg2 : aggT Tryd.prog 2 = some false := by unfold aggT; rw [Tryd.underlying2]; rfl
@[simp] theorem siz2 : szT Tryd.prog 2 = some 1 := by unfold szT; rw [show Tryd.prog.info? 2 = some Tryd.t2 from Tryd.type2]; rfl
@[simp ↓] theorem ty2 {q : Bool → Nat → Prop} : goTy Tryd.prog 2 q = q false 1 := by simp only [goTy, agg2, siz2]
@[simp ↓] theorem sz2 {q : Nat → Prop} : goSz Tryd.prog 2 q = q 1 := by simp only [goSz, siz2]
theorem zer2 : zero? Tryd.prog 2 = some (Go.Value.int Go.IntKind.i64 0) := by unfold zero?; rw [show Tryd.prog.info? 2 = some Tryd.t2 from Tryd.type2]; rfl
@[simp ↓] theorem z2 {q : List Value → Prop} : goZ Tryd.prog 2 q = q [(Go.Value.int Go.IntKind.i64 0)] := by simp [goZ, zer2, Value.cells]
@[simp] theorem und2 : Tryd.prog.underlying 2 = some (Go.TypeDesc.int Go.IntKind.i64) := opq Tryd.underlying2
@[simp ↓] theorem un2 {q : TypeDesc → Prop} : goUnd Tryd.prog 2 q = q (Go.TypeDesc.int Go.IntKind.i64) := by simp only [goUnd, und2]
theorem agg3 : aggT Tryd.prog 3 = some false := by unfold aggT; rw [Tryd.underlying3]; rfl
@[simp] theorem siz3 : szT Tryd.prog 3 = some 1 := by unfold szT; rw [show Tryd.prog.info? 3 = some Tryd.t3 from Tryd.type3]; rfl
@[simp ↓] theorem ty3 {q : Bool → Nat → Prop} : goTy Tryd.prog 3 q = q false 1 := by simp only [goTy, agg3, siz3]
@[simp ↓] theorem sz3 {q : Nat → Prop} : goSz Tryd.prog 3 q = q 1 := by simp only [goSz, siz3]
theorem zer3 : zero? Tryd.prog 3 = some (Go.Value.int Go.IntKind.i64 0) := by unfold zero?; rw [show Tryd.prog.info? 3 = some Tryd.t3 from Tryd.type3]; rfl
@[simp ↓] theorem z3 {q : List Value → Prop} : goZ Tryd.prog 3 q = q [(Go.Value.int Go.IntKind.i64 0)] := by simp [goZ, zer3, Value.cells]
@[simp] theorem und3 : Tryd.prog.underlying 3 = some (Go.TypeDesc.int Go.IntKind.i64) := opq Tryd.underlying3
@[simp ↓] theorem un3 {q : TypeDesc → Prop} : goUnd Tryd.prog 3 q = q (Go.TypeDesc.int Go.IntKind.i64) := by simp only [goUnd, und3]
theorem agg4 : aggT Tryd.prog 4 = some false := by unfold aggT; rw [Tryd.underlying4]; rfl
@[simp] theorem siz4 : szT Tryd.prog 4 = some 1 := by unfold szT; rw [show Tryd.prog.info? 4 = some Tryd.t4 from Tryd.type4]; rfl
@[simp ↓] theorem ty4 {q : Bool → Nat → Prop} : goTy Tryd.prog 4 q = q false 1 := by simp only [goTy, agg4, siz4]
@[simp ↓] theorem sz4 {q : Nat → Prop} : goSz Tryd.prog 4 q = q 1 := by simp only [goSz, siz4]
theorem zer4 : zero? Tryd.prog 4 = some (Go.Value.bool false) := by unfold zero?; rw [show Tryd.prog.info? 4 = some Tryd.t4 from Tryd.type4]; rfl
@[simp ↓] theorem z4 {q : List Value → Prop} : goZ Tryd.prog 4 q = q [(Go.Value.bool false)] := by simp [goZ, zer4, Value.cells]
@[simp] theorem und4 : Tryd.prog.underlying 4 = some (Go.TypeDesc.bool) := opq Tryd.underlying4
@[simp ↓] theorem un4 {q : TypeDesc → Prop} : goUnd Tryd.prog 4 q = q (Go.TypeDesc.bool) := by simp only [goUnd, und4]
theorem agg5 : aggT Tryd.prog 5 = some false := by unfold aggT; rw [Tryd.underlying5]; rfl
@[simp] theorem siz5 : szT Tryd.prog 5 = some 1 := by unfold szT; rw [show Tryd.prog.info? 5 = some Tryd.t5 from Tryd.type5]; rfl
@[simp ↓] theorem ty5 {q : Bool → Nat → Prop} : goTy Tryd.prog 5 q = q false 1 := by simp only [goTy, agg5, siz5]
@[simp ↓] theorem sz5 {q : Nat → Prop} : goSz Tryd.prog 5 q = q 1 := by simp only [goSz, siz5]
theorem zer5 : zero? Tryd.prog 5 = some (Go.Value.int Go.IntKind.u8 0) := by unfold zero?; rw [show Tryd.prog.info? 5 = some Tryd.t5 from Tryd.type5]; rfl
@[simp ↓] theorem z5 {q : List Value → Prop} : goZ Tryd.prog 5 q = q [(Go.Value.int Go.IntKind.u8 0)] := by simp [goZ, zer5, Value.cells]
@[simp] theorem und5 : Tryd.prog.underlying 5 = some (Go.TypeDesc.int Go.IntKind.u8) := opq Tryd.underlying5
@[simp ↓] theorem un5 {q : TypeDesc → Prop} : goUnd Tryd.prog 5 q = q (Go.TypeDesc.int Go.IntKind.u8) := by simp only [goUnd, und5]
theorem agg6 : aggT Tryd.prog 6 = some false := by unfold aggT; rw [Tryd.underlying6]; rfl
@[simp] theorem siz6 : szT Tryd.prog 6 = some 1 := by unfold szT; rw [show Tryd.prog.info? 6 = some Tryd.t6 from Tryd.type6]; rfl
@[simp ↓] theorem ty6 {q : Bool → Nat → Prop} : goTy Tryd.prog 6 q = q false 1 := by simp only [goTy, agg6, siz6]
@[simp ↓] theorem sz6 {q : Nat → Prop} : goSz Tryd.prog 6 q = q 1 := by simp only [goSz, siz6]
theorem zer6 : zero? Tryd.prog 6 = some (Go.Value.int Go.IntKind.u8 0) := by unfold zero?; rw [show Tryd.prog.info? 6 = some Tryd.t6 from Tryd.type6]; rfl
@[simp ↓] theorem z6 {q : List Value → Prop} : goZ Tryd.prog 6 q = q [(Go.Value.int Go.IntKind.u8 0)] := by simp [goZ, zer6, Value.cells]
@[simp] theorem und6 : Tryd.prog.underlying 6 = some (Go.TypeDesc.int Go.IntKind.u8) := opq Tryd.underlying6
@[simp ↓] theorem un6 {q : TypeDesc → Prop} : goUnd Tryd.prog 6 q = q (Go.TypeDesc.int Go.IntKind.u8) := by simp only [goUnd, und6]
theorem agg7 : aggT Tryd.prog 7 = some true := by unfold aggT; rw [Tryd.underlying7]; rfl
@[simp] theorem siz7 : szT Tryd.prog 7 = some 4 := by unfold szT; rw [show Tryd.prog.info? 7 = some Tryd.t7 from Tryd.type7]; rfl
@[simp ↓] theorem ty7 {q : Bool → Nat → Prop} : goTy Tryd.prog 7 q = q true 4 := by simp only [goTy, agg7, siz7]
@[simp ↓] theorem sz7 {q : Nat → Prop} : goSz Tryd.prog 7 q = q 4 := by simp only [goSz, siz7]
theorem zer7 : zero? Tryd.prog 7 = some
  (Go.Value.agg
    #[Go.Value.int Go.IntKind.i64 0, Go.Value.int Go.IntKind.i64 0, Go.Value.bool false, Go.Value.int Go.IntKind.u8 0]) := by unfold zero?; rw [show Tryd.prog.info? 7 = some Tryd.t7 from Tryd.type7]; rfl
@[simp ↓] theorem z7 {q : List Value → Prop} : goZ Tryd.prog 7 q = q [Go.Value.int Go.IntKind.i64 0, Go.Value.int Go.IntKind.i64 0, Go.Value.bool false, Go.Value.int Go.IntKind.u8 0] := by simp [goZ, zer7, Value.cells]
@[simp] theorem und7 : Tryd.prog.underlying 7 = some (Go.TypeDesc.struct
  #[{ name := "x", type := 2, offset := 0, embedded := false, tag := "", pkgPath := "runtime", byteOffset := 0 },
    { name := "y", type := 3, offset := 1, embedded := false, tag := "", pkgPath := "runtime", byteOffset := 8 },
    { name := "signed", type := 4, offset := 2, embedded := false, tag := "", pkgPath := "runtime", byteOffset := 16 },
    { name := "code", type := 6, offset := 3, embedded := false, tag := "", pkgPath := "runtime", byteOffset := 17 }]) := opq Tryd.underlying7
@[simp ↓] theorem fld7_0 {q : Nat → TypeId → Prop} : goFld Tryd.prog 7 0 q = q 0 2 := by simp only [goFld, und7]; rfl
@[simp ↓] theorem fld7_1 {q : Nat → TypeId → Prop} : goFld Tryd.prog 7 1 q = q 1 3 := by simp only [goFld, und7]; rfl
@[simp ↓] theorem fld7_2 {q : Nat → TypeId → Prop} : goFld Tryd.prog 7 2 q = q 2 4 := by simp only [goFld, und7]; rfl
@[simp ↓] theorem fld7_3 {q : Nat → TypeId → Prop} : goFld Tryd.prog 7 3 q = q 3 6 := by simp only [goFld, und7]; rfl
@[simp ↓] theorem bld7 {q : List Value → List (Nat × Nat) → Prop} : goBld Tryd.prog 7 q = q [Go.Value.int Go.IntKind.i64 0, Go.Value.int Go.IntKind.i64 0, Go.Value.bool false, Go.Value.int Go.IntKind.u8 0] [(0, 1), (1, 1), (2, 1), (3, 1)] := by simp [goBld, und7, zer7, placesL, Value.cells]
theorem agg8 : aggT Tryd.prog 8 = some true := by unfold aggT; rw [Tryd.underlying8]; rfl
@[simp] theorem siz8 : szT Tryd.prog 8 = some 4 := by unfold szT; rw [show Tryd.prog.info? 8 = some Tryd.t8 from Tryd.type8]; rfl
@[simp ↓] theorem ty8 {q : Bool → Nat → Prop} : goTy Tryd.prog 8 q = q true 4 := by simp only [goTy, agg8, siz8]
@[simp ↓] theorem sz8 {q : Nat → Prop} : goSz Tryd.prog 8 q = q 4 := by simp only [goSz, siz8]
theorem zer8 : zero? Tryd.prog 8 = some
  (Go.Value.agg
    #[Go.Value.int Go.IntKind.i64 0, Go.Value.int Go.IntKind.i64 0, Go.Value.bool false, Go.Value.int Go.IntKind.u8 0]) := by unfold zero?; rw [show Tryd.prog.info? 8 = some Tryd.t8 from Tryd.type8]; rfl
@[simp ↓] theorem z8 {q : List Value → Prop} : goZ Tryd.prog 8 q = q [Go.Value.int Go.IntKind.i64 0, Go.Value.int Go.IntKind.i64 0, Go.Value.bool false, Go.Value.int Go.IntKind.u8 0] := by simp [goZ, zer8, Value.cells]
@[simp] theorem und8 : Tryd.prog.underlying 8 = some (Go.TypeDesc.struct
  #[{ name := "x", type := 2, offset := 0, embedded := false, tag := "", pkgPath := "runtime", byteOffset := 0 },
    { name := "y", type := 3, offset := 1, embedded := false, tag := "", pkgPath := "runtime", byteOffset := 8 },
    { name := "signed", type := 4, offset := 2, embedded := false, tag := "", pkgPath := "runtime", byteOffset := 16 },
    { name := "code", type := 6, offset := 3, embedded := false, tag := "", pkgPath := "runtime", byteOffset := 17 }]) := opq Tryd.underlying8
@[simp ↓] theorem fld8_0 {q : Nat → TypeId → Prop} : goFld Tryd.prog 8 0 q = q 0 2 := by simp only [goFld, und8]; rfl
@[simp ↓] theorem fld8_1 {q : Nat → TypeId → Prop} : goFld Tryd.prog 8 1 q = q 1 3 := by simp only [goFld, und8]; rfl
@[simp ↓] theorem fld8_2 {q : Nat → TypeId → Prop} : goFld Tryd.prog 8 2 q = q 2 4 := by simp only [goFld, und8]; rfl
@[simp ↓] theorem fld8_3 {q : Nat → TypeId → Prop} : goFld Tryd.prog 8 3 q = q 3 6 := by simp only [goFld, und8]; rfl
@[simp ↓] theorem bld8 {q : List Value → List (Nat × Nat) → Prop} : goBld Tryd.prog 8 q = q [Go.Value.int Go.IntKind.i64 0, Go.Value.int Go.IntKind.i64 0, Go.Value.bool false, Go.Value.int Go.IntKind.u8 0] [(0, 1), (1, 1), (2, 1), (3, 1)] := by simp [goBld, und8, zer8, placesL, Value.cells]
theorem agg9 : aggT Tryd.prog 9 = some false := by unfold aggT; rw [Tryd.underlying9]; rfl
@[simp] theorem siz9 : szT Tryd.prog 9 = some 1 := by unfold szT; rw [show Tryd.prog.info? 9 = some Tryd.t9 from Tryd.type9]; rfl
@[simp ↓] theorem ty9 {q : Bool → Nat → Prop} : goTy Tryd.prog 9 q = q false 1 := by simp only [goTy, agg9, siz9]
@[simp ↓] theorem sz9 {q : Nat → Prop} : goSz Tryd.prog 9 q = q 1 := by simp only [goSz, siz9]
theorem zer9 : zero? Tryd.prog 9 = some (Go.Value.string { data := #[] }) := by unfold zero?; rw [show Tryd.prog.info? 9 = some Tryd.t9 from Tryd.type9]; rfl
@[simp ↓] theorem z9 {q : List Value → Prop} : goZ Tryd.prog 9 q = q [(Go.Value.string { data := #[] })] := by simp [goZ, zer9, Value.cells]
@[simp] theorem und9 : Tryd.prog.underlying 9 = some (Go.TypeDesc.string) := opq Tryd.underlying9
@[simp ↓] theorem un9 {q : TypeDesc → Prop} : goUnd Tryd.prog 9 q = q (Go.TypeDesc.string) := by simp only [goUnd, und9]
theorem agg10 : aggT Tryd.prog 10 = some false := by unfold aggT; rw [Tryd.underlying10]; rfl
@[simp] theorem siz10 : szT Tryd.prog 10 = some 1 := by unfold szT; rw [show Tryd.prog.info? 10 = some Tryd.t10 from Tryd.type10]; rfl
@[simp ↓] theorem ty10 {q : Bool → Nat → Prop} : goTy Tryd.prog 10 q = q false 1 := by simp only [goTy, agg10, siz10]
@[simp ↓] theorem sz10 {q : Nat → Prop} : goSz Tryd.prog 10 q = q 1 := by simp only [goSz, siz10]
theorem zer10 : zero? Tryd.prog 10 = some (Go.Value.string { data := #[] }) := by unfold zero?; rw [show Tryd.prog.info? 10 = some Tryd.t10 from Tryd.type10]; rfl
@[simp ↓] theorem z10 {q : List Value → Prop} : goZ Tryd.prog 10 q = q [(Go.Value.string { data := #[] })] := by simp [goZ, zer10, Value.cells]
@[simp] theorem und10 : Tryd.prog.underlying 10 = some (Go.TypeDesc.string) := opq Tryd.underlying10
@[simp ↓] theorem un10 {q : TypeDesc → Prop} : goUnd Tryd.prog 10 q = q (Go.TypeDesc.string) := by simp only [goUnd, und10]
theorem agg11 : aggT Tryd.prog 11 = some false := by unfold aggT; rw [Tryd.underlying11]; rfl
@[simp] theorem siz11 : szT Tryd.prog 11 = some 1 := by unfold szT; rw [show Tryd.prog.info? 11 = some Tryd.t11 from Tryd.type11]; rfl
@[simp ↓] theorem ty11 {q : Bool → Nat → Prop} : goTy Tryd.prog 11 q = q false 1 := by simp only [goTy, agg11, siz11]
@[simp ↓] theorem sz11 {q : Nat → Prop} : goSz Tryd.prog 11 q = q 1 := by simp only [goSz, siz11]
theorem zer11 : zero? Tryd.prog 11 = some (Go.Value.string { data := #[] }) := by unfold zero?; rw [show Tryd.prog.info? 11 = some Tryd.t11 from Tryd.type11]; rfl
@[simp ↓] theorem z11 {q : List Value → Prop} : goZ Tryd.prog 11 q = q [(Go.Value.string { data := #[] })] := by simp [goZ, zer11, Value.cells]
@[simp] theorem und11 : Tryd.prog.underlying 11 = some (Go.TypeDesc.string) := opq Tryd.underlying11
@[simp ↓] theorem un11 {q : TypeDesc → Prop} : goUnd Tryd.prog 11 q = q (Go.TypeDesc.string) := by simp only [goUnd, und11]
theorem agg12 : aggT Tryd.prog 12 = some false := by unfold aggT; rw [Tryd.underlying12]; rfl
@[simp] theorem siz12 : szT Tryd.prog 12 = some 1 := by unfold szT; rw [show Tryd.prog.info? 12 = some Tryd.t12 from Tryd.type12]; rfl
@[simp ↓] theorem ty12 {q : Bool → Nat → Prop} : goTy Tryd.prog 12 q = q false 1 := by simp only [goTy, agg12, siz12]
@[simp ↓] theorem sz12 {q : Nat → Prop} : goSz Tryd.prog 12 q = q 1 := by simp only [goSz, siz12]
theorem zer12 : zero? Tryd.prog 12 = some (Go.Value.int Go.IntKind.u64 0) := by unfold zero?; rw [show Tryd.prog.info? 12 = some Tryd.t12 from Tryd.type12]; rfl
@[simp ↓] theorem z12 {q : List Value → Prop} : goZ Tryd.prog 12 q = q [(Go.Value.int Go.IntKind.u64 0)] := by simp [goZ, zer12, Value.cells]
@[simp] theorem und12 : Tryd.prog.underlying 12 = some (Go.TypeDesc.int Go.IntKind.u64) := opq Tryd.underlying12
@[simp ↓] theorem un12 {q : TypeDesc → Prop} : goUnd Tryd.prog 12 q = q (Go.TypeDesc.int Go.IntKind.u64) := by simp only [goUnd, und12]
theorem agg13 : aggT Tryd.prog 13 = some true := by unfold aggT; rw [Tryd.underlying13]; rfl
@[simp] theorem siz13 : szT Tryd.prog 13 = some 2 := by unfold szT; rw [show Tryd.prog.info? 13 = some Tryd.t13 from Tryd.type13]; rfl
@[simp ↓] theorem ty13 {q : Bool → Nat → Prop} : goTy Tryd.prog 13 q = q true 2 := by simp only [goTy, agg13, siz13]
@[simp ↓] theorem sz13 {q : Nat → Prop} : goSz Tryd.prog 13 q = q 2 := by simp only [goSz, siz13]
theorem zer13 : zero? Tryd.prog 13 = some (Go.Value.agg #[Go.Value.string { data := #[] }, Go.Value.int Go.IntKind.u64 0]) := by unfold zero?; rw [show Tryd.prog.info? 13 = some Tryd.t13 from Tryd.type13]; rfl
@[simp ↓] theorem z13 {q : List Value → Prop} : goZ Tryd.prog 13 q = q [Go.Value.string { data := #[] }, Go.Value.int Go.IntKind.u64 0] := by simp [goZ, zer13, Value.cells]
@[simp] theorem und13 : Tryd.prog.underlying 13 = some (Go.TypeDesc.struct
  #[{ name := "msg", type := 9, offset := 0, embedded := false, tag := "", pkgPath := "runtime", byteOffset := 0 },
    { name := "addr", type := 12, offset := 1, embedded := false, tag := "", pkgPath := "runtime", byteOffset := 16 }]) := opq Tryd.underlying13
@[simp ↓] theorem fld13_0 {q : Nat → TypeId → Prop} : goFld Tryd.prog 13 0 q = q 0 9 := by simp only [goFld, und13]; rfl
@[simp ↓] theorem fld13_1 {q : Nat → TypeId → Prop} : goFld Tryd.prog 13 1 q = q 1 12 := by simp only [goFld, und13]; rfl
@[simp ↓] theorem bld13 {q : List Value → List (Nat × Nat) → Prop} : goBld Tryd.prog 13 q = q [Go.Value.string { data := #[] }, Go.Value.int Go.IntKind.u64 0] [(0, 1), (1, 1)] := by simp [goBld, und13, zer13, placesL, Value.cells]
theorem agg14 : aggT Tryd.prog 14 = some true := by unfold aggT; rw [Tryd.underlying14]; rfl
@[simp] theorem siz14 : szT Tryd.prog 14 = some 2 := by unfold szT; rw [show Tryd.prog.info? 14 = some Tryd.t14 from Tryd.type14]; rfl
@[simp ↓] theorem ty14 {q : Bool → Nat → Prop} : goTy Tryd.prog 14 q = q true 2 := by simp only [goTy, agg14, siz14]
@[simp ↓] theorem sz14 {q : Nat → Prop} : goSz Tryd.prog 14 q = q 2 := by simp only [goSz, siz14]
theorem zer14 : zero? Tryd.prog 14 = some (Go.Value.agg #[Go.Value.string { data := #[] }, Go.Value.int Go.IntKind.u64 0]) := by unfold zero?; rw [show Tryd.prog.info? 14 = some Tryd.t14 from Tryd.type14]; rfl
@[simp ↓] theorem z14 {q : List Value → Prop} : goZ Tryd.prog 14 q = q [Go.Value.string { data := #[] }, Go.Value.int Go.IntKind.u64 0] := by simp [goZ, zer14, Value.cells]
@[simp] theorem und14 : Tryd.prog.underlying 14 = some (Go.TypeDesc.struct
  #[{ name := "msg", type := 9, offset := 0, embedded := false, tag := "", pkgPath := "runtime", byteOffset := 0 },
    { name := "addr", type := 12, offset := 1, embedded := false, tag := "", pkgPath := "runtime", byteOffset := 16 }]) := opq Tryd.underlying14
@[simp ↓] theorem fld14_0 {q : Nat → TypeId → Prop} : goFld Tryd.prog 14 0 q = q 0 9 := by simp only [goFld, und14]; rfl
@[simp ↓] theorem fld14_1 {q : Nat → TypeId → Prop} : goFld Tryd.prog 14 1 q = q 1 12 := by simp only [goFld, und14]; rfl
@[simp ↓] theorem bld14 {q : List Value → List (Nat × Nat) → Prop} : goBld Tryd.prog 14 q = q [Go.Value.string { data := #[] }, Go.Value.int Go.IntKind.u64 0] [(0, 1), (1, 1)] := by simp [goBld, und14, zer14, placesL, Value.cells]
theorem agg15 : aggT Tryd.prog 15 = some false := by unfold aggT; rw [Tryd.underlying15]; rfl
@[simp] theorem siz15 : szT Tryd.prog 15 = some 1 := by unfold szT; rw [show Tryd.prog.info? 15 = some Tryd.t15 from Tryd.type15]; rfl
@[simp ↓] theorem ty15 {q : Bool → Nat → Prop} : goTy Tryd.prog 15 q = q false 1 := by simp only [goTy, agg15, siz15]
@[simp ↓] theorem sz15 {q : Nat → Prop} : goSz Tryd.prog 15 q = q 1 := by simp only [goSz, siz15]
theorem zer15 : zero? Tryd.prog 15 = some (Go.Value.pointer none) := by unfold zero?; rw [show Tryd.prog.info? 15 = some Tryd.t15 from Tryd.type15]; rfl
@[simp ↓] theorem z15 {q : List Value → Prop} : goZ Tryd.prog 15 q = q [(Go.Value.pointer none)] := by simp [goZ, zer15, Value.cells]
@[simp] theorem und15 : Tryd.prog.underlying 15 = some (Go.TypeDesc.pointer 227) := opq Tryd.underlying15
@[simp ↓] theorem un15 {q : TypeDesc → Prop} : goUnd Tryd.prog 15 q = q (Go.TypeDesc.pointer 227) := by simp only [goUnd, und15]
theorem agg16 : aggT Tryd.prog 16 = some false := by unfold aggT; rw [Tryd.underlying16]; rfl
@[simp] theorem siz16 : szT Tryd.prog 16 = some 1 := by unfold szT; rw [show Tryd.prog.info? 16 = some Tryd.t16 from Tryd.type16]; rfl
@[simp ↓] theorem ty16 {q : Bool → Nat → Prop} : goTy Tryd.prog 16 q = q false 1 := by simp only [goTy, agg16, siz16]
@[simp ↓] theorem sz16 {q : Nat → Prop} : goSz Tryd.prog 16 q = q 1 := by simp only [goSz, siz16]
theorem zer16 : zero? Tryd.prog 16 = some (Go.Value.pointer none) := by unfold zero?; rw [show Tryd.prog.info? 16 = some Tryd.t16 from Tryd.type16]; rfl
@[simp ↓] theorem z16 {q : List Value → Prop} : goZ Tryd.prog 16 q = q [(Go.Value.pointer none)] := by simp [goZ, zer16, Value.cells]
@[simp] theorem und16 : Tryd.prog.underlying 16 = some (Go.TypeDesc.pointer 230) := opq Tryd.underlying16
@[simp ↓] theorem un16 {q : TypeDesc → Prop} : goUnd Tryd.prog 16 q = q (Go.TypeDesc.pointer 230) := by simp only [goUnd, und16]
theorem agg17 : aggT Tryd.prog 17 = some false := by unfold aggT; rw [Tryd.underlying17]; rfl
@[simp] theorem siz17 : szT Tryd.prog 17 = some 1 := by unfold szT; rw [show Tryd.prog.info? 17 = some Tryd.t17 from Tryd.type17]; rfl
@[simp ↓] theorem ty17 {q : Bool → Nat → Prop} : goTy Tryd.prog 17 q = q false 1 := by simp only [goTy, agg17, siz17]
@[simp ↓] theorem sz17 {q : Nat → Prop} : goSz Tryd.prog 17 q = q 1 := by simp only [goSz, siz17]
theorem zer17 : zero? Tryd.prog 17 = some (Go.Value.pointer none) := by unfold zero?; rw [show Tryd.prog.info? 17 = some Tryd.t17 from Tryd.type17]; rfl
@[simp ↓] theorem z17 {q : List Value → Prop} : goZ Tryd.prog 17 q = q [(Go.Value.pointer none)] := by simp [goZ, zer17, Value.cells]
@[simp] theorem und17 : Tryd.prog.underlying 17 = some (Go.TypeDesc.pointer 237) := opq Tryd.underlying17
@[simp ↓] theorem un17 {q : TypeDesc → Prop} : goUnd Tryd.prog 17 q = q (Go.TypeDesc.pointer 237) := by simp only [goUnd, und17]
theorem agg18 : aggT Tryd.prog 18 = some true := by unfold aggT; rw [Tryd.underlying18]; rfl
@[simp] theorem siz18 : szT Tryd.prog 18 = some 1 := by unfold szT; rw [show Tryd.prog.info? 18 = some Tryd.t18 from Tryd.type18]; rfl
@[simp ↓] theorem ty18 {q : Bool → Nat → Prop} : goTy Tryd.prog 18 q = q true 1 := by simp only [goTy, agg18, siz18]
@[simp ↓] theorem sz18 {q : Nat → Prop} : goSz Tryd.prog 18 q = q 1 := by simp only [goSz, siz18]
theorem zer18 : zero? Tryd.prog 18 = some (Go.Value.agg #[Go.Value.pointer none]) := by unfold zero?; rw [show Tryd.prog.info? 18 = some Tryd.t18 from Tryd.type18]; rfl
@[simp ↓] theorem z18 {q : List Value → Prop} : goZ Tryd.prog 18 q = q [Go.Value.pointer none] := by simp [goZ, zer18, Value.cells]
@[simp] theorem und18 : Tryd.prog.underlying 18 = some (Go.TypeDesc.struct
  #[{ name := "typ", type := 17, offset := 0, embedded := false, tag := "", pkgPath := "internal/runtime/maps",
      byteOffset := 0 }]) := opq Tryd.underlying18
@[simp ↓] theorem fld18_0 {q : Nat → TypeId → Prop} : goFld Tryd.prog 18 0 q = q 0 17 := by simp only [goFld, und18]; rfl
@[simp ↓] theorem bld18 {q : List Value → List (Nat × Nat) → Prop} : goBld Tryd.prog 18 q = q [Go.Value.pointer none] [(0, 1)] := by simp [goBld, und18, zer18, placesL, Value.cells]
theorem agg19 : aggT Tryd.prog 19 = some true := by unfold aggT; rw [Tryd.underlying19]; rfl
@[simp] theorem siz19 : szT Tryd.prog 19 = some 1 := by unfold szT; rw [show Tryd.prog.info? 19 = some Tryd.t19 from Tryd.type19]; rfl
@[simp ↓] theorem ty19 {q : Bool → Nat → Prop} : goTy Tryd.prog 19 q = q true 1 := by simp only [goTy, agg19, siz19]
@[simp ↓] theorem sz19 {q : Nat → Prop} : goSz Tryd.prog 19 q = q 1 := by simp only [goSz, siz19]
theorem zer19 : zero? Tryd.prog 19 = some (Go.Value.agg #[Go.Value.pointer none]) := by unfold zero?; rw [show Tryd.prog.info? 19 = some Tryd.t19 from Tryd.type19]; rfl
@[simp ↓] theorem z19 {q : List Value → Prop} : goZ Tryd.prog 19 q = q [Go.Value.pointer none] := by simp [goZ, zer19, Value.cells]
@[simp] theorem und19 : Tryd.prog.underlying 19 = some (Go.TypeDesc.struct
  #[{ name := "typ", type := 17, offset := 0, embedded := false, tag := "", pkgPath := "internal/runtime/maps",
      byteOffset := 0 }]) := opq Tryd.underlying19
@[simp ↓] theorem fld19_0 {q : Nat → TypeId → Prop} : goFld Tryd.prog 19 0 q = q 0 17 := by simp only [goFld, und19]; rfl
@[simp ↓] theorem bld19 {q : List Value → List (Nat × Nat) → Prop} : goBld Tryd.prog 19 q = q [Go.Value.pointer none] [(0, 1)] := by simp [goBld, und19, zer19, placesL, Value.cells]
theorem agg20 : aggT Tryd.prog 20 = some false := by unfold aggT; rw [Tryd.underlying20]; rfl
@[simp] theorem siz20 : szT Tryd.prog 20 = some 1 := by unfold szT; rw [show Tryd.prog.info? 20 = some Tryd.t20 from Tryd.type20]; rfl
@[simp ↓] theorem ty20 {q : Bool → Nat → Prop} : goTy Tryd.prog 20 q = q false 1 := by simp only [goTy, agg20, siz20]
@[simp ↓] theorem sz20 {q : Nat → Prop} : goSz Tryd.prog 20 q = q 1 := by simp only [goSz, siz20]
theorem zer20 : zero? Tryd.prog 20 = some Go.Value.nilIface := by unfold zero?; rw [show Tryd.prog.info? 20 = some Tryd.t20 from Tryd.type20]; rfl
@[simp ↓] theorem z20 {q : List Value → Prop} : goZ Tryd.prog 20 q = q [Go.Value.nilIface] := by simp [goZ, zer20, Value.cells]
theorem agg21 : aggT Tryd.prog 21 = some false := by unfold aggT; rw [Tryd.underlying21]; rfl
@[simp] theorem siz21 : szT Tryd.prog 21 = some 1 := by unfold szT; rw [show Tryd.prog.info? 21 = some Tryd.t21 from Tryd.type21]; rfl
@[simp ↓] theorem ty21 {q : Bool → Nat → Prop} : goTy Tryd.prog 21 q = q false 1 := by simp only [goTy, agg21, siz21]
@[simp ↓] theorem sz21 {q : Nat → Prop} : goSz Tryd.prog 21 q = q 1 := by simp only [goSz, siz21]
theorem zer21 : zero? Tryd.prog 21 = some (Go.Value.int Go.IntKind.i32 0) := by unfold zero?; rw [show Tryd.prog.info? 21 = some Tryd.t21 from Tryd.type21]; rfl
@[simp ↓] theorem z21 {q : List Value → Prop} : goZ Tryd.prog 21 q = q [(Go.Value.int Go.IntKind.i32 0)] := by simp [goZ, zer21, Value.cells]
@[simp] theorem und21 : Tryd.prog.underlying 21 = some (Go.TypeDesc.int Go.IntKind.i32) := opq Tryd.underlying21
@[simp ↓] theorem un21 {q : TypeDesc → Prop} : goUnd Tryd.prog 21 q = q (Go.TypeDesc.int Go.IntKind.i32) := by simp only [goUnd, und21]
theorem agg22 : aggT Tryd.prog 22 = some false := by unfold aggT; rw [Tryd.underlying22]; rfl
@[simp] theorem siz22 : szT Tryd.prog 22 = some 1 := by unfold szT; rw [show Tryd.prog.info? 22 = some Tryd.t22 from Tryd.type22]; rfl
@[simp ↓] theorem ty22 {q : Bool → Nat → Prop} : goTy Tryd.prog 22 q = q false 1 := by simp only [goTy, agg22, siz22]
@[simp ↓] theorem sz22 {q : Nat → Prop} : goSz Tryd.prog 22 q = q 1 := by simp only [goSz, siz22]
theorem zer22 : zero? Tryd.prog 22 = some (Go.Value.slice none 0 0) := by unfold zero?; rw [show Tryd.prog.info? 22 = some Tryd.t22 from Tryd.type22]; rfl
@[simp ↓] theorem z22 {q : List Value → Prop} : goZ Tryd.prog 22 q = q [(Go.Value.slice none 0 0)] := by simp [goZ, zer22, Value.cells]
@[simp] theorem und22 : Tryd.prog.underlying 22 = some (Go.TypeDesc.slice 55) := opq Tryd.underlying22
@[simp ↓] theorem un22 {q : TypeDesc → Prop} : goUnd Tryd.prog 22 q = q (Go.TypeDesc.slice 55) := by simp only [goUnd, und22]
theorem slt22 : SlT Tryd.prog 22 55 3 32 := ⟨Tryd.underlying22, ⟨Tryd.t55, _, Tryd.type55, rfl, rfl, rfl, by simp, rfl⟩, by decide⟩
@[simp ↓] theorem sl22 {q : TypeId → Nat → List Value → Prop} : goSl Tryd.prog 22 q = q 55 3 [Go.Value.int Go.IntKind.i64 0, Go.Value.string { data := #[] }, Go.Value.int Go.IntKind.i64 0] := by simp [goSl, und22, show zero? Tryd.prog 55 = some (Go.Value.agg #[Go.Value.int Go.IntKind.i64 0, Go.Value.string { data := #[] }, Go.Value.int Go.IntKind.i64 0]) from by unfold zero?; rw [show Tryd.prog.info? 55 = some Tryd.t55 from Tryd.type55]; rfl, show szT Tryd.prog 55 = some 3 from by unfold szT; rw [show Tryd.prog.info? 55 = some Tryd.t55 from Tryd.type55]; rfl, Value.cells]
theorem agg23 : aggT Tryd.prog 23 = some true := by unfold aggT; rw [Tryd.underlying23]; rfl
@[simp] theorem siz23 : szT Tryd.prog 23 = some 1 := by unfold szT; rw [show Tryd.prog.info? 23 = some Tryd.t23 from Tryd.type23]; rfl
@[simp ↓] theorem ty23 {q : Bool → Nat → Prop} : goTy Tryd.prog 23 q = q true 1 := by simp only [goTy, agg23, siz23]
@[simp ↓] theorem sz23 {q : Nat → Prop} : goSz Tryd.prog 23 q = q 1 := by simp only [goSz, siz23]
theorem zer23 : zero? Tryd.prog 23 = some (Go.Value.agg #[Go.Value.slice none 0 0]) := by unfold zero?; rw [show Tryd.prog.info? 23 = some Tryd.t23 from Tryd.type23]; rfl
@[simp ↓] theorem z23 {q : List Value → Prop} : goZ Tryd.prog 23 q = q [Go.Value.slice none 0 0] := by simp [goZ, zer23, Value.cells]
@[simp] theorem und23 : Tryd.prog.underlying 23 = some (Go.TypeDesc.struct
  #[{ name := "Code", type := 22, offset := 0, embedded := false, tag := "", pkgPath := "", byteOffset := 0 }]) := opq Tryd.underlying23
@[simp ↓] theorem fld23_0 {q : Nat → TypeId → Prop} : goFld Tryd.prog 23 0 q = q 0 22 := by simp only [goFld, und23]; rfl
@[simp ↓] theorem bld23 {q : List Value → List (Nat × Nat) → Prop} : goBld Tryd.prog 23 q = q [Go.Value.slice none 0 0] [(0, 1)] := by simp [goBld, und23, zer23, placesL, Value.cells]
theorem agg24 : aggT Tryd.prog 24 = some true := by unfold aggT; rw [Tryd.underlying24]; rfl
@[simp] theorem siz24 : szT Tryd.prog 24 = some 1 := by unfold szT; rw [show Tryd.prog.info? 24 = some Tryd.t24 from Tryd.type24]; rfl
@[simp ↓] theorem ty24 {q : Bool → Nat → Prop} : goTy Tryd.prog 24 q = q true 1 := by simp only [goTy, agg24, siz24]
@[simp ↓] theorem sz24 {q : Nat → Prop} : goSz Tryd.prog 24 q = q 1 := by simp only [goSz, siz24]
theorem zer24 : zero? Tryd.prog 24 = some (Go.Value.agg #[Go.Value.slice none 0 0]) := by unfold zero?; rw [show Tryd.prog.info? 24 = some Tryd.t24 from Tryd.type24]; rfl
@[simp ↓] theorem z24 {q : List Value → Prop} : goZ Tryd.prog 24 q = q [Go.Value.slice none 0 0] := by simp [goZ, zer24, Value.cells]
@[simp] theorem und24 : Tryd.prog.underlying 24 = some (Go.TypeDesc.struct
  #[{ name := "Code", type := 22, offset := 0, embedded := false, tag := "", pkgPath := "", byteOffset := 0 }]) := opq Tryd.underlying24
@[simp ↓] theorem fld24_0 {q : Nat → TypeId → Prop} : goFld Tryd.prog 24 0 q = q 0 22 := by simp only [goFld, und24]; rfl
@[simp ↓] theorem bld24 {q : List Value → List (Nat × Nat) → Prop} : goBld Tryd.prog 24 q = q [Go.Value.slice none 0 0] [(0, 1)] := by simp [goBld, und24, zer24, placesL, Value.cells]
theorem agg25 : aggT Tryd.prog 25 = some true := by unfold aggT; rw [Tryd.underlying25]; rfl
@[simp] theorem siz25 : szT Tryd.prog 25 = some 2 := by unfold szT; rw [show Tryd.prog.info? 25 = some Tryd.t25 from Tryd.type25]; rfl
@[simp ↓] theorem ty25 {q : Bool → Nat → Prop} : goTy Tryd.prog 25 q = q true 2 := by simp only [goTy, agg25, siz25]
@[simp ↓] theorem sz25 {q : Nat → Prop} : goSz Tryd.prog 25 q = q 2 := by simp only [goSz, siz25]
theorem zer25 : zero? Tryd.prog 25 = some (Go.Value.agg #[Go.Value.int Go.IntKind.i64 0, Go.Value.int Go.IntKind.i64 0]) := by unfold zero?; rw [show Tryd.prog.info? 25 = some Tryd.t25 from Tryd.type25]; rfl
@[simp ↓] theorem z25 {q : List Value → Prop} : goZ Tryd.prog 25 q = q [Go.Value.int Go.IntKind.i64 0, Go.Value.int Go.IntKind.i64 0] := by simp [goZ, zer25, Value.cells]
@[simp] theorem und25 : Tryd.prog.underlying 25 = some (Go.TypeDesc.struct
  #[{ name := "Code", type := 3, offset := 0, embedded := false, tag := "", pkgPath := "", byteOffset := 0 },
    { name := "Line", type := 3, offset := 1, embedded := false, tag := "", pkgPath := "", byteOffset := 8 }]) := opq Tryd.underlying25
@[simp ↓] theorem fld25_0 {q : Nat → TypeId → Prop} : goFld Tryd.prog 25 0 q = q 0 3 := by simp only [goFld, und25]; rfl
@[simp ↓] theorem fld25_1 {q : Nat → TypeId → Prop} : goFld Tryd.prog 25 1 q = q 1 3 := by simp only [goFld, und25]; rfl
@[simp ↓] theorem bld25 {q : List Value → List (Nat × Nat) → Prop} : goBld Tryd.prog 25 q = q [Go.Value.int Go.IntKind.i64 0, Go.Value.int Go.IntKind.i64 0] [(0, 1), (1, 1)] := by simp [goBld, und25, zer25, placesL, Value.cells]
theorem agg26 : aggT Tryd.prog 26 = some true := by unfold aggT; rw [Tryd.underlying26]; rfl
@[simp] theorem siz26 : szT Tryd.prog 26 = some 2 := by unfold szT; rw [show Tryd.prog.info? 26 = some Tryd.t26 from Tryd.type26]; rfl
@[simp ↓] theorem ty26 {q : Bool → Nat → Prop} : goTy Tryd.prog 26 q = q true 2 := by simp only [goTy, agg26, siz26]
@[simp ↓] theorem sz26 {q : Nat → Prop} : goSz Tryd.prog 26 q = q 2 := by simp only [goSz, siz26]
theorem zer26 : zero? Tryd.prog 26 = some (Go.Value.agg #[Go.Value.int Go.IntKind.i64 0, Go.Value.int Go.IntKind.i64 0]) := by unfold zero?; rw [show Tryd.prog.info? 26 = some Tryd.t26 from Tryd.type26]; rfl
@[simp ↓] theorem z26 {q : List Value → Prop} : goZ Tryd.prog 26 q = q [Go.Value.int Go.IntKind.i64 0, Go.Value.int Go.IntKind.i64 0] := by simp [goZ, zer26, Value.cells]
@[simp] theorem und26 : Tryd.prog.underlying 26 = some (Go.TypeDesc.struct
  #[{ name := "Code", type := 3, offset := 0, embedded := false, tag := "", pkgPath := "", byteOffset := 0 },
    { name := "Line", type := 3, offset := 1, embedded := false, tag := "", pkgPath := "", byteOffset := 8 }]) := opq Tryd.underlying26
@[simp ↓] theorem fld26_0 {q : Nat → TypeId → Prop} : goFld Tryd.prog 26 0 q = q 0 3 := by simp only [goFld, und26]; rfl
@[simp ↓] theorem fld26_1 {q : Nat → TypeId → Prop} : goFld Tryd.prog 26 1 q = q 1 3 := by simp only [goFld, und26]; rfl
@[simp ↓] theorem bld26 {q : List Value → List (Nat × Nat) → Prop} : goBld Tryd.prog 26 q = q [Go.Value.int Go.IntKind.i64 0, Go.Value.int Go.IntKind.i64 0] [(0, 1), (1, 1)] := by simp [goBld, und26, zer26, placesL, Value.cells]
theorem agg28 : aggT Tryd.prog 28 = some false := by unfold aggT; rw [Tryd.underlying28]; rfl
@[simp] theorem siz28 : szT Tryd.prog 28 = some 1 := by unfold szT; rw [show Tryd.prog.info? 28 = some Tryd.t28 from Tryd.type28]; rfl
@[simp ↓] theorem ty28 {q : Bool → Nat → Prop} : goTy Tryd.prog 28 q = q false 1 := by simp only [goTy, agg28, siz28]
@[simp ↓] theorem sz28 {q : Nat → Prop} : goSz Tryd.prog 28 q = q 1 := by simp only [goSz, siz28]
theorem zer28 : zero? Tryd.prog 28 = some Go.Value.nilFunc := by unfold zero?; rw [show Tryd.prog.info? 28 = some Tryd.t28 from Tryd.type28]; rfl
@[simp ↓] theorem z28 {q : List Value → Prop} : goZ Tryd.prog 28 q = q [Go.Value.nilFunc] := by simp [goZ, zer28, Value.cells]
theorem agg31 : aggT Tryd.prog 31 = some false := by unfold aggT; rw [Tryd.underlying31]; rfl
@[simp] theorem siz31 : szT Tryd.prog 31 = some 1 := by unfold szT; rw [show Tryd.prog.info? 31 = some Tryd.t31 from Tryd.type31]; rfl
@[simp ↓] theorem ty31 {q : Bool → Nat → Prop} : goTy Tryd.prog 31 q = q false 1 := by simp only [goTy, agg31, siz31]
@[simp ↓] theorem sz31 {q : Nat → Prop} : goSz Tryd.prog 31 q = q 1 := by simp only [goSz, siz31]
theorem zer31 : zero? Tryd.prog 31 = some Go.Value.nilFunc := by unfold zero?; rw [show Tryd.prog.info? 31 = some Tryd.t31 from Tryd.type31]; rfl
@[simp ↓] theorem z31 {q : List Value → Prop} : goZ Tryd.prog 31 q = q [Go.Value.nilFunc] := by simp [goZ, zer31, Value.cells]
theorem agg32 : aggT Tryd.prog 32 = some false := by unfold aggT; rw [Tryd.underlying32]; rfl
@[simp] theorem siz32 : szT Tryd.prog 32 = some 1 := by unfold szT; rw [show Tryd.prog.info? 32 = some Tryd.t32 from Tryd.type32]; rfl
@[simp ↓] theorem ty32 {q : Bool → Nat → Prop} : goTy Tryd.prog 32 q = q false 1 := by simp only [goTy, agg32, siz32]
@[simp ↓] theorem sz32 {q : Nat → Prop} : goSz Tryd.prog 32 q = q 1 := by simp only [goSz, siz32]
theorem zer32 : zero? Tryd.prog 32 = some Go.Value.nilFunc := by unfold zero?; rw [show Tryd.prog.info? 32 = some Tryd.t32 from Tryd.type32]; rfl
@[simp ↓] theorem z32 {q : List Value → Prop} : goZ Tryd.prog 32 q = q [Go.Value.nilFunc] := by simp [goZ, zer32, Value.cells]
theorem agg33 : aggT Tryd.prog 33 = some false := by unfold aggT; rw [Tryd.underlying33]; rfl
@[simp] theorem siz33 : szT Tryd.prog 33 = some 1 := by unfold szT; rw [show Tryd.prog.info? 33 = some Tryd.t33 from Tryd.type33]; rfl
@[simp ↓] theorem ty33 {q : Bool → Nat → Prop} : goTy Tryd.prog 33 q = q false 1 := by simp only [goTy, agg33, siz33]
@[simp ↓] theorem sz33 {q : Nat → Prop} : goSz Tryd.prog 33 q = q 1 := by simp only [goSz, siz33]
theorem zer33 : zero? Tryd.prog 33 = some (Go.Value.slice none 0 0) := by unfold zero?; rw [show Tryd.prog.info? 33 = some Tryd.t33 from Tryd.type33]; rfl
@[simp ↓] theorem z33 {q : List Value → Prop} : goZ Tryd.prog 33 q = q [(Go.Value.slice none 0 0)] := by simp [goZ, zer33, Value.cells]
@[simp] theorem und33 : Tryd.prog.underlying 33 = some (Go.TypeDesc.slice 5) := opq Tryd.underlying33
@[simp ↓] theorem un33 {q : TypeDesc → Prop} : goUnd Tryd.prog 33 q = q (Go.TypeDesc.slice 5) := by simp only [goUnd, und33]
theorem slt33 : SlT Tryd.prog 33 5 1 1 := ⟨Tryd.underlying33, ⟨Tryd.t5, _, Tryd.type5, rfl, rfl, rfl, by simp, rfl⟩, by decide⟩
@[simp ↓] theorem sl33 {q : TypeId → Nat → List Value → Prop} : goSl Tryd.prog 33 q = q 5 1 [(Go.Value.int Go.IntKind.u8 0)] := by simp [goSl, und33, show zero? Tryd.prog 5 = some (Go.Value.int Go.IntKind.u8 0) from by unfold zero?; rw [show Tryd.prog.info? 5 = some Tryd.t5 from Tryd.type5]; rfl, show szT Tryd.prog 5 = some 1 from by unfold szT; rw [show Tryd.prog.info? 5 = some Tryd.t5 from Tryd.type5]; rfl, Value.cells]
theorem agg34 : aggT Tryd.prog 34 = some false := by unfold aggT; rw [Tryd.underlying34]; rfl
@[simp] theorem siz34 : szT Tryd.prog 34 = some 1 := by unfold szT; rw [show Tryd.prog.info? 34 = some Tryd.t34 from Tryd.type34]; rfl
@[simp ↓] theorem ty34 {q : Bool → Nat → Prop} : goTy Tryd.prog 34 q = q false 1 := by simp only [goTy, agg34, siz34]
@[simp ↓] theorem sz34 {q : Nat → Prop} : goSz Tryd.prog 34 q = q 1 := by simp only [goSz, siz34]
theorem zer34 : zero? Tryd.prog 34 = some Go.Value.nilFunc := by unfold zero?; rw [show Tryd.prog.info? 34 = some Tryd.t34 from Tryd.type34]; rfl
@[simp ↓] theorem z34 {q : List Value → Prop} : goZ Tryd.prog 34 q = q [Go.Value.nilFunc] := by simp [goZ, zer34, Value.cells]
theorem agg35 : aggT Tryd.prog 35 = some false := by unfold aggT; rw [Tryd.underlying35]; rfl
@[simp] theorem siz35 : szT Tryd.prog 35 = some 1 := by unfold szT; rw [show Tryd.prog.info? 35 = some Tryd.t35 from Tryd.type35]; rfl
@[simp ↓] theorem ty35 {q : Bool → Nat → Prop} : goTy Tryd.prog 35 q = q false 1 := by simp only [goTy, agg35, siz35]
@[simp ↓] theorem sz35 {q : Nat → Prop} : goSz Tryd.prog 35 q = q 1 := by simp only [goSz, siz35]
theorem zer35 : zero? Tryd.prog 35 = some Go.Value.nilFunc := by unfold zero?; rw [show Tryd.prog.info? 35 = some Tryd.t35 from Tryd.type35]; rfl
@[simp ↓] theorem z35 {q : List Value → Prop} : goZ Tryd.prog 35 q = q [Go.Value.nilFunc] := by simp [goZ, zer35, Value.cells]
theorem agg36 : aggT Tryd.prog 36 = some false := by unfold aggT; rw [Tryd.underlying36]; rfl
@[simp] theorem siz36 : szT Tryd.prog 36 = some 1 := by unfold szT; rw [show Tryd.prog.info? 36 = some Tryd.t36 from Tryd.type36]; rfl
@[simp ↓] theorem ty36 {q : Bool → Nat → Prop} : goTy Tryd.prog 36 q = q false 1 := by simp only [goTy, agg36, siz36]
@[simp ↓] theorem sz36 {q : Nat → Prop} : goSz Tryd.prog 36 q = q 1 := by simp only [goSz, siz36]
theorem zer36 : zero? Tryd.prog 36 = some Go.Value.nilFunc := by unfold zero?; rw [show Tryd.prog.info? 36 = some Tryd.t36 from Tryd.type36]; rfl
@[simp ↓] theorem z36 {q : List Value → Prop} : goZ Tryd.prog 36 q = q [Go.Value.nilFunc] := by simp [goZ, zer36, Value.cells]
theorem agg38 : aggT Tryd.prog 38 = some false := by unfold aggT; rw [Tryd.underlying38]; rfl
@[simp] theorem siz38 : szT Tryd.prog 38 = some 1 := by unfold szT; rw [show Tryd.prog.info? 38 = some Tryd.t38 from Tryd.type38]; rfl
@[simp ↓] theorem ty38 {q : Bool → Nat → Prop} : goTy Tryd.prog 38 q = q false 1 := by simp only [goTy, agg38, siz38]
@[simp ↓] theorem sz38 {q : Nat → Prop} : goSz Tryd.prog 38 q = q 1 := by simp only [goSz, siz38]
theorem zer38 : zero? Tryd.prog 38 = some (Go.Value.slice none 0 0) := by unfold zero?; rw [show Tryd.prog.info? 38 = some Tryd.t38 from Tryd.type38]; rfl
@[simp ↓] theorem z38 {q : List Value → Prop} : goZ Tryd.prog 38 q = q [(Go.Value.slice none 0 0)] := by simp [goZ, zer38, Value.cells]
@[simp] theorem und38 : Tryd.prog.underlying 38 = some (Go.TypeDesc.slice 116) := opq Tryd.underlying38
@[simp ↓] theorem un38 {q : TypeDesc → Prop} : goUnd Tryd.prog 38 q = q (Go.TypeDesc.slice 116) := by simp only [goUnd, und38]
theorem slt38 : SlT Tryd.prog 38 116 6 96 := ⟨Tryd.underlying38, ⟨Tryd.t116, _, Tryd.type116, rfl, rfl, rfl, by simp, rfl⟩, by decide⟩
@[simp ↓] theorem sl38 {q : TypeId → Nat → List Value → Prop} : goSl Tryd.prog 38 q = q 116 6 [Go.Value.string { data := #[] }, Go.Value.int Go.IntKind.i64 0, Go.Value.int Go.IntKind.i64 0,
      Go.Value.string { data := #[] }, Go.Value.slice none 0 0, Go.Value.slice none 0 0] := by simp [goSl, und38, show zero? Tryd.prog 116 = some
  (Go.Value.agg
    #[Go.Value.string { data := #[] }, Go.Value.int Go.IntKind.i64 0, Go.Value.int Go.IntKind.i64 0,
      Go.Value.string { data := #[] }, Go.Value.slice none 0 0, Go.Value.slice none 0 0]) from by unfold zero?; rw [show Tryd.prog.info? 116 = some Tryd.t116 from Tryd.type116]; rfl, show szT Tryd.prog 116 = some 6 from by unfold szT; rw [show Tryd.prog.info? 116 = some Tryd.t116 from Tryd.type116]; rfl, Value.cells]
theorem agg39 : aggT Tryd.prog 39 = some true := by unfold aggT; rw [Tryd.underlying39]; rfl
@[simp] theorem siz39 : szT Tryd.prog 39 = some 1 := by unfold szT; rw [show Tryd.prog.info? 39 = some Tryd.t39 from Tryd.type39]; rfl
@[simp ↓] theorem ty39 {q : Bool → Nat → Prop} : goTy Tryd.prog 39 q = q true 1 := by simp only [goTy, agg39, siz39]
@[simp ↓] theorem sz39 {q : Nat → Prop} : goSz Tryd.prog 39 q = q 1 := by simp only [goSz, siz39]
theorem zer39 : zero? Tryd.prog 39 = some (Go.Value.agg #[Go.Value.slice none 0 0]) := by unfold zero?; rw [show Tryd.prog.info? 39 = some Tryd.t39 from Tryd.type39]; rfl
@[simp ↓] theorem z39 {q : List Value → Prop} : goZ Tryd.prog 39 q = q [Go.Value.slice none 0 0] := by simp [goZ, zer39, Value.cells]
@[simp] theorem und39 : Tryd.prog.underlying 39 = some (Go.TypeDesc.struct
  #[{ name := "Deeds", type := 38, offset := 0, embedded := false, tag := "", pkgPath := "", byteOffset := 0 }]) := opq Tryd.underlying39
@[simp ↓] theorem fld39_0 {q : Nat → TypeId → Prop} : goFld Tryd.prog 39 0 q = q 0 38 := by simp only [goFld, und39]; rfl
@[simp ↓] theorem bld39 {q : List Value → List (Nat × Nat) → Prop} : goBld Tryd.prog 39 q = q [Go.Value.slice none 0 0] [(0, 1)] := by simp [goBld, und39, zer39, placesL, Value.cells]
theorem agg41 : aggT Tryd.prog 41 = some false := by unfold aggT; rw [Tryd.underlying41]; rfl
@[simp] theorem siz41 : szT Tryd.prog 41 = some 1 := by unfold szT; rw [show Tryd.prog.info? 41 = some Tryd.t41 from Tryd.type41]; rfl
@[simp ↓] theorem ty41 {q : Bool → Nat → Prop} : goTy Tryd.prog 41 q = q false 1 := by simp only [goTy, agg41, siz41]
@[simp ↓] theorem sz41 {q : Nat → Prop} : goSz Tryd.prog 41 q = q 1 := by simp only [goSz, siz41]
theorem zer41 : zero? Tryd.prog 41 = some Go.Value.nilFunc := by unfold zero?; rw [show Tryd.prog.info? 41 = some Tryd.t41 from Tryd.type41]; rfl
@[simp ↓] theorem z41 {q : List Value → Prop} : goZ Tryd.prog 41 q = q [Go.Value.nilFunc] := by simp [goZ, zer41, Value.cells]
theorem agg43 : aggT Tryd.prog 43 = some false := by unfold aggT; rw [Tryd.underlying43]; rfl
@[simp] theorem siz43 : szT Tryd.prog 43 = some 1 := by unfold szT; rw [show Tryd.prog.info? 43 = some Tryd.t43 from Tryd.type43]; rfl
@[simp ↓] theorem ty43 {q : Bool → Nat → Prop} : goTy Tryd.prog 43 q = q false 1 := by simp only [goTy, agg43, siz43]
@[simp ↓] theorem sz43 {q : Nat → Prop} : goSz Tryd.prog 43 q = q 1 := by simp only [goSz, siz43]
theorem zer43 : zero? Tryd.prog 43 = some (Go.Value.slice none 0 0) := by unfold zero?; rw [show Tryd.prog.info? 43 = some Tryd.t43 from Tryd.type43]; rfl
@[simp ↓] theorem z43 {q : List Value → Prop} : goZ Tryd.prog 43 q = q [(Go.Value.slice none 0 0)] := by simp [goZ, zer43, Value.cells]
@[simp] theorem und43 : Tryd.prog.underlying 43 = some (Go.TypeDesc.slice 86) := opq Tryd.underlying43
@[simp ↓] theorem un43 {q : TypeDesc → Prop} : goUnd Tryd.prog 43 q = q (Go.TypeDesc.slice 86) := by simp only [goUnd, und43]
theorem slt43 : SlT Tryd.prog 43 86 6 96 := ⟨Tryd.underlying43, ⟨Tryd.t86, _, Tryd.type86, rfl, rfl, rfl, by simp, rfl⟩, by decide⟩
@[simp ↓] theorem sl43 {q : TypeId → Nat → List Value → Prop} : goSl Tryd.prog 43 q = q 86 6 [Go.Value.string { data := #[] }, Go.Value.int Go.IntKind.i64 0, Go.Value.int Go.IntKind.i64 0,
      Go.Value.string { data := #[] }, Go.Value.slice none 0 0, Go.Value.slice none 0 0] := by simp [goSl, und43, show zero? Tryd.prog 86 = some
  (Go.Value.agg
    #[Go.Value.string { data := #[] }, Go.Value.int Go.IntKind.i64 0, Go.Value.int Go.IntKind.i64 0,
      Go.Value.string { data := #[] }, Go.Value.slice none 0 0, Go.Value.slice none 0 0]) from by unfold zero?; rw [show Tryd.prog.info? 86 = some Tryd.t86 from Tryd.type86]; rfl, show szT Tryd.prog 86 = some 6 from by unfold szT; rw [show Tryd.prog.info? 86 = some Tryd.t86 from Tryd.type86]; rfl, Value.cells]
theorem agg45 : aggT Tryd.prog 45 = some true := by unfold aggT; rw [Tryd.underlying45]; rfl
@[simp] theorem siz45 : szT Tryd.prog 45 = some 1 := by unfold szT; rw [show Tryd.prog.info? 45 = some Tryd.t45 from Tryd.type45]; rfl
@[simp ↓] theorem ty45 {q : Bool → Nat → Prop} : goTy Tryd.prog 45 q = q true 1 := by simp only [goTy, agg45, siz45]
@[simp ↓] theorem sz45 {q : Nat → Prop} : goSz Tryd.prog 45 q = q 1 := by simp only [goSz, siz45]
theorem zer45 : zero? Tryd.prog 45 = some (Go.Value.agg #[Go.Value.slice none 0 0]) := by unfold zero?; rw [show Tryd.prog.info? 45 = some Tryd.t45 from Tryd.type45]; rfl
@[simp ↓] theorem z45 {q : List Value → Prop} : goZ Tryd.prog 45 q = q [Go.Value.slice none 0 0] := by simp [goZ, zer45, Value.cells]
@[simp] theorem und45 : Tryd.prog.underlying 45 = some (Go.TypeDesc.struct
  #[{ name := "Deeds", type := 43, offset := 0, embedded := false, tag := "", pkgPath := "", byteOffset := 0 }]) := opq Tryd.underlying45
@[simp ↓] theorem fld45_0 {q : Nat → TypeId → Prop} : goFld Tryd.prog 45 0 q = q 0 43 := by simp only [goFld, und45]; rfl
@[simp ↓] theorem bld45 {q : List Value → List (Nat × Nat) → Prop} : goBld Tryd.prog 45 q = q [Go.Value.slice none 0 0] [(0, 1)] := by simp [goBld, und45, zer45, placesL, Value.cells]
theorem agg46 : aggT Tryd.prog 46 = some false := by unfold aggT; rw [Tryd.underlying46]; rfl
@[simp] theorem siz46 : szT Tryd.prog 46 = some 1 := by unfold szT; rw [show Tryd.prog.info? 46 = some Tryd.t46 from Tryd.type46]; rfl
@[simp ↓] theorem ty46 {q : Bool → Nat → Prop} : goTy Tryd.prog 46 q = q false 1 := by simp only [goTy, agg46, siz46]
@[simp ↓] theorem sz46 {q : Nat → Prop} : goSz Tryd.prog 46 q = q 1 := by simp only [goSz, siz46]
theorem zer46 : zero? Tryd.prog 46 = some Go.Value.nilFunc := by unfold zero?; rw [show Tryd.prog.info? 46 = some Tryd.t46 from Tryd.type46]; rfl
@[simp ↓] theorem z46 {q : List Value → Prop} : goZ Tryd.prog 46 q = q [Go.Value.nilFunc] := by simp [goZ, zer46, Value.cells]
theorem agg47 : aggT Tryd.prog 47 = some false := by unfold aggT; rw [Tryd.underlying47]; rfl
@[simp] theorem siz47 : szT Tryd.prog 47 = some 1 := by unfold szT; rw [show Tryd.prog.info? 47 = some Tryd.t47 from Tryd.type47]; rfl
@[simp ↓] theorem ty47 {q : Bool → Nat → Prop} : goTy Tryd.prog 47 q = q false 1 := by simp only [goTy, agg47, siz47]
@[simp ↓] theorem sz47 {q : Nat → Prop} : goSz Tryd.prog 47 q = q 1 := by simp only [goSz, siz47]
theorem zer47 : zero? Tryd.prog 47 = some Go.Value.nilFunc := by unfold zero?; rw [show Tryd.prog.info? 47 = some Tryd.t47 from Tryd.type47]; rfl
@[simp ↓] theorem z47 {q : List Value → Prop} : goZ Tryd.prog 47 q = q [Go.Value.nilFunc] := by simp [goZ, zer47, Value.cells]
theorem agg48 : aggT Tryd.prog 48 = some false := by unfold aggT; rw [Tryd.underlying48]; rfl
@[simp] theorem siz48 : szT Tryd.prog 48 = some 1 := by unfold szT; rw [show Tryd.prog.info? 48 = some Tryd.t48 from Tryd.type48]; rfl
@[simp ↓] theorem ty48 {q : Bool → Nat → Prop} : goTy Tryd.prog 48 q = q false 1 := by simp only [goTy, agg48, siz48]
@[simp ↓] theorem sz48 {q : Nat → Prop} : goSz Tryd.prog 48 q = q 1 := by simp only [goSz, siz48]
theorem zer48 : zero? Tryd.prog 48 = some Go.Value.nilFunc := by unfold zero?; rw [show Tryd.prog.info? 48 = some Tryd.t48 from Tryd.type48]; rfl
@[simp ↓] theorem z48 {q : List Value → Prop} : goZ Tryd.prog 48 q = q [Go.Value.nilFunc] := by simp [goZ, zer48, Value.cells]
theorem agg52 : aggT Tryd.prog 52 = some false := by unfold aggT; rw [Tryd.underlying52]; rfl
@[simp] theorem siz52 : szT Tryd.prog 52 = some 1 := by unfold szT; rw [show Tryd.prog.info? 52 = some Tryd.t52 from Tryd.type52]; rfl
@[simp ↓] theorem ty52 {q : Bool → Nat → Prop} : goTy Tryd.prog 52 q = q false 1 := by simp only [goTy, agg52, siz52]
@[simp ↓] theorem sz52 {q : Nat → Prop} : goSz Tryd.prog 52 q = q 1 := by simp only [goSz, siz52]
theorem zer52 : zero? Tryd.prog 52 = some (Go.Value.slice none 0 0) := by unfold zero?; rw [show Tryd.prog.info? 52 = some Tryd.t52 from Tryd.type52]; rfl
@[simp ↓] theorem z52 {q : List Value → Prop} : goZ Tryd.prog 52 q = q [(Go.Value.slice none 0 0)] := by simp [goZ, zer52, Value.cells]
@[simp] theorem und52 : Tryd.prog.underlying 52 = some (Go.TypeDesc.slice 9) := opq Tryd.underlying52
@[simp ↓] theorem un52 {q : TypeDesc → Prop} : goUnd Tryd.prog 52 q = q (Go.TypeDesc.slice 9) := by simp only [goUnd, und52]
theorem slt52 : SlT Tryd.prog 52 9 1 16 := ⟨Tryd.underlying52, ⟨Tryd.t9, _, Tryd.type9, rfl, rfl, rfl, by simp, rfl⟩, by decide⟩
@[simp ↓] theorem sl52 {q : TypeId → Nat → List Value → Prop} : goSl Tryd.prog 52 q = q 9 1 [(Go.Value.string { data := #[] })] := by simp [goSl, und52, show zero? Tryd.prog 9 = some (Go.Value.string { data := #[] }) from by unfold zero?; rw [show Tryd.prog.info? 9 = some Tryd.t9 from Tryd.type9]; rfl, show szT Tryd.prog 9 = some 1 from by unfold szT; rw [show Tryd.prog.info? 9 = some Tryd.t9 from Tryd.type9]; rfl, Value.cells]
theorem agg54 : aggT Tryd.prog 54 = some true := by unfold aggT; rw [Tryd.underlying54]; rfl
@[simp] theorem siz54 : szT Tryd.prog 54 = some 3 := by unfold szT; rw [show Tryd.prog.info? 54 = some Tryd.t54 from Tryd.type54]; rfl
@[simp ↓] theorem ty54 {q : Bool → Nat → Prop} : goTy Tryd.prog 54 q = q true 3 := by simp only [goTy, agg54, siz54]
@[simp ↓] theorem sz54 {q : Nat → Prop} : goSz Tryd.prog 54 q = q 3 := by simp only [goSz, siz54]
theorem zer54 : zero? Tryd.prog 54 = some (Go.Value.agg #[Go.Value.int Go.IntKind.i64 0, Go.Value.string { data := #[] }, Go.Value.int Go.IntKind.i64 0]) := by unfold zero?; rw [show Tryd.prog.info? 54 = some Tryd.t54 from Tryd.type54]; rfl
@[simp ↓] theorem z54 {q : List Value → Prop} : goZ Tryd.prog 54 q = q [Go.Value.int Go.IntKind.i64 0, Go.Value.string { data := #[] }, Go.Value.int Go.IntKind.i64 0] := by simp [goZ, zer54, Value.cells]
@[simp] theorem und54 : Tryd.prog.underlying 54 = some (Go.TypeDesc.struct
  #[{ name := "Op", type := 3, offset := 0, embedded := false, tag := "", pkgPath := "", byteOffset := 0 },
    { name := "Text", type := 9, offset := 1, embedded := false, tag := "", pkgPath := "", byteOffset := 8 },
    { name := "N", type := 3, offset := 2, embedded := false, tag := "", pkgPath := "", byteOffset := 24 }]) := opq Tryd.underlying54
@[simp ↓] theorem fld54_0 {q : Nat → TypeId → Prop} : goFld Tryd.prog 54 0 q = q 0 3 := by simp only [goFld, und54]; rfl
@[simp ↓] theorem fld54_1 {q : Nat → TypeId → Prop} : goFld Tryd.prog 54 1 q = q 1 9 := by simp only [goFld, und54]; rfl
@[simp ↓] theorem fld54_2 {q : Nat → TypeId → Prop} : goFld Tryd.prog 54 2 q = q 2 3 := by simp only [goFld, und54]; rfl
@[simp ↓] theorem bld54 {q : List Value → List (Nat × Nat) → Prop} : goBld Tryd.prog 54 q = q [Go.Value.int Go.IntKind.i64 0, Go.Value.string { data := #[] }, Go.Value.int Go.IntKind.i64 0] [(0, 1), (1, 1), (2, 1)] := by simp [goBld, und54, zer54, placesL, Value.cells]
theorem agg55 : aggT Tryd.prog 55 = some true := by unfold aggT; rw [Tryd.underlying55]; rfl
@[simp] theorem siz55 : szT Tryd.prog 55 = some 3 := by unfold szT; rw [show Tryd.prog.info? 55 = some Tryd.t55 from Tryd.type55]; rfl
@[simp ↓] theorem ty55 {q : Bool → Nat → Prop} : goTy Tryd.prog 55 q = q true 3 := by simp only [goTy, agg55, siz55]
@[simp ↓] theorem sz55 {q : Nat → Prop} : goSz Tryd.prog 55 q = q 3 := by simp only [goSz, siz55]
theorem zer55 : zero? Tryd.prog 55 = some (Go.Value.agg #[Go.Value.int Go.IntKind.i64 0, Go.Value.string { data := #[] }, Go.Value.int Go.IntKind.i64 0]) := by unfold zero?; rw [show Tryd.prog.info? 55 = some Tryd.t55 from Tryd.type55]; rfl
@[simp ↓] theorem z55 {q : List Value → Prop} : goZ Tryd.prog 55 q = q [Go.Value.int Go.IntKind.i64 0, Go.Value.string { data := #[] }, Go.Value.int Go.IntKind.i64 0] := by simp [goZ, zer55, Value.cells]
@[simp] theorem und55 : Tryd.prog.underlying 55 = some (Go.TypeDesc.struct
  #[{ name := "Op", type := 3, offset := 0, embedded := false, tag := "", pkgPath := "", byteOffset := 0 },
    { name := "Text", type := 9, offset := 1, embedded := false, tag := "", pkgPath := "", byteOffset := 8 },
    { name := "N", type := 3, offset := 2, embedded := false, tag := "", pkgPath := "", byteOffset := 24 }]) := opq Tryd.underlying55
@[simp ↓] theorem fld55_0 {q : Nat → TypeId → Prop} : goFld Tryd.prog 55 0 q = q 0 3 := by simp only [goFld, und55]; rfl
@[simp ↓] theorem fld55_1 {q : Nat → TypeId → Prop} : goFld Tryd.prog 55 1 q = q 1 9 := by simp only [goFld, und55]; rfl
@[simp ↓] theorem fld55_2 {q : Nat → TypeId → Prop} : goFld Tryd.prog 55 2 q = q 2 3 := by simp only [goFld, und55]; rfl
@[simp ↓] theorem bld55 {q : List Value → List (Nat × Nat) → Prop} : goBld Tryd.prog 55 q = q [Go.Value.int Go.IntKind.i64 0, Go.Value.string { data := #[] }, Go.Value.int Go.IntKind.i64 0] [(0, 1), (1, 1), (2, 1)] := by simp [goBld, und55, zer55, placesL, Value.cells]
theorem agg57 : aggT Tryd.prog 57 = some false := by unfold aggT; rw [Tryd.underlying57]; rfl
@[simp] theorem siz57 : szT Tryd.prog 57 = some 1 := by unfold szT; rw [show Tryd.prog.info? 57 = some Tryd.t57 from Tryd.type57]; rfl
@[simp ↓] theorem ty57 {q : Bool → Nat → Prop} : goTy Tryd.prog 57 q = q false 1 := by simp only [goTy, agg57, siz57]
@[simp ↓] theorem sz57 {q : Nat → Prop} : goSz Tryd.prog 57 q = q 1 := by simp only [goSz, siz57]
theorem zer57 : zero? Tryd.prog 57 = some Go.Value.nilFunc := by unfold zero?; rw [show Tryd.prog.info? 57 = some Tryd.t57 from Tryd.type57]; rfl
@[simp ↓] theorem z57 {q : List Value → Prop} : goZ Tryd.prog 57 q = q [Go.Value.nilFunc] := by simp [goZ, zer57, Value.cells]
theorem agg59 : aggT Tryd.prog 59 = some false := by unfold aggT; rw [Tryd.underlying59]; rfl
@[simp] theorem siz59 : szT Tryd.prog 59 = some 1 := by unfold szT; rw [show Tryd.prog.info? 59 = some Tryd.t59 from Tryd.type59]; rfl
@[simp ↓] theorem ty59 {q : Bool → Nat → Prop} : goTy Tryd.prog 59 q = q false 1 := by simp only [goTy, agg59, siz59]
@[simp ↓] theorem sz59 {q : Nat → Prop} : goSz Tryd.prog 59 q = q 1 := by simp only [goSz, siz59]
theorem zer59 : zero? Tryd.prog 59 = some Go.Value.nilFunc := by unfold zero?; rw [show Tryd.prog.info? 59 = some Tryd.t59 from Tryd.type59]; rfl
@[simp ↓] theorem z59 {q : List Value → Prop} : goZ Tryd.prog 59 q = q [Go.Value.nilFunc] := by simp [goZ, zer59, Value.cells]
theorem agg60 : aggT Tryd.prog 60 = some false := by unfold aggT; rw [Tryd.underlying60]; rfl
@[simp] theorem siz60 : szT Tryd.prog 60 = some 1 := by unfold szT; rw [show Tryd.prog.info? 60 = some Tryd.t60 from Tryd.type60]; rfl
@[simp ↓] theorem ty60 {q : Bool → Nat → Prop} : goTy Tryd.prog 60 q = q false 1 := by simp only [goTy, agg60, siz60]
@[simp ↓] theorem sz60 {q : Nat → Prop} : goSz Tryd.prog 60 q = q 1 := by simp only [goSz, siz60]
theorem zer60 : zero? Tryd.prog 60 = some Go.Value.nilFunc := by unfold zero?; rw [show Tryd.prog.info? 60 = some Tryd.t60 from Tryd.type60]; rfl
@[simp ↓] theorem z60 {q : List Value → Prop} : goZ Tryd.prog 60 q = q [Go.Value.nilFunc] := by simp [goZ, zer60, Value.cells]
theorem agg64 : aggT Tryd.prog 64 = some false := by unfold aggT; rw [Tryd.underlying64]; rfl
@[simp] theorem siz64 : szT Tryd.prog 64 = some 1 := by unfold szT; rw [show Tryd.prog.info? 64 = some Tryd.t64 from Tryd.type64]; rfl
@[simp ↓] theorem ty64 {q : Bool → Nat → Prop} : goTy Tryd.prog 64 q = q false 1 := by simp only [goTy, agg64, siz64]
@[simp ↓] theorem sz64 {q : Nat → Prop} : goSz Tryd.prog 64 q = q 1 := by simp only [goSz, siz64]
theorem zer64 : zero? Tryd.prog 64 = some Go.Value.nilFunc := by unfold zero?; rw [show Tryd.prog.info? 64 = some Tryd.t64 from Tryd.type64]; rfl
@[simp ↓] theorem z64 {q : List Value → Prop} : goZ Tryd.prog 64 q = q [Go.Value.nilFunc] := by simp [goZ, zer64, Value.cells]
theorem agg65 : aggT Tryd.prog 65 = some false := by unfold aggT; rw [Tryd.underlying65]; rfl
@[simp] theorem siz65 : szT Tryd.prog 65 = some 1 := by unfold szT; rw [show Tryd.prog.info? 65 = some Tryd.t65 from Tryd.type65]; rfl
@[simp ↓] theorem ty65 {q : Bool → Nat → Prop} : goTy Tryd.prog 65 q = q false 1 := by simp only [goTy, agg65, siz65]
@[simp ↓] theorem sz65 {q : Nat → Prop} : goSz Tryd.prog 65 q = q 1 := by simp only [goSz, siz65]
theorem zer65 : zero? Tryd.prog 65 = some Go.Value.nilFunc := by unfold zero?; rw [show Tryd.prog.info? 65 = some Tryd.t65 from Tryd.type65]; rfl
@[simp ↓] theorem z65 {q : List Value → Prop} : goZ Tryd.prog 65 q = q [Go.Value.nilFunc] := by simp [goZ, zer65, Value.cells]
theorem agg66 : aggT Tryd.prog 66 = some false := by unfold aggT; rw [Tryd.underlying66]; rfl
@[simp] theorem siz66 : szT Tryd.prog 66 = some 1 := by unfold szT; rw [show Tryd.prog.info? 66 = some Tryd.t66 from Tryd.type66]; rfl
@[simp ↓] theorem ty66 {q : Bool → Nat → Prop} : goTy Tryd.prog 66 q = q false 1 := by simp only [goTy, agg66, siz66]
@[simp ↓] theorem sz66 {q : Nat → Prop} : goSz Tryd.prog 66 q = q 1 := by simp only [goSz, siz66]
theorem zer66 : zero? Tryd.prog 66 = some Go.Value.nilFunc := by unfold zero?; rw [show Tryd.prog.info? 66 = some Tryd.t66 from Tryd.type66]; rfl
@[simp ↓] theorem z66 {q : List Value → Prop} : goZ Tryd.prog 66 q = q [Go.Value.nilFunc] := by simp [goZ, zer66, Value.cells]
theorem agg67 : aggT Tryd.prog 67 = some false := by unfold aggT; rw [Tryd.underlying67]; rfl
@[simp] theorem siz67 : szT Tryd.prog 67 = some 1 := by unfold szT; rw [show Tryd.prog.info? 67 = some Tryd.t67 from Tryd.type67]; rfl
@[simp ↓] theorem ty67 {q : Bool → Nat → Prop} : goTy Tryd.prog 67 q = q false 1 := by simp only [goTy, agg67, siz67]
@[simp ↓] theorem sz67 {q : Nat → Prop} : goSz Tryd.prog 67 q = q 1 := by simp only [goSz, siz67]
theorem zer67 : zero? Tryd.prog 67 = some (Go.Value.pointer none) := by unfold zero?; rw [show Tryd.prog.info? 67 = some Tryd.t67 from Tryd.type67]; rfl
@[simp ↓] theorem z67 {q : List Value → Prop} : goZ Tryd.prog 67 q = q [(Go.Value.pointer none)] := by simp [goZ, zer67, Value.cells]
@[simp] theorem und67 : Tryd.prog.underlying 67 = some (Go.TypeDesc.pointer 69) := opq Tryd.underlying67
@[simp ↓] theorem un67 {q : TypeDesc → Prop} : goUnd Tryd.prog 67 q = q (Go.TypeDesc.pointer 69) := by simp only [goUnd, und67]
theorem agg69 : aggT Tryd.prog 69 = some true := by unfold aggT; rw [Tryd.underlying69]; rfl
@[simp] theorem siz69 : szT Tryd.prog 69 = some 2 := by unfold szT; rw [show Tryd.prog.info? 69 = some Tryd.t69 from Tryd.type69]; rfl
@[simp ↓] theorem ty69 {q : Bool → Nat → Prop} : goTy Tryd.prog 69 q = q true 2 := by simp only [goTy, agg69, siz69]
@[simp ↓] theorem sz69 {q : Nat → Prop} : goSz Tryd.prog 69 q = q 2 := by simp only [goSz, siz69]
theorem zer69 : zero? Tryd.prog 69 = some (Go.Value.agg #[Go.Value.pointer none, Go.Value.slice none 0 0]) := by unfold zero?; rw [show Tryd.prog.info? 69 = some Tryd.t69 from Tryd.type69]; rfl
@[simp ↓] theorem z69 {q : List Value → Prop} : goZ Tryd.prog 69 q = q [Go.Value.pointer none, Go.Value.slice none 0 0] := by simp [goZ, zer69, Value.cells]
@[simp] theorem und69 : Tryd.prog.underlying 69 = some (Go.TypeDesc.struct
  #[{ name := "addr", type := 67, offset := 0, embedded := false, tag := "", pkgPath := "strings", byteOffset := 0 },
    { name := "buf", type := 33, offset := 1, embedded := false, tag := "", pkgPath := "strings", byteOffset := 8 }]) := opq Tryd.underlying69
@[simp ↓] theorem fld69_0 {q : Nat → TypeId → Prop} : goFld Tryd.prog 69 0 q = q 0 67 := by simp only [goFld, und69]; rfl
@[simp ↓] theorem fld69_1 {q : Nat → TypeId → Prop} : goFld Tryd.prog 69 1 q = q 1 33 := by simp only [goFld, und69]; rfl
@[simp ↓] theorem bld69 {q : List Value → List (Nat × Nat) → Prop} : goBld Tryd.prog 69 q = q [Go.Value.pointer none, Go.Value.slice none 0 0] [(0, 1), (1, 1)] := by simp [goBld, und69, zer69, placesL, Value.cells]
theorem agg71 : aggT Tryd.prog 71 = some false := by unfold aggT; rw [Tryd.underlying71]; rfl
@[simp] theorem siz71 : szT Tryd.prog 71 = some 1 := by unfold szT; rw [show Tryd.prog.info? 71 = some Tryd.t71 from Tryd.type71]; rfl
@[simp ↓] theorem ty71 {q : Bool → Nat → Prop} : goTy Tryd.prog 71 q = q false 1 := by simp only [goTy, agg71, siz71]
@[simp ↓] theorem sz71 {q : Nat → Prop} : goSz Tryd.prog 71 q = q 1 := by simp only [goSz, siz71]
theorem zer71 : zero? Tryd.prog 71 = some Go.Value.nilIface := by unfold zero?; rw [show Tryd.prog.info? 71 = some Tryd.t71 from Tryd.type71]; rfl
@[simp ↓] theorem z71 {q : List Value → Prop} : goZ Tryd.prog 71 q = q [Go.Value.nilIface] := by simp [goZ, zer71, Value.cells]
theorem agg73 : aggT Tryd.prog 73 = some false := by unfold aggT; rw [Tryd.underlying73]; rfl
@[simp] theorem siz73 : szT Tryd.prog 73 = some 1 := by unfold szT; rw [show Tryd.prog.info? 73 = some Tryd.t73 from Tryd.type73]; rfl
@[simp ↓] theorem ty73 {q : Bool → Nat → Prop} : goTy Tryd.prog 73 q = q false 1 := by simp only [goTy, agg73, siz73]
@[simp ↓] theorem sz73 {q : Nat → Prop} : goSz Tryd.prog 73 q = q 1 := by simp only [goSz, siz73]
theorem zer73 : zero? Tryd.prog 73 = some Go.Value.nilFunc := by unfold zero?; rw [show Tryd.prog.info? 73 = some Tryd.t73 from Tryd.type73]; rfl
@[simp ↓] theorem z73 {q : List Value → Prop} : goZ Tryd.prog 73 q = q [Go.Value.nilFunc] := by simp [goZ, zer73, Value.cells]
theorem agg77 : aggT Tryd.prog 77 = some false := by unfold aggT; rw [Tryd.underlying77]; rfl
@[simp] theorem siz77 : szT Tryd.prog 77 = some 1 := by unfold szT; rw [show Tryd.prog.info? 77 = some Tryd.t77 from Tryd.type77]; rfl
@[simp ↓] theorem ty77 {q : Bool → Nat → Prop} : goTy Tryd.prog 77 q = q false 1 := by simp only [goTy, agg77, siz77]
@[simp ↓] theorem sz77 {q : Nat → Prop} : goSz Tryd.prog 77 q = q 1 := by simp only [goSz, siz77]
theorem zer77 : zero? Tryd.prog 77 = some Go.Value.nilFunc := by unfold zero?; rw [show Tryd.prog.info? 77 = some Tryd.t77 from Tryd.type77]; rfl
@[simp ↓] theorem z77 {q : List Value → Prop} : goZ Tryd.prog 77 q = q [Go.Value.nilFunc] := by simp [goZ, zer77, Value.cells]
theorem agg81 : aggT Tryd.prog 81 = some false := by unfold aggT; rw [Tryd.underlying81]; rfl
@[simp] theorem siz81 : szT Tryd.prog 81 = some 1 := by unfold szT; rw [show Tryd.prog.info? 81 = some Tryd.t81 from Tryd.type81]; rfl
@[simp ↓] theorem ty81 {q : Bool → Nat → Prop} : goTy Tryd.prog 81 q = q false 1 := by simp only [goTy, agg81, siz81]
@[simp ↓] theorem sz81 {q : Nat → Prop} : goSz Tryd.prog 81 q = q 1 := by simp only [goSz, siz81]
theorem zer81 : zero? Tryd.prog 81 = some Go.Value.nilFunc := by unfold zero?; rw [show Tryd.prog.info? 81 = some Tryd.t81 from Tryd.type81]; rfl
@[simp ↓] theorem z81 {q : List Value → Prop} : goZ Tryd.prog 81 q = q [Go.Value.nilFunc] := by simp [goZ, zer81, Value.cells]
theorem agg84 : aggT Tryd.prog 84 = some false := by unfold aggT; rw [Tryd.underlying84]; rfl
@[simp] theorem siz84 : szT Tryd.prog 84 = some 1 := by unfold szT; rw [show Tryd.prog.info? 84 = some Tryd.t84 from Tryd.type84]; rfl
@[simp ↓] theorem ty84 {q : Bool → Nat → Prop} : goTy Tryd.prog 84 q = q false 1 := by simp only [goTy, agg84, siz84]
@[simp ↓] theorem sz84 {q : Nat → Prop} : goSz Tryd.prog 84 q = q 1 := by simp only [goSz, siz84]
theorem zer84 : zero? Tryd.prog 84 = some (Go.Value.slice none 0 0) := by unfold zero?; rw [show Tryd.prog.info? 84 = some Tryd.t84 from Tryd.type84]; rfl
@[simp ↓] theorem z84 {q : List Value → Prop} : goZ Tryd.prog 84 q = q [(Go.Value.slice none 0 0)] := by simp [goZ, zer84, Value.cells]
@[simp] theorem und84 : Tryd.prog.underlying 84 = some (Go.TypeDesc.slice 121) := opq Tryd.underlying84
@[simp ↓] theorem un84 {q : TypeDesc → Prop} : goUnd Tryd.prog 84 q = q (Go.TypeDesc.slice 121) := by simp only [goUnd, und84]
theorem slt84 : SlT Tryd.prog 84 121 4 32 := ⟨Tryd.underlying84, ⟨Tryd.t121, _, Tryd.type121, rfl, rfl, rfl, by simp, rfl⟩, by decide⟩
@[simp ↓] theorem sl84 {q : TypeId → Nat → List Value → Prop} : goSl Tryd.prog 84 q = q 121 4 [Go.Value.string { data := #[] }, Go.Value.bool false, Go.Value.bool false, Go.Value.int Go.IntKind.i64 0] := by simp [goSl, und84, show zero? Tryd.prog 121 = some
  (Go.Value.agg
    #[Go.Value.string { data := #[] }, Go.Value.bool false, Go.Value.bool false, Go.Value.int Go.IntKind.i64 0]) from by unfold zero?; rw [show Tryd.prog.info? 121 = some Tryd.t121 from Tryd.type121]; rfl, show szT Tryd.prog 121 = some 4 from by unfold szT; rw [show Tryd.prog.info? 121 = some Tryd.t121 from Tryd.type121]; rfl, Value.cells]
theorem agg86 : aggT Tryd.prog 86 = some true := by unfold aggT; rw [Tryd.underlying86]; rfl
@[simp] theorem siz86 : szT Tryd.prog 86 = some 6 := by unfold szT; rw [show Tryd.prog.info? 86 = some Tryd.t86 from Tryd.type86]; rfl
@[simp ↓] theorem ty86 {q : Bool → Nat → Prop} : goTy Tryd.prog 86 q = q true 6 := by simp only [goTy, agg86, siz86]
@[simp ↓] theorem sz86 {q : Nat → Prop} : goSz Tryd.prog 86 q = q 6 := by simp only [goSz, siz86]
theorem zer86 : zero? Tryd.prog 86 = some
  (Go.Value.agg
    #[Go.Value.string { data := #[] }, Go.Value.int Go.IntKind.i64 0, Go.Value.int Go.IntKind.i64 0,
      Go.Value.string { data := #[] }, Go.Value.slice none 0 0, Go.Value.slice none 0 0]) := by unfold zero?; rw [show Tryd.prog.info? 86 = some Tryd.t86 from Tryd.type86]; rfl
@[simp ↓] theorem z86 {q : List Value → Prop} : goZ Tryd.prog 86 q = q [Go.Value.string { data := #[] }, Go.Value.int Go.IntKind.i64 0, Go.Value.int Go.IntKind.i64 0,
      Go.Value.string { data := #[] }, Go.Value.slice none 0 0, Go.Value.slice none 0 0] := by simp [goZ, zer86, Value.cells]
@[simp] theorem und86 : Tryd.prog.underlying 86 = some (Go.TypeDesc.struct
  #[{ name := "Name", type := 9, offset := 0, embedded := false, tag := "", pkgPath := "", byteOffset := 0 },
    { name := "Kind", type := 3, offset := 1, embedded := false, tag := "", pkgPath := "", byteOffset := 16 },
    { name := "Code", type := 3, offset := 2, embedded := false, tag := "", pkgPath := "", byteOffset := 24 },
    { name := "Text", type := 9, offset := 3, embedded := false, tag := "", pkgPath := "", byteOffset := 32 },
    { name := "Action", type := 24, offset := 4, embedded := false, tag := "", pkgPath := "", byteOffset := 48 },
    { name := "Links", type := 84, offset := 5, embedded := false, tag := "", pkgPath := "", byteOffset := 72 }]) := opq Tryd.underlying86
@[simp ↓] theorem fld86_0 {q : Nat → TypeId → Prop} : goFld Tryd.prog 86 0 q = q 0 9 := by simp only [goFld, und86]; rfl
@[simp ↓] theorem fld86_1 {q : Nat → TypeId → Prop} : goFld Tryd.prog 86 1 q = q 1 3 := by simp only [goFld, und86]; rfl
@[simp ↓] theorem fld86_2 {q : Nat → TypeId → Prop} : goFld Tryd.prog 86 2 q = q 2 3 := by simp only [goFld, und86]; rfl
@[simp ↓] theorem fld86_3 {q : Nat → TypeId → Prop} : goFld Tryd.prog 86 3 q = q 3 9 := by simp only [goFld, und86]; rfl
@[simp ↓] theorem fld86_4 {q : Nat → TypeId → Prop} : goFld Tryd.prog 86 4 q = q 4 24 := by simp only [goFld, und86]; rfl
@[simp ↓] theorem fld86_5 {q : Nat → TypeId → Prop} : goFld Tryd.prog 86 5 q = q 5 84 := by simp only [goFld, und86]; rfl
@[simp ↓] theorem bld86 {q : List Value → List (Nat × Nat) → Prop} : goBld Tryd.prog 86 q = q [Go.Value.string { data := #[] }, Go.Value.int Go.IntKind.i64 0, Go.Value.int Go.IntKind.i64 0,
      Go.Value.string { data := #[] }, Go.Value.slice none 0 0, Go.Value.slice none 0 0] [(0, 1), (1, 1), (2, 1), (3, 1), (4, 1), (5, 1)] := by simp [goBld, und86, zer86, placesL, Value.cells]
theorem agg92 : aggT Tryd.prog 92 = some false := by unfold aggT; rw [Tryd.underlying92]; rfl
@[simp] theorem siz92 : szT Tryd.prog 92 = some 1 := by unfold szT; rw [show Tryd.prog.info? 92 = some Tryd.t92 from Tryd.type92]; rfl
@[simp ↓] theorem ty92 {q : Bool → Nat → Prop} : goTy Tryd.prog 92 q = q false 1 := by simp only [goTy, agg92, siz92]
@[simp ↓] theorem sz92 {q : Nat → Prop} : goSz Tryd.prog 92 q = q 1 := by simp only [goSz, siz92]
theorem zer92 : zero? Tryd.prog 92 = some Go.Value.nilFunc := by unfold zero?; rw [show Tryd.prog.info? 92 = some Tryd.t92 from Tryd.type92]; rfl
@[simp ↓] theorem z92 {q : List Value → Prop} : goZ Tryd.prog 92 q = q [Go.Value.nilFunc] := by simp [goZ, zer92, Value.cells]
theorem agg94 : aggT Tryd.prog 94 = some false := by unfold aggT; rw [Tryd.underlying94]; rfl
@[simp] theorem siz94 : szT Tryd.prog 94 = some 1 := by unfold szT; rw [show Tryd.prog.info? 94 = some Tryd.t94 from Tryd.type94]; rfl
@[simp ↓] theorem ty94 {q : Bool → Nat → Prop} : goTy Tryd.prog 94 q = q false 1 := by simp only [goTy, agg94, siz94]
@[simp ↓] theorem sz94 {q : Nat → Prop} : goSz Tryd.prog 94 q = q 1 := by simp only [goSz, siz94]
theorem zer94 : zero? Tryd.prog 94 = some Go.Value.nilFunc := by unfold zero?; rw [show Tryd.prog.info? 94 = some Tryd.t94 from Tryd.type94]; rfl
@[simp ↓] theorem z94 {q : List Value → Prop} : goZ Tryd.prog 94 q = q [Go.Value.nilFunc] := by simp [goZ, zer94, Value.cells]
theorem agg97 : aggT Tryd.prog 97 = some false := by unfold aggT; rw [Tryd.underlying97]; rfl
@[simp] theorem siz97 : szT Tryd.prog 97 = some 1 := by unfold szT; rw [show Tryd.prog.info? 97 = some Tryd.t97 from Tryd.type97]; rfl
@[simp ↓] theorem ty97 {q : Bool → Nat → Prop} : goTy Tryd.prog 97 q = q false 1 := by simp only [goTy, agg97, siz97]
@[simp ↓] theorem sz97 {q : Nat → Prop} : goSz Tryd.prog 97 q = q 1 := by simp only [goSz, siz97]
theorem zer97 : zero? Tryd.prog 97 = some Go.Value.nilFunc := by unfold zero?; rw [show Tryd.prog.info? 97 = some Tryd.t97 from Tryd.type97]; rfl
@[simp ↓] theorem z97 {q : List Value → Prop} : goZ Tryd.prog 97 q = q [Go.Value.nilFunc] := by simp [goZ, zer97, Value.cells]
theorem agg98 : aggT Tryd.prog 98 = some false := by unfold aggT; rw [Tryd.underlying98]; rfl
@[simp] theorem siz98 : szT Tryd.prog 98 = some 1 := by unfold szT; rw [show Tryd.prog.info? 98 = some Tryd.t98 from Tryd.type98]; rfl
@[simp ↓] theorem ty98 {q : Bool → Nat → Prop} : goTy Tryd.prog 98 q = q false 1 := by simp only [goTy, agg98, siz98]
@[simp ↓] theorem sz98 {q : Nat → Prop} : goSz Tryd.prog 98 q = q 1 := by simp only [goSz, siz98]
theorem zer98 : zero? Tryd.prog 98 = some Go.Value.nilFunc := by unfold zero?; rw [show Tryd.prog.info? 98 = some Tryd.t98 from Tryd.type98]; rfl
@[simp ↓] theorem z98 {q : List Value → Prop} : goZ Tryd.prog 98 q = q [Go.Value.nilFunc] := by simp [goZ, zer98, Value.cells]
theorem agg100 : aggT Tryd.prog 100 = some true := by unfold aggT; rw [Tryd.underlying100]; rfl
@[simp] theorem siz100 : szT Tryd.prog 100 = some 2 := by unfold szT; rw [show Tryd.prog.info? 100 = some Tryd.t100 from Tryd.type100]; rfl
@[simp ↓] theorem ty100 {q : Bool → Nat → Prop} : goTy Tryd.prog 100 q = q true 2 := by simp only [goTy, agg100, siz100]
@[simp ↓] theorem sz100 {q : Nat → Prop} : goSz Tryd.prog 100 q = q 2 := by simp only [goSz, siz100]
theorem zer100 : zero? Tryd.prog 100 = some (Go.Value.agg #[Go.Value.slice none 0 0, Go.Value.int Go.IntKind.i64 0]) := by unfold zero?; rw [show Tryd.prog.info? 100 = some Tryd.t100 from Tryd.type100]; rfl
@[simp ↓] theorem z100 {q : List Value → Prop} : goZ Tryd.prog 100 q = q [Go.Value.slice none 0 0, Go.Value.int Go.IntKind.i64 0] := by simp [goZ, zer100, Value.cells]
@[simp] theorem und100 : Tryd.prog.underlying 100 = some (Go.TypeDesc.struct
  #[{ name := "b", type := 33, offset := 0, embedded := false, tag := "", pkgPath := "loop.example/kilndeed/spec",
      byteOffset := 0 },
    { name := "p", type := 3, offset := 1, embedded := false, tag := "", pkgPath := "loop.example/kilndeed/spec",
      byteOffset := 24 }]) := opq Tryd.underlying100
@[simp ↓] theorem fld100_0 {q : Nat → TypeId → Prop} : goFld Tryd.prog 100 0 q = q 0 33 := by simp only [goFld, und100]; rfl
@[simp ↓] theorem fld100_1 {q : Nat → TypeId → Prop} : goFld Tryd.prog 100 1 q = q 1 3 := by simp only [goFld, und100]; rfl
@[simp ↓] theorem bld100 {q : List Value → List (Nat × Nat) → Prop} : goBld Tryd.prog 100 q = q [Go.Value.slice none 0 0, Go.Value.int Go.IntKind.i64 0] [(0, 1), (1, 1)] := by simp [goBld, und100, zer100, placesL, Value.cells]
theorem agg102 : aggT Tryd.prog 102 = some false := by unfold aggT; rw [Tryd.underlying102]; rfl
@[simp] theorem siz102 : szT Tryd.prog 102 = some 1 := by unfold szT; rw [show Tryd.prog.info? 102 = some Tryd.t102 from Tryd.type102]; rfl
@[simp ↓] theorem ty102 {q : Bool → Nat → Prop} : goTy Tryd.prog 102 q = q false 1 := by simp only [goTy, agg102, siz102]
@[simp ↓] theorem sz102 {q : Nat → Prop} : goSz Tryd.prog 102 q = q 1 := by simp only [goSz, siz102]
theorem zer102 : zero? Tryd.prog 102 = some Go.Value.nilFunc := by unfold zero?; rw [show Tryd.prog.info? 102 = some Tryd.t102 from Tryd.type102]; rfl
@[simp ↓] theorem z102 {q : List Value → Prop} : goZ Tryd.prog 102 q = q [Go.Value.nilFunc] := by simp [goZ, zer102, Value.cells]
theorem agg109 : aggT Tryd.prog 109 = some false := by unfold aggT; rw [Tryd.underlying109]; rfl
@[simp] theorem siz109 : szT Tryd.prog 109 = some 1 := by unfold szT; rw [show Tryd.prog.info? 109 = some Tryd.t109 from Tryd.type109]; rfl
@[simp ↓] theorem ty109 {q : Bool → Nat → Prop} : goTy Tryd.prog 109 q = q false 1 := by simp only [goTy, agg109, siz109]
@[simp ↓] theorem sz109 {q : Nat → Prop} : goSz Tryd.prog 109 q = q 1 := by simp only [goSz, siz109]
theorem zer109 : zero? Tryd.prog 109 = some (Go.Value.pointer none) := by unfold zero?; rw [show Tryd.prog.info? 109 = some Tryd.t109 from Tryd.type109]; rfl
@[simp ↓] theorem z109 {q : List Value → Prop} : goZ Tryd.prog 109 q = q [(Go.Value.pointer none)] := by simp [goZ, zer109, Value.cells]
@[simp] theorem und109 : Tryd.prog.underlying 109 = some (Go.TypeDesc.pointer 5) := opq Tryd.underlying109
@[simp ↓] theorem un109 {q : TypeDesc → Prop} : goUnd Tryd.prog 109 q = q (Go.TypeDesc.pointer 5) := by simp only [goUnd, und109]
theorem agg111 : aggT Tryd.prog 111 = some false := by unfold aggT; rw [Tryd.underlying111]; rfl
@[simp] theorem siz111 : szT Tryd.prog 111 = some 1 := by unfold szT; rw [show Tryd.prog.info? 111 = some Tryd.t111 from Tryd.type111]; rfl
@[simp ↓] theorem ty111 {q : Bool → Nat → Prop} : goTy Tryd.prog 111 q = q false 1 := by simp only [goTy, agg111, siz111]
@[simp ↓] theorem sz111 {q : Nat → Prop} : goSz Tryd.prog 111 q = q 1 := by simp only [goSz, siz111]
theorem zer111 : zero? Tryd.prog 111 = some (Go.Value.slice none 0 0) := by unfold zero?; rw [show Tryd.prog.info? 111 = some Tryd.t111 from Tryd.type111]; rfl
@[simp ↓] theorem z111 {q : List Value → Prop} : goZ Tryd.prog 111 q = q [(Go.Value.slice none 0 0)] := by simp [goZ, zer111, Value.cells]
@[simp] theorem und111 : Tryd.prog.underlying 111 = some (Go.TypeDesc.slice 204) := opq Tryd.underlying111
@[simp ↓] theorem un111 {q : TypeDesc → Prop} : goUnd Tryd.prog 111 q = q (Go.TypeDesc.slice 204) := by simp only [goUnd, und111]
theorem slt111 : SlT Tryd.prog 111 204 3 32 := ⟨Tryd.underlying111, ⟨Tryd.t204, _, Tryd.type204, rfl, rfl, rfl, by simp, rfl⟩, by decide⟩
@[simp ↓] theorem sl111 {q : TypeId → Nat → List Value → Prop} : goSl Tryd.prog 111 q = q 204 3 [Go.Value.int Go.IntKind.i64 0, Go.Value.string { data := #[] }, Go.Value.int Go.IntKind.i64 0] := by simp [goSl, und111, show zero? Tryd.prog 204 = some (Go.Value.agg #[Go.Value.int Go.IntKind.i64 0, Go.Value.string { data := #[] }, Go.Value.int Go.IntKind.i64 0]) from by unfold zero?; rw [show Tryd.prog.info? 204 = some Tryd.t204 from Tryd.type204]; rfl, show szT Tryd.prog 204 = some 3 from by unfold szT; rw [show Tryd.prog.info? 204 = some Tryd.t204 from Tryd.type204]; rfl, Value.cells]
theorem agg113 : aggT Tryd.prog 113 = some true := by unfold aggT; rw [Tryd.underlying113]; rfl
@[simp] theorem siz113 : szT Tryd.prog 113 = some 1 := by unfold szT; rw [show Tryd.prog.info? 113 = some Tryd.t113 from Tryd.type113]; rfl
@[simp ↓] theorem ty113 {q : Bool → Nat → Prop} : goTy Tryd.prog 113 q = q true 1 := by simp only [goTy, agg113, siz113]
@[simp ↓] theorem sz113 {q : Nat → Prop} : goSz Tryd.prog 113 q = q 1 := by simp only [goSz, siz113]
theorem zer113 : zero? Tryd.prog 113 = some (Go.Value.agg #[Go.Value.slice none 0 0]) := by unfold zero?; rw [show Tryd.prog.info? 113 = some Tryd.t113 from Tryd.type113]; rfl
@[simp ↓] theorem z113 {q : List Value → Prop} : goZ Tryd.prog 113 q = q [Go.Value.slice none 0 0] := by simp [goZ, zer113, Value.cells]
@[simp] theorem und113 : Tryd.prog.underlying 113 = some (Go.TypeDesc.struct
  #[{ name := "Code", type := 111, offset := 0, embedded := false, tag := "", pkgPath := "", byteOffset := 0 }]) := opq Tryd.underlying113
@[simp ↓] theorem fld113_0 {q : Nat → TypeId → Prop} : goFld Tryd.prog 113 0 q = q 0 111 := by simp only [goFld, und113]; rfl
@[simp ↓] theorem bld113 {q : List Value → List (Nat × Nat) → Prop} : goBld Tryd.prog 113 q = q [Go.Value.slice none 0 0] [(0, 1)] := by simp [goBld, und113, zer113, placesL, Value.cells]
theorem agg114 : aggT Tryd.prog 114 = some false := by unfold aggT; rw [Tryd.underlying114]; rfl
@[simp] theorem siz114 : szT Tryd.prog 114 = some 1 := by unfold szT; rw [show Tryd.prog.info? 114 = some Tryd.t114 from Tryd.type114]; rfl
@[simp ↓] theorem ty114 {q : Bool → Nat → Prop} : goTy Tryd.prog 114 q = q false 1 := by simp only [goTy, agg114, siz114]
@[simp ↓] theorem sz114 {q : Nat → Prop} : goSz Tryd.prog 114 q = q 1 := by simp only [goSz, siz114]
theorem zer114 : zero? Tryd.prog 114 = some (Go.Value.slice none 0 0) := by unfold zero?; rw [show Tryd.prog.info? 114 = some Tryd.t114 from Tryd.type114]; rfl
@[simp ↓] theorem z114 {q : List Value → Prop} : goZ Tryd.prog 114 q = q [(Go.Value.slice none 0 0)] := by simp [goZ, zer114, Value.cells]
@[simp] theorem und114 : Tryd.prog.underlying 114 = some (Go.TypeDesc.slice 175) := opq Tryd.underlying114
@[simp ↓] theorem un114 {q : TypeDesc → Prop} : goUnd Tryd.prog 114 q = q (Go.TypeDesc.slice 175) := by simp only [goUnd, und114]
theorem slt114 : SlT Tryd.prog 114 175 4 32 := ⟨Tryd.underlying114, ⟨Tryd.t175, _, Tryd.type175, rfl, rfl, rfl, by simp, rfl⟩, by decide⟩
@[simp ↓] theorem sl114 {q : TypeId → Nat → List Value → Prop} : goSl Tryd.prog 114 q = q 175 4 [Go.Value.string { data := #[] }, Go.Value.bool false, Go.Value.bool false, Go.Value.int Go.IntKind.i64 0] := by simp [goSl, und114, show zero? Tryd.prog 175 = some
  (Go.Value.agg
    #[Go.Value.string { data := #[] }, Go.Value.bool false, Go.Value.bool false, Go.Value.int Go.IntKind.i64 0]) from by unfold zero?; rw [show Tryd.prog.info? 175 = some Tryd.t175 from Tryd.type175]; rfl, show szT Tryd.prog 175 = some 4 from by unfold szT; rw [show Tryd.prog.info? 175 = some Tryd.t175 from Tryd.type175]; rfl, Value.cells]
theorem agg116 : aggT Tryd.prog 116 = some true := by unfold aggT; rw [Tryd.underlying116]; rfl
@[simp] theorem siz116 : szT Tryd.prog 116 = some 6 := by unfold szT; rw [show Tryd.prog.info? 116 = some Tryd.t116 from Tryd.type116]; rfl
@[simp ↓] theorem ty116 {q : Bool → Nat → Prop} : goTy Tryd.prog 116 q = q true 6 := by simp only [goTy, agg116, siz116]
@[simp ↓] theorem sz116 {q : Nat → Prop} : goSz Tryd.prog 116 q = q 6 := by simp only [goSz, siz116]
theorem zer116 : zero? Tryd.prog 116 = some
  (Go.Value.agg
    #[Go.Value.string { data := #[] }, Go.Value.int Go.IntKind.i64 0, Go.Value.int Go.IntKind.i64 0,
      Go.Value.string { data := #[] }, Go.Value.slice none 0 0, Go.Value.slice none 0 0]) := by unfold zero?; rw [show Tryd.prog.info? 116 = some Tryd.t116 from Tryd.type116]; rfl
@[simp ↓] theorem z116 {q : List Value → Prop} : goZ Tryd.prog 116 q = q [Go.Value.string { data := #[] }, Go.Value.int Go.IntKind.i64 0, Go.Value.int Go.IntKind.i64 0,
      Go.Value.string { data := #[] }, Go.Value.slice none 0 0, Go.Value.slice none 0 0] := by simp [goZ, zer116, Value.cells]
@[simp] theorem und116 : Tryd.prog.underlying 116 = some (Go.TypeDesc.struct
  #[{ name := "Name", type := 9, offset := 0, embedded := false, tag := "", pkgPath := "", byteOffset := 0 },
    { name := "Kind", type := 3, offset := 1, embedded := false, tag := "", pkgPath := "", byteOffset := 16 },
    { name := "Code", type := 3, offset := 2, embedded := false, tag := "", pkgPath := "", byteOffset := 24 },
    { name := "Text", type := 9, offset := 3, embedded := false, tag := "", pkgPath := "", byteOffset := 32 },
    { name := "Action", type := 113, offset := 4, embedded := false, tag := "", pkgPath := "", byteOffset := 48 },
    { name := "Links", type := 114, offset := 5, embedded := false, tag := "", pkgPath := "", byteOffset := 72 }]) := opq Tryd.underlying116
@[simp ↓] theorem fld116_0 {q : Nat → TypeId → Prop} : goFld Tryd.prog 116 0 q = q 0 9 := by simp only [goFld, und116]; rfl
@[simp ↓] theorem fld116_1 {q : Nat → TypeId → Prop} : goFld Tryd.prog 116 1 q = q 1 3 := by simp only [goFld, und116]; rfl
@[simp ↓] theorem fld116_2 {q : Nat → TypeId → Prop} : goFld Tryd.prog 116 2 q = q 2 3 := by simp only [goFld, und116]; rfl
@[simp ↓] theorem fld116_3 {q : Nat → TypeId → Prop} : goFld Tryd.prog 116 3 q = q 3 9 := by simp only [goFld, und116]; rfl
@[simp ↓] theorem fld116_4 {q : Nat → TypeId → Prop} : goFld Tryd.prog 116 4 q = q 4 113 := by simp only [goFld, und116]; rfl
@[simp ↓] theorem fld116_5 {q : Nat → TypeId → Prop} : goFld Tryd.prog 116 5 q = q 5 114 := by simp only [goFld, und116]; rfl
@[simp ↓] theorem bld116 {q : List Value → List (Nat × Nat) → Prop} : goBld Tryd.prog 116 q = q [Go.Value.string { data := #[] }, Go.Value.int Go.IntKind.i64 0, Go.Value.int Go.IntKind.i64 0,
      Go.Value.string { data := #[] }, Go.Value.slice none 0 0, Go.Value.slice none 0 0] [(0, 1), (1, 1), (2, 1), (3, 1), (4, 1), (5, 1)] := by simp [goBld, und116, zer116, placesL, Value.cells]
theorem agg118 : aggT Tryd.prog 118 = some false := by unfold aggT; rw [Tryd.underlying118]; rfl
@[simp] theorem siz118 : szT Tryd.prog 118 = some 1 := by unfold szT; rw [show Tryd.prog.info? 118 = some Tryd.t118 from Tryd.type118]; rfl
@[simp ↓] theorem ty118 {q : Bool → Nat → Prop} : goTy Tryd.prog 118 q = q false 1 := by simp only [goTy, agg118, siz118]
@[simp ↓] theorem sz118 {q : Nat → Prop} : goSz Tryd.prog 118 q = q 1 := by simp only [goSz, siz118]
theorem zer118 : zero? Tryd.prog 118 = some (Go.Value.int Go.IntKind.u64 0) := by unfold zero?; rw [show Tryd.prog.info? 118 = some Tryd.t118 from Tryd.type118]; rfl
@[simp ↓] theorem z118 {q : List Value → Prop} : goZ Tryd.prog 118 q = q [(Go.Value.int Go.IntKind.u64 0)] := by simp [goZ, zer118, Value.cells]
@[simp] theorem und118 : Tryd.prog.underlying 118 = some (Go.TypeDesc.int Go.IntKind.u64) := opq Tryd.underlying118
@[simp ↓] theorem un118 {q : TypeDesc → Prop} : goUnd Tryd.prog 118 q = q (Go.TypeDesc.int Go.IntKind.u64) := by simp only [goUnd, und118]
theorem agg120 : aggT Tryd.prog 120 = some true := by unfold aggT; rw [Tryd.underlying120]; rfl
@[simp] theorem siz120 : szT Tryd.prog 120 = some 4 := by unfold szT; rw [show Tryd.prog.info? 120 = some Tryd.t120 from Tryd.type120]; rfl
@[simp ↓] theorem ty120 {q : Bool → Nat → Prop} : goTy Tryd.prog 120 q = q true 4 := by simp only [goTy, agg120, siz120]
@[simp ↓] theorem sz120 {q : Nat → Prop} : goSz Tryd.prog 120 q = q 4 := by simp only [goSz, siz120]
theorem zer120 : zero? Tryd.prog 120 = some
  (Go.Value.agg
    #[Go.Value.string { data := #[] }, Go.Value.bool false, Go.Value.bool false, Go.Value.int Go.IntKind.i64 0]) := by unfold zero?; rw [show Tryd.prog.info? 120 = some Tryd.t120 from Tryd.type120]; rfl
@[simp ↓] theorem z120 {q : List Value → Prop} : goZ Tryd.prog 120 q = q [Go.Value.string { data := #[] }, Go.Value.bool false, Go.Value.bool false, Go.Value.int Go.IntKind.i64 0] := by simp [goZ, zer120, Value.cells]
@[simp] theorem und120 : Tryd.prog.underlying 120 = some (Go.TypeDesc.struct
  #[{ name := "Name", type := 9, offset := 0, embedded := false, tag := "", pkgPath := "", byteOffset := 0 },
    { name := "Ask", type := 4, offset := 1, embedded := false, tag := "", pkgPath := "", byteOffset := 16 },
    { name := "Has", type := 4, offset := 2, embedded := false, tag := "", pkgPath := "", byteOffset := 17 },
    { name := "At", type := 3, offset := 3, embedded := false, tag := "", pkgPath := "", byteOffset := 24 }]) := opq Tryd.underlying120
@[simp ↓] theorem fld120_0 {q : Nat → TypeId → Prop} : goFld Tryd.prog 120 0 q = q 0 9 := by simp only [goFld, und120]; rfl
@[simp ↓] theorem fld120_1 {q : Nat → TypeId → Prop} : goFld Tryd.prog 120 1 q = q 1 4 := by simp only [goFld, und120]; rfl
@[simp ↓] theorem fld120_2 {q : Nat → TypeId → Prop} : goFld Tryd.prog 120 2 q = q 2 4 := by simp only [goFld, und120]; rfl
@[simp ↓] theorem fld120_3 {q : Nat → TypeId → Prop} : goFld Tryd.prog 120 3 q = q 3 3 := by simp only [goFld, und120]; rfl
@[simp ↓] theorem bld120 {q : List Value → List (Nat × Nat) → Prop} : goBld Tryd.prog 120 q = q [Go.Value.string { data := #[] }, Go.Value.bool false, Go.Value.bool false, Go.Value.int Go.IntKind.i64 0] [(0, 1), (1, 1), (2, 1), (3, 1)] := by simp [goBld, und120, zer120, placesL, Value.cells]
theorem agg121 : aggT Tryd.prog 121 = some true := by unfold aggT; rw [Tryd.underlying121]; rfl
@[simp] theorem siz121 : szT Tryd.prog 121 = some 4 := by unfold szT; rw [show Tryd.prog.info? 121 = some Tryd.t121 from Tryd.type121]; rfl
@[simp ↓] theorem ty121 {q : Bool → Nat → Prop} : goTy Tryd.prog 121 q = q true 4 := by simp only [goTy, agg121, siz121]
@[simp ↓] theorem sz121 {q : Nat → Prop} : goSz Tryd.prog 121 q = q 4 := by simp only [goSz, siz121]
theorem zer121 : zero? Tryd.prog 121 = some
  (Go.Value.agg
    #[Go.Value.string { data := #[] }, Go.Value.bool false, Go.Value.bool false, Go.Value.int Go.IntKind.i64 0]) := by unfold zero?; rw [show Tryd.prog.info? 121 = some Tryd.t121 from Tryd.type121]; rfl
@[simp ↓] theorem z121 {q : List Value → Prop} : goZ Tryd.prog 121 q = q [Go.Value.string { data := #[] }, Go.Value.bool false, Go.Value.bool false, Go.Value.int Go.IntKind.i64 0] := by simp [goZ, zer121, Value.cells]
@[simp] theorem und121 : Tryd.prog.underlying 121 = some (Go.TypeDesc.struct
  #[{ name := "Name", type := 9, offset := 0, embedded := false, tag := "", pkgPath := "", byteOffset := 0 },
    { name := "Ask", type := 4, offset := 1, embedded := false, tag := "", pkgPath := "", byteOffset := 16 },
    { name := "Has", type := 4, offset := 2, embedded := false, tag := "", pkgPath := "", byteOffset := 17 },
    { name := "At", type := 3, offset := 3, embedded := false, tag := "", pkgPath := "", byteOffset := 24 }]) := opq Tryd.underlying121
@[simp ↓] theorem fld121_0 {q : Nat → TypeId → Prop} : goFld Tryd.prog 121 0 q = q 0 9 := by simp only [goFld, und121]; rfl
@[simp ↓] theorem fld121_1 {q : Nat → TypeId → Prop} : goFld Tryd.prog 121 1 q = q 1 4 := by simp only [goFld, und121]; rfl
@[simp ↓] theorem fld121_2 {q : Nat → TypeId → Prop} : goFld Tryd.prog 121 2 q = q 2 4 := by simp only [goFld, und121]; rfl
@[simp ↓] theorem fld121_3 {q : Nat → TypeId → Prop} : goFld Tryd.prog 121 3 q = q 3 3 := by simp only [goFld, und121]; rfl
@[simp ↓] theorem bld121 {q : List Value → List (Nat × Nat) → Prop} : goBld Tryd.prog 121 q = q [Go.Value.string { data := #[] }, Go.Value.bool false, Go.Value.bool false, Go.Value.int Go.IntKind.i64 0] [(0, 1), (1, 1), (2, 1), (3, 1)] := by simp [goBld, und121, zer121, placesL, Value.cells]
theorem agg122 : aggT Tryd.prog 122 = some false := by unfold aggT; rw [Tryd.underlying122]; rfl
@[simp] theorem siz122 : szT Tryd.prog 122 = some 1 := by unfold szT; rw [show Tryd.prog.info? 122 = some Tryd.t122 from Tryd.type122]; rfl
@[simp ↓] theorem ty122 {q : Bool → Nat → Prop} : goTy Tryd.prog 122 q = q false 1 := by simp only [goTy, agg122, siz122]
@[simp ↓] theorem sz122 {q : Nat → Prop} : goSz Tryd.prog 122 q = q 1 := by simp only [goSz, siz122]
theorem zer122 : zero? Tryd.prog 122 = some Go.Value.nilFunc := by unfold zero?; rw [show Tryd.prog.info? 122 = some Tryd.t122 from Tryd.type122]; rfl
@[simp ↓] theorem z122 {q : List Value → Prop} : goZ Tryd.prog 122 q = q [Go.Value.nilFunc] := by simp [goZ, zer122, Value.cells]
theorem agg126 : aggT Tryd.prog 126 = some true := by unfold aggT; rw [Tryd.underlying126]; rfl
@[simp] theorem siz126 : szT Tryd.prog 126 = some 6 := by unfold szT; rw [show Tryd.prog.info? 126 = some Tryd.t126 from Tryd.type126]; rfl
@[simp ↓] theorem ty126 {q : Bool → Nat → Prop} : goTy Tryd.prog 126 q = q true 6 := by simp only [goTy, agg126, siz126]
@[simp ↓] theorem sz126 {q : Nat → Prop} : goSz Tryd.prog 126 q = q 6 := by simp only [goSz, siz126]
theorem zer126 : zero? Tryd.prog 126 = some
  (Go.Value.agg
    #[Go.Value.bool false, Go.Value.int Go.IntKind.i64 0, Go.Value.string { data := #[] }, Go.Value.bool false,
      Go.Value.string { data := #[] }, Go.Value.int Go.IntKind.i64 0]) := by unfold zero?; rw [show Tryd.prog.info? 126 = some Tryd.t126 from Tryd.type126]; rfl
@[simp ↓] theorem z126 {q : List Value → Prop} : goZ Tryd.prog 126 q = q [Go.Value.bool false, Go.Value.int Go.IntKind.i64 0, Go.Value.string { data := #[] }, Go.Value.bool false,
      Go.Value.string { data := #[] }, Go.Value.int Go.IntKind.i64 0] := by simp [goZ, zer126, Value.cells]
@[simp] theorem und126 : Tryd.prog.underlying 126 = some (Go.TypeDesc.struct
  #[{ name := "Over", type := 4, offset := 0, embedded := false, tag := "", pkgPath := "", byteOffset := 0 },
    { name := "Code", type := 3, offset := 1, embedded := false, tag := "", pkgPath := "", byteOffset := 8 },
    { name := "Text", type := 9, offset := 2, embedded := false, tag := "", pkgPath := "", byteOffset := 16 },
    { name := "Ask", type := 4, offset := 3, embedded := false, tag := "", pkgPath := "", byteOffset := 32 },
    { name := "Name", type := 9, offset := 4, embedded := false, tag := "", pkgPath := "", byteOffset := 40 },
    { name := "Steps", type := 3, offset := 5, embedded := false, tag := "", pkgPath := "", byteOffset := 56 }]) := opq Tryd.underlying126
@[simp ↓] theorem fld126_0 {q : Nat → TypeId → Prop} : goFld Tryd.prog 126 0 q = q 0 4 := by simp only [goFld, und126]; rfl
@[simp ↓] theorem fld126_1 {q : Nat → TypeId → Prop} : goFld Tryd.prog 126 1 q = q 1 3 := by simp only [goFld, und126]; rfl
@[simp ↓] theorem fld126_2 {q : Nat → TypeId → Prop} : goFld Tryd.prog 126 2 q = q 2 9 := by simp only [goFld, und126]; rfl
@[simp ↓] theorem fld126_3 {q : Nat → TypeId → Prop} : goFld Tryd.prog 126 3 q = q 3 4 := by simp only [goFld, und126]; rfl
@[simp ↓] theorem fld126_4 {q : Nat → TypeId → Prop} : goFld Tryd.prog 126 4 q = q 4 9 := by simp only [goFld, und126]; rfl
@[simp ↓] theorem fld126_5 {q : Nat → TypeId → Prop} : goFld Tryd.prog 126 5 q = q 5 3 := by simp only [goFld, und126]; rfl
@[simp ↓] theorem bld126 {q : List Value → List (Nat × Nat) → Prop} : goBld Tryd.prog 126 q = q [Go.Value.bool false, Go.Value.int Go.IntKind.i64 0, Go.Value.string { data := #[] }, Go.Value.bool false,
      Go.Value.string { data := #[] }, Go.Value.int Go.IntKind.i64 0] [(0, 1), (1, 1), (2, 1), (3, 1), (4, 1), (5, 1)] := by simp [goBld, und126, zer126, placesL, Value.cells]
theorem agg141 : aggT Tryd.prog 141 = some false := by unfold aggT; rw [Tryd.underlying141]; rfl
@[simp] theorem siz141 : szT Tryd.prog 141 = some 1 := by unfold szT; rw [show Tryd.prog.info? 141 = some Tryd.t141 from Tryd.type141]; rfl
@[simp ↓] theorem ty141 {q : Bool → Nat → Prop} : goTy Tryd.prog 141 q = q false 1 := by simp only [goTy, agg141, siz141]
@[simp ↓] theorem sz141 {q : Nat → Prop} : goSz Tryd.prog 141 q = q 1 := by simp only [goSz, siz141]
theorem zer141 : zero? Tryd.prog 141 = some (Go.Value.pointer none) := by unfold zero?; rw [show Tryd.prog.info? 141 = some Tryd.t141 from Tryd.type141]; rfl
@[simp ↓] theorem z141 {q : List Value → Prop} : goZ Tryd.prog 141 q = q [(Go.Value.pointer none)] := by simp [goZ, zer141, Value.cells]
@[simp] theorem und141 : Tryd.prog.underlying 141 = some (Go.TypeDesc.unsafePointer) := opq Tryd.underlying141
@[simp ↓] theorem un141 {q : TypeDesc → Prop} : goUnd Tryd.prog 141 q = q (Go.TypeDesc.unsafePointer) := by simp only [goUnd, und141]
theorem agg143 : aggT Tryd.prog 143 = some false := by unfold aggT; rw [Tryd.underlying143]; rfl
@[simp] theorem siz143 : szT Tryd.prog 143 = some 1 := by unfold szT; rw [show Tryd.prog.info? 143 = some Tryd.t143 from Tryd.type143]; rfl
@[simp ↓] theorem ty143 {q : Bool → Nat → Prop} : goTy Tryd.prog 143 q = q false 1 := by simp only [goTy, agg143, siz143]
@[simp ↓] theorem sz143 {q : Nat → Prop} : goSz Tryd.prog 143 q = q 1 := by simp only [goSz, siz143]
theorem zer143 : zero? Tryd.prog 143 = some (Go.Value.int Go.IntKind.u64 0) := by unfold zero?; rw [show Tryd.prog.info? 143 = some Tryd.t143 from Tryd.type143]; rfl
@[simp ↓] theorem z143 {q : List Value → Prop} : goZ Tryd.prog 143 q = q [(Go.Value.int Go.IntKind.u64 0)] := by simp [goZ, zer143, Value.cells]
@[simp] theorem und143 : Tryd.prog.underlying 143 = some (Go.TypeDesc.int Go.IntKind.u64) := opq Tryd.underlying143
@[simp ↓] theorem un143 {q : TypeDesc → Prop} : goUnd Tryd.prog 143 q = q (Go.TypeDesc.int Go.IntKind.u64) := by simp only [goUnd, und143]
theorem agg167 : aggT Tryd.prog 167 = some false := by unfold aggT; rw [Tryd.underlying167]; rfl
@[simp] theorem siz167 : szT Tryd.prog 167 = some 1 := by unfold szT; rw [show Tryd.prog.info? 167 = some Tryd.t167 from Tryd.type167]; rfl
@[simp ↓] theorem ty167 {q : Bool → Nat → Prop} : goTy Tryd.prog 167 q = q false 1 := by simp only [goTy, agg167, siz167]
@[simp ↓] theorem sz167 {q : Nat → Prop} : goSz Tryd.prog 167 q = q 1 := by simp only [goSz, siz167]
theorem zer167 : zero? Tryd.prog 167 = some Go.Value.nilFunc := by unfold zero?; rw [show Tryd.prog.info? 167 = some Tryd.t167 from Tryd.type167]; rfl
@[simp ↓] theorem z167 {q : List Value → Prop} : goZ Tryd.prog 167 q = q [Go.Value.nilFunc] := by simp [goZ, zer167, Value.cells]
theorem agg172 : aggT Tryd.prog 172 = some false := by unfold aggT; rw [Tryd.underlying172]; rfl
@[simp] theorem siz172 : szT Tryd.prog 172 = some 1 := by unfold szT; rw [show Tryd.prog.info? 172 = some Tryd.t172 from Tryd.type172]; rfl
@[simp ↓] theorem ty172 {q : Bool → Nat → Prop} : goTy Tryd.prog 172 q = q false 1 := by simp only [goTy, agg172, siz172]
@[simp ↓] theorem sz172 {q : Nat → Prop} : goSz Tryd.prog 172 q = q 1 := by simp only [goSz, siz172]
theorem zer172 : zero? Tryd.prog 172 = some Go.Value.nilFunc := by unfold zero?; rw [show Tryd.prog.info? 172 = some Tryd.t172 from Tryd.type172]; rfl
@[simp ↓] theorem z172 {q : List Value → Prop} : goZ Tryd.prog 172 q = q [Go.Value.nilFunc] := by simp [goZ, zer172, Value.cells]
theorem agg175 : aggT Tryd.prog 175 = some true := by unfold aggT; rw [Tryd.underlying175]; rfl
@[simp] theorem siz175 : szT Tryd.prog 175 = some 4 := by unfold szT; rw [show Tryd.prog.info? 175 = some Tryd.t175 from Tryd.type175]; rfl
@[simp ↓] theorem ty175 {q : Bool → Nat → Prop} : goTy Tryd.prog 175 q = q true 4 := by simp only [goTy, agg175, siz175]
@[simp ↓] theorem sz175 {q : Nat → Prop} : goSz Tryd.prog 175 q = q 4 := by simp only [goSz, siz175]
theorem zer175 : zero? Tryd.prog 175 = some
  (Go.Value.agg
    #[Go.Value.string { data := #[] }, Go.Value.bool false, Go.Value.bool false, Go.Value.int Go.IntKind.i64 0]) := by unfold zero?; rw [show Tryd.prog.info? 175 = some Tryd.t175 from Tryd.type175]; rfl
@[simp ↓] theorem z175 {q : List Value → Prop} : goZ Tryd.prog 175 q = q [Go.Value.string { data := #[] }, Go.Value.bool false, Go.Value.bool false, Go.Value.int Go.IntKind.i64 0] := by simp [goZ, zer175, Value.cells]
@[simp] theorem und175 : Tryd.prog.underlying 175 = some (Go.TypeDesc.struct
  #[{ name := "Name", type := 9, offset := 0, embedded := false, tag := "", pkgPath := "", byteOffset := 0 },
    { name := "Ask", type := 4, offset := 1, embedded := false, tag := "", pkgPath := "", byteOffset := 16 },
    { name := "Has", type := 4, offset := 2, embedded := false, tag := "", pkgPath := "", byteOffset := 17 },
    { name := "At", type := 3, offset := 3, embedded := false, tag := "", pkgPath := "", byteOffset := 24 }]) := opq Tryd.underlying175
@[simp ↓] theorem fld175_0 {q : Nat → TypeId → Prop} : goFld Tryd.prog 175 0 q = q 0 9 := by simp only [goFld, und175]; rfl
@[simp ↓] theorem fld175_1 {q : Nat → TypeId → Prop} : goFld Tryd.prog 175 1 q = q 1 4 := by simp only [goFld, und175]; rfl
@[simp ↓] theorem fld175_2 {q : Nat → TypeId → Prop} : goFld Tryd.prog 175 2 q = q 2 4 := by simp only [goFld, und175]; rfl
@[simp ↓] theorem fld175_3 {q : Nat → TypeId → Prop} : goFld Tryd.prog 175 3 q = q 3 3 := by simp only [goFld, und175]; rfl
@[simp ↓] theorem bld175 {q : List Value → List (Nat × Nat) → Prop} : goBld Tryd.prog 175 q = q [Go.Value.string { data := #[] }, Go.Value.bool false, Go.Value.bool false, Go.Value.int Go.IntKind.i64 0] [(0, 1), (1, 1), (2, 1), (3, 1)] := by simp [goBld, und175, zer175, placesL, Value.cells]
theorem agg178 : aggT Tryd.prog 178 = some true := by unfold aggT; rw [Tryd.underlying178]; rfl
@[simp] theorem siz178 : szT Tryd.prog 178 = some 24 := by unfold szT; rw [show Tryd.prog.info? 178 = some Tryd.t178 from Tryd.type178]; rfl
@[simp ↓] theorem ty178 {q : Bool → Nat → Prop} : goTy Tryd.prog 178 q = q true 24 := by simp only [goTy, agg178, siz178]
@[simp ↓] theorem sz178 {q : Nat → Prop} : goSz Tryd.prog 178 q = q 24 := by simp only [goSz, siz178]
theorem zer178 : zero? Tryd.prog 178 = some
  (Go.Value.agg
    #[Go.Value.int Go.IntKind.u8 0, Go.Value.int Go.IntKind.u8 0, Go.Value.int Go.IntKind.u8 0,
      Go.Value.int Go.IntKind.u8 0, Go.Value.int Go.IntKind.u8 0, Go.Value.int Go.IntKind.u8 0,
      Go.Value.int Go.IntKind.u8 0, Go.Value.int Go.IntKind.u8 0, Go.Value.int Go.IntKind.u8 0,
      Go.Value.int Go.IntKind.u8 0, Go.Value.int Go.IntKind.u8 0, Go.Value.int Go.IntKind.u8 0,
      Go.Value.int Go.IntKind.u8 0, Go.Value.int Go.IntKind.u8 0, Go.Value.int Go.IntKind.u8 0,
      Go.Value.int Go.IntKind.u8 0, Go.Value.int Go.IntKind.u8 0, Go.Value.int Go.IntKind.u8 0,
      Go.Value.int Go.IntKind.u8 0, Go.Value.int Go.IntKind.u8 0, Go.Value.int Go.IntKind.u8 0,
      Go.Value.int Go.IntKind.u8 0, Go.Value.int Go.IntKind.u8 0, Go.Value.int Go.IntKind.u8 0]) := by unfold zero?; rw [show Tryd.prog.info? 178 = some Tryd.t178 from Tryd.type178]; rfl
@[simp ↓] theorem z178 {q : List Value → Prop} : goZ Tryd.prog 178 q = q [Go.Value.int Go.IntKind.u8 0, Go.Value.int Go.IntKind.u8 0, Go.Value.int Go.IntKind.u8 0,
      Go.Value.int Go.IntKind.u8 0, Go.Value.int Go.IntKind.u8 0, Go.Value.int Go.IntKind.u8 0,
      Go.Value.int Go.IntKind.u8 0, Go.Value.int Go.IntKind.u8 0, Go.Value.int Go.IntKind.u8 0,
      Go.Value.int Go.IntKind.u8 0, Go.Value.int Go.IntKind.u8 0, Go.Value.int Go.IntKind.u8 0,
      Go.Value.int Go.IntKind.u8 0, Go.Value.int Go.IntKind.u8 0, Go.Value.int Go.IntKind.u8 0,
      Go.Value.int Go.IntKind.u8 0, Go.Value.int Go.IntKind.u8 0, Go.Value.int Go.IntKind.u8 0,
      Go.Value.int Go.IntKind.u8 0, Go.Value.int Go.IntKind.u8 0, Go.Value.int Go.IntKind.u8 0,
      Go.Value.int Go.IntKind.u8 0, Go.Value.int Go.IntKind.u8 0, Go.Value.int Go.IntKind.u8 0] := by simp [goZ, zer178, Value.cells]
@[simp] theorem und178 : Tryd.prog.underlying 178 = some (Go.TypeDesc.array 24 5) := opq Tryd.underlying178
@[simp ↓] theorem un178 {q : TypeDesc → Prop} : goUnd Tryd.prog 178 q = q (Go.TypeDesc.array 24 5) := by simp only [goUnd, und178]
theorem agg183 : aggT Tryd.prog 183 = some false := by unfold aggT; rw [Tryd.underlying183]; rfl
@[simp] theorem siz183 : szT Tryd.prog 183 = some 1 := by unfold szT; rw [show Tryd.prog.info? 183 = some Tryd.t183 from Tryd.type183]; rfl
@[simp ↓] theorem ty183 {q : Bool → Nat → Prop} : goTy Tryd.prog 183 q = q false 1 := by simp only [goTy, agg183, siz183]
@[simp ↓] theorem sz183 {q : Nat → Prop} : goSz Tryd.prog 183 q = q 1 := by simp only [goSz, siz183]
theorem zer183 : zero? Tryd.prog 183 = some (Go.Value.int Go.IntKind.u32 0) := by unfold zero?; rw [show Tryd.prog.info? 183 = some Tryd.t183 from Tryd.type183]; rfl
@[simp ↓] theorem z183 {q : List Value → Prop} : goZ Tryd.prog 183 q = q [(Go.Value.int Go.IntKind.u32 0)] := by simp [goZ, zer183, Value.cells]
@[simp] theorem und183 : Tryd.prog.underlying 183 = some (Go.TypeDesc.int Go.IntKind.u32) := opq Tryd.underlying183
@[simp ↓] theorem un183 {q : TypeDesc → Prop} : goUnd Tryd.prog 183 q = q (Go.TypeDesc.int Go.IntKind.u32) := by simp only [goUnd, und183]
theorem agg193 : aggT Tryd.prog 193 = some false := by unfold aggT; rw [Tryd.underlying193]; rfl
@[simp] theorem siz193 : szT Tryd.prog 193 = some 1 := by unfold szT; rw [show Tryd.prog.info? 193 = some Tryd.t193 from Tryd.type193]; rfl
@[simp ↓] theorem ty193 {q : Bool → Nat → Prop} : goTy Tryd.prog 193 q = q false 1 := by simp only [goTy, agg193, siz193]
@[simp ↓] theorem sz193 {q : Nat → Prop} : goSz Tryd.prog 193 q = q 1 := by simp only [goSz, siz193]
theorem zer193 : zero? Tryd.prog 193 = some Go.Value.nilFunc := by unfold zero?; rw [show Tryd.prog.info? 193 = some Tryd.t193 from Tryd.type193]; rfl
@[simp ↓] theorem z193 {q : List Value → Prop} : goZ Tryd.prog 193 q = q [Go.Value.nilFunc] := by simp [goZ, zer193, Value.cells]
theorem agg196 : aggT Tryd.prog 196 = some false := by unfold aggT; rw [Tryd.underlying196]; rfl
@[simp] theorem siz196 : szT Tryd.prog 196 = some 1 := by unfold szT; rw [show Tryd.prog.info? 196 = some Tryd.t196 from Tryd.type196]; rfl
@[simp ↓] theorem ty196 {q : Bool → Nat → Prop} : goTy Tryd.prog 196 q = q false 1 := by simp only [goTy, agg196, siz196]
@[simp ↓] theorem sz196 {q : Nat → Prop} : goSz Tryd.prog 196 q = q 1 := by simp only [goSz, siz196]
theorem zer196 : zero? Tryd.prog 196 = some (Go.Value.int Go.IntKind.i64 0) := by unfold zero?; rw [show Tryd.prog.info? 196 = some Tryd.t196 from Tryd.type196]; rfl
@[simp ↓] theorem z196 {q : List Value → Prop} : goZ Tryd.prog 196 q = q [(Go.Value.int Go.IntKind.i64 0)] := by simp [goZ, zer196, Value.cells]
@[simp] theorem und196 : Tryd.prog.underlying 196 = some (Go.TypeDesc.int Go.IntKind.i64) := opq Tryd.underlying196
@[simp ↓] theorem un196 {q : TypeDesc → Prop} : goUnd Tryd.prog 196 q = q (Go.TypeDesc.int Go.IntKind.i64) := by simp only [goUnd, und196]
theorem agg198 : aggT Tryd.prog 198 = some false := by unfold aggT; rw [Tryd.underlying198]; rfl
@[simp] theorem siz198 : szT Tryd.prog 198 = some 1 := by unfold szT; rw [show Tryd.prog.info? 198 = some Tryd.t198 from Tryd.type198]; rfl
@[simp ↓] theorem ty198 {q : Bool → Nat → Prop} : goTy Tryd.prog 198 q = q false 1 := by simp only [goTy, agg198, siz198]
@[simp ↓] theorem sz198 {q : Nat → Prop} : goSz Tryd.prog 198 q = q 1 := by simp only [goSz, siz198]
theorem zer198 : zero? Tryd.prog 198 = some (Go.Value.pointer none) := by unfold zero?; rw [show Tryd.prog.info? 198 = some Tryd.t198 from Tryd.type198]; rfl
@[simp ↓] theorem z198 {q : List Value → Prop} : goZ Tryd.prog 198 q = q [(Go.Value.pointer none)] := by simp [goZ, zer198, Value.cells]
@[simp] theorem und198 : Tryd.prog.underlying 198 = some (Go.TypeDesc.pointer 215) := opq Tryd.underlying198
@[simp ↓] theorem un198 {q : TypeDesc → Prop} : goUnd Tryd.prog 198 q = q (Go.TypeDesc.pointer 215) := by simp only [goUnd, und198]
theorem agg200 : aggT Tryd.prog 200 = some false := by unfold aggT; rw [Tryd.underlying200]; rfl
@[simp] theorem siz200 : szT Tryd.prog 200 = some 1 := by unfold szT; rw [show Tryd.prog.info? 200 = some Tryd.t200 from Tryd.type200]; rfl
@[simp ↓] theorem ty200 {q : Bool → Nat → Prop} : goTy Tryd.prog 200 q = q false 1 := by simp only [goTy, agg200, siz200]
@[simp ↓] theorem sz200 {q : Nat → Prop} : goSz Tryd.prog 200 q = q 1 := by simp only [goSz, siz200]
theorem zer200 : zero? Tryd.prog 200 = some Go.Value.nilFunc := by unfold zero?; rw [show Tryd.prog.info? 200 = some Tryd.t200 from Tryd.type200]; rfl
@[simp ↓] theorem z200 {q : List Value → Prop} : goZ Tryd.prog 200 q = q [Go.Value.nilFunc] := by simp [goZ, zer200, Value.cells]
theorem agg204 : aggT Tryd.prog 204 = some true := by unfold aggT; rw [Tryd.underlying204]; rfl
@[simp] theorem siz204 : szT Tryd.prog 204 = some 3 := by unfold szT; rw [show Tryd.prog.info? 204 = some Tryd.t204 from Tryd.type204]; rfl
@[simp ↓] theorem ty204 {q : Bool → Nat → Prop} : goTy Tryd.prog 204 q = q true 3 := by simp only [goTy, agg204, siz204]
@[simp ↓] theorem sz204 {q : Nat → Prop} : goSz Tryd.prog 204 q = q 3 := by simp only [goSz, siz204]
theorem zer204 : zero? Tryd.prog 204 = some (Go.Value.agg #[Go.Value.int Go.IntKind.i64 0, Go.Value.string { data := #[] }, Go.Value.int Go.IntKind.i64 0]) := by unfold zero?; rw [show Tryd.prog.info? 204 = some Tryd.t204 from Tryd.type204]; rfl
@[simp ↓] theorem z204 {q : List Value → Prop} : goZ Tryd.prog 204 q = q [Go.Value.int Go.IntKind.i64 0, Go.Value.string { data := #[] }, Go.Value.int Go.IntKind.i64 0] := by simp [goZ, zer204, Value.cells]
@[simp] theorem und204 : Tryd.prog.underlying 204 = some (Go.TypeDesc.struct
  #[{ name := "Op", type := 3, offset := 0, embedded := false, tag := "", pkgPath := "", byteOffset := 0 },
    { name := "Text", type := 9, offset := 1, embedded := false, tag := "", pkgPath := "", byteOffset := 8 },
    { name := "N", type := 3, offset := 2, embedded := false, tag := "", pkgPath := "", byteOffset := 24 }]) := opq Tryd.underlying204
@[simp ↓] theorem fld204_0 {q : Nat → TypeId → Prop} : goFld Tryd.prog 204 0 q = q 0 3 := by simp only [goFld, und204]; rfl
@[simp ↓] theorem fld204_1 {q : Nat → TypeId → Prop} : goFld Tryd.prog 204 1 q = q 1 9 := by simp only [goFld, und204]; rfl
@[simp ↓] theorem fld204_2 {q : Nat → TypeId → Prop} : goFld Tryd.prog 204 2 q = q 2 3 := by simp only [goFld, und204]; rfl
@[simp ↓] theorem bld204 {q : List Value → List (Nat × Nat) → Prop} : goBld Tryd.prog 204 q = q [Go.Value.int Go.IntKind.i64 0, Go.Value.string { data := #[] }, Go.Value.int Go.IntKind.i64 0] [(0, 1), (1, 1), (2, 1)] := by simp [goBld, und204, zer204, placesL, Value.cells]
theorem agg207 : aggT Tryd.prog 207 = some true := by unfold aggT; rw [Tryd.underlying207]; rfl
@[simp] theorem siz207 : szT Tryd.prog 207 = some 20 := by unfold szT; rw [show Tryd.prog.info? 207 = some Tryd.t207 from Tryd.type207]; rfl
@[simp ↓] theorem ty207 {q : Bool → Nat → Prop} : goTy Tryd.prog 207 q = q true 20 := by simp only [goTy, agg207, siz207]
@[simp ↓] theorem sz207 {q : Nat → Prop} : goSz Tryd.prog 207 q = q 20 := by simp only [goSz, siz207]
theorem zer207 : zero? Tryd.prog 207 = some
  (Go.Value.agg
    #[Go.Value.int Go.IntKind.u64 0, Go.Value.int Go.IntKind.u64 0, Go.Value.int Go.IntKind.u64 0,
      Go.Value.int Go.IntKind.u64 0, Go.Value.int Go.IntKind.u64 0, Go.Value.int Go.IntKind.u64 0,
      Go.Value.int Go.IntKind.u64 0, Go.Value.int Go.IntKind.u64 0, Go.Value.int Go.IntKind.u64 0,
      Go.Value.int Go.IntKind.u64 0, Go.Value.int Go.IntKind.u64 0, Go.Value.int Go.IntKind.u64 0,
      Go.Value.int Go.IntKind.u64 0, Go.Value.int Go.IntKind.u64 0, Go.Value.int Go.IntKind.u64 0,
      Go.Value.int Go.IntKind.u64 0, Go.Value.int Go.IntKind.u64 0, Go.Value.int Go.IntKind.u64 0,
      Go.Value.int Go.IntKind.u64 0, Go.Value.int Go.IntKind.u64 0]) := by unfold zero?; rw [show Tryd.prog.info? 207 = some Tryd.t207 from Tryd.type207]; rfl
@[simp ↓] theorem z207 {q : List Value → Prop} : goZ Tryd.prog 207 q = q [Go.Value.int Go.IntKind.u64 0, Go.Value.int Go.IntKind.u64 0, Go.Value.int Go.IntKind.u64 0,
      Go.Value.int Go.IntKind.u64 0, Go.Value.int Go.IntKind.u64 0, Go.Value.int Go.IntKind.u64 0,
      Go.Value.int Go.IntKind.u64 0, Go.Value.int Go.IntKind.u64 0, Go.Value.int Go.IntKind.u64 0,
      Go.Value.int Go.IntKind.u64 0, Go.Value.int Go.IntKind.u64 0, Go.Value.int Go.IntKind.u64 0,
      Go.Value.int Go.IntKind.u64 0, Go.Value.int Go.IntKind.u64 0, Go.Value.int Go.IntKind.u64 0,
      Go.Value.int Go.IntKind.u64 0, Go.Value.int Go.IntKind.u64 0, Go.Value.int Go.IntKind.u64 0,
      Go.Value.int Go.IntKind.u64 0, Go.Value.int Go.IntKind.u64 0] := by simp [goZ, zer207, Value.cells]
@[simp] theorem und207 : Tryd.prog.underlying 207 = some (Go.TypeDesc.array 20 118) := opq Tryd.underlying207
@[simp ↓] theorem un207 {q : TypeDesc → Prop} : goUnd Tryd.prog 207 q = q (Go.TypeDesc.array 20 118) := by simp only [goUnd, und207]
theorem agg208 : aggT Tryd.prog 208 = some true := by unfold aggT; rw [Tryd.underlying208]; rfl
@[simp] theorem siz208 : szT Tryd.prog 208 = some 65 := by unfold szT; rw [show Tryd.prog.info? 208 = some Tryd.t208 from Tryd.type208]; rfl
@[simp ↓] theorem ty208 {q : Bool → Nat → Prop} : goTy Tryd.prog 208 q = q true 65 := by simp only [goTy, agg208, siz208]
@[simp ↓] theorem sz208 {q : Nat → Prop} : goSz Tryd.prog 208 q = q 65 := by simp only [goSz, siz208]
@[simp] theorem und208 : Tryd.prog.underlying 208 = some (Go.TypeDesc.array 65 5) := opq Tryd.underlying208
@[simp ↓] theorem un208 {q : TypeDesc → Prop} : goUnd Tryd.prog 208 q = q (Go.TypeDesc.array 65 5) := by simp only [goUnd, und208]
theorem agg215 : aggT Tryd.prog 215 = some true := by unfold aggT; rw [Tryd.underlying215]; rfl
@[simp] theorem siz215 : szT Tryd.prog 215 = some 3 := by unfold szT; rw [show Tryd.prog.info? 215 = some Tryd.t215 from Tryd.type215]; rfl
@[simp ↓] theorem ty215 {q : Bool → Nat → Prop} : goTy Tryd.prog 215 q = q true 3 := by simp only [goTy, agg215, siz215]
@[simp ↓] theorem sz215 {q : Nat → Prop} : goSz Tryd.prog 215 q = q 3 := by simp only [goSz, siz215]
theorem zer215 : zero? Tryd.prog 215 = some (Go.Value.agg #[Go.Value.string { data := #[] }, Go.Value.string { data := #[] }, Go.Value.nilIface]) := by unfold zero?; rw [show Tryd.prog.info? 215 = some Tryd.t215 from Tryd.type215]; rfl
@[simp ↓] theorem z215 {q : List Value → Prop} : goZ Tryd.prog 215 q = q [Go.Value.string { data := #[] }, Go.Value.string { data := #[] }, Go.Value.nilIface] := by simp [goZ, zer215, Value.cells]
@[simp] theorem und215 : Tryd.prog.underlying 215 = some (Go.TypeDesc.struct
  #[{ name := "Func", type := 9, offset := 0, embedded := false, tag := "", pkgPath := "", byteOffset := 0 },
    { name := "Num", type := 9, offset := 1, embedded := false, tag := "", pkgPath := "", byteOffset := 16 },
    { name := "Err", type := 71, offset := 2, embedded := false, tag := "", pkgPath := "", byteOffset := 32 }]) := opq Tryd.underlying215
@[simp ↓] theorem fld215_0 {q : Nat → TypeId → Prop} : goFld Tryd.prog 215 0 q = q 0 9 := by simp only [goFld, und215]; rfl
@[simp ↓] theorem fld215_1 {q : Nat → TypeId → Prop} : goFld Tryd.prog 215 1 q = q 1 9 := by simp only [goFld, und215]; rfl
@[simp ↓] theorem fld215_2 {q : Nat → TypeId → Prop} : goFld Tryd.prog 215 2 q = q 2 71 := by simp only [goFld, und215]; rfl
@[simp ↓] theorem bld215 {q : List Value → List (Nat × Nat) → Prop} : goBld Tryd.prog 215 q = q [Go.Value.string { data := #[] }, Go.Value.string { data := #[] }, Go.Value.nilIface] [(0, 1), (1, 1), (2, 1)] := by simp [goBld, und215, zer215, placesL, Value.cells]
theorem agg221 : aggT Tryd.prog 221 = some false := by unfold aggT; rw [Tryd.underlying221]; rfl
@[simp] theorem siz221 : szT Tryd.prog 221 = some 1 := by unfold szT; rw [show Tryd.prog.info? 221 = some Tryd.t221 from Tryd.type221]; rfl
@[simp ↓] theorem ty221 {q : Bool → Nat → Prop} : goTy Tryd.prog 221 q = q false 1 := by simp only [goTy, agg221, siz221]
@[simp ↓] theorem sz221 {q : Nat → Prop} : goSz Tryd.prog 221 q = q 1 := by simp only [goSz, siz221]
theorem zer221 : zero? Tryd.prog 221 = some (Go.Value.pointer none) := by unfold zero?; rw [show Tryd.prog.info? 221 = some Tryd.t221 from Tryd.type221]; rfl
@[simp ↓] theorem z221 {q : List Value → Prop} : goZ Tryd.prog 221 q = q [(Go.Value.pointer none)] := by simp [goZ, zer221, Value.cells]
@[simp] theorem und221 : Tryd.prog.underlying 221 = some (Go.TypeDesc.pointer 223) := opq Tryd.underlying221
@[simp ↓] theorem un221 {q : TypeDesc → Prop} : goUnd Tryd.prog 221 q = q (Go.TypeDesc.pointer 223) := by simp only [goUnd, und221]
theorem agg223 : aggT Tryd.prog 223 = some true := by unfold aggT; rw [Tryd.underlying223]; rfl
@[simp] theorem siz223 : szT Tryd.prog 223 = some 1 := by unfold szT; rw [show Tryd.prog.info? 223 = some Tryd.t223 from Tryd.type223]; rfl
@[simp ↓] theorem ty223 {q : Bool → Nat → Prop} : goTy Tryd.prog 223 q = q true 1 := by simp only [goTy, agg223, siz223]
@[simp ↓] theorem sz223 {q : Nat → Prop} : goSz Tryd.prog 223 q = q 1 := by simp only [goSz, siz223]
theorem zer223 : zero? Tryd.prog 223 = some (Go.Value.agg #[Go.Value.string { data := #[] }]) := by unfold zero?; rw [show Tryd.prog.info? 223 = some Tryd.t223 from Tryd.type223]; rfl
@[simp ↓] theorem z223 {q : List Value → Prop} : goZ Tryd.prog 223 q = q [Go.Value.string { data := #[] }] := by simp [goZ, zer223, Value.cells]
@[simp] theorem und223 : Tryd.prog.underlying 223 = some (Go.TypeDesc.struct
  #[{ name := "s", type := 9, offset := 0, embedded := false, tag := "", pkgPath := "errors", byteOffset := 0 }]) := opq Tryd.underlying223
@[simp ↓] theorem fld223_0 {q : Nat → TypeId → Prop} : goFld Tryd.prog 223 0 q = q 0 9 := by simp only [goFld, und223]; rfl
@[simp ↓] theorem bld223 {q : List Value → List (Nat × Nat) → Prop} : goBld Tryd.prog 223 q = q [Go.Value.string { data := #[] }] [(0, 1)] := by simp [goBld, und223, zer223, placesL, Value.cells]
theorem agg224 : aggT Tryd.prog 224 = some true := by unfold aggT; rw [Tryd.underlying224]; rfl
@[simp] theorem siz224 : szT Tryd.prog 224 = some 32 := by unfold szT; rw [show Tryd.prog.info? 224 = some Tryd.t224 from Tryd.type224]; rfl
@[simp ↓] theorem ty224 {q : Bool → Nat → Prop} : goTy Tryd.prog 224 q = q true 32 := by simp only [goTy, agg224, siz224]
@[simp ↓] theorem sz224 {q : Nat → Prop} : goSz Tryd.prog 224 q = q 32 := by simp only [goSz, siz224]
theorem zer224 : zero? Tryd.prog 224 = some
  (Go.Value.agg
    #[Go.Value.int Go.IntKind.u8 0, Go.Value.int Go.IntKind.u8 0, Go.Value.int Go.IntKind.u8 0,
      Go.Value.int Go.IntKind.u8 0, Go.Value.int Go.IntKind.u8 0, Go.Value.int Go.IntKind.u8 0,
      Go.Value.int Go.IntKind.u8 0, Go.Value.int Go.IntKind.u8 0, Go.Value.int Go.IntKind.u8 0,
      Go.Value.int Go.IntKind.u8 0, Go.Value.int Go.IntKind.u8 0, Go.Value.int Go.IntKind.u8 0,
      Go.Value.int Go.IntKind.u8 0, Go.Value.int Go.IntKind.u8 0, Go.Value.int Go.IntKind.u8 0,
      Go.Value.int Go.IntKind.u8 0, Go.Value.int Go.IntKind.u8 0, Go.Value.int Go.IntKind.u8 0,
      Go.Value.int Go.IntKind.u8 0, Go.Value.int Go.IntKind.u8 0, Go.Value.int Go.IntKind.u8 0,
      Go.Value.int Go.IntKind.u8 0, Go.Value.int Go.IntKind.u8 0, Go.Value.int Go.IntKind.u8 0,
      Go.Value.int Go.IntKind.u8 0, Go.Value.int Go.IntKind.u8 0, Go.Value.int Go.IntKind.u8 0,
      Go.Value.int Go.IntKind.u8 0, Go.Value.int Go.IntKind.u8 0, Go.Value.int Go.IntKind.u8 0,
      Go.Value.int Go.IntKind.u8 0, Go.Value.int Go.IntKind.u8 0]) := by unfold zero?; rw [show Tryd.prog.info? 224 = some Tryd.t224 from Tryd.type224]; rfl
@[simp ↓] theorem z224 {q : List Value → Prop} : goZ Tryd.prog 224 q = q [Go.Value.int Go.IntKind.u8 0, Go.Value.int Go.IntKind.u8 0, Go.Value.int Go.IntKind.u8 0,
      Go.Value.int Go.IntKind.u8 0, Go.Value.int Go.IntKind.u8 0, Go.Value.int Go.IntKind.u8 0,
      Go.Value.int Go.IntKind.u8 0, Go.Value.int Go.IntKind.u8 0, Go.Value.int Go.IntKind.u8 0,
      Go.Value.int Go.IntKind.u8 0, Go.Value.int Go.IntKind.u8 0, Go.Value.int Go.IntKind.u8 0,
      Go.Value.int Go.IntKind.u8 0, Go.Value.int Go.IntKind.u8 0, Go.Value.int Go.IntKind.u8 0,
      Go.Value.int Go.IntKind.u8 0, Go.Value.int Go.IntKind.u8 0, Go.Value.int Go.IntKind.u8 0,
      Go.Value.int Go.IntKind.u8 0, Go.Value.int Go.IntKind.u8 0, Go.Value.int Go.IntKind.u8 0,
      Go.Value.int Go.IntKind.u8 0, Go.Value.int Go.IntKind.u8 0, Go.Value.int Go.IntKind.u8 0,
      Go.Value.int Go.IntKind.u8 0, Go.Value.int Go.IntKind.u8 0, Go.Value.int Go.IntKind.u8 0,
      Go.Value.int Go.IntKind.u8 0, Go.Value.int Go.IntKind.u8 0, Go.Value.int Go.IntKind.u8 0,
      Go.Value.int Go.IntKind.u8 0, Go.Value.int Go.IntKind.u8 0] := by simp [goZ, zer224, Value.cells]
@[simp] theorem und224 : Tryd.prog.underlying 224 = some (Go.TypeDesc.array 32 5) := opq Tryd.underlying224
@[simp ↓] theorem un224 {q : TypeDesc → Prop} : goUnd Tryd.prog 224 q = q (Go.TypeDesc.array 32 5) := by simp only [goUnd, und224]
theorem agg225 : aggT Tryd.prog 225 = some true := by unfold aggT; rw [Tryd.underlying225]; rfl
@[simp] theorem siz225 : szT Tryd.prog 225 = some 64 := by unfold szT; rw [show Tryd.prog.info? 225 = some Tryd.t225 from Tryd.type225]; rfl
@[simp ↓] theorem ty225 {q : Bool → Nat → Prop} : goTy Tryd.prog 225 q = q true 64 := by simp only [goTy, agg225, siz225]
@[simp ↓] theorem sz225 {q : Nat → Prop} : goSz Tryd.prog 225 q = q 64 := by simp only [goSz, siz225]
@[simp] theorem und225 : Tryd.prog.underlying 225 = some (Go.TypeDesc.array 64 5) := opq Tryd.underlying225
@[simp ↓] theorem un225 {q : TypeDesc → Prop} : goUnd Tryd.prog 225 q = q (Go.TypeDesc.array 64 5) := by simp only [goUnd, und225]
theorem agg227 : aggT Tryd.prog 227 = some true := by unfold aggT; rw [Tryd.underlying227]; rfl
@[simp] theorem siz227 : szT Tryd.prog 227 = some 4 := by unfold szT; rw [show Tryd.prog.info? 227 = some Tryd.t227 from Tryd.type227]; rfl
@[simp ↓] theorem ty227 {q : Bool → Nat → Prop} : goTy Tryd.prog 227 q = q true 4 := by simp only [goTy, agg227, siz227]
@[simp ↓] theorem sz227 {q : Nat → Prop} : goSz Tryd.prog 227 q = q 4 := by simp only [goSz, siz227]
theorem zer227 : zero? Tryd.prog 227 = some
  (Go.Value.agg #[Go.Value.pointer none, Go.Value.pointer none, Go.Value.pointer none, Go.Value.string { data := #[] }]) := by unfold zero?; rw [show Tryd.prog.info? 227 = some Tryd.t227 from Tryd.type227]; rfl
@[simp ↓] theorem z227 {q : List Value → Prop} : goZ Tryd.prog 227 q = q [Go.Value.pointer none, Go.Value.pointer none, Go.Value.pointer none, Go.Value.string { data := #[] }] := by simp [goZ, zer227, Value.cells]
@[simp] theorem und227 : Tryd.prog.underlying 227 = some (Go.TypeDesc.struct
  #[{ name := "_interface", type := 17, offset := 0, embedded := false, tag := "", pkgPath := "runtime",
      byteOffset := 0 },
    { name := "concrete", type := 17, offset := 1, embedded := false, tag := "", pkgPath := "runtime",
      byteOffset := 8 },
    { name := "asserted", type := 17, offset := 2, embedded := false, tag := "", pkgPath := "runtime",
      byteOffset := 16 },
    { name := "missingMethod", type := 9, offset := 3, embedded := false, tag := "", pkgPath := "runtime",
      byteOffset := 24 }]) := opq Tryd.underlying227
@[simp ↓] theorem fld227_0 {q : Nat → TypeId → Prop} : goFld Tryd.prog 227 0 q = q 0 17 := by simp only [goFld, und227]; rfl
@[simp ↓] theorem fld227_1 {q : Nat → TypeId → Prop} : goFld Tryd.prog 227 1 q = q 1 17 := by simp only [goFld, und227]; rfl
@[simp ↓] theorem fld227_2 {q : Nat → TypeId → Prop} : goFld Tryd.prog 227 2 q = q 2 17 := by simp only [goFld, und227]; rfl
@[simp ↓] theorem fld227_3 {q : Nat → TypeId → Prop} : goFld Tryd.prog 227 3 q = q 3 9 := by simp only [goFld, und227]; rfl
@[simp ↓] theorem bld227 {q : List Value → List (Nat × Nat) → Prop} : goBld Tryd.prog 227 q = q [Go.Value.pointer none, Go.Value.pointer none, Go.Value.pointer none, Go.Value.string { data := #[] }] [(0, 1), (1, 1), (2, 1), (3, 1)] := by simp [goBld, und227, zer227, placesL, Value.cells]
theorem agg228 : aggT Tryd.prog 228 = some true := by unfold aggT; rw [Tryd.underlying228]; rfl
@[simp] theorem siz228 : szT Tryd.prog 228 = some 0 := by unfold szT; rw [show Tryd.prog.info? 228 = some Tryd.t228 from Tryd.type228]; rfl
@[simp ↓] theorem ty228 {q : Bool → Nat → Prop} : goTy Tryd.prog 228 q = q true 0 := by simp only [goTy, agg228, siz228]
@[simp ↓] theorem sz228 {q : Nat → Prop} : goSz Tryd.prog 228 q = q 0 := by simp only [goSz, siz228]
theorem zer228 : zero? Tryd.prog 228 = some (Go.Value.agg #[]) := by unfold zero?; rw [show Tryd.prog.info? 228 = some Tryd.t228 from Tryd.type228]; rfl
@[simp ↓] theorem z228 {q : List Value → Prop} : goZ Tryd.prog 228 q = q [] := by simp [goZ, zer228, Value.cells]
@[simp] theorem und228 : Tryd.prog.underlying 228 = some (Go.TypeDesc.array 0 16) := opq Tryd.underlying228
@[simp ↓] theorem un228 {q : TypeDesc → Prop} : goUnd Tryd.prog 228 q = q (Go.TypeDesc.array 0 16) := by simp only [goUnd, und228]
theorem agg230 : aggT Tryd.prog 230 = some true := by unfold aggT; rw [Tryd.underlying230]; rfl
@[simp] theorem siz230 : szT Tryd.prog 230 = some 0 := by unfold szT; rw [show Tryd.prog.info? 230 = some Tryd.t230 from Tryd.type230]; rfl
@[simp ↓] theorem ty230 {q : Bool → Nat → Prop} : goTy Tryd.prog 230 q = q true 0 := by simp only [goTy, agg230, siz230]
@[simp ↓] theorem sz230 {q : Nat → Prop} : goSz Tryd.prog 230 q = q 0 := by simp only [goSz, siz230]
theorem zer230 : zero? Tryd.prog 230 = some (Go.Value.agg #[]) := by unfold zero?; rw [show Tryd.prog.info? 230 = some Tryd.t230 from Tryd.type230]; rfl
@[simp ↓] theorem z230 {q : List Value → Prop} : goZ Tryd.prog 230 q = q [] := by simp [goZ, zer230, Value.cells]
@[simp] theorem und230 : Tryd.prog.underlying 230 = some (Go.TypeDesc.struct
  #[{ name := "_", type := 228, offset := 0, embedded := false, tag := "", pkgPath := "runtime", byteOffset := 0 }]) := opq Tryd.underlying230
@[simp ↓] theorem fld230_0 {q : Nat → TypeId → Prop} : goFld Tryd.prog 230 0 q = q 0 228 := by simp only [goFld, und230]; rfl
@[simp ↓] theorem bld230 {q : List Value → List (Nat × Nat) → Prop} : goBld Tryd.prog 230 q = q [] [(0, 0)] := by simp [goBld, und230, zer230, placesL, Value.cells]
theorem agg231 : aggT Tryd.prog 231 = some false := by unfold aggT; rw [Tryd.underlying231]; rfl
@[simp] theorem siz231 : szT Tryd.prog 231 = some 1 := by unfold szT; rw [show Tryd.prog.info? 231 = some Tryd.t231 from Tryd.type231]; rfl
@[simp ↓] theorem ty231 {q : Bool → Nat → Prop} : goTy Tryd.prog 231 q = q false 1 := by simp only [goTy, agg231, siz231]
@[simp ↓] theorem sz231 {q : Nat → Prop} : goSz Tryd.prog 231 q = q 1 := by simp only [goSz, siz231]
theorem zer231 : zero? Tryd.prog 231 = some (Go.Value.int Go.IntKind.u8 0) := by unfold zero?; rw [show Tryd.prog.info? 231 = some Tryd.t231 from Tryd.type231]; rfl
@[simp ↓] theorem z231 {q : List Value → Prop} : goZ Tryd.prog 231 q = q [(Go.Value.int Go.IntKind.u8 0)] := by simp [goZ, zer231, Value.cells]
@[simp] theorem und231 : Tryd.prog.underlying 231 = some (Go.TypeDesc.int Go.IntKind.u8) := opq Tryd.underlying231
@[simp ↓] theorem un231 {q : TypeDesc → Prop} : goUnd Tryd.prog 231 q = q (Go.TypeDesc.int Go.IntKind.u8) := by simp only [goUnd, und231]
theorem agg232 : aggT Tryd.prog 232 = some false := by unfold aggT; rw [Tryd.underlying232]; rfl
@[simp] theorem siz232 : szT Tryd.prog 232 = some 1 := by unfold szT; rw [show Tryd.prog.info? 232 = some Tryd.t232 from Tryd.type232]; rfl
@[simp ↓] theorem ty232 {q : Bool → Nat → Prop} : goTy Tryd.prog 232 q = q false 1 := by simp only [goTy, agg232, siz232]
@[simp ↓] theorem sz232 {q : Nat → Prop} : goSz Tryd.prog 232 q = q 1 := by simp only [goSz, siz232]
theorem zer232 : zero? Tryd.prog 232 = some (Go.Value.int Go.IntKind.u8 0) := by unfold zero?; rw [show Tryd.prog.info? 232 = some Tryd.t232 from Tryd.type232]; rfl
@[simp ↓] theorem z232 {q : List Value → Prop} : goZ Tryd.prog 232 q = q [(Go.Value.int Go.IntKind.u8 0)] := by simp [goZ, zer232, Value.cells]
@[simp] theorem und232 : Tryd.prog.underlying 232 = some (Go.TypeDesc.int Go.IntKind.u8) := opq Tryd.underlying232
@[simp ↓] theorem un232 {q : TypeDesc → Prop} : goUnd Tryd.prog 232 q = q (Go.TypeDesc.int Go.IntKind.u8) := by simp only [goUnd, und232]
theorem agg233 : aggT Tryd.prog 233 = some false := by unfold aggT; rw [Tryd.underlying233]; rfl
@[simp] theorem siz233 : szT Tryd.prog 233 = some 1 := by unfold szT; rw [show Tryd.prog.info? 233 = some Tryd.t233 from Tryd.type233]; rfl
@[simp ↓] theorem ty233 {q : Bool → Nat → Prop} : goTy Tryd.prog 233 q = q false 1 := by simp only [goTy, agg233, siz233]
@[simp ↓] theorem sz233 {q : Nat → Prop} : goSz Tryd.prog 233 q = q 1 := by simp only [goSz, siz233]
theorem zer233 : zero? Tryd.prog 233 = some Go.Value.nilFunc := by unfold zero?; rw [show Tryd.prog.info? 233 = some Tryd.t233 from Tryd.type233]; rfl
@[simp ↓] theorem z233 {q : List Value → Prop} : goZ Tryd.prog 233 q = q [Go.Value.nilFunc] := by simp [goZ, zer233, Value.cells]
theorem agg234 : aggT Tryd.prog 234 = some false := by unfold aggT; rw [Tryd.underlying234]; rfl
@[simp] theorem siz234 : szT Tryd.prog 234 = some 1 := by unfold szT; rw [show Tryd.prog.info? 234 = some Tryd.t234 from Tryd.type234]; rfl
@[simp ↓] theorem ty234 {q : Bool → Nat → Prop} : goTy Tryd.prog 234 q = q false 1 := by simp only [goTy, agg234, siz234]
@[simp ↓] theorem sz234 {q : Nat → Prop} : goSz Tryd.prog 234 q = q 1 := by simp only [goSz, siz234]
theorem zer234 : zero? Tryd.prog 234 = some (Go.Value.int Go.IntKind.i32 0) := by unfold zero?; rw [show Tryd.prog.info? 234 = some Tryd.t234 from Tryd.type234]; rfl
@[simp ↓] theorem z234 {q : List Value → Prop} : goZ Tryd.prog 234 q = q [(Go.Value.int Go.IntKind.i32 0)] := by simp [goZ, zer234, Value.cells]
@[simp] theorem und234 : Tryd.prog.underlying 234 = some (Go.TypeDesc.int Go.IntKind.i32) := opq Tryd.underlying234
@[simp ↓] theorem un234 {q : TypeDesc → Prop} : goUnd Tryd.prog 234 q = q (Go.TypeDesc.int Go.IntKind.i32) := by simp only [goUnd, und234]
theorem agg235 : aggT Tryd.prog 235 = some false := by unfold aggT; rw [Tryd.underlying235]; rfl
@[simp] theorem siz235 : szT Tryd.prog 235 = some 1 := by unfold szT; rw [show Tryd.prog.info? 235 = some Tryd.t235 from Tryd.type235]; rfl
@[simp ↓] theorem ty235 {q : Bool → Nat → Prop} : goTy Tryd.prog 235 q = q false 1 := by simp only [goTy, agg235, siz235]
@[simp ↓] theorem sz235 {q : Nat → Prop} : goSz Tryd.prog 235 q = q 1 := by simp only [goSz, siz235]
theorem zer235 : zero? Tryd.prog 235 = some (Go.Value.int Go.IntKind.i32 0) := by unfold zero?; rw [show Tryd.prog.info? 235 = some Tryd.t235 from Tryd.type235]; rfl
@[simp ↓] theorem z235 {q : List Value → Prop} : goZ Tryd.prog 235 q = q [(Go.Value.int Go.IntKind.i32 0)] := by simp [goZ, zer235, Value.cells]
@[simp] theorem und235 : Tryd.prog.underlying 235 = some (Go.TypeDesc.int Go.IntKind.i32) := opq Tryd.underlying235
@[simp ↓] theorem un235 {q : TypeDesc → Prop} : goUnd Tryd.prog 235 q = q (Go.TypeDesc.int Go.IntKind.i32) := by simp only [goUnd, und235]
theorem agg237 : aggT Tryd.prog 237 = some true := by unfold aggT; rw [Tryd.underlying237]; rfl
@[simp] theorem siz237 : szT Tryd.prog 237 = some 11 := by unfold szT; rw [show Tryd.prog.info? 237 = some Tryd.t237 from Tryd.type237]; rfl
@[simp ↓] theorem ty237 {q : Bool → Nat → Prop} : goTy Tryd.prog 237 q = q true 11 := by simp only [goTy, agg237, siz237]
@[simp ↓] theorem sz237 {q : Nat → Prop} : goSz Tryd.prog 237 q = q 11 := by simp only [goSz, siz237]
theorem zer237 : zero? Tryd.prog 237 = some
  (Go.Value.agg
    #[Go.Value.int Go.IntKind.u64 0, Go.Value.int Go.IntKind.u64 0, Go.Value.int Go.IntKind.u32 0,
      Go.Value.int Go.IntKind.u8 0, Go.Value.int Go.IntKind.u8 0, Go.Value.int Go.IntKind.u8 0,
      Go.Value.int Go.IntKind.u8 0, Go.Value.nilFunc, Go.Value.pointer none, Go.Value.int Go.IntKind.i32 0,
      Go.Value.int Go.IntKind.i32 0]) := by unfold zero?; rw [show Tryd.prog.info? 237 = some Tryd.t237 from Tryd.type237]; rfl
@[simp ↓] theorem z237 {q : List Value → Prop} : goZ Tryd.prog 237 q = q [Go.Value.int Go.IntKind.u64 0, Go.Value.int Go.IntKind.u64 0, Go.Value.int Go.IntKind.u32 0,
      Go.Value.int Go.IntKind.u8 0, Go.Value.int Go.IntKind.u8 0, Go.Value.int Go.IntKind.u8 0,
      Go.Value.int Go.IntKind.u8 0, Go.Value.nilFunc, Go.Value.pointer none, Go.Value.int Go.IntKind.i32 0,
      Go.Value.int Go.IntKind.i32 0] := by simp [goZ, zer237, Value.cells]
@[simp] theorem und237 : Tryd.prog.underlying 237 = some (Go.TypeDesc.struct
  #[{ name := "Size_", type := 12, offset := 0, embedded := false, tag := "", pkgPath := "", byteOffset := 0 },
    { name := "PtrBytes", type := 12, offset := 1, embedded := false, tag := "", pkgPath := "", byteOffset := 8 },
    { name := "Hash", type := 183, offset := 2, embedded := false, tag := "", pkgPath := "", byteOffset := 16 },
    { name := "TFlag", type := 231, offset := 3, embedded := false, tag := "", pkgPath := "", byteOffset := 20 },
    { name := "Align_", type := 5, offset := 4, embedded := false, tag := "", pkgPath := "", byteOffset := 21 },
    { name := "FieldAlign_", type := 5, offset := 5, embedded := false, tag := "", pkgPath := "", byteOffset := 22 },
    { name := "Kind_", type := 232, offset := 6, embedded := false, tag := "", pkgPath := "", byteOffset := 23 },
    { name := "Equal", type := 233, offset := 7, embedded := false, tag := "", pkgPath := "", byteOffset := 24 },
    { name := "GCData", type := 109, offset := 8, embedded := false, tag := "", pkgPath := "", byteOffset := 32 },
    { name := "Str", type := 234, offset := 9, embedded := false, tag := "", pkgPath := "", byteOffset := 40 },
    { name := "PtrToThis", type := 235, offset := 10, embedded := false, tag := "", pkgPath := "", byteOffset := 44 }]) := opq Tryd.underlying237
@[simp ↓] theorem fld237_0 {q : Nat → TypeId → Prop} : goFld Tryd.prog 237 0 q = q 0 12 := by simp only [goFld, und237]; rfl
@[simp ↓] theorem fld237_1 {q : Nat → TypeId → Prop} : goFld Tryd.prog 237 1 q = q 1 12 := by simp only [goFld, und237]; rfl
@[simp ↓] theorem fld237_2 {q : Nat → TypeId → Prop} : goFld Tryd.prog 237 2 q = q 2 183 := by simp only [goFld, und237]; rfl
@[simp ↓] theorem fld237_3 {q : Nat → TypeId → Prop} : goFld Tryd.prog 237 3 q = q 3 231 := by simp only [goFld, und237]; rfl
@[simp ↓] theorem fld237_4 {q : Nat → TypeId → Prop} : goFld Tryd.prog 237 4 q = q 4 5 := by simp only [goFld, und237]; rfl
@[simp ↓] theorem fld237_5 {q : Nat → TypeId → Prop} : goFld Tryd.prog 237 5 q = q 5 5 := by simp only [goFld, und237]; rfl
@[simp ↓] theorem fld237_6 {q : Nat → TypeId → Prop} : goFld Tryd.prog 237 6 q = q 6 232 := by simp only [goFld, und237]; rfl
@[simp ↓] theorem fld237_7 {q : Nat → TypeId → Prop} : goFld Tryd.prog 237 7 q = q 7 233 := by simp only [goFld, und237]; rfl
@[simp ↓] theorem fld237_8 {q : Nat → TypeId → Prop} : goFld Tryd.prog 237 8 q = q 8 109 := by simp only [goFld, und237]; rfl
@[simp ↓] theorem fld237_9 {q : Nat → TypeId → Prop} : goFld Tryd.prog 237 9 q = q 9 234 := by simp only [goFld, und237]; rfl
@[simp ↓] theorem fld237_10 {q : Nat → TypeId → Prop} : goFld Tryd.prog 237 10 q = q 10 235 := by simp only [goFld, und237]; rfl
@[simp ↓] theorem bld237 {q : List Value → List (Nat × Nat) → Prop} : goBld Tryd.prog 237 q = q [Go.Value.int Go.IntKind.u64 0, Go.Value.int Go.IntKind.u64 0, Go.Value.int Go.IntKind.u32 0,
      Go.Value.int Go.IntKind.u8 0, Go.Value.int Go.IntKind.u8 0, Go.Value.int Go.IntKind.u8 0,
      Go.Value.int Go.IntKind.u8 0, Go.Value.nilFunc, Go.Value.pointer none, Go.Value.int Go.IntKind.i32 0,
      Go.Value.int Go.IntKind.i32 0] [(0, 1), (1, 1), (2, 1), (3, 1), (4, 1), (5, 1), (6, 1), (7, 1), (8, 1), (9, 1), (10, 1)] := by simp [goBld, und237, zer237, placesL, Value.cells]
end Go.Proofs.YtephpieeibcihaaDoor
