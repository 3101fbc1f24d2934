/- Facts about the seat's types, for the abstract machine. No condition. -/
import Derived.Test.YtehhjbomdohgoaaDoorProg
import Derived.Test.YtehhjbomdohgoaaDoorAm20
namespace Go.Proofs.YtehhjbomdohgoaaDoor
open Go Go.Am Go.Proofs
set_option linter.unusedSimpArgs false
set_option maxRecDepth 100000
theorem agg1 : aggT Tryd.prog 1 = some false := by unfold aggT; rw [Tryd.underlying1]; rfl
@[simp] theorem siz1 : szT Tryd.prog 1 = some 1 := by unfold szT; rw [show Tryd.prog.info? 1 = some Tryd.t1 from Tryd.type1]; rfl
@[simp ↓] theorem ty1 {q : Bool → Nat → Prop} : goTy Tryd.prog 1 q = q false 1 := by simp only [goTy, agg1, siz1]
@[simp ↓] theorem sz1 {q : Nat → Prop} : goSz Tryd.prog 1 q = q 1 := by simp only [goSz, siz1]
theorem zer1 : zero? Tryd.prog 1 = some Go.Value.nilFunc := by unfold zero?; rw [show Tryd.prog.info? 1 = some Tryd.t1 from Tryd.type1]; rfl
@[simp ↓] theorem z1 {q : List Value → Prop} : goZ Tryd.prog 1 q = q [Go.Value.nilFunc] := by simp [goZ, zer1, Value.cells]
theorem agg2 : aggT Tryd.prog 2 = some false := by unfold aggT; rw [Tryd.underlying2]; rfl
@[simp] theorem siz2 : szT Tryd.prog 2 = some 1 := by unfold szT; rw [show Tryd.prog.info? 2 = some Tryd.t2 from Tryd.type2]; rfl
@[simp ↓] theorem ty2 {q : Bool → Nat → Prop} : goTy Tryd.prog 2 q = q false 1 := by simp only [goTy, agg2, siz2]
@[simp ↓] theorem sz2 {q : Nat → Prop} : goSz Tryd.prog 2 q = q 1 := by simp only [goSz, siz2]
theorem zer2 : zero? Tryd.prog 2 = some (Go.Value.int Go.IntKind.i64 0) := by unfold zero?; rw [show Tryd.prog.info? 2 = some Tryd.t2 from Tryd.type2]; rfl
@[simp ↓] theorem z2 {q : List Value → Prop} : goZ Tryd.prog 2 q = q [(Go.Value.int Go.IntKind.i64 0)] := by simp [goZ, zer2, Value.cells]
@[simp] theorem und2 : Tryd.prog.underlying 2 = some (Go.TypeDesc.int Go.IntKind.i64) := opq Tryd.underlying2
@[simp ↓] theorem un2 {q : TypeDesc → Prop} : goUnd Tryd.prog 2 q = q (Go.TypeDesc.int Go.IntKind.i64) := by simp only [goUnd, und2]
theorem agg3 : aggT Tryd.prog 3 = some false := by unfold aggT; rw [Tryd.underlying3]; rfl
@[simp] theorem siz3 : szT Tryd.prog 3 = some 1 := by unfold szT; rw [show Tryd.prog.info? 3 = some Tryd.t3 from Tryd.type3]; rfl
@[simp ↓] theorem ty3 {q : Bool → Nat → Prop} : goTy Tryd.prog 3 q = q false 1 := by simp only [goTy, agg3, siz3]
@[simp ↓] theorem sz3 {q : Nat → Prop} : goSz Tryd.prog 3 q = q 1 := by simp only [goSz, siz3]
theorem zer3 : zero? Tryd.prog 3 = some (Go.Value.int Go.IntKind.i64 0) := by unfold zero?; rw [show Tryd.prog.info? 3 = some Tryd.t3 from Tryd.type3]; rfl
@[simp ↓] theorem z3 {q : List Value → Prop} : goZ Tryd.prog 3 q = q [(Go.Value.int Go.IntKind.i64 0)] := by simp [goZ, zer3, Value.cells]
@[simp] theorem und3 : Tryd.prog.underlying 3 = some (Go.TypeDesc.int Go.IntKind.i64) := opq Tryd.underlying3
@[simp ↓] theorem un3 {q : TypeDesc → Prop} : goUnd Tryd.prog 3 q = q (Go.TypeDesc.int Go.IntKind.i64) := by simp only [goUnd, und3]
theorem agg4 : aggT Tryd.prog 4 = some false := by unfold aggT; rw [Tryd.underlying4]; rfl
@[simp] theorem siz4 : szT Tryd.prog 4 = some 1 := by unfold szT; rw [show Tryd.prog.info? 4 = some Tryd.t4 from Tryd.type4]; rfl
@[simp ↓] theorem ty4 {q : Bool → Nat → Prop} : goTy Tryd.prog 4 q = q false 1 := by simp only [goTy, agg4, siz4]
@[simp ↓] theorem sz4 {q : Nat → Prop} : goSz Tryd.prog 4 q = q 1 := by simp only [goSz, siz4]
theorem zer4 : zero? Tryd.prog 4 = some (Go.Value.bool false) := by unfold zero?; rw [show Tryd.prog.info? 4 = some Tryd.t4 from Tryd.type4]; rfl
@[simp ↓] theorem z4 {q : List Value → Prop} : goZ Tryd.prog 4 q = q [(Go.Value.bool false)] := by simp [goZ, zer4, Value.cells]
@[simp] theorem und4 : Tryd.prog.underlying 4 = some (Go.TypeDesc.bool) := opq Tryd.underlying4
@[simp ↓] theorem un4 {q : TypeDesc → Prop} : goUnd Tryd.prog 4 q = q (Go.TypeDesc.bool) := by simp only [goUnd, und4]
theorem agg5 : aggT Tryd.prog 5 = some false := by unfold aggT; rw [Tryd.underlying5]; rfl
@[simp] theorem siz5 : szT Tryd.prog 5 = some 1 := by unfold szT; rw [show Tryd.prog.info? 5 = some Tryd.t5 from Tryd.type5]; rfl
@[simp ↓] theorem ty5 {q : Bool → Nat → Prop} : goTy Tryd.prog 5 q = q false 1 := by simp only [goTy, agg5, siz5]
@[simp ↓] theorem sz5 {q : Nat → Prop} : goSz Tryd.prog 5 q = q 1 := by simp only [goSz, siz5]
theorem zer5 : zero? Tryd.prog 5 = some (Go.Value.int Go.IntKind.u8 0) := by unfold zero?; rw [show Tryd.prog.info? 5 = some Tryd.t5 from Tryd.type5]; rfl
@[simp ↓] theorem z5 {q : List Value → Prop} : goZ Tryd.prog 5 q = q [(Go.Value.int Go.IntKind.u8 0)] := by simp [goZ, zer5, Value.cells]
@[simp] theorem und5 : Tryd.prog.underlying 5 = some (Go.TypeDesc.int Go.IntKind.u8) := opq Tryd.underlying5
@[simp ↓] theorem un5 {q : TypeDesc → Prop} : goUnd Tryd.prog 5 q = q (Go.TypeDesc.int Go.IntKind.u8) := by simp only [goUnd, und5]
theorem agg6 : aggT Tryd.prog 6 = some false := by unfold aggT; rw [Tryd.underlying6]; rfl
@[simp] theorem siz6 : szT Tryd.prog 6 = some 1 := by unfold szT; rw [show Tryd.prog.info? 6 = some Tryd.t6 from Tryd.type6]; rfl
@[simp ↓] theorem ty6 {q : Bool → Nat → Prop} : goTy Tryd.prog 6 q = q false 1 := by simp only [goTy, agg6, siz6]
@[simp ↓] theorem sz6 {q : Nat → Prop} : goSz Tryd.prog 6 q = q 1 := by simp only [goSz, siz6]
theorem zer6 : zero? Tryd.prog 6 = some (Go.Value.int Go.IntKind.u8 0) := by unfold zero?; rw [show Tryd.prog.info? 6 = some Tryd.t6 from Tryd.type6]; rfl
@[simp ↓] theorem z6 {q : List Value → Prop} : goZ Tryd.prog 6 q = q [(Go.Value.int Go.IntKind.u8 0)] := by simp [goZ, zer6, Value.cells]
@[simp] theorem und6 : Tryd.prog.underlying 6 = some (Go.TypeDesc.int Go.IntKind.u8) := opq Tryd.underlying6
@[simp ↓] theorem un6 {q : TypeDesc → Prop} : goUnd Tryd.prog 6 q = q (Go.TypeDesc.int Go.IntKind.u8) := by simp only [goUnd, und6]
theorem agg7 : aggT Tryd.prog 7 = some true := by unfold aggT; rw [Tryd.underlying7]; rfl
@[simp] theorem siz7 : szT Tryd.prog 7 = some 4 := by unfold szT; rw [show Tryd.prog.info? 7 = some Tryd.t7 from Tryd.type7]; rfl
@[simp ↓] theorem ty7 {q : Bool → Nat → Prop} : goTy Tryd.prog 7 q = q true 4 := by simp only [goTy, agg7, siz7]
@[simp ↓] theorem sz7 {q : Nat → Prop} : goSz Tryd.prog 7 q = q 4 := by simp only [goSz, siz7]
theorem zer7 : zero? Tryd.prog 7 = some
  (Go.Value.agg
    #[Go.Value.int Go.IntKind.i64 0, Go.Value.int Go.IntKind.i64 0, Go.Value.bool false, Go.Value.int Go.IntKind.u8 0]) := by unfold zero?; rw [show Tryd.prog.info? 7 = some Tryd.t7 from Tryd.type7]; rfl
@[simp ↓] theorem z7 {q : List Value → Prop} : goZ Tryd.prog 7 q = q [Go.Value.int Go.IntKind.i64 0, Go.Value.int Go.IntKind.i64 0, Go.Value.bool false, Go.Value.int Go.IntKind.u8 0] := by simp [goZ, zer7, Value.cells]
@[simp] theorem und7 : Tryd.prog.underlying 7 = some (Go.TypeDesc.struct
  #[{ name := "x", type := 2, offset := 0, embedded := false, tag := "", pkgPath := "runtime", byteOffset := 0 },
    { name := "y", type := 3, offset := 1, embedded := false, tag := "", pkgPath := "runtime", byteOffset := 8 },
    { name := "signed", type := 4, offset := 2, embedded := false, tag := "", pkgPath := "runtime", byteOffset := 16 },
    { name := "code", type := 6, offset := 3, embedded := false, tag := "", pkgPath := "runtime", byteOffset := 17 }]) := opq Tryd.underlying7
@[simp ↓] theorem fld7_0 {q : Nat → TypeId → Prop} : goFld Tryd.prog 7 0 q = q 0 2 := by simp only [goFld, und7]; rfl
@[simp ↓] theorem fld7_1 {q : Nat → TypeId → Prop} : goFld Tryd.prog 7 1 q = q 1 3 := by simp only [goFld, und7]; rfl
@[simp ↓] theorem fld7_2 {q : Nat → TypeId → Prop} : goFld Tryd.prog 7 2 q = q 2 4 := by simp only [goFld, und7]; rfl
@[simp ↓] theorem fld7_3 {q : Nat → TypeId → Prop} : goFld Tryd.prog 7 3 q = q 3 6 := by simp only [goFld, und7]; rfl
@[simp ↓] theorem bld7 {q : List Value → List (Nat × Nat) → Prop} : goBld Tryd.prog 7 q = q [Go.Value.int Go.IntKind.i64 0, Go.Value.int Go.IntKind.i64 0, Go.Value.bool false, Go.Value.int Go.IntKind.u8 0] [(0, 1), (1, 1), (2, 1), (3, 1)] := by simp [goBld, und7, zer7, placesL, Value.cells]
theorem agg8 : aggT Tryd.prog 8 = some true := by unfold aggT; rw [Tryd.underlying8]; rfl
@[simp] theorem siz8 : szT Tryd.prog 8 = some 4 := by unfold szT; rw [show Tryd.prog.info? 8 = some Tryd.t8 from Tryd.type8]; rfl
@[simp ↓] theorem ty8 {q : Bool → Nat → Prop} : goTy Tryd.prog 8 q = q true 4 := by simp only [goTy, agg8, siz8]
@[simp ↓] theorem sz8 {q : Nat → Prop} : goSz Tryd.prog 8 q = q 4 := by simp only [goSz, siz8]
theorem zer8 : zero? Tryd.prog 8 = some
  (Go.Value.agg
    #[Go.Value.int Go.IntKind.i64 0, Go.Value.int Go.IntKind.i64 0, Go.Value.bool false, Go.Value.int Go.IntKind.u8 0]) := by unfold zero?; rw [show Tryd.prog.info? 8 = some Tryd.t8 from Tryd.type8]; rfl
@[simp ↓] theorem z8 {q : List Value → Prop} : goZ Tryd.prog 8 q = q [Go.Value.int Go.IntKind.i64 0, Go.Value.int Go.IntKind.i64 0, Go.Value.bool false, Go.Value.int Go.IntKind.u8 0] := by simp [goZ, zer8, Value.cells]
@[simp] theorem und8 : Tryd.prog.underlying 8 = some (Go.TypeDesc.struct
  #[{ name := "x", type := 2, offset := 0, embedded := false, tag := "", pkgPath := "runtime", byteOffset := 0 },
    { name := "y", type := 3, offset := 1, embedded := false, tag := "", pkgPath := "runtime", byteOffset := 8 },
    { name := "signed", type := 4, offset := 2, embedded := false, tag := "", pkgPath := "runtime", byteOffset := 16 },
    { name := "code", type := 6, offset := 3, embedded := false, tag := "", pkgPath := "runtime", byteOffset := 17 }]) := opq Tryd.underlying8
@[simp ↓] theorem fld8_0 {q : Nat → TypeId → Prop} : goFld Tryd.prog 8 0 q = q 0 2 := by simp only [goFld, und8]; rfl
@[simp ↓] theorem fld8_1 {q : Nat → TypeId → Prop} : goFld Tryd.prog 8 1 q = q 1 3 := by simp only [goFld, und8]; rfl
@[simp ↓] theorem fld8_2 {q : Nat → TypeId → Prop} : goFld Tryd.prog 8 2 q = q 2 4 := by simp only [goFld, und8]; rfl
@[simp ↓] theorem fld8_3 {q : Nat → TypeId → Prop} : goFld Tryd.prog 8 3 q = q 3 6 := by simp only [goFld, und8]; rfl
@[simp ↓] theorem bld8 {q : List Value → List (Nat × Nat) → Prop} : goBld Tryd.prog 8 q = q [Go.Value.int Go.IntKind.i64 0, Go.Value.int Go.IntKind.i64 0, Go.Value.bool false, Go.Value.int Go.IntKind.u8 0] [(0, 1), (1, 1), (2, 1), (3, 1)] := by simp [goBld, und8, zer8, placesL, Value.cells]
theorem agg9 : aggT Tryd.prog 9 = some false := by unfold aggT; rw [Tryd.underlying9]; rfl
@[simp] theorem siz9 : szT Tryd.prog 9 = some 1 := by unfold szT; rw [show Tryd.prog.info? 9 = some Tryd.t9 from Tryd.type9]; rfl
@[simp ↓] theorem ty9 {q : Bool → Nat → Prop} : goTy Tryd.prog 9 q = q false 1 := by simp only [goTy, agg9, siz9]
@[simp ↓] theorem sz9 {q : Nat → Prop} : goSz Tryd.prog 9 q = q 1 := by simp only [goSz, siz9]
theorem zer9 : zero? Tryd.prog 9 = some (Go.Value.string { data := #[] }) := by unfold zero?; rw [show Tryd.prog.info? 9 = some Tryd.t9 from Tryd.type9]; rfl
@[simp ↓] theorem z9 {q : List Value → Prop} : goZ Tryd.prog 9 q = q [(Go.Value.string { data := #[] })] := by simp [goZ, zer9, Value.cells]
@[simp] theorem und9 : Tryd.prog.underlying 9 = some (Go.TypeDesc.string) := opq Tryd.underlying9
@[simp ↓] theorem un9 {q : TypeDesc → Prop} : goUnd Tryd.prog 9 q = q (Go.TypeDesc.string) := by simp only [goUnd, und9]
theorem agg10 : aggT Tryd.prog 10 = some false := by unfold aggT; rw [Tryd.underlying10]; rfl
@[simp] theorem siz10 : szT Tryd.prog 10 = some 1 := by unfold szT; rw [show Tryd.prog.info? 10 = some Tryd.t10 from Tryd.type10]; rfl
@[simp ↓] theorem ty10 {q : Bool → Nat → Prop} : goTy Tryd.prog 10 q = q false 1 := by simp only [goTy, agg10, siz10]
@[simp ↓] theorem sz10 {q : Nat → Prop} : goSz Tryd.prog 10 q = q 1 := by simp only [goSz, siz10]
theorem zer10 : zero? Tryd.prog 10 = some (Go.Value.string { data := #[] }) := by unfold zero?; rw [show Tryd.prog.info? 10 = some Tryd.t10 from Tryd.type10]; rfl
@[simp ↓] theorem z10 {q : List Value → Prop} : goZ Tryd.prog 10 q = q [(Go.Value.string { data := #[] })] := by simp [goZ, zer10, Value.cells]
@[simp] theorem und10 : Tryd.prog.underlying 10 = some (Go.TypeDesc.string) := opq Tryd.underlying10
@[simp ↓] theorem un10 {q : TypeDesc → Prop} : goUnd Tryd.prog 10 q = q (Go.TypeDesc.string) := by simp only [goUnd, und10]
theorem agg11 : aggT Tryd.prog 11 = some false := by unfold aggT; rw [Tryd.underlying11]; rfl
@[simp] theorem siz11 : szT Tryd.prog 11 = some 1 := by unfold szT; rw [show Tryd.prog.info? 11 = some Tryd.t11 from Tryd.type11]; rfl
@[simp ↓] theorem ty11 {q : Bool → Nat → Prop} : goTy Tryd.prog 11 q = q false 1 := by simp only [goTy, agg11, siz11]
@[simp ↓] theorem sz11 {q : Nat → Prop} : goSz Tryd.prog 11 q = q 1 := by simp only [goSz, siz11]
theorem zer11 : zero? Tryd.prog 11 = some (Go.Value.string { data := #[] }) := by unfold zero?; rw [show Tryd.prog.info? 11 = some Tryd.t11 from Tryd.type11]; rfl
@[simp ↓] theorem z11 {q : List Value → Prop} : goZ Tryd.prog 11 q = q [(Go.Value.string { data := #[] })] := by simp [goZ, zer11, Value.cells]
@[simp] theorem und11 : Tryd.prog.underlying 11 = some (Go.TypeDesc.string) := opq Tryd.underlying11
@[simp ↓] theorem un11 {q : TypeDesc → Prop} : goUnd Tryd.prog 11 q = q (Go.TypeDesc.string) := by simp only [goUnd, und11]
theorem agg12 : aggT Tryd.prog 12 = some false := by unfold aggT; rw [Tryd.underlying12]; rfl
@[simp] theorem siz12 : szT Tryd.prog 12 = some 1 := by unfold szT; rw [show Tryd.prog.info? 12 = some Tryd.t12 from Tryd.type12]; rfl
@[simp ↓] theorem ty12 {q : Bool → Nat → Prop} : goTy Tryd.prog 12 q = q false 1 := by simp only [goTy, agg12, siz12]
@[simp ↓] theorem sz12 {q : Nat → Prop} : goSz Tryd.prog 12 q = q 1 := by simp only [goSz, siz12]
theorem zer12 : zero? Tryd.prog 12 = some (Go.Value.int Go.IntKind.u64 0) := by unfold zero?; rw [show Tryd.prog.info? 12 = some Tryd.t12 from Tryd.type12]; rfl
@[simp ↓] theorem z12 {q : List Value → Prop} : goZ Tryd.prog 12 q = q [(Go.Value.int Go.IntKind.u64 0)] := by simp [goZ, zer12, Value.cells]
@[simp] theorem und12 : Tryd.prog.underlying 12 = some (Go.TypeDesc.int Go.IntKind.u64) := opq Tryd.underlying12
@[simp ↓] theorem un12 {q : TypeDesc → Prop} : goUnd Tryd.prog 12 q = q (Go.TypeDesc.int Go.IntKind.u64) := by simp only [goUnd, und12]
theorem agg13 : aggT Tryd.prog 13 = some true := by unfold aggT; rw [Tryd.underlying13]; rfl
@[simp] theorem siz13 : szT Tryd.prog 13 = some 2 := by unfold szT; rw [show Tryd.prog.info? 13 = some Tryd.t13 from Tryd.type13]; rfl
@[simp ↓] theorem ty13 {q : Bool → Nat → Prop} : goTy Tryd.prog 13 q = q true 2 := by simp only [goTy, agg13, siz13]
@[simp ↓] theorem sz13 {q : Nat → Prop} : goSz Tryd.prog 13 q = q 2 := by simp only [goSz, siz13]
theorem zer13 : zero? Tryd.prog 13 = some (Go.Value.agg #[Go.Value.string { data := #[] }, Go.Value.int Go.IntKind.u64 0]) := by unfold zero?; rw [show Tryd.prog.info? 13 = some Tryd.t13 from Tryd.type13]; rfl
@[simp ↓] theorem z13 {q : List Value → Prop} : goZ Tryd.prog 13 q = q [Go.Value.string { data := #[] }, Go.Value.int Go.IntKind.u64 0] := by simp [goZ, zer13, Value.cells]
@[simp] theorem und13 : Tryd.prog.underlying 13 = some (Go.TypeDesc.struct
  #[{ name := "msg", type := 9, offset := 0, embedded := false, tag := "", pkgPath := "runtime", byteOffset := 0 },
    { name := "addr", type := 12, offset := 1, embedded := false, tag := "", pkgPath := "runtime", byteOffset := 16 }]) := opq Tryd.underlying13
@[simp ↓] theorem fld13_0 {q : Nat → TypeId → Prop} : goFld Tryd.prog 13 0 q = q 0 9 := by simp only [goFld, und13]; rfl
@[simp ↓] theorem fld13_1 {q : Nat → TypeId → Prop} : goFld Tryd.prog 13 1 q = q 1 12 := by simp only [goFld, und13]; rfl
@[simp ↓] theorem bld13 {q : List Value → List (Nat × Nat) → Prop} : goBld Tryd.prog 13 q = q [Go.Value.string { data := #[] }, Go.Value.int Go.IntKind.u64 0] [(0, 1), (1, 1)] := by simp [goBld, und13, zer13, placesL, Value.cells]
theorem agg14 : aggT Tryd.prog 14 = some true := by unfold aggT; rw [Tryd.underlying14]; rfl
@[simp] theorem siz14 : szT Tryd.prog 14 = some 2 := by unfold szT; rw [show Tryd.prog.info? 14 = some Tryd.t14 from Tryd.type14]; rfl
@[simp ↓] theorem ty14 {q : Bool → Nat → Prop} : goTy Tryd.prog 14 q = q true 2 := by simp only [goTy, agg14, siz14]
@[simp ↓] theorem sz14 {q : Nat → Prop} : goSz Tryd.prog 14 q = q 2 := by simp only [goSz, siz14]
theorem zer14 : zero? Tryd.prog 14 = some (Go.Value.agg #[Go.Value.string { data := #[] }, Go.Value.int Go.IntKind.u64 0]) := by unfold zero?; rw [show Tryd.prog.info? 14 = some Tryd.t14 from Tryd.type14]; rfl
@[simp ↓] theorem z14 {q : List Value → Prop} : goZ Tryd.prog 14 q = q [Go.Value.string { data := #[] }, Go.Value.int Go.IntKind.u64 0] := by simp [goZ, zer14, Value.cells]
@[simp] theorem und14 : Tryd.prog.underlying 14 = some (Go.TypeDesc.struct
  #[{ name := "msg", type := 9, offset := 0, embedded := false, tag := "", pkgPath := "runtime", byteOffset := 0 },
    { name := "addr", type := 12, offset := 1, embedded := false, tag := "", pkgPath := "runtime", byteOffset := 16 }]) := opq Tryd.underlying14
@[simp ↓] theorem fld14_0 {q : Nat → TypeId → Prop} : goFld Tryd.prog 14 0 q = q 0 9 := by simp only [goFld, und14]; rfl
@[simp ↓] theorem fld14_1 {q : Nat → TypeId → Prop} : goFld Tryd.prog 14 1 q = q 1 12 := by simp only [goFld, und14]; rfl
@[simp ↓] theorem bld14 {q : List Value → List (Nat × Nat) → Prop} : goBld Tryd.prog 14 q = q [Go.Value.string { data := #[] }, Go.Value.int Go.IntKind.u64 0] [(0, 1), (1, 1)] := by simp [goBld, und14, zer14, placesL, Value.cells]
theorem agg15 : aggT Tryd.prog 15 = some false := by unfold aggT; rw [Tryd.underlying15]; rfl
@[simp] theorem siz15 : szT Tryd.prog 15 = some 1 := by unfold szT; rw [show Tryd.prog.info? 15 = some Tryd.t15 from Tryd.type15]; rfl
@[simp ↓] theorem ty15 {q : Bool → Nat → Prop} : goTy Tryd.prog 15 q = q false 1 := by simp only [goTy, agg15, siz15]
@[simp ↓] theorem sz15 {q : Nat → Prop} : goSz Tryd.prog 15 q = q 1 := by simp only [goSz, siz15]
theorem zer15 : zero? Tryd.prog 15 = some (Go.Value.pointer none) := by unfold zero?; rw [show Tryd.prog.info? 15 = some Tryd.t15 from Tryd.type15]; rfl
@[simp ↓] theorem z15 {q : List Value → Prop} : goZ Tryd.prog 15 q = q [(Go.Value.pointer none)] := by simp [goZ, zer15, Value.cells]
@[simp] theorem und15 : Tryd.prog.underlying 15 = some (Go.TypeDesc.pointer 224) := opq Tryd.underlying15
@[simp ↓] theorem un15 {q : TypeDesc → Prop} : goUnd Tryd.prog 15 q = q (Go.TypeDesc.pointer 224) := by simp only [goUnd, und15]
theorem agg16 : aggT Tryd.prog 16 = some false := by unfold aggT; rw [Tryd.underlying16]; rfl
@[simp] theorem siz16 : szT Tryd.prog 16 = some 1 := by unfold szT; rw [show Tryd.prog.info? 16 = some Tryd.t16 from Tryd.type16]; rfl
@[simp ↓] theorem ty16 {q : Bool → Nat → Prop} : goTy Tryd.prog 16 q = q false 1 := by simp only [goTy, agg16, siz16]
@[simp ↓] theorem sz16 {q : Nat → Prop} : goSz Tryd.prog 16 q = q 1 := by simp only [goSz, siz16]
theorem zer16 : zero? Tryd.prog 16 = some (Go.Value.pointer none) := by unfold zero?; rw [show Tryd.prog.info? 16 = some Tryd.t16 from Tryd.type16]; rfl
@[simp ↓] theorem z16 {q : List Value → Prop} : goZ Tryd.prog 16 q = q [(Go.Value.pointer none)] := by simp [goZ, zer16, Value.cells]
@[simp] theorem und16 : Tryd.prog.underlying 16 = some (Go.TypeDesc.pointer 227) := opq Tryd.underlying16
@[simp ↓] theorem un16 {q : TypeDesc → Prop} : goUnd Tryd.prog 16 q = q (Go.TypeDesc.pointer 227) := by simp only [goUnd, und16]
theorem agg17 : aggT Tryd.prog 17 = some false := by unfold aggT; rw [Tryd.underlying17]; rfl
@[simp] theorem siz17 : szT Tryd.prog 17 = some 1 := by unfold szT; rw [show Tryd.prog.info? 17 = some Tryd.t17 from Tryd.type17]; rfl
@[simp ↓] theorem ty17 {q : Bool → Nat → Prop} : goTy Tryd.prog 17 q = q false 1 := by simp only [goTy, agg17, siz17]
@[simp ↓] theorem sz17 {q : Nat → Prop} : goSz Tryd.prog 17 q = q 1 := by simp only [goSz, siz17]
theorem zer17 : zero? Tryd.prog 17 = some (Go.Value.pointer none) := by unfold zero?; rw [show Tryd.prog.info? 17 = some Tryd.t17 from Tryd.type17]; rfl
@[simp ↓] theorem z17 {q : List Value → Prop} : goZ Tryd.prog 17 q = q [(Go.Value.pointer none)] := by simp [goZ, zer17, Value.cells]
@[simp] theorem und17 : Tryd.prog.underlying 17 = some (Go.TypeDesc.pointer 234) := opq Tryd.underlying17
@[simp ↓] theorem un17 {q : TypeDesc → Prop} : goUnd Tryd.prog 17 q = q (Go.TypeDesc.pointer 234) := by simp only [goUnd, und17]
theorem agg18 : aggT Tryd.prog 18 = some true := by unfold aggT; rw [Tryd.underlying18]; rfl
@[simp] theorem siz18 : szT Tryd.prog 18 = some 1 := by unfold szT; rw [show Tryd.prog.info? 18 = some Tryd.t18 from Tryd.type18]; rfl
@[simp ↓] theorem ty18 {q : Bool → Nat → Prop} : goTy Tryd.prog 18 q = q true 1 := by simp only [goTy, agg18, siz18]
@[simp ↓] theorem sz18 {q : Nat → Prop} : goSz Tryd.prog 18 q = q 1 := by simp only [goSz, siz18]
theorem zer18 : zero? Tryd.prog 18 = some (Go.Value.agg #[Go.Value.pointer none]) := by unfold zero?; rw [show Tryd.prog.info? 18 = some Tryd.t18 from Tryd.type18]; rfl
@[simp ↓] theorem z18 {q : List Value → Prop} : goZ Tryd.prog 18 q = q [Go.Value.pointer none] := by simp [goZ, zer18, Value.cells]
@[simp] theorem und18 : Tryd.prog.underlying 18 = some (Go.TypeDesc.struct
  #[{ name := "typ", type := 17, offset := 0, embedded := false, tag := "", pkgPath := "internal/runtime/maps",
      byteOffset := 0 }]) := opq Tryd.underlying18
@[simp ↓] theorem fld18_0 {q : Nat → TypeId → Prop} : goFld Tryd.prog 18 0 q = q 0 17 := by simp only [goFld, und18]; rfl
@[simp ↓] theorem bld18 {q : List Value → List (Nat × Nat) → Prop} : goBld Tryd.prog 18 q = q [Go.Value.pointer none] [(0, 1)] := by simp [goBld, und18, zer18, placesL, Value.cells]
theorem agg19 : aggT Tryd.prog 19 = some true := by unfold aggT; rw [Tryd.underlying19]; rfl
@[simp] theorem siz19 : szT Tryd.prog 19 = some 1 := by unfold szT; rw [show Tryd.prog.info? 19 = some Tryd.t19 from Tryd.type19]; rfl
@[simp ↓] theorem ty19 {q : Bool → Nat → Prop} : goTy Tryd.prog 19 q = q true 1 := by simp only [goTy, agg19, siz19]
@[simp ↓] theorem sz19 {q : Nat → Prop} : goSz Tryd.prog 19 q = q 1 := by simp only [goSz, siz19]
theorem zer19 : zero? Tryd.prog 19 = some (Go.Value.agg #[Go.Value.pointer none]) := by unfold zero?; rw [show Tryd.prog.info? 19 = some Tryd.t19 from Tryd.type19]; rfl
@[simp ↓] theorem z19 {q : List Value → Prop} : goZ Tryd.prog 19 q = q [Go.Value.pointer none] := by simp [goZ, zer19, Value.cells]
@[simp] theorem und19 : Tryd.prog.underlying 19 = some (Go.TypeDesc.struct
  #[{ name := "typ", type := 17, offset := 0, embedded := false, tag := "", pkgPath := "internal/runtime/maps",
      byteOffset := 0 }]) := opq Tryd.underlying19
@[simp ↓] theorem fld19_0 {q : Nat → TypeId → Prop} : goFld Tryd.prog 19 0 q = q 0 17 := by simp only [goFld, und19]; rfl
@[simp ↓] theorem bld19 {q : List Value → List (Nat × Nat) → Prop} : goBld Tryd.prog 19 q = q [Go.Value.pointer none] [(0, 1)] := by simp [goBld, und19, zer19, placesL, Value.cells]
theorem agg20 : aggT Tryd.prog 20 = some false := by unfold aggT; rw [Tryd.underlying20]; rfl
@[simp] theorem siz20 : szT Tryd.prog 20 = some 1 := by unfold szT; rw [show Tryd.prog.info? 20 = some Tryd.t20 from Tryd.type20]; rfl
@[simp ↓] theorem ty20 {q : Bool → Nat → Prop} : goTy Tryd.prog 20 q = q false 1 := by simp only [goTy, agg20, siz20]
@[simp ↓] theorem sz20 {q : Nat → Prop} : goSz Tryd.prog 20 q = q 1 := by simp only [goSz, siz20]
theorem zer20 : zero? Tryd.prog 20 = some Go.Value.nilIface := by unfold zero?; rw [show Tryd.prog.info? 20 = some Tryd.t20 from Tryd.type20]; rfl
@[simp ↓] theorem z20 {q : List Value → Prop} : goZ Tryd.prog 20 q = q [Go.Value.nilIface] := by simp [goZ, zer20, Value.cells]
theorem agg21 : aggT Tryd.prog 21 = some false := by unfold aggT; rw [Tryd.underlying21]; rfl
@[simp] theorem siz21 : szT Tryd.prog 21 = some 1 := by unfold szT; rw [show Tryd.prog.info? 21 = some Tryd.t21 from Tryd.type21]; rfl
@[simp ↓] theorem ty21 {q : Bool → Nat → Prop} : goTy Tryd.prog 21 q = q false 1 := by simp only [goTy, agg21, siz21]
@[simp ↓] theorem sz21 {q : Nat → Prop} : goSz Tryd.prog 21 q = q 1 := by simp only [goSz, siz21]
theorem zer21 : zero? Tryd.prog 21 = some (Go.Value.int Go.IntKind.i32 0) := by unfold zero?; rw [show Tryd.prog.info? 21 = some Tryd.t21 from Tryd.type21]; rfl
@[simp ↓] theorem z21 {q : List Value → Prop} : goZ Tryd.prog 21 q = q [(Go.Value.int Go.IntKind.i32 0)] := by simp [goZ, zer21, Value.cells]
@[simp] theorem und21 : Tryd.prog.underlying 21 = some (Go.TypeDesc.int Go.IntKind.i32) := opq Tryd.underlying21
@[simp ↓] theorem un21 {q : TypeDesc → Prop} : goUnd Tryd.prog 21 q = q (Go.TypeDesc.int Go.IntKind.i32) := by simp only [goUnd, und21]
theorem agg22 : aggT Tryd.prog 22 = some false := by unfold aggT; rw [Tryd.underlying22]; rfl
@[simp] theorem siz22 : szT Tryd.prog 22 = some 1 := by unfold szT; rw [show Tryd.prog.info? 22 = some Tryd.t22 from Tryd.type22]; rfl
@[simp ↓] theorem ty22 {q : Bool → Nat → Prop} : goTy Tryd.prog 22 q = q false 1 := by simp only [goTy, agg22, siz22]
@[simp ↓] theorem sz22 {q : Nat → Prop} : goSz Tryd.prog 22 q = q 1 := by simp only [goSz, siz22]
theorem zer22 : zero? Tryd.prog 22 = some (Go.Value.slice none 0 0) := by unfold zero?; rw [show Tryd.prog.info? 22 = some Tryd.t22 from Tryd.type22]; rfl
@[simp ↓] theorem z22 {q : List Value → Prop} : goZ Tryd.prog 22 q = q [(Go.Value.slice none 0 0)] := by simp [goZ, zer22, Value.cells]
@[simp] theorem und22 : Tryd.prog.underlying 22 = some (Go.TypeDesc.slice 5) := opq Tryd.underlying22
@[simp ↓] theorem un22 {q : TypeDesc → Prop} : goUnd Tryd.prog 22 q = q (Go.TypeDesc.slice 5) := by simp only [goUnd, und22]
theorem slt22 : SlT Tryd.prog 22 5 1 1 := ⟨Tryd.underlying22, ⟨Tryd.t5, _, Tryd.type5, rfl, rfl, rfl, by simp, rfl⟩, by decide⟩
@[simp ↓] theorem sl22 {q : TypeId → Nat → List Value → Prop} : goSl Tryd.prog 22 q = q 5 1 [(Go.Value.int Go.IntKind.u8 0)] := by simp [goSl, und22, show zero? Tryd.prog 5 = some (Go.Value.int Go.IntKind.u8 0) from by unfold zero?; rw [show Tryd.prog.info? 5 = some Tryd.t5 from Tryd.type5]; rfl, show szT Tryd.prog 5 = some 1 from by unfold szT; rw [show Tryd.prog.info? 5 = some Tryd.t5 from Tryd.type5]; rfl, Value.cells]
theorem agg23 : aggT Tryd.prog 23 = some false := by unfold aggT; rw [Tryd.underlying23]; rfl
@[simp] theorem siz23 : szT Tryd.prog 23 = some 1 := by unfold szT; rw [show Tryd.prog.info? 23 = some Tryd.t23 from Tryd.type23]; rfl
@[simp ↓] theorem ty23 {q : Bool → Nat → Prop} : goTy Tryd.prog 23 q = q false 1 := by simp only [goTy, agg23, siz23]
@[simp ↓] theorem sz23 {q : Nat → Prop} : goSz Tryd.prog 23 q = q 1 := by simp only [goSz, siz23]
theorem zer23 : zero? Tryd.prog 23 = some (Go.Value.slice none 0 0) := by unfold zero?; rw [show Tryd.prog.info? 23 = some Tryd.t23 from Tryd.type23]; rfl
@[simp ↓] theorem z23 {q : List Value → Prop} : goZ Tryd.prog 23 q = q [(Go.Value.slice none 0 0)] := by simp [goZ, zer23, Value.cells]
@[simp] theorem und23 : Tryd.prog.underlying 23 = some (Go.TypeDesc.slice 9) := opq Tryd.underlying23
@[simp ↓] theorem un23 {q : TypeDesc → Prop} : goUnd Tryd.prog 23 q = q (Go.TypeDesc.slice 9) := by simp only [goUnd, und23]
theorem slt23 : SlT Tryd.prog 23 9 1 16 := ⟨Tryd.underlying23, ⟨Tryd.t9, _, Tryd.type9, rfl, rfl, rfl, by simp, rfl⟩, by decide⟩
@[simp ↓] theorem sl23 {q : TypeId → Nat → List Value → Prop} : goSl Tryd.prog 23 q = q 9 1 [(Go.Value.string { data := #[] })] := by simp [goSl, und23, show zero? Tryd.prog 9 = some (Go.Value.string { data := #[] }) from by unfold zero?; rw [show Tryd.prog.info? 9 = some Tryd.t9 from Tryd.type9]; rfl, show szT Tryd.prog 9 = some 1 from by unfold szT; rw [show Tryd.prog.info? 9 = some Tryd.t9 from Tryd.type9]; rfl, Value.cells]
theorem agg24 : aggT Tryd.prog 24 = some true := by unfold aggT; rw [Tryd.underlying24]; rfl
@[simp] theorem siz24 : szT Tryd.prog 24 = some 3 := by unfold szT; rw [show Tryd.prog.info? 24 = some Tryd.t24 from Tryd.type24]; rfl
@[simp ↓] theorem ty24 {q : Bool → Nat → Prop} : goTy Tryd.prog 24 q = q true 3 := by simp only [goTy, agg24, siz24]
@[simp ↓] theorem sz24 {q : Nat → Prop} : goSz Tryd.prog 24 q = q 3 := by simp only [goSz, siz24]
theorem zer24 : zero? Tryd.prog 24 = some (Go.Value.agg #[Go.Value.int Go.IntKind.i64 0, Go.Value.string { data := #[] }, Go.Value.slice none 0 0]) := by unfold zero?; rw [show Tryd.prog.info? 24 = some Tryd.t24 from Tryd.type24]; rfl
@[simp ↓] theorem z24 {q : List Value → Prop} : goZ Tryd.prog 24 q = q [Go.Value.int Go.IntKind.i64 0, Go.Value.string { data := #[] }, Go.Value.slice none 0 0] := by simp [goZ, zer24, Value.cells]
@[simp] theorem und24 : Tryd.prog.underlying 24 = some (Go.TypeDesc.struct
  #[{ name := "Code", type := 3, offset := 0, embedded := false, tag := "", pkgPath := "", byteOffset := 0 },
    { name := "Text", type := 9, offset := 1, embedded := false, tag := "", pkgPath := "", byteOffset := 8 },
    { name := "Chain", type := 23, offset := 2, embedded := false, tag := "", pkgPath := "", byteOffset := 24 }]) := opq Tryd.underlying24
@[simp ↓] theorem fld24_0 {q : Nat → TypeId → Prop} : goFld Tryd.prog 24 0 q = q 0 3 := by simp only [goFld, und24]; rfl
@[simp ↓] theorem fld24_1 {q : Nat → TypeId → Prop} : goFld Tryd.prog 24 1 q = q 1 9 := by simp only [goFld, und24]; rfl
@[simp ↓] theorem fld24_2 {q : Nat → TypeId → Prop} : goFld Tryd.prog 24 2 q = q 2 23 := by simp only [goFld, und24]; rfl
@[simp ↓] theorem bld24 {q : List Value → List (Nat × Nat) → Prop} : goBld Tryd.prog 24 q = q [Go.Value.int Go.IntKind.i64 0, Go.Value.string { data := #[] }, Go.Value.slice none 0 0] [(0, 1), (1, 1), (2, 1)] := by simp [goBld, und24, zer24, placesL, Value.cells]
theorem agg25 : aggT Tryd.prog 25 = some true := by unfold aggT; rw [Tryd.underlying25]; rfl
@[simp] theorem siz25 : szT Tryd.prog 25 = some 3 := by unfold szT; rw [show Tryd.prog.info? 25 = some Tryd.t25 from Tryd.type25]; rfl
@[simp ↓] theorem ty25 {q : Bool → Nat → Prop} : goTy Tryd.prog 25 q = q true 3 := by simp only [goTy, agg25, siz25]
@[simp ↓] theorem sz25 {q : Nat → Prop} : goSz Tryd.prog 25 q = q 3 := by simp only [goSz, siz25]
theorem zer25 : zero? Tryd.prog 25 = some (Go.Value.agg #[Go.Value.int Go.IntKind.i64 0, Go.Value.string { data := #[] }, Go.Value.slice none 0 0]) := by unfold zero?; rw [show Tryd.prog.info? 25 = some Tryd.t25 from Tryd.type25]; rfl
@[simp ↓] theorem z25 {q : List Value → Prop} : goZ Tryd.prog 25 q = q [Go.Value.int Go.IntKind.i64 0, Go.Value.string { data := #[] }, Go.Value.slice none 0 0] := by simp [goZ, zer25, Value.cells]
@[simp] theorem und25 : Tryd.prog.underlying 25 = some (Go.TypeDesc.struct
  #[{ name := "Code", type := 3, offset := 0, embedded := false, tag := "", pkgPath := "", byteOffset := 0 },
    { name := "Text", type := 9, offset := 1, embedded := false, tag := "", pkgPath := "", byteOffset := 8 },
    { name := "Chain", type := 23, offset := 2, embedded := false, tag := "", pkgPath := "", byteOffset := 24 }]) := opq Tryd.underlying25
@[simp ↓] theorem fld25_0 {q : Nat → TypeId → Prop} : goFld Tryd.prog 25 0 q = q 0 3 := by simp only [goFld, und25]; rfl
@[simp ↓] theorem fld25_1 {q : Nat → TypeId → Prop} : goFld Tryd.prog 25 1 q = q 1 9 := by simp only [goFld, und25]; rfl
@[simp ↓] theorem fld25_2 {q : Nat → TypeId → Prop} : goFld Tryd.prog 25 2 q = q 2 23 := by simp only [goFld, und25]; rfl
@[simp ↓] theorem bld25 {q : List Value → List (Nat × Nat) → Prop} : goBld Tryd.prog 25 q = q [Go.Value.int Go.IntKind.i64 0, Go.Value.string { data := #[] }, Go.Value.slice none 0 0] [(0, 1), (1, 1), (2, 1)] := by simp [goBld, und25, zer25, placesL, Value.cells]
theorem agg26 : aggT Tryd.prog 26 = some false := by unfold aggT; rw [Tryd.underlying26]; rfl
@[simp] theorem siz26 : szT Tryd.prog 26 = some 1 := by unfold szT; rw [show Tryd.prog.info? 26 = some Tryd.t26 from Tryd.type26]; rfl
@[simp ↓] theorem ty26 {q : Bool → Nat → Prop} : goTy Tryd.prog 26 q = q false 1 := by simp only [goTy, agg26, siz26]
@[simp ↓] theorem sz26 {q : Nat → Prop} : goSz Tryd.prog 26 q = q 1 := by simp only [goSz, siz26]
theorem zer26 : zero? Tryd.prog 26 = some Go.Value.nilFunc := by unfold zero?; rw [show Tryd.prog.info? 26 = some Tryd.t26 from Tryd.type26]; rfl
@[simp ↓] theorem z26 {q : List Value → Prop} : goZ Tryd.prog 26 q = q [Go.Value.nilFunc] := by simp [goZ, zer26, Value.cells]
theorem agg27 : aggT Tryd.prog 27 = some false := by unfold aggT; rw [Tryd.underlying27]; rfl
@[simp] theorem siz27 : szT Tryd.prog 27 = some 1 := by unfold szT; rw [show Tryd.prog.info? 27 = some Tryd.t27 from Tryd.type27]; rfl
@[simp ↓] theorem ty27 {q : Bool → Nat → Prop} : goTy Tryd.prog 27 q = q false 1 := by simp only [goTy, agg27, siz27]
@[simp ↓] theorem sz27 {q : Nat → Prop} : goSz Tryd.prog 27 q = q 1 := by simp only [goSz, siz27]
theorem zer27 : zero? Tryd.prog 27 = some Go.Value.nilFunc := by unfold zero?; rw [show Tryd.prog.info? 27 = some Tryd.t27 from Tryd.type27]; rfl
@[simp ↓] theorem z27 {q : List Value → Prop} : goZ Tryd.prog 27 q = q [Go.Value.nilFunc] := by simp [goZ, zer27, Value.cells]
theorem agg29 : aggT Tryd.prog 29 = some false := by unfold aggT; rw [Tryd.underlying29]; rfl
@[simp] theorem siz29 : szT Tryd.prog 29 = some 1 := by unfold szT; rw [show Tryd.prog.info? 29 = some Tryd.t29 from Tryd.type29]; rfl
@[simp ↓] theorem ty29 {q : Bool → Nat → Prop} : goTy Tryd.prog 29 q = q false 1 := by simp only [goTy, agg29, siz29]
@[simp ↓] theorem sz29 {q : Nat → Prop} : goSz Tryd.prog 29 q = q 1 := by simp only [goSz, siz29]
theorem zer29 : zero? Tryd.prog 29 = some Go.Value.nilFunc := by unfold zero?; rw [show Tryd.prog.info? 29 = some Tryd.t29 from Tryd.type29]; rfl
@[simp ↓] theorem z29 {q : List Value → Prop} : goZ Tryd.prog 29 q = q [Go.Value.nilFunc] := by simp [goZ, zer29, Value.cells]
theorem agg30 : aggT Tryd.prog 30 = some false := by unfold aggT; rw [Tryd.underlying30]; rfl
@[simp] theorem siz30 : szT Tryd.prog 30 = some 1 := by unfold szT; rw [show Tryd.prog.info? 30 = some Tryd.t30 from Tryd.type30]; rfl
@[simp ↓] theorem ty30 {q : Bool → Nat → Prop} : goTy Tryd.prog 30 q = q false 1 := by simp only [goTy, agg30, siz30]
@[simp ↓] theorem sz30 {q : Nat → Prop} : goSz Tryd.prog 30 q = q 1 := by simp only [goSz, siz30]
theorem zer30 : zero? Tryd.prog 30 = some Go.Value.nilFunc := by unfold zero?; rw [show Tryd.prog.info? 30 = some Tryd.t30 from Tryd.type30]; rfl
@[simp ↓] theorem z30 {q : List Value → Prop} : goZ Tryd.prog 30 q = q [Go.Value.nilFunc] := by simp [goZ, zer30, Value.cells]
theorem agg31 : aggT Tryd.prog 31 = some false := by unfold aggT; rw [Tryd.underlying31]; rfl
@[simp] theorem siz31 : szT Tryd.prog 31 = some 1 := by unfold szT; rw [show Tryd.prog.info? 31 = some Tryd.t31 from Tryd.type31]; rfl
@[simp ↓] theorem ty31 {q : Bool → Nat → Prop} : goTy Tryd.prog 31 q = q false 1 := by simp only [goTy, agg31, siz31]
@[simp ↓] theorem sz31 {q : Nat → Prop} : goSz Tryd.prog 31 q = q 1 := by simp only [goSz, siz31]
theorem zer31 : zero? Tryd.prog 31 = some Go.Value.nilFunc := by unfold zero?; rw [show Tryd.prog.info? 31 = some Tryd.t31 from Tryd.type31]; rfl
@[simp ↓] theorem z31 {q : List Value → Prop} : goZ Tryd.prog 31 q = q [Go.Value.nilFunc] := by simp [goZ, zer31, Value.cells]
theorem agg32 : aggT Tryd.prog 32 = some false := by unfold aggT; rw [Tryd.underlying32]; rfl
@[simp] theorem siz32 : szT Tryd.prog 32 = some 1 := by unfold szT; rw [show Tryd.prog.info? 32 = some Tryd.t32 from Tryd.type32]; rfl
@[simp ↓] theorem ty32 {q : Bool → Nat → Prop} : goTy Tryd.prog 32 q = q false 1 := by simp only [goTy, agg32, siz32]
@[simp ↓] theorem sz32 {q : Nat → Prop} : goSz Tryd.prog 32 q = q 1 := by simp only [goSz, siz32]
theorem zer32 : zero? Tryd.prog 32 = some Go.Value.nilFunc := by unfold zero?; rw [show Tryd.prog.info? 32 = some Tryd.t32 from Tryd.type32]; rfl
@[simp ↓] theorem z32 {q : List Value → Prop} : goZ Tryd.prog 32 q = q [Go.Value.nilFunc] := by simp [goZ, zer32, Value.cells]
theorem agg33 : aggT Tryd.prog 33 = some false := by unfold aggT; rw [Tryd.underlying33]; rfl
@[simp] theorem siz33 : szT Tryd.prog 33 = some 1 := by unfold szT; rw [show Tryd.prog.info? 33 = some Tryd.t33 from Tryd.type33]; rfl
@[simp ↓] theorem ty33 {q : Bool → Nat → Prop} : goTy Tryd.prog 33 q = q false 1 := by simp only [goTy, agg33, siz33]
@[simp ↓] theorem sz33 {q : Nat → Prop} : goSz Tryd.prog 33 q = q 1 := by simp only [goSz, siz33]
theorem zer33 : zero? Tryd.prog 33 = some (Go.Value.slice none 0 0) := by unfold zero?; rw [show Tryd.prog.info? 33 = some Tryd.t33 from Tryd.type33]; rfl
@[simp ↓] theorem z33 {q : List Value → Prop} : goZ Tryd.prog 33 q = q [(Go.Value.slice none 0 0)] := by simp [goZ, zer33, Value.cells]
@[simp] theorem und33 : Tryd.prog.underlying 33 = some (Go.TypeDesc.slice 130) := opq Tryd.underlying33
@[simp ↓] theorem un33 {q : TypeDesc → Prop} : goUnd Tryd.prog 33 q = q (Go.TypeDesc.slice 130) := by simp only [goUnd, und33]
theorem slt33 : SlT Tryd.prog 33 130 3 32 := ⟨Tryd.underlying33, ⟨Tryd.t130, _, Tryd.type130, rfl, rfl, rfl, by simp, rfl⟩, by decide⟩
@[simp ↓] theorem sl33 {q : TypeId → Nat → List Value → Prop} : goSl Tryd.prog 33 q = q 130 3 [Go.Value.int Go.IntKind.i64 0, Go.Value.string { data := #[] }, Go.Value.int Go.IntKind.i64 0] := by simp [goSl, und33, show zero? Tryd.prog 130 = some (Go.Value.agg #[Go.Value.int Go.IntKind.i64 0, Go.Value.string { data := #[] }, Go.Value.int Go.IntKind.i64 0]) from by unfold zero?; rw [show Tryd.prog.info? 130 = some Tryd.t130 from Tryd.type130]; rfl, show szT Tryd.prog 130 = some 3 from by unfold szT; rw [show Tryd.prog.info? 130 = some Tryd.t130 from Tryd.type130]; rfl, Value.cells]
theorem agg34 : aggT Tryd.prog 34 = some true := by unfold aggT; rw [Tryd.underlying34]; rfl
@[simp] theorem siz34 : szT Tryd.prog 34 = some 1 := by unfold szT; rw [show Tryd.prog.info? 34 = some Tryd.t34 from Tryd.type34]; rfl
@[simp ↓] theorem ty34 {q : Bool → Nat → Prop} : goTy Tryd.prog 34 q = q true 1 := by simp only [goTy, agg34, siz34]
@[simp ↓] theorem sz34 {q : Nat → Prop} : goSz Tryd.prog 34 q = q 1 := by simp only [goSz, siz34]
theorem zer34 : zero? Tryd.prog 34 = some (Go.Value.agg #[Go.Value.slice none 0 0]) := by unfold zero?; rw [show Tryd.prog.info? 34 = some Tryd.t34 from Tryd.type34]; rfl
@[simp ↓] theorem z34 {q : List Value → Prop} : goZ Tryd.prog 34 q = q [Go.Value.slice none 0 0] := by simp [goZ, zer34, Value.cells]
@[simp] theorem und34 : Tryd.prog.underlying 34 = some (Go.TypeDesc.struct
  #[{ name := "Code", type := 33, offset := 0, embedded := false, tag := "", pkgPath := "", byteOffset := 0 }]) := opq Tryd.underlying34
@[simp ↓] theorem fld34_0 {q : Nat → TypeId → Prop} : goFld Tryd.prog 34 0 q = q 0 33 := by simp only [goFld, und34]; rfl
@[simp ↓] theorem bld34 {q : List Value → List (Nat × Nat) → Prop} : goBld Tryd.prog 34 q = q [Go.Value.slice none 0 0] [(0, 1)] := by simp [goBld, und34, zer34, placesL, Value.cells]
theorem agg35 : aggT Tryd.prog 35 = some true := by unfold aggT; rw [Tryd.underlying35]; rfl
@[simp] theorem siz35 : szT Tryd.prog 35 = some 1 := by unfold szT; rw [show Tryd.prog.info? 35 = some Tryd.t35 from Tryd.type35]; rfl
@[simp ↓] theorem ty35 {q : Bool → Nat → Prop} : goTy Tryd.prog 35 q = q true 1 := by simp only [goTy, agg35, siz35]
@[simp ↓] theorem sz35 {q : Nat → Prop} : goSz Tryd.prog 35 q = q 1 := by simp only [goSz, siz35]
theorem zer35 : zero? Tryd.prog 35 = some (Go.Value.agg #[Go.Value.slice none 0 0]) := by unfold zero?; rw [show Tryd.prog.info? 35 = some Tryd.t35 from Tryd.type35]; rfl
@[simp ↓] theorem z35 {q : List Value → Prop} : goZ Tryd.prog 35 q = q [Go.Value.slice none 0 0] := by simp [goZ, zer35, Value.cells]
@[simp] theorem und35 : Tryd.prog.underlying 35 = some (Go.TypeDesc.struct
  #[{ name := "Code", type := 33, offset := 0, embedded := false, tag := "", pkgPath := "", byteOffset := 0 }]) := opq Tryd.underlying35
@[simp ↓] theorem fld35_0 {q : Nat → TypeId → Prop} : goFld Tryd.prog 35 0 q = q 0 33 := by simp only [goFld, und35]; rfl
@[simp ↓] theorem bld35 {q : List Value → List (Nat × Nat) → Prop} : goBld Tryd.prog 35 q = q [Go.Value.slice none 0 0] [(0, 1)] := by simp [goBld, und35, zer35, placesL, Value.cells]
theorem agg36 : aggT Tryd.prog 36 = some false := by unfold aggT; rw [Tryd.underlying36]; rfl
@[simp] theorem siz36 : szT Tryd.prog 36 = some 1 := by unfold szT; rw [show Tryd.prog.info? 36 = some Tryd.t36 from Tryd.type36]; rfl
@[simp ↓] theorem ty36 {q : Bool → Nat → Prop} : goTy Tryd.prog 36 q = q false 1 := by simp only [goTy, agg36, siz36]
@[simp ↓] theorem sz36 {q : Nat → Prop} : goSz Tryd.prog 36 q = q 1 := by simp only [goSz, siz36]
theorem zer36 : zero? Tryd.prog 36 = some Go.Value.nilFunc := by unfold zero?; rw [show Tryd.prog.info? 36 = some Tryd.t36 from Tryd.type36]; rfl
@[simp ↓] theorem z36 {q : List Value → Prop} : goZ Tryd.prog 36 q = q [Go.Value.nilFunc] := by simp [goZ, zer36, Value.cells]
theorem agg37 : aggT Tryd.prog 37 = some false := by unfold aggT; rw [Tryd.underlying37]; rfl
@[simp] theorem siz37 : szT Tryd.prog 37 = some 1 := by unfold szT; rw [show Tryd.prog.info? 37 = some Tryd.t37 from Tryd.type37]; rfl
@[simp ↓] theorem ty37 {q : Bool → Nat → Prop} : goTy Tryd.prog 37 q = q false 1 := by simp only [goTy, agg37, siz37]
@[simp ↓] theorem sz37 {q : Nat → Prop} : goSz Tryd.prog 37 q = q 1 := by simp only [goSz, siz37]
theorem zer37 : zero? Tryd.prog 37 = some Go.Value.nilFunc := by unfold zero?; rw [show Tryd.prog.info? 37 = some Tryd.t37 from Tryd.type37]; rfl
@[simp ↓] theorem z37 {q : List Value → Prop} : goZ Tryd.prog 37 q = q [Go.Value.nilFunc] := by simp [goZ, zer37, Value.cells]
theorem agg38 : aggT Tryd.prog 38 = some false := by unfold aggT; rw [Tryd.underlying38]; rfl
@[simp] theorem siz38 : szT Tryd.prog 38 = some 1 := by unfold szT; rw [show Tryd.prog.info? 38 = some Tryd.t38 from Tryd.type38]; rfl
@[simp ↓] theorem ty38 {q : Bool → Nat → Prop} : goTy Tryd.prog 38 q = q false 1 := by simp only [goTy, agg38, siz38]
@[simp ↓] theorem sz38 {q : Nat → Prop} : goSz Tryd.prog 38 q = q 1 := by simp only [goSz, siz38]
theorem zer38 : zero? Tryd.prog 38 = some (Go.Value.slice none 0 0) := by unfold zero?; rw [show Tryd.prog.info? 38 = some Tryd.t38 from Tryd.type38]; rfl
@[simp ↓] theorem z38 {q : List Value → Prop} : goZ Tryd.prog 38 q = q [(Go.Value.slice none 0 0)] := by simp [goZ, zer38, Value.cells]
@[simp] theorem und38 : Tryd.prog.underlying 38 = some (Go.TypeDesc.slice 84) := opq Tryd.underlying38
@[simp ↓] theorem un38 {q : TypeDesc → Prop} : goUnd Tryd.prog 38 q = q (Go.TypeDesc.slice 84) := by simp only [goUnd, und38]
theorem slt38 : SlT Tryd.prog 38 84 3 32 := ⟨Tryd.underlying38, ⟨Tryd.t84, _, Tryd.type84, rfl, rfl, rfl, by simp, rfl⟩, by decide⟩
@[simp ↓] theorem sl38 {q : TypeId → Nat → List Value → Prop} : goSl Tryd.prog 38 q = q 84 3 [Go.Value.int Go.IntKind.i64 0, Go.Value.string { data := #[] }, Go.Value.int Go.IntKind.i64 0] := by simp [goSl, und38, show zero? Tryd.prog 84 = some (Go.Value.agg #[Go.Value.int Go.IntKind.i64 0, Go.Value.string { data := #[] }, Go.Value.int Go.IntKind.i64 0]) from by unfold zero?; rw [show Tryd.prog.info? 84 = some Tryd.t84 from Tryd.type84]; rfl, show szT Tryd.prog 84 = some 3 from by unfold szT; rw [show Tryd.prog.info? 84 = some Tryd.t84 from Tryd.type84]; rfl, Value.cells]
theorem agg39 : aggT Tryd.prog 39 = some true := by unfold aggT; rw [Tryd.underlying39]; rfl
@[simp] theorem siz39 : szT Tryd.prog 39 = some 1 := by unfold szT; rw [show Tryd.prog.info? 39 = some Tryd.t39 from Tryd.type39]; rfl
@[simp ↓] theorem ty39 {q : Bool → Nat → Prop} : goTy Tryd.prog 39 q = q true 1 := by simp only [goTy, agg39, siz39]
@[simp ↓] theorem sz39 {q : Nat → Prop} : goSz Tryd.prog 39 q = q 1 := by simp only [goSz, siz39]
theorem zer39 : zero? Tryd.prog 39 = some (Go.Value.agg #[Go.Value.slice none 0 0]) := by unfold zero?; rw [show Tryd.prog.info? 39 = some Tryd.t39 from Tryd.type39]; rfl
@[simp ↓] theorem z39 {q : List Value → Prop} : goZ Tryd.prog 39 q = q [Go.Value.slice none 0 0] := by simp [goZ, zer39, Value.cells]
@[simp] theorem und39 : Tryd.prog.underlying 39 = some (Go.TypeDesc.struct
  #[{ name := "Code", type := 38, offset := 0, embedded := false, tag := "", pkgPath := "", byteOffset := 0 }]) := opq Tryd.underlying39
@[simp ↓] theorem fld39_0 {q : Nat → TypeId → Prop} : goFld Tryd.prog 39 0 q = q 0 38 := by simp only [goFld, und39]; rfl
@[simp ↓] theorem bld39 {q : List Value → List (Nat × Nat) → Prop} : goBld Tryd.prog 39 q = q [Go.Value.slice none 0 0] [(0, 1)] := by simp [goBld, und39, zer39, placesL, Value.cells]
theorem agg40 : aggT Tryd.prog 40 = some true := by unfold aggT; rw [Tryd.underlying40]; rfl
@[simp] theorem siz40 : szT Tryd.prog 40 = some 1 := by unfold szT; rw [show Tryd.prog.info? 40 = some Tryd.t40 from Tryd.type40]; rfl
@[simp ↓] theorem ty40 {q : Bool → Nat → Prop} : goTy Tryd.prog 40 q = q true 1 := by simp only [goTy, agg40, siz40]
@[simp ↓] theorem sz40 {q : Nat → Prop} : goSz Tryd.prog 40 q = q 1 := by simp only [goSz, siz40]
theorem zer40 : zero? Tryd.prog 40 = some (Go.Value.agg #[Go.Value.slice none 0 0]) := by unfold zero?; rw [show Tryd.prog.info? 40 = some Tryd.t40 from Tryd.type40]; rfl
@[simp ↓] theorem z40 {q : List Value → Prop} : goZ Tryd.prog 40 q = q [Go.Value.slice none 0 0] := by simp [goZ, zer40, Value.cells]
@[simp] theorem und40 : Tryd.prog.underlying 40 = some (Go.TypeDesc.struct
  #[{ name := "Code", type := 38, offset := 0, embedded := false, tag := "", pkgPath := "", byteOffset := 0 }]) := opq Tryd.underlying40
@[simp ↓] theorem fld40_0 {q : Nat → TypeId → Prop} : goFld Tryd.prog 40 0 q = q 0 38 := by simp only [goFld, und40]; rfl
@[simp ↓] theorem bld40 {q : List Value → List (Nat × Nat) → Prop} : goBld Tryd.prog 40 q = q [Go.Value.slice none 0 0] [(0, 1)] := by simp [goBld, und40, zer40, placesL, Value.cells]
theorem agg41 : aggT Tryd.prog 41 = some false := by unfold aggT; rw [Tryd.underlying41]; rfl
@[simp] theorem siz41 : szT Tryd.prog 41 = some 1 := by unfold szT; rw [show Tryd.prog.info? 41 = some Tryd.t41 from Tryd.type41]; rfl
@[simp ↓] theorem ty41 {q : Bool → Nat → Prop} : goTy Tryd.prog 41 q = q false 1 := by simp only [goTy, agg41, siz41]
@[simp ↓] theorem sz41 {q : Nat → Prop} : goSz Tryd.prog 41 q = q 1 := by simp only [goSz, siz41]
theorem zer41 : zero? Tryd.prog 41 = some Go.Value.nilFunc := by unfold zero?; rw [show Tryd.prog.info? 41 = some Tryd.t41 from Tryd.type41]; rfl
@[simp ↓] theorem z41 {q : List Value → Prop} : goZ Tryd.prog 41 q = q [Go.Value.nilFunc] := by simp [goZ, zer41, Value.cells]
theorem agg42 : aggT Tryd.prog 42 = some false := by unfold aggT; rw [Tryd.underlying42]; rfl
@[simp] theorem siz42 : szT Tryd.prog 42 = some 1 := by unfold szT; rw [show Tryd.prog.info? 42 = some Tryd.t42 from Tryd.type42]; rfl
@[simp ↓] theorem ty42 {q : Bool → Nat → Prop} : goTy Tryd.prog 42 q = q false 1 := by simp only [goTy, agg42, siz42]
@[simp ↓] theorem sz42 {q : Nat → Prop} : goSz Tryd.prog 42 q = q 1 := by simp only [goSz, siz42]
theorem zer42 : zero? Tryd.prog 42 = some Go.Value.nilFunc := by unfold zero?; rw [show Tryd.prog.info? 42 = some Tryd.t42 from Tryd.type42]; rfl
@[simp ↓] theorem z42 {q : List Value → Prop} : goZ Tryd.prog 42 q = q [Go.Value.nilFunc] := by simp [goZ, zer42, Value.cells]
theorem agg43 : aggT Tryd.prog 43 = some false := by unfold aggT; rw [Tryd.underlying43]; rfl
@[simp] theorem siz43 : szT Tryd.prog 43 = some 1 := by unfold szT; rw [show Tryd.prog.info? 43 = some Tryd.t43 from Tryd.type43]; rfl
@[simp ↓] theorem ty43 {q : Bool → Nat → Prop} : goTy Tryd.prog 43 q = q false 1 := by simp only [goTy, agg43, siz43]
@[simp ↓] theorem sz43 {q : Nat → Prop} : goSz Tryd.prog 43 q = q 1 := by simp only [goSz, siz43]
theorem zer43 : zero? Tryd.prog 43 = some Go.Value.nilFunc := by unfold zero?; rw [show Tryd.prog.info? 43 = some Tryd.t43 from Tryd.type43]; rfl
@[simp ↓] theorem z43 {q : List Value → Prop} : goZ Tryd.prog 43 q = q [Go.Value.nilFunc] := by simp [goZ, zer43, Value.cells]
theorem agg44 : aggT Tryd.prog 44 = some false := by unfold aggT; rw [Tryd.underlying44]; rfl
@[simp] theorem siz44 : szT Tryd.prog 44 = some 1 := by unfold szT; rw [show Tryd.prog.info? 44 = some Tryd.t44 from Tryd.type44]; rfl
@[simp ↓] theorem ty44 {q : Bool → Nat → Prop} : goTy Tryd.prog 44 q = q false 1 := by simp only [goTy, agg44, siz44]
@[simp ↓] theorem sz44 {q : Nat → Prop} : goSz Tryd.prog 44 q = q 1 := by simp only [goSz, siz44]
theorem zer44 : zero? Tryd.prog 44 = some (Go.Value.slice none 0 0) := by unfold zero?; rw [show Tryd.prog.info? 44 = some Tryd.t44 from Tryd.type44]; rfl
@[simp ↓] theorem z44 {q : List Value → Prop} : goZ Tryd.prog 44 q = q [(Go.Value.slice none 0 0)] := by simp [goZ, zer44, Value.cells]
@[simp] theorem und44 : Tryd.prog.underlying 44 = some (Go.TypeDesc.slice 97) := opq Tryd.underlying44
@[simp ↓] theorem un44 {q : TypeDesc → Prop} : goUnd Tryd.prog 44 q = q (Go.TypeDesc.slice 97) := by simp only [goUnd, und44]
theorem slt44 : SlT Tryd.prog 44 97 3 32 := ⟨Tryd.underlying44, ⟨Tryd.t97, _, Tryd.type97, rfl, rfl, rfl, by simp, rfl⟩, by decide⟩
@[simp ↓] theorem sl44 {q : TypeId → Nat → List Value → Prop} : goSl Tryd.prog 44 q = q 97 3 [Go.Value.bool false, Go.Value.int Go.IntKind.i64 0, Go.Value.string { data := #[] }] := by simp [goSl, und44, show zero? Tryd.prog 97 = some (Go.Value.agg #[Go.Value.bool false, Go.Value.int Go.IntKind.i64 0, Go.Value.string { data := #[] }]) from by unfold zero?; rw [show Tryd.prog.info? 97 = some Tryd.t97 from Tryd.type97]; rfl, show szT Tryd.prog 97 = some 3 from by unfold szT; rw [show Tryd.prog.info? 97 = some Tryd.t97 from Tryd.type97]; rfl, Value.cells]
theorem agg45 : aggT Tryd.prog 45 = some false := by unfold aggT; rw [Tryd.underlying45]; rfl
@[simp] theorem siz45 : szT Tryd.prog 45 = some 1 := by unfold szT; rw [show Tryd.prog.info? 45 = some Tryd.t45 from Tryd.type45]; rfl
@[simp ↓] theorem ty45 {q : Bool → Nat → Prop} : goTy Tryd.prog 45 q = q false 1 := by simp only [goTy, agg45, siz45]
@[simp ↓] theorem sz45 {q : Nat → Prop} : goSz Tryd.prog 45 q = q 1 := by simp only [goSz, siz45]
theorem zer45 : zero? Tryd.prog 45 = some Go.Value.nilFunc := by unfold zero?; rw [show Tryd.prog.info? 45 = some Tryd.t45 from Tryd.type45]; rfl
@[simp ↓] theorem z45 {q : List Value → Prop} : goZ Tryd.prog 45 q = q [Go.Value.nilFunc] := by simp [goZ, zer45, Value.cells]
theorem agg46 : aggT Tryd.prog 46 = some true := by unfold aggT; rw [Tryd.underlying46]; rfl
@[simp] theorem siz46 : szT Tryd.prog 46 = some 6 := by unfold szT; rw [show Tryd.prog.info? 46 = some Tryd.t46 from Tryd.type46]; rfl
@[simp ↓] theorem ty46 {q : Bool → Nat → Prop} : goTy Tryd.prog 46 q = q true 6 := by simp only [goTy, agg46, siz46]
@[simp ↓] theorem sz46 {q : Nat → Prop} : goSz Tryd.prog 46 q = q 6 := by simp only [goSz, siz46]
theorem zer46 : zero? Tryd.prog 46 = some
  (Go.Value.agg
    #[Go.Value.bool false, Go.Value.int Go.IntKind.i64 0, Go.Value.string { data := #[] }, Go.Value.bool false,
      Go.Value.string { data := #[] }, Go.Value.int Go.IntKind.i64 0]) := by unfold zero?; rw [show Tryd.prog.info? 46 = some Tryd.t46 from Tryd.type46]; rfl
@[simp ↓] theorem z46 {q : List Value → Prop} : goZ Tryd.prog 46 q = q [Go.Value.bool false, Go.Value.int Go.IntKind.i64 0, Go.Value.string { data := #[] }, Go.Value.bool false,
      Go.Value.string { data := #[] }, Go.Value.int Go.IntKind.i64 0] := by simp [goZ, zer46, Value.cells]
@[simp] theorem und46 : Tryd.prog.underlying 46 = some (Go.TypeDesc.struct
  #[{ name := "Over", type := 4, offset := 0, embedded := false, tag := "", pkgPath := "", byteOffset := 0 },
    { name := "Code", type := 3, offset := 1, embedded := false, tag := "", pkgPath := "", byteOffset := 8 },
    { name := "Text", type := 9, offset := 2, embedded := false, tag := "", pkgPath := "", byteOffset := 16 },
    { name := "Ask", type := 4, offset := 3, embedded := false, tag := "", pkgPath := "", byteOffset := 32 },
    { name := "Name", type := 9, offset := 4, embedded := false, tag := "", pkgPath := "", byteOffset := 40 },
    { name := "Steps", type := 3, offset := 5, embedded := false, tag := "", pkgPath := "", byteOffset := 56 }]) := opq Tryd.underlying46
@[simp ↓] theorem fld46_0 {q : Nat → TypeId → Prop} : goFld Tryd.prog 46 0 q = q 0 4 := by simp only [goFld, und46]; rfl
@[simp ↓] theorem fld46_1 {q : Nat → TypeId → Prop} : goFld Tryd.prog 46 1 q = q 1 3 := by simp only [goFld, und46]; rfl
@[simp ↓] theorem fld46_2 {q : Nat → TypeId → Prop} : goFld Tryd.prog 46 2 q = q 2 9 := by simp only [goFld, und46]; rfl
@[simp ↓] theorem fld46_3 {q : Nat → TypeId → Prop} : goFld Tryd.prog 46 3 q = q 3 4 := by simp only [goFld, und46]; rfl
@[simp ↓] theorem fld46_4 {q : Nat → TypeId → Prop} : goFld Tryd.prog 46 4 q = q 4 9 := by simp only [goFld, und46]; rfl
@[simp ↓] theorem fld46_5 {q : Nat → TypeId → Prop} : goFld Tryd.prog 46 5 q = q 5 3 := by simp only [goFld, und46]; rfl
@[simp ↓] theorem bld46 {q : List Value → List (Nat × Nat) → Prop} : goBld Tryd.prog 46 q = q [Go.Value.bool false, Go.Value.int Go.IntKind.i64 0, Go.Value.string { data := #[] }, Go.Value.bool false,
      Go.Value.string { data := #[] }, Go.Value.int Go.IntKind.i64 0] [(0, 1), (1, 1), (2, 1), (3, 1), (4, 1), (5, 1)] := by simp [goBld, und46, zer46, placesL, Value.cells]
theorem agg47 : aggT Tryd.prog 47 = some true := by unfold aggT; rw [Tryd.underlying47]; rfl
@[simp] theorem siz47 : szT Tryd.prog 47 = some 6 := by unfold szT; rw [show Tryd.prog.info? 47 = some Tryd.t47 from Tryd.type47]; rfl
@[simp ↓] theorem ty47 {q : Bool → Nat → Prop} : goTy Tryd.prog 47 q = q true 6 := by simp only [goTy, agg47, siz47]
@[simp ↓] theorem sz47 {q : Nat → Prop} : goSz Tryd.prog 47 q = q 6 := by simp only [goSz, siz47]
theorem zer47 : zero? Tryd.prog 47 = some
  (Go.Value.agg
    #[Go.Value.bool false, Go.Value.int Go.IntKind.i64 0, Go.Value.string { data := #[] }, Go.Value.bool false,
      Go.Value.string { data := #[] }, Go.Value.int Go.IntKind.i64 0]) := by unfold zero?; rw [show Tryd.prog.info? 47 = some Tryd.t47 from Tryd.type47]; rfl
@[simp ↓] theorem z47 {q : List Value → Prop} : goZ Tryd.prog 47 q = q [Go.Value.bool false, Go.Value.int Go.IntKind.i64 0, Go.Value.string { data := #[] }, Go.Value.bool false,
      Go.Value.string { data := #[] }, Go.Value.int Go.IntKind.i64 0] := by simp [goZ, zer47, Value.cells]
@[simp] theorem und47 : Tryd.prog.underlying 47 = some (Go.TypeDesc.struct
  #[{ name := "Over", type := 4, offset := 0, embedded := false, tag := "", pkgPath := "", byteOffset := 0 },
    { name := "Code", type := 3, offset := 1, embedded := false, tag := "", pkgPath := "", byteOffset := 8 },
    { name := "Text", type := 9, offset := 2, embedded := false, tag := "", pkgPath := "", byteOffset := 16 },
    { name := "Ask", type := 4, offset := 3, embedded := false, tag := "", pkgPath := "", byteOffset := 32 },
    { name := "Name", type := 9, offset := 4, embedded := false, tag := "", pkgPath := "", byteOffset := 40 },
    { name := "Steps", type := 3, offset := 5, embedded := false, tag := "", pkgPath := "", byteOffset := 56 }]) := opq Tryd.underlying47
@[simp ↓] theorem fld47_0 {q : Nat → TypeId → Prop} : goFld Tryd.prog 47 0 q = q 0 4 := by simp only [goFld, und47]; rfl
@[simp ↓] theorem fld47_1 {q : Nat → TypeId → Prop} : goFld Tryd.prog 47 1 q = q 1 3 := by simp only [goFld, und47]; rfl
@[simp ↓] theorem fld47_2 {q : Nat → TypeId → Prop} : goFld Tryd.prog 47 2 q = q 2 9 := by simp only [goFld, und47]; rfl
@[simp ↓] theorem fld47_3 {q : Nat → TypeId → Prop} : goFld Tryd.prog 47 3 q = q 3 4 := by simp only [goFld, und47]; rfl
@[simp ↓] theorem fld47_4 {q : Nat → TypeId → Prop} : goFld Tryd.prog 47 4 q = q 4 9 := by simp only [goFld, und47]; rfl
@[simp ↓] theorem fld47_5 {q : Nat → TypeId → Prop} : goFld Tryd.prog 47 5 q = q 5 3 := by simp only [goFld, und47]; rfl
@[simp ↓] theorem bld47 {q : List Value → List (Nat × Nat) → Prop} : goBld Tryd.prog 47 q = q [Go.Value.bool false, Go.Value.int Go.IntKind.i64 0, Go.Value.string { data := #[] }, Go.Value.bool false,
      Go.Value.string { data := #[] }, Go.Value.int Go.IntKind.i64 0] [(0, 1), (1, 1), (2, 1), (3, 1), (4, 1), (5, 1)] := by simp [goBld, und47, zer47, placesL, Value.cells]
theorem agg48 : aggT Tryd.prog 48 = some false := by unfold aggT; rw [Tryd.underlying48]; rfl
@[simp] theorem siz48 : szT Tryd.prog 48 = some 1 := by unfold szT; rw [show Tryd.prog.info? 48 = some Tryd.t48 from Tryd.type48]; rfl
@[simp ↓] theorem ty48 {q : Bool → Nat → Prop} : goTy Tryd.prog 48 q = q false 1 := by simp only [goTy, agg48, siz48]
@[simp ↓] theorem sz48 {q : Nat → Prop} : goSz Tryd.prog 48 q = q 1 := by simp only [goSz, siz48]
theorem zer48 : zero? Tryd.prog 48 = some Go.Value.nilFunc := by unfold zero?; rw [show Tryd.prog.info? 48 = some Tryd.t48 from Tryd.type48]; rfl
@[simp ↓] theorem z48 {q : List Value → Prop} : goZ Tryd.prog 48 q = q [Go.Value.nilFunc] := by simp [goZ, zer48, Value.cells]
theorem agg49 : aggT Tryd.prog 49 = some false := by unfold aggT; rw [Tryd.underlying49]; rfl
@[simp] theorem siz49 : szT Tryd.prog 49 = some 1 := by unfold szT; rw [show Tryd.prog.info? 49 = some Tryd.t49 from Tryd.type49]; rfl
@[simp ↓] theorem ty49 {q : Bool → Nat → Prop} : goTy Tryd.prog 49 q = q false 1 := by simp only [goTy, agg49, siz49]
@[simp ↓] theorem sz49 {q : Nat → Prop} : goSz Tryd.prog 49 q = q 1 := by simp only [goSz, siz49]
theorem zer49 : zero? Tryd.prog 49 = some (Go.Value.slice none 0 0) := by unfold zero?; rw [show Tryd.prog.info? 49 = some Tryd.t49 from Tryd.type49]; rfl
@[simp ↓] theorem z49 {q : List Value → Prop} : goZ Tryd.prog 49 q = q [(Go.Value.slice none 0 0)] := by simp [goZ, zer49, Value.cells]
@[simp] theorem und49 : Tryd.prog.underlying 49 = some (Go.TypeDesc.slice 98) := opq Tryd.underlying49
@[simp ↓] theorem un49 {q : TypeDesc → Prop} : goUnd Tryd.prog 49 q = q (Go.TypeDesc.slice 98) := by simp only [goUnd, und49]
theorem slt49 : SlT Tryd.prog 49 98 3 32 := ⟨Tryd.underlying49, ⟨Tryd.t98, _, Tryd.type98, rfl, rfl, rfl, by simp, rfl⟩, by decide⟩
@[simp ↓] theorem sl49 {q : TypeId → Nat → List Value → Prop} : goSl Tryd.prog 49 q = q 98 3 [Go.Value.bool false, Go.Value.int Go.IntKind.i64 0, Go.Value.string { data := #[] }] := by simp [goSl, und49, show zero? Tryd.prog 98 = some (Go.Value.agg #[Go.Value.bool false, Go.Value.int Go.IntKind.i64 0, Go.Value.string { data := #[] }]) from by unfold zero?; rw [show Tryd.prog.info? 98 = some Tryd.t98 from Tryd.type98]; rfl, show szT Tryd.prog 98 = some 3 from by unfold szT; rw [show Tryd.prog.info? 98 = some Tryd.t98 from Tryd.type98]; rfl, Value.cells]
theorem agg50 : aggT Tryd.prog 50 = some false := by unfold aggT; rw [Tryd.underlying50]; rfl
@[simp] theorem siz50 : szT Tryd.prog 50 = some 1 := by unfold szT; rw [show Tryd.prog.info? 50 = some Tryd.t50 from Tryd.type50]; rfl
@[simp ↓] theorem ty50 {q : Bool → Nat → Prop} : goTy Tryd.prog 50 q = q false 1 := by simp only [goTy, agg50, siz50]
@[simp ↓] theorem sz50 {q : Nat → Prop} : goSz Tryd.prog 50 q = q 1 := by simp only [goSz, siz50]
theorem zer50 : zero? Tryd.prog 50 = some Go.Value.nilFunc := by unfold zero?; rw [show Tryd.prog.info? 50 = some Tryd.t50 from Tryd.type50]; rfl
@[simp ↓] theorem z50 {q : List Value → Prop} : goZ Tryd.prog 50 q = q [Go.Value.nilFunc] := by simp [goZ, zer50, Value.cells]
theorem agg51 : aggT Tryd.prog 51 = some false := by unfold aggT; rw [Tryd.underlying51]; rfl
@[simp] theorem siz51 : szT Tryd.prog 51 = some 1 := by unfold szT; rw [show Tryd.prog.info? 51 = some Tryd.t51 from Tryd.type51]; rfl
@[simp ↓] theorem ty51 {q : Bool → Nat → Prop} : goTy Tryd.prog 51 q = q false 1 := by simp only [goTy, agg51, siz51]
@[simp ↓] theorem sz51 {q : Nat → Prop} : goSz Tryd.prog 51 q = q 1 := by simp only [goSz, siz51]
theorem zer51 : zero? Tryd.prog 51 = some Go.Value.nilFunc := by unfold zero?; rw [show Tryd.prog.info? 51 = some Tryd.t51 from Tryd.type51]; rfl
@[simp ↓] theorem z51 {q : List Value → Prop} : goZ Tryd.prog 51 q = q [Go.Value.nilFunc] := by simp [goZ, zer51, Value.cells]
theorem agg52 : aggT Tryd.prog 52 = some false := by unfold aggT; rw [Tryd.underlying52]; rfl
@[simp] theorem siz52 : szT Tryd.prog 52 = some 1 := by unfold szT; rw [show Tryd.prog.info? 52 = some Tryd.t52 from Tryd.type52]; rfl
@[simp ↓] theorem ty52 {q : Bool → Nat → Prop} : goTy Tryd.prog 52 q = q false 1 := by simp only [goTy, agg52, siz52]
@[simp ↓] theorem sz52 {q : Nat → Prop} : goSz Tryd.prog 52 q = q 1 := by simp only [goSz, siz52]
theorem zer52 : zero? Tryd.prog 52 = some Go.Value.nilFunc := by unfold zero?; rw [show Tryd.prog.info? 52 = some Tryd.t52 from Tryd.type52]; rfl
@[simp ↓] theorem z52 {q : List Value → Prop} : goZ Tryd.prog 52 q = q [Go.Value.nilFunc] := by simp [goZ, zer52, Value.cells]
theorem agg53 : aggT Tryd.prog 53 = some false := by unfold aggT; rw [Tryd.underlying53]; rfl
@[simp] theorem siz53 : szT Tryd.prog 53 = some 1 := by unfold szT; rw [show Tryd.prog.info? 53 = some Tryd.t53 from Tryd.type53]; rfl
@[simp ↓] theorem ty53 {q : Bool → Nat → Prop} : goTy Tryd.prog 53 q = q false 1 := by simp only [goTy, agg53, siz53]
@[simp ↓] theorem sz53 {q : Nat → Prop} : goSz Tryd.prog 53 q = q 1 := by simp only [goSz, siz53]
theorem zer53 : zero? Tryd.prog 53 = some Go.Value.nilFunc := by unfold zero?; rw [show Tryd.prog.info? 53 = some Tryd.t53 from Tryd.type53]; rfl
@[simp ↓] theorem z53 {q : List Value → Prop} : goZ Tryd.prog 53 q = q [Go.Value.nilFunc] := by simp [goZ, zer53, Value.cells]
theorem agg54 : aggT Tryd.prog 54 = some false := by unfold aggT; rw [Tryd.underlying54]; rfl
@[simp] theorem siz54 : szT Tryd.prog 54 = some 1 := by unfold szT; rw [show Tryd.prog.info? 54 = some Tryd.t54 from Tryd.type54]; rfl
@[simp ↓] theorem ty54 {q : Bool → Nat → Prop} : goTy Tryd.prog 54 q = q false 1 := by simp only [goTy, agg54, siz54]
@[simp ↓] theorem sz54 {q : Nat → Prop} : goSz Tryd.prog 54 q = q 1 := by simp only [goSz, siz54]
theorem zer54 : zero? Tryd.prog 54 = some (Go.Value.slice none 0 0) := by unfold zero?; rw [show Tryd.prog.info? 54 = some Tryd.t54 from Tryd.type54]; rfl
@[simp ↓] theorem z54 {q : List Value → Prop} : goZ Tryd.prog 54 q = q [(Go.Value.slice none 0 0)] := by simp [goZ, zer54, Value.cells]
@[simp] theorem und54 : Tryd.prog.underlying 54 = some (Go.TypeDesc.slice 146) := opq Tryd.underlying54
@[simp ↓] theorem un54 {q : TypeDesc → Prop} : goUnd Tryd.prog 54 q = q (Go.TypeDesc.slice 146) := by simp only [goUnd, und54]
theorem slt54 : SlT Tryd.prog 54 146 6 96 := ⟨Tryd.underlying54, ⟨Tryd.t146, _, Tryd.type146, rfl, rfl, rfl, by simp, rfl⟩, by decide⟩
@[simp ↓] theorem sl54 {q : TypeId → Nat → List Value → Prop} : goSl Tryd.prog 54 q = q 146 6 [Go.Value.string { data := #[] }, Go.Value.int Go.IntKind.i64 0, Go.Value.int Go.IntKind.i64 0,
      Go.Value.string { data := #[] }, Go.Value.slice none 0 0, Go.Value.slice none 0 0] := by simp [goSl, und54, show zero? Tryd.prog 146 = some
  (Go.Value.agg
    #[Go.Value.string { data := #[] }, Go.Value.int Go.IntKind.i64 0, Go.Value.int Go.IntKind.i64 0,
      Go.Value.string { data := #[] }, Go.Value.slice none 0 0, Go.Value.slice none 0 0]) from by unfold zero?; rw [show Tryd.prog.info? 146 = some Tryd.t146 from Tryd.type146]; rfl, show szT Tryd.prog 146 = some 6 from by unfold szT; rw [show Tryd.prog.info? 146 = some Tryd.t146 from Tryd.type146]; rfl, Value.cells]
theorem agg55 : aggT Tryd.prog 55 = some true := by unfold aggT; rw [Tryd.underlying55]; rfl
@[simp] theorem siz55 : szT Tryd.prog 55 = some 1 := by unfold szT; rw [show Tryd.prog.info? 55 = some Tryd.t55 from Tryd.type55]; rfl
@[simp ↓] theorem ty55 {q : Bool → Nat → Prop} : goTy Tryd.prog 55 q = q true 1 := by simp only [goTy, agg55, siz55]
@[simp ↓] theorem sz55 {q : Nat → Prop} : goSz Tryd.prog 55 q = q 1 := by simp only [goSz, siz55]
theorem zer55 : zero? Tryd.prog 55 = some (Go.Value.agg #[Go.Value.slice none 0 0]) := by unfold zero?; rw [show Tryd.prog.info? 55 = some Tryd.t55 from Tryd.type55]; rfl
@[simp ↓] theorem z55 {q : List Value → Prop} : goZ Tryd.prog 55 q = q [Go.Value.slice none 0 0] := by simp [goZ, zer55, Value.cells]
@[simp] theorem und55 : Tryd.prog.underlying 55 = some (Go.TypeDesc.struct
  #[{ name := "Deeds", type := 54, offset := 0, embedded := false, tag := "", pkgPath := "", byteOffset := 0 }]) := opq Tryd.underlying55
@[simp ↓] theorem fld55_0 {q : Nat → TypeId → Prop} : goFld Tryd.prog 55 0 q = q 0 54 := by simp only [goFld, und55]; rfl
@[simp ↓] theorem bld55 {q : List Value → List (Nat × Nat) → Prop} : goBld Tryd.prog 55 q = q [Go.Value.slice none 0 0] [(0, 1)] := by simp [goBld, und55, zer55, placesL, Value.cells]
theorem agg56 : aggT Tryd.prog 56 = some true := by unfold aggT; rw [Tryd.underlying56]; rfl
@[simp] theorem siz56 : szT Tryd.prog 56 = some 1 := by unfold szT; rw [show Tryd.prog.info? 56 = some Tryd.t56 from Tryd.type56]; rfl
@[simp ↓] theorem ty56 {q : Bool → Nat → Prop} : goTy Tryd.prog 56 q = q true 1 := by simp only [goTy, agg56, siz56]
@[simp ↓] theorem sz56 {q : Nat → Prop} : goSz Tryd.prog 56 q = q 1 := by simp only [goSz, siz56]
theorem zer56 : zero? Tryd.prog 56 = some (Go.Value.agg #[Go.Value.slice none 0 0]) := by unfold zero?; rw [show Tryd.prog.info? 56 = some Tryd.t56 from Tryd.type56]; rfl
@[simp ↓] theorem z56 {q : List Value → Prop} : goZ Tryd.prog 56 q = q [Go.Value.slice none 0 0] := by simp [goZ, zer56, Value.cells]
@[simp] theorem und56 : Tryd.prog.underlying 56 = some (Go.TypeDesc.struct
  #[{ name := "Deeds", type := 54, offset := 0, embedded := false, tag := "", pkgPath := "", byteOffset := 0 }]) := opq Tryd.underlying56
@[simp ↓] theorem fld56_0 {q : Nat → TypeId → Prop} : goFld Tryd.prog 56 0 q = q 0 54 := by simp only [goFld, und56]; rfl
@[simp ↓] theorem bld56 {q : List Value → List (Nat × Nat) → Prop} : goBld Tryd.prog 56 q = q [Go.Value.slice none 0 0] [(0, 1)] := by simp [goBld, und56, zer56, placesL, Value.cells]
theorem agg57 : aggT Tryd.prog 57 = some false := by unfold aggT; rw [Tryd.underlying57]; rfl
@[simp] theorem siz57 : szT Tryd.prog 57 = some 1 := by unfold szT; rw [show Tryd.prog.info? 57 = some Tryd.t57 from Tryd.type57]; rfl
@[simp ↓] theorem ty57 {q : Bool → Nat → Prop} : goTy Tryd.prog 57 q = q false 1 := by simp only [goTy, agg57, siz57]
@[simp ↓] theorem sz57 {q : Nat → Prop} : goSz Tryd.prog 57 q = q 1 := by simp only [goSz, siz57]
theorem zer57 : zero? Tryd.prog 57 = some Go.Value.nilFunc := by unfold zero?; rw [show Tryd.prog.info? 57 = some Tryd.t57 from Tryd.type57]; rfl
@[simp ↓] theorem z57 {q : List Value → Prop} : goZ Tryd.prog 57 q = q [Go.Value.nilFunc] := by simp [goZ, zer57, Value.cells]
theorem agg58 : aggT Tryd.prog 58 = some false := by unfold aggT; rw [Tryd.underlying58]; rfl
@[simp] theorem siz58 : szT Tryd.prog 58 = some 1 := by unfold szT; rw [show Tryd.prog.info? 58 = some Tryd.t58 from Tryd.type58]; rfl
@[simp ↓] theorem ty58 {q : Bool → Nat → Prop} : goTy Tryd.prog 58 q = q false 1 := by simp only [goTy, agg58, siz58]
@[simp ↓] theorem sz58 {q : Nat → Prop} : goSz Tryd.prog 58 q = q 1 := by simp only [goSz, siz58]
theorem zer58 : zero? Tryd.prog 58 = some Go.Value.nilFunc := by unfold zero?; rw [show Tryd.prog.info? 58 = some Tryd.t58 from Tryd.type58]; rfl
@[simp ↓] theorem z58 {q : List Value → Prop} : goZ Tryd.prog 58 q = q [Go.Value.nilFunc] := by simp [goZ, zer58, Value.cells]
theorem agg59 : aggT Tryd.prog 59 = some false := by unfold aggT; rw [Tryd.underlying59]; rfl
@[simp] theorem siz59 : szT Tryd.prog 59 = some 1 := by unfold szT; rw [show Tryd.prog.info? 59 = some Tryd.t59 from Tryd.type59]; rfl
@[simp ↓] theorem ty59 {q : Bool → Nat → Prop} : goTy Tryd.prog 59 q = q false 1 := by simp only [goTy, agg59, siz59]
@[simp ↓] theorem sz59 {q : Nat → Prop} : goSz Tryd.prog 59 q = q 1 := by simp only [goSz, siz59]
theorem zer59 : zero? Tryd.prog 59 = some (Go.Value.slice none 0 0) := by unfold zero?; rw [show Tryd.prog.info? 59 = some Tryd.t59 from Tryd.type59]; rfl
@[simp ↓] theorem z59 {q : List Value → Prop} : goZ Tryd.prog 59 q = q [(Go.Value.slice none 0 0)] := by simp [goZ, zer59, Value.cells]
@[simp] theorem und59 : Tryd.prog.underlying 59 = some (Go.TypeDesc.slice 113) := opq Tryd.underlying59
@[simp ↓] theorem un59 {q : TypeDesc → Prop} : goUnd Tryd.prog 59 q = q (Go.TypeDesc.slice 113) := by simp only [goUnd, und59]
theorem slt59 : SlT Tryd.prog 59 113 6 96 := ⟨Tryd.underlying59, ⟨Tryd.t113, _, Tryd.type113, rfl, rfl, rfl, by simp, rfl⟩, by decide⟩
@[simp ↓] theorem sl59 {q : TypeId → Nat → List Value → Prop} : goSl Tryd.prog 59 q = q 113 6 [Go.Value.string { data := #[] }, Go.Value.int Go.IntKind.i64 0, Go.Value.int Go.IntKind.i64 0,
      Go.Value.string { data := #[] }, Go.Value.slice none 0 0, Go.Value.slice none 0 0] := by simp [goSl, und59, show zero? Tryd.prog 113 = some
  (Go.Value.agg
    #[Go.Value.string { data := #[] }, Go.Value.int Go.IntKind.i64 0, Go.Value.int Go.IntKind.i64 0,
      Go.Value.string { data := #[] }, Go.Value.slice none 0 0, Go.Value.slice none 0 0]) from by unfold zero?; rw [show Tryd.prog.info? 113 = some Tryd.t113 from Tryd.type113]; rfl, show szT Tryd.prog 113 = some 6 from by unfold szT; rw [show Tryd.prog.info? 113 = some Tryd.t113 from Tryd.type113]; rfl, Value.cells]
theorem agg60 : aggT Tryd.prog 60 = some true := by unfold aggT; rw [Tryd.underlying60]; rfl
@[simp] theorem siz60 : szT Tryd.prog 60 = some 1 := by unfold szT; rw [show Tryd.prog.info? 60 = some Tryd.t60 from Tryd.type60]; rfl
@[simp ↓] theorem ty60 {q : Bool → Nat → Prop} : goTy Tryd.prog 60 q = q true 1 := by simp only [goTy, agg60, siz60]
@[simp ↓] theorem sz60 {q : Nat → Prop} : goSz Tryd.prog 60 q = q 1 := by simp only [goSz, siz60]
theorem zer60 : zero? Tryd.prog 60 = some (Go.Value.agg #[Go.Value.slice none 0 0]) := by unfold zero?; rw [show Tryd.prog.info? 60 = some Tryd.t60 from Tryd.type60]; rfl
@[simp ↓] theorem z60 {q : List Value → Prop} : goZ Tryd.prog 60 q = q [Go.Value.slice none 0 0] := by simp [goZ, zer60, Value.cells]
@[simp] theorem und60 : Tryd.prog.underlying 60 = some (Go.TypeDesc.struct
  #[{ name := "Deeds", type := 59, offset := 0, embedded := false, tag := "", pkgPath := "", byteOffset := 0 }]) := opq Tryd.underlying60
@[simp ↓] theorem fld60_0 {q : Nat → TypeId → Prop} : goFld Tryd.prog 60 0 q = q 0 59 := by simp only [goFld, und60]; rfl
@[simp ↓] theorem bld60 {q : List Value → List (Nat × Nat) → Prop} : goBld Tryd.prog 60 q = q [Go.Value.slice none 0 0] [(0, 1)] := by simp [goBld, und60, zer60, placesL, Value.cells]
theorem agg61 : aggT Tryd.prog 61 = some true := by unfold aggT; rw [Tryd.underlying61]; rfl
@[simp] theorem siz61 : szT Tryd.prog 61 = some 1 := by unfold szT; rw [show Tryd.prog.info? 61 = some Tryd.t61 from Tryd.type61]; rfl
@[simp ↓] theorem ty61 {q : Bool → Nat → Prop} : goTy Tryd.prog 61 q = q true 1 := by simp only [goTy, agg61, siz61]
@[simp ↓] theorem sz61 {q : Nat → Prop} : goSz Tryd.prog 61 q = q 1 := by simp only [goSz, siz61]
theorem zer61 : zero? Tryd.prog 61 = some (Go.Value.agg #[Go.Value.slice none 0 0]) := by unfold zero?; rw [show Tryd.prog.info? 61 = some Tryd.t61 from Tryd.type61]; rfl
@[simp ↓] theorem z61 {q : List Value → Prop} : goZ Tryd.prog 61 q = q [Go.Value.slice none 0 0] := by simp [goZ, zer61, Value.cells]
@[simp] theorem und61 : Tryd.prog.underlying 61 = some (Go.TypeDesc.struct
  #[{ name := "Deeds", type := 59, offset := 0, embedded := false, tag := "", pkgPath := "", byteOffset := 0 }]) := opq Tryd.underlying61
@[simp ↓] theorem fld61_0 {q : Nat → TypeId → Prop} : goFld Tryd.prog 61 0 q = q 0 59 := by simp only [goFld, und61]; rfl
@[simp ↓] theorem bld61 {q : List Value → List (Nat × Nat) → Prop} : goBld Tryd.prog 61 q = q [Go.Value.slice none 0 0] [(0, 1)] := by simp [goBld, und61, zer61, placesL, Value.cells]
theorem agg62 : aggT Tryd.prog 62 = some false := by unfold aggT; rw [Tryd.underlying62]; rfl
@[simp] theorem siz62 : szT Tryd.prog 62 = some 1 := by unfold szT; rw [show Tryd.prog.info? 62 = some Tryd.t62 from Tryd.type62]; rfl
@[simp ↓] theorem ty62 {q : Bool → Nat → Prop} : goTy Tryd.prog 62 q = q false 1 := by simp only [goTy, agg62, siz62]
@[simp ↓] theorem sz62 {q : Nat → Prop} : goSz Tryd.prog 62 q = q 1 := by simp only [goSz, siz62]
theorem zer62 : zero? Tryd.prog 62 = some Go.Value.nilFunc := by unfold zero?; rw [show Tryd.prog.info? 62 = some Tryd.t62 from Tryd.type62]; rfl
@[simp ↓] theorem z62 {q : List Value → Prop} : goZ Tryd.prog 62 q = q [Go.Value.nilFunc] := by simp [goZ, zer62, Value.cells]
theorem agg63 : aggT Tryd.prog 63 = some false := by unfold aggT; rw [Tryd.underlying63]; rfl
@[simp] theorem siz63 : szT Tryd.prog 63 = some 1 := by unfold szT; rw [show Tryd.prog.info? 63 = some Tryd.t63 from Tryd.type63]; rfl
@[simp ↓] theorem ty63 {q : Bool → Nat → Prop} : goTy Tryd.prog 63 q = q false 1 := by simp only [goTy, agg63, siz63]
@[simp ↓] theorem sz63 {q : Nat → Prop} : goSz Tryd.prog 63 q = q 1 := by simp only [goSz, siz63]
theorem zer63 : zero? Tryd.prog 63 = some Go.Value.nilFunc := by unfold zero?; rw [show Tryd.prog.info? 63 = some Tryd.t63 from Tryd.type63]; rfl
@[simp ↓] theorem z63 {q : List Value → Prop} : goZ Tryd.prog 63 q = q [Go.Value.nilFunc] := by simp [goZ, zer63, Value.cells]
theorem agg64 : aggT Tryd.prog 64 = some false := by unfold aggT; rw [Tryd.underlying64]; rfl
@[simp] theorem siz64 : szT Tryd.prog 64 = some 1 := by unfold szT; rw [show Tryd.prog.info? 64 = some Tryd.t64 from Tryd.type64]; rfl
@[simp ↓] theorem ty64 {q : Bool → Nat → Prop} : goTy Tryd.prog 64 q = q false 1 := by simp only [goTy, agg64, siz64]
@[simp ↓] theorem sz64 {q : Nat → Prop} : goSz Tryd.prog 64 q = q 1 := by simp only [goSz, siz64]
theorem zer64 : zero? Tryd.prog 64 = some Go.Value.nilFunc := by unfold zero?; rw [show Tryd.prog.info? 64 = some Tryd.t64 from Tryd.type64]; rfl
@[simp ↓] theorem z64 {q : List Value → Prop} : goZ Tryd.prog 64 q = q [Go.Value.nilFunc] := by simp [goZ, zer64, Value.cells]
theorem agg65 : aggT Tryd.prog 65 = some true := by unfold aggT; rw [Tryd.underlying65]; rfl
@[simp] theorem siz65 : szT Tryd.prog 65 = some 2 := by unfold szT; rw [show Tryd.prog.info? 65 = some Tryd.t65 from Tryd.type65]; rfl
@[simp ↓] theorem ty65 {q : Bool → Nat → Prop} : goTy Tryd.prog 65 q = q true 2 := by simp only [goTy, agg65, siz65]
@[simp ↓] theorem sz65 {q : Nat → Prop} : goSz Tryd.prog 65 q = q 2 := by simp only [goSz, siz65]
theorem zer65 : zero? Tryd.prog 65 = some (Go.Value.agg #[Go.Value.int Go.IntKind.i64 0, Go.Value.int Go.IntKind.i64 0]) := by unfold zero?; rw [show Tryd.prog.info? 65 = some Tryd.t65 from Tryd.type65]; rfl
@[simp ↓] theorem z65 {q : List Value → Prop} : goZ Tryd.prog 65 q = q [Go.Value.int Go.IntKind.i64 0, Go.Value.int Go.IntKind.i64 0] := by simp [goZ, zer65, Value.cells]
@[simp] theorem und65 : Tryd.prog.underlying 65 = some (Go.TypeDesc.struct
  #[{ name := "Code", type := 3, offset := 0, embedded := false, tag := "", pkgPath := "", byteOffset := 0 },
    { name := "Line", type := 3, offset := 1, embedded := false, tag := "", pkgPath := "", byteOffset := 8 }]) := opq Tryd.underlying65
@[simp ↓] theorem fld65_0 {q : Nat → TypeId → Prop} : goFld Tryd.prog 65 0 q = q 0 3 := by simp only [goFld, und65]; rfl
@[simp ↓] theorem fld65_1 {q : Nat → TypeId → Prop} : goFld Tryd.prog 65 1 q = q 1 3 := by simp only [goFld, und65]; rfl
@[simp ↓] theorem bld65 {q : List Value → List (Nat × Nat) → Prop} : goBld Tryd.prog 65 q = q [Go.Value.int Go.IntKind.i64 0, Go.Value.int Go.IntKind.i64 0] [(0, 1), (1, 1)] := by simp [goBld, und65, zer65, placesL, Value.cells]
theorem agg66 : aggT Tryd.prog 66 = some true := by unfold aggT; rw [Tryd.underlying66]; rfl
@[simp] theorem siz66 : szT Tryd.prog 66 = some 2 := by unfold szT; rw [show Tryd.prog.info? 66 = some Tryd.t66 from Tryd.type66]; rfl
@[simp ↓] theorem ty66 {q : Bool → Nat → Prop} : goTy Tryd.prog 66 q = q true 2 := by simp only [goTy, agg66, siz66]
@[simp ↓] theorem sz66 {q : Nat → Prop} : goSz Tryd.prog 66 q = q 2 := by simp only [goSz, siz66]
theorem zer66 : zero? Tryd.prog 66 = some (Go.Value.agg #[Go.Value.int Go.IntKind.i64 0, Go.Value.int Go.IntKind.i64 0]) := by unfold zero?; rw [show Tryd.prog.info? 66 = some Tryd.t66 from Tryd.type66]; rfl
@[simp ↓] theorem z66 {q : List Value → Prop} : goZ Tryd.prog 66 q = q [Go.Value.int Go.IntKind.i64 0, Go.Value.int Go.IntKind.i64 0] := by simp [goZ, zer66, Value.cells]
@[simp] theorem und66 : Tryd.prog.underlying 66 = some (Go.TypeDesc.struct
  #[{ name := "Code", type := 3, offset := 0, embedded := false, tag := "", pkgPath := "", byteOffset := 0 },
    { name := "Line", type := 3, offset := 1, embedded := false, tag := "", pkgPath := "", byteOffset := 8 }]) := opq Tryd.underlying66
@[simp ↓] theorem fld66_0 {q : Nat → TypeId → Prop} : goFld Tryd.prog 66 0 q = q 0 3 := by simp only [goFld, und66]; rfl
@[simp ↓] theorem fld66_1 {q : Nat → TypeId → Prop} : goFld Tryd.prog 66 1 q = q 1 3 := by simp only [goFld, und66]; rfl
@[simp ↓] theorem bld66 {q : List Value → List (Nat × Nat) → Prop} : goBld Tryd.prog 66 q = q [Go.Value.int Go.IntKind.i64 0, Go.Value.int Go.IntKind.i64 0] [(0, 1), (1, 1)] := by simp [goBld, und66, zer66, placesL, Value.cells]
theorem agg68 : aggT Tryd.prog 68 = some false := by unfold aggT; rw [Tryd.underlying68]; rfl
@[simp] theorem siz68 : szT Tryd.prog 68 = some 1 := by unfold szT; rw [show Tryd.prog.info? 68 = some Tryd.t68 from Tryd.type68]; rfl
@[simp ↓] theorem ty68 {q : Bool → Nat → Prop} : goTy Tryd.prog 68 q = q false 1 := by simp only [goTy, agg68, siz68]
@[simp ↓] theorem sz68 {q : Nat → Prop} : goSz Tryd.prog 68 q = q 1 := by simp only [goSz, siz68]
theorem zer68 : zero? Tryd.prog 68 = some Go.Value.nilFunc := by unfold zero?; rw [show Tryd.prog.info? 68 = some Tryd.t68 from Tryd.type68]; rfl
@[simp ↓] theorem z68 {q : List Value → Prop} : goZ Tryd.prog 68 q = q [Go.Value.nilFunc] := by simp [goZ, zer68, Value.cells]
theorem agg69 : aggT Tryd.prog 69 = some false := by unfold aggT; rw [Tryd.underlying69]; rfl
@[simp] theorem siz69 : szT Tryd.prog 69 = some 1 := by unfold szT; rw [show Tryd.prog.info? 69 = some Tryd.t69 from Tryd.type69]; rfl
@[simp ↓] theorem ty69 {q : Bool → Nat → Prop} : goTy Tryd.prog 69 q = q false 1 := by simp only [goTy, agg69, siz69]
@[simp ↓] theorem sz69 {q : Nat → Prop} : goSz Tryd.prog 69 q = q 1 := by simp only [goSz, siz69]
theorem zer69 : zero? Tryd.prog 69 = some Go.Value.nilFunc := by unfold zero?; rw [show Tryd.prog.info? 69 = some Tryd.t69 from Tryd.type69]; rfl
@[simp ↓] theorem z69 {q : List Value → Prop} : goZ Tryd.prog 69 q = q [Go.Value.nilFunc] := by simp [goZ, zer69, Value.cells]
theorem agg70 : aggT Tryd.prog 70 = some false := by unfold aggT; rw [Tryd.underlying70]; rfl
@[simp] theorem siz70 : szT Tryd.prog 70 = some 1 := by unfold szT; rw [show Tryd.prog.info? 70 = some Tryd.t70 from Tryd.type70]; rfl
@[simp ↓] theorem ty70 {q : Bool → Nat → Prop} : goTy Tryd.prog 70 q = q false 1 := by simp only [goTy, agg70, siz70]
@[simp ↓] theorem sz70 {q : Nat → Prop} : goSz Tryd.prog 70 q = q 1 := by simp only [goSz, siz70]
theorem zer70 : zero? Tryd.prog 70 = some Go.Value.nilFunc := by unfold zero?; rw [show Tryd.prog.info? 70 = some Tryd.t70 from Tryd.type70]; rfl
@[simp ↓] theorem z70 {q : List Value → Prop} : goZ Tryd.prog 70 q = q [Go.Value.nilFunc] := by simp [goZ, zer70, Value.cells]
theorem agg71 : aggT Tryd.prog 71 = some false := by unfold aggT; rw [Tryd.underlying71]; rfl
@[simp] theorem siz71 : szT Tryd.prog 71 = some 1 := by unfold szT; rw [show Tryd.prog.info? 71 = some Tryd.t71 from Tryd.type71]; rfl
@[simp ↓] theorem ty71 {q : Bool → Nat → Prop} : goTy Tryd.prog 71 q = q false 1 := by simp only [goTy, agg71, siz71]
@[simp ↓] theorem sz71 {q : Nat → Prop} : goSz Tryd.prog 71 q = q 1 := by simp only [goSz, siz71]
theorem zer71 : zero? Tryd.prog 71 = some Go.Value.nilFunc := by unfold zero?; rw [show Tryd.prog.info? 71 = some Tryd.t71 from Tryd.type71]; rfl
@[simp ↓] theorem z71 {q : List Value → Prop} : goZ Tryd.prog 71 q = q [Go.Value.nilFunc] := by simp [goZ, zer71, Value.cells]
theorem agg72 : aggT Tryd.prog 72 = some false := by unfold aggT; rw [Tryd.underlying72]; rfl
@[simp] theorem siz72 : szT Tryd.prog 72 = some 1 := by unfold szT; rw [show Tryd.prog.info? 72 = some Tryd.t72 from Tryd.type72]; rfl
@[simp ↓] theorem ty72 {q : Bool → Nat → Prop} : goTy Tryd.prog 72 q = q false 1 := by simp only [goTy, agg72, siz72]
@[simp ↓] theorem sz72 {q : Nat → Prop} : goSz Tryd.prog 72 q = q 1 := by simp only [goSz, siz72]
theorem zer72 : zero? Tryd.prog 72 = some (Go.Value.pointer none) := by unfold zero?; rw [show Tryd.prog.info? 72 = some Tryd.t72 from Tryd.type72]; rfl
@[simp ↓] theorem z72 {q : List Value → Prop} : goZ Tryd.prog 72 q = q [(Go.Value.pointer none)] := by simp [goZ, zer72, Value.cells]
@[simp] theorem und72 : Tryd.prog.underlying 72 = some (Go.TypeDesc.pointer 128) := opq Tryd.underlying72
@[simp ↓] theorem un72 {q : TypeDesc → Prop} : goUnd Tryd.prog 72 q = q (Go.TypeDesc.pointer 128) := by simp only [goUnd, und72]
theorem agg73 : aggT Tryd.prog 73 = some false := by unfold aggT; rw [Tryd.underlying73]; rfl
@[simp] theorem siz73 : szT Tryd.prog 73 = some 1 := by unfold szT; rw [show Tryd.prog.info? 73 = some Tryd.t73 from Tryd.type73]; rfl
@[simp ↓] theorem ty73 {q : Bool → Nat → Prop} : goTy Tryd.prog 73 q = q false 1 := by simp only [goTy, agg73, siz73]
@[simp ↓] theorem sz73 {q : Nat → Prop} : goSz Tryd.prog 73 q = q 1 := by simp only [goSz, siz73]
theorem zer73 : zero? Tryd.prog 73 = some Go.Value.nilFunc := by unfold zero?; rw [show Tryd.prog.info? 73 = some Tryd.t73 from Tryd.type73]; rfl
@[simp ↓] theorem z73 {q : List Value → Prop} : goZ Tryd.prog 73 q = q [Go.Value.nilFunc] := by simp [goZ, zer73, Value.cells]
theorem agg74 : aggT Tryd.prog 74 = some false := by unfold aggT; rw [Tryd.underlying74]; rfl
@[simp] theorem siz74 : szT Tryd.prog 74 = some 1 := by unfold szT; rw [show Tryd.prog.info? 74 = some Tryd.t74 from Tryd.type74]; rfl
@[simp ↓] theorem ty74 {q : Bool → Nat → Prop} : goTy Tryd.prog 74 q = q false 1 := by simp only [goTy, agg74, siz74]
@[simp ↓] theorem sz74 {q : Nat → Prop} : goSz Tryd.prog 74 q = q 1 := by simp only [goSz, siz74]
theorem zer74 : zero? Tryd.prog 74 = some Go.Value.nilFunc := by unfold zero?; rw [show Tryd.prog.info? 74 = some Tryd.t74 from Tryd.type74]; rfl
@[simp ↓] theorem z74 {q : List Value → Prop} : goZ Tryd.prog 74 q = q [Go.Value.nilFunc] := by simp [goZ, zer74, Value.cells]
theorem agg75 : aggT Tryd.prog 75 = some false := by unfold aggT; rw [Tryd.underlying75]; rfl
@[simp] theorem siz75 : szT Tryd.prog 75 = some 1 := by unfold szT; rw [show Tryd.prog.info? 75 = some Tryd.t75 from Tryd.type75]; rfl
@[simp ↓] theorem ty75 {q : Bool → Nat → Prop} : goTy Tryd.prog 75 q = q false 1 := by simp only [goTy, agg75, siz75]
@[simp ↓] theorem sz75 {q : Nat → Prop} : goSz Tryd.prog 75 q = q 1 := by simp only [goSz, siz75]
theorem zer75 : zero? Tryd.prog 75 = some Go.Value.nilFunc := by unfold zero?; rw [show Tryd.prog.info? 75 = some Tryd.t75 from Tryd.type75]; rfl
@[simp ↓] theorem z75 {q : List Value → Prop} : goZ Tryd.prog 75 q = q [Go.Value.nilFunc] := by simp [goZ, zer75, Value.cells]
theorem agg76 : aggT Tryd.prog 76 = some false := by unfold aggT; rw [Tryd.underlying76]; rfl
@[simp] theorem siz76 : szT Tryd.prog 76 = some 1 := by unfold szT; rw [show Tryd.prog.info? 76 = some Tryd.t76 from Tryd.type76]; rfl
@[simp ↓] theorem ty76 {q : Bool → Nat → Prop} : goTy Tryd.prog 76 q = q false 1 := by simp only [goTy, agg76, siz76]
@[simp ↓] theorem sz76 {q : Nat → Prop} : goSz Tryd.prog 76 q = q 1 := by simp only [goSz, siz76]
theorem zer76 : zero? Tryd.prog 76 = some Go.Value.nilFunc := by unfold zero?; rw [show Tryd.prog.info? 76 = some Tryd.t76 from Tryd.type76]; rfl
@[simp ↓] theorem z76 {q : List Value → Prop} : goZ Tryd.prog 76 q = q [Go.Value.nilFunc] := by simp [goZ, zer76, Value.cells]
theorem agg77 : aggT Tryd.prog 77 = some false := by unfold aggT; rw [Tryd.underlying77]; rfl
@[simp] theorem siz77 : szT Tryd.prog 77 = some 1 := by unfold szT; rw [show Tryd.prog.info? 77 = some Tryd.t77 from Tryd.type77]; rfl
@[simp ↓] theorem ty77 {q : Bool → Nat → Prop} : goTy Tryd.prog 77 q = q false 1 := by simp only [goTy, agg77, siz77]
@[simp ↓] theorem sz77 {q : Nat → Prop} : goSz Tryd.prog 77 q = q 1 := by simp only [goSz, siz77]
theorem zer77 : zero? Tryd.prog 77 = some Go.Value.nilFunc := by unfold zero?; rw [show Tryd.prog.info? 77 = some Tryd.t77 from Tryd.type77]; rfl
@[simp ↓] theorem z77 {q : List Value → Prop} : goZ Tryd.prog 77 q = q [Go.Value.nilFunc] := by simp [goZ, zer77, Value.cells]
theorem agg78 : aggT Tryd.prog 78 = some false := by unfold aggT; rw [Tryd.underlying78]; rfl
@[simp] theorem siz78 : szT Tryd.prog 78 = some 1 := by unfold szT; rw [show Tryd.prog.info? 78 = some Tryd.t78 from Tryd.type78]; rfl
@[simp ↓] theorem ty78 {q : Bool → Nat → Prop} : goTy Tryd.prog 78 q = q false 1 := by simp only [goTy, agg78, siz78]
@[simp ↓] theorem sz78 {q : Nat → Prop} : goSz Tryd.prog 78 q = q 1 := by simp only [goSz, siz78]
theorem zer78 : zero? Tryd.prog 78 = some Go.Value.nilFunc := by unfold zero?; rw [show Tryd.prog.info? 78 = some Tryd.t78 from Tryd.type78]; rfl
@[simp ↓] theorem z78 {q : List Value → Prop} : goZ Tryd.prog 78 q = q [Go.Value.nilFunc] := by simp [goZ, zer78, Value.cells]
theorem agg79 : aggT Tryd.prog 79 = some false := by unfold aggT; rw [Tryd.underlying79]; rfl
@[simp] theorem siz79 : szT Tryd.prog 79 = some 1 := by unfold szT; rw [show Tryd.prog.info? 79 = some Tryd.t79 from Tryd.type79]; rfl
@[simp ↓] theorem ty79 {q : Bool → Nat → Prop} : goTy Tryd.prog 79 q = q false 1 := by simp only [goTy, agg79, siz79]
@[simp ↓] theorem sz79 {q : Nat → Prop} : goSz Tryd.prog 79 q = q 1 := by simp only [goSz, siz79]
theorem zer79 : zero? Tryd.prog 79 = some Go.Value.nilFunc := by unfold zero?; rw [show Tryd.prog.info? 79 = some Tryd.t79 from Tryd.type79]; rfl
@[simp ↓] theorem z79 {q : List Value → Prop} : goZ Tryd.prog 79 q = q [Go.Value.nilFunc] := by simp [goZ, zer79, Value.cells]
theorem agg80 : aggT Tryd.prog 80 = some false := by unfold aggT; rw [Tryd.underlying80]; rfl
@[simp] theorem siz80 : szT Tryd.prog 80 = some 1 := by unfold szT; rw [show Tryd.prog.info? 80 = some Tryd.t80 from Tryd.type80]; rfl
@[simp ↓] theorem ty80 {q : Bool → Nat → Prop} : goTy Tryd.prog 80 q = q false 1 := by simp only [goTy, agg80, siz80]
@[simp ↓] theorem sz80 {q : Nat → Prop} : goSz Tryd.prog 80 q = q 1 := by simp only [goSz, siz80]
theorem zer80 : zero? Tryd.prog 80 = some Go.Value.nilFunc := by unfold zero?; rw [show Tryd.prog.info? 80 = some Tryd.t80 from Tryd.type80]; rfl
@[simp ↓] theorem z80 {q : List Value → Prop} : goZ Tryd.prog 80 q = q [Go.Value.nilFunc] := by simp [goZ, zer80, Value.cells]
theorem agg81 : aggT Tryd.prog 81 = some false := by unfold aggT; rw [Tryd.underlying81]; rfl
@[simp] theorem siz81 : szT Tryd.prog 81 = some 1 := by unfold szT; rw [show Tryd.prog.info? 81 = some Tryd.t81 from Tryd.type81]; rfl
@[simp ↓] theorem ty81 {q : Bool → Nat → Prop} : goTy Tryd.prog 81 q = q false 1 := by simp only [goTy, agg81, siz81]
@[simp ↓] theorem sz81 {q : Nat → Prop} : goSz Tryd.prog 81 q = q 1 := by simp only [goSz, siz81]
theorem zer81 : zero? Tryd.prog 81 = some Go.Value.nilFunc := by unfold zero?; rw [show Tryd.prog.info? 81 = some Tryd.t81 from Tryd.type81]; rfl
@[simp ↓] theorem z81 {q : List Value → Prop} : goZ Tryd.prog 81 q = q [Go.Value.nilFunc] := by simp [goZ, zer81, Value.cells]
theorem agg82 : aggT Tryd.prog 82 = some false := by unfold aggT; rw [Tryd.underlying82]; rfl
@[simp] theorem siz82 : szT Tryd.prog 82 = some 1 := by unfold szT; rw [show Tryd.prog.info? 82 = some Tryd.t82 from Tryd.type82]; rfl
@[simp ↓] theorem ty82 {q : Bool → Nat → Prop} : goTy Tryd.prog 82 q = q false 1 := by simp only [goTy, agg82, siz82]
@[simp ↓] theorem sz82 {q : Nat → Prop} : goSz Tryd.prog 82 q = q 1 := by simp only [goSz, siz82]
theorem zer82 : zero? Tryd.prog 82 = some Go.Value.nilFunc := by unfold zero?; rw [show Tryd.prog.info? 82 = some Tryd.t82 from Tryd.type82]; rfl
@[simp ↓] theorem z82 {q : List Value → Prop} : goZ Tryd.prog 82 q = q [Go.Value.nilFunc] := by simp [goZ, zer82, Value.cells]
theorem agg83 : aggT Tryd.prog 83 = some true := by unfold aggT; rw [Tryd.underlying83]; rfl
@[simp] theorem siz83 : szT Tryd.prog 83 = some 3 := by unfold szT; rw [show Tryd.prog.info? 83 = some Tryd.t83 from Tryd.type83]; rfl
@[simp ↓] theorem ty83 {q : Bool → Nat → Prop} : goTy Tryd.prog 83 q = q true 3 := by simp only [goTy, agg83, siz83]
@[simp ↓] theorem sz83 {q : Nat → Prop} : goSz Tryd.prog 83 q = q 3 := by simp only [goSz, siz83]
theorem zer83 : zero? Tryd.prog 83 = some (Go.Value.agg #[Go.Value.int Go.IntKind.i64 0, Go.Value.string { data := #[] }, Go.Value.int Go.IntKind.i64 0]) := by unfold zero?; rw [show Tryd.prog.info? 83 = some Tryd.t83 from Tryd.type83]; rfl
@[simp ↓] theorem z83 {q : List Value → Prop} : goZ Tryd.prog 83 q = q [Go.Value.int Go.IntKind.i64 0, Go.Value.string { data := #[] }, Go.Value.int Go.IntKind.i64 0] := by simp [goZ, zer83, Value.cells]
@[simp] theorem und83 : Tryd.prog.underlying 83 = some (Go.TypeDesc.struct
  #[{ name := "Op", type := 3, offset := 0, embedded := false, tag := "", pkgPath := "", byteOffset := 0 },
    { name := "Text", type := 9, offset := 1, embedded := false, tag := "", pkgPath := "", byteOffset := 8 },
    { name := "N", type := 3, offset := 2, embedded := false, tag := "", pkgPath := "", byteOffset := 24 }]) := opq Tryd.underlying83
@[simp ↓] theorem fld83_0 {q : Nat → TypeId → Prop} : goFld Tryd.prog 83 0 q = q 0 3 := by simp only [goFld, und83]; rfl
@[simp ↓] theorem fld83_1 {q : Nat → TypeId → Prop} : goFld Tryd.prog 83 1 q = q 1 9 := by simp only [goFld, und83]; rfl
@[simp ↓] theorem fld83_2 {q : Nat → TypeId → Prop} : goFld Tryd.prog 83 2 q = q 2 3 := by simp only [goFld, und83]; rfl
@[simp ↓] theorem bld83 {q : List Value → List (Nat × Nat) → Prop} : goBld Tryd.prog 83 q = q [Go.Value.int Go.IntKind.i64 0, Go.Value.string { data := #[] }, Go.Value.int Go.IntKind.i64 0] [(0, 1), (1, 1), (2, 1)] := by simp [goBld, und83, zer83, placesL, Value.cells]
theorem agg84 : aggT Tryd.prog 84 = some true := by unfold aggT; rw [Tryd.underlying84]; rfl
@[simp] theorem siz84 : szT Tryd.prog 84 = some 3 := by unfold szT; rw [show Tryd.prog.info? 84 = some Tryd.t84 from Tryd.type84]; rfl
@[simp ↓] theorem ty84 {q : Bool → Nat → Prop} : goTy Tryd.prog 84 q = q true 3 := by simp only [goTy, agg84, siz84]
@[simp ↓] theorem sz84 {q : Nat → Prop} : goSz Tryd.prog 84 q = q 3 := by simp only [goSz, siz84]
theorem zer84 : zero? Tryd.prog 84 = some (Go.Value.agg #[Go.Value.int Go.IntKind.i64 0, Go.Value.string { data := #[] }, Go.Value.int Go.IntKind.i64 0]) := by unfold zero?; rw [show Tryd.prog.info? 84 = some Tryd.t84 from Tryd.type84]; rfl
@[simp ↓] theorem z84 {q : List Value → Prop} : goZ Tryd.prog 84 q = q [Go.Value.int Go.IntKind.i64 0, Go.Value.string { data := #[] }, Go.Value.int Go.IntKind.i64 0] := by simp [goZ, zer84, Value.cells]
@[simp] theorem und84 : Tryd.prog.underlying 84 = some (Go.TypeDesc.struct
  #[{ name := "Op", type := 3, offset := 0, embedded := false, tag := "", pkgPath := "", byteOffset := 0 },
    { name := "Text", type := 9, offset := 1, embedded := false, tag := "", pkgPath := "", byteOffset := 8 },
    { name := "N", type := 3, offset := 2, embedded := false, tag := "", pkgPath := "", byteOffset := 24 }]) := opq Tryd.underlying84
@[simp ↓] theorem fld84_0 {q : Nat → TypeId → Prop} : goFld Tryd.prog 84 0 q = q 0 3 := by simp only [goFld, und84]; rfl
@[simp ↓] theorem fld84_1 {q : Nat → TypeId → Prop} : goFld Tryd.prog 84 1 q = q 1 9 := by simp only [goFld, und84]; rfl
@[simp ↓] theorem fld84_2 {q : Nat → TypeId → Prop} : goFld Tryd.prog 84 2 q = q 2 3 := by simp only [goFld, und84]; rfl
@[simp ↓] theorem bld84 {q : List Value → List (Nat × Nat) → Prop} : goBld Tryd.prog 84 q = q [Go.Value.int Go.IntKind.i64 0, Go.Value.string { data := #[] }, Go.Value.int Go.IntKind.i64 0] [(0, 1), (1, 1), (2, 1)] := by simp [goBld, und84, zer84, placesL, Value.cells]
theorem agg85 : aggT Tryd.prog 85 = some false := by unfold aggT; rw [Tryd.underlying85]; rfl
@[simp] theorem siz85 : szT Tryd.prog 85 = some 1 := by unfold szT; rw [show Tryd.prog.info? 85 = some Tryd.t85 from Tryd.type85]; rfl
@[simp ↓] theorem ty85 {q : Bool → Nat → Prop} : goTy Tryd.prog 85 q = q false 1 := by simp only [goTy, agg85, siz85]
@[simp ↓] theorem sz85 {q : Nat → Prop} : goSz Tryd.prog 85 q = q 1 := by simp only [goSz, siz85]
theorem zer85 : zero? Tryd.prog 85 = some Go.Value.nilFunc := by unfold zero?; rw [show Tryd.prog.info? 85 = some Tryd.t85 from Tryd.type85]; rfl
@[simp ↓] theorem z85 {q : List Value → Prop} : goZ Tryd.prog 85 q = q [Go.Value.nilFunc] := by simp [goZ, zer85, Value.cells]
theorem agg86 : aggT Tryd.prog 86 = some false := by unfold aggT; rw [Tryd.underlying86]; rfl
@[simp] theorem siz86 : szT Tryd.prog 86 = some 1 := by unfold szT; rw [show Tryd.prog.info? 86 = some Tryd.t86 from Tryd.type86]; rfl
@[simp ↓] theorem ty86 {q : Bool → Nat → Prop} : goTy Tryd.prog 86 q = q false 1 := by simp only [goTy, agg86, siz86]
@[simp ↓] theorem sz86 {q : Nat → Prop} : goSz Tryd.prog 86 q = q 1 := by simp only [goSz, siz86]
theorem zer86 : zero? Tryd.prog 86 = some (Go.Value.pointer none) := by unfold zero?; rw [show Tryd.prog.info? 86 = some Tryd.t86 from Tryd.type86]; rfl
@[simp ↓] theorem z86 {q : List Value → Prop} : goZ Tryd.prog 86 q = q [(Go.Value.pointer none)] := by simp [goZ, zer86, Value.cells]
@[simp] theorem und86 : Tryd.prog.underlying 86 = some (Go.TypeDesc.pointer 88) := opq Tryd.underlying86
@[simp ↓] theorem un86 {q : TypeDesc → Prop} : goUnd Tryd.prog 86 q = q (Go.TypeDesc.pointer 88) := by simp only [goUnd, und86]
theorem agg87 : aggT Tryd.prog 87 = some true := by unfold aggT; rw [Tryd.underlying87]; rfl
@[simp] theorem siz87 : szT Tryd.prog 87 = some 2 := by unfold szT; rw [show Tryd.prog.info? 87 = some Tryd.t87 from Tryd.type87]; rfl
@[simp ↓] theorem ty87 {q : Bool → Nat → Prop} : goTy Tryd.prog 87 q = q true 2 := by simp only [goTy, agg87, siz87]
@[simp ↓] theorem sz87 {q : Nat → Prop} : goSz Tryd.prog 87 q = q 2 := by simp only [goSz, siz87]
theorem zer87 : zero? Tryd.prog 87 = some (Go.Value.agg #[Go.Value.pointer none, Go.Value.slice none 0 0]) := by unfold zero?; rw [show Tryd.prog.info? 87 = some Tryd.t87 from Tryd.type87]; rfl
@[simp ↓] theorem z87 {q : List Value → Prop} : goZ Tryd.prog 87 q = q [Go.Value.pointer none, Go.Value.slice none 0 0] := by simp [goZ, zer87, Value.cells]
@[simp] theorem und87 : Tryd.prog.underlying 87 = some (Go.TypeDesc.struct
  #[{ name := "addr", type := 86, offset := 0, embedded := false, tag := "", pkgPath := "strings", byteOffset := 0 },
    { name := "buf", type := 22, offset := 1, embedded := false, tag := "", pkgPath := "strings", byteOffset := 8 }]) := opq Tryd.underlying87
@[simp ↓] theorem fld87_0 {q : Nat → TypeId → Prop} : goFld Tryd.prog 87 0 q = q 0 86 := by simp only [goFld, und87]; rfl
@[simp ↓] theorem fld87_1 {q : Nat → TypeId → Prop} : goFld Tryd.prog 87 1 q = q 1 22 := by simp only [goFld, und87]; rfl
@[simp ↓] theorem bld87 {q : List Value → List (Nat × Nat) → Prop} : goBld Tryd.prog 87 q = q [Go.Value.pointer none, Go.Value.slice none 0 0] [(0, 1), (1, 1)] := by simp [goBld, und87, zer87, placesL, Value.cells]
theorem agg88 : aggT Tryd.prog 88 = some true := by unfold aggT; rw [Tryd.underlying88]; rfl
@[simp] theorem siz88 : szT Tryd.prog 88 = some 2 := by unfold szT; rw [show Tryd.prog.info? 88 = some Tryd.t88 from Tryd.type88]; rfl
@[simp ↓] theorem ty88 {q : Bool → Nat → Prop} : goTy Tryd.prog 88 q = q true 2 := by simp only [goTy, agg88, siz88]
@[simp ↓] theorem sz88 {q : Nat → Prop} : goSz Tryd.prog 88 q = q 2 := by simp only [goSz, siz88]
theorem zer88 : zero? Tryd.prog 88 = some (Go.Value.agg #[Go.Value.pointer none, Go.Value.slice none 0 0]) := by unfold zero?; rw [show Tryd.prog.info? 88 = some Tryd.t88 from Tryd.type88]; rfl
@[simp ↓] theorem z88 {q : List Value → Prop} : goZ Tryd.prog 88 q = q [Go.Value.pointer none, Go.Value.slice none 0 0] := by simp [goZ, zer88, Value.cells]
@[simp] theorem und88 : Tryd.prog.underlying 88 = some (Go.TypeDesc.struct
  #[{ name := "addr", type := 86, offset := 0, embedded := false, tag := "", pkgPath := "strings", byteOffset := 0 },
    { name := "buf", type := 22, offset := 1, embedded := false, tag := "", pkgPath := "strings", byteOffset := 8 }]) := opq Tryd.underlying88
@[simp ↓] theorem fld88_0 {q : Nat → TypeId → Prop} : goFld Tryd.prog 88 0 q = q 0 86 := by simp only [goFld, und88]; rfl
@[simp ↓] theorem fld88_1 {q : Nat → TypeId → Prop} : goFld Tryd.prog 88 1 q = q 1 22 := by simp only [goFld, und88]; rfl
@[simp ↓] theorem bld88 {q : List Value → List (Nat × Nat) → Prop} : goBld Tryd.prog 88 q = q [Go.Value.pointer none, Go.Value.slice none 0 0] [(0, 1), (1, 1)] := by simp [goBld, und88, zer88, placesL, Value.cells]
theorem agg89 : aggT Tryd.prog 89 = some false := by unfold aggT; rw [Tryd.underlying89]; rfl
@[simp] theorem siz89 : szT Tryd.prog 89 = some 1 := by unfold szT; rw [show Tryd.prog.info? 89 = some Tryd.t89 from Tryd.type89]; rfl
@[simp ↓] theorem ty89 {q : Bool → Nat → Prop} : goTy Tryd.prog 89 q = q false 1 := by simp only [goTy, agg89, siz89]
@[simp ↓] theorem sz89 {q : Nat → Prop} : goSz Tryd.prog 89 q = q 1 := by simp only [goSz, siz89]
theorem zer89 : zero? Tryd.prog 89 = some Go.Value.nilIface := by unfold zero?; rw [show Tryd.prog.info? 89 = some Tryd.t89 from Tryd.type89]; rfl
@[simp ↓] theorem z89 {q : List Value → Prop} : goZ Tryd.prog 89 q = q [Go.Value.nilIface] := by simp [goZ, zer89, Value.cells]
theorem agg90 : aggT Tryd.prog 90 = some false := by unfold aggT; rw [Tryd.underlying90]; rfl
@[simp] theorem siz90 : szT Tryd.prog 90 = some 1 := by unfold szT; rw [show Tryd.prog.info? 90 = some Tryd.t90 from Tryd.type90]; rfl
@[simp ↓] theorem ty90 {q : Bool → Nat → Prop} : goTy Tryd.prog 90 q = q false 1 := by simp only [goTy, agg90, siz90]
@[simp ↓] theorem sz90 {q : Nat → Prop} : goSz Tryd.prog 90 q = q 1 := by simp only [goSz, siz90]
theorem zer90 : zero? Tryd.prog 90 = some Go.Value.nilIface := by unfold zero?; rw [show Tryd.prog.info? 90 = some Tryd.t90 from Tryd.type90]; rfl
@[simp ↓] theorem z90 {q : List Value → Prop} : goZ Tryd.prog 90 q = q [Go.Value.nilIface] := by simp [goZ, zer90, Value.cells]
theorem agg92 : aggT Tryd.prog 92 = some false := by unfold aggT; rw [Tryd.underlying92]; rfl
@[simp] theorem siz92 : szT Tryd.prog 92 = some 1 := by unfold szT; rw [show Tryd.prog.info? 92 = some Tryd.t92 from Tryd.type92]; rfl
@[simp ↓] theorem ty92 {q : Bool → Nat → Prop} : goTy Tryd.prog 92 q = q false 1 := by simp only [goTy, agg92, siz92]
@[simp ↓] theorem sz92 {q : Nat → Prop} : goSz Tryd.prog 92 q = q 1 := by simp only [goSz, siz92]
theorem zer92 : zero? Tryd.prog 92 = some Go.Value.nilFunc := by unfold zero?; rw [show Tryd.prog.info? 92 = some Tryd.t92 from Tryd.type92]; rfl
@[simp ↓] theorem z92 {q : List Value → Prop} : goZ Tryd.prog 92 q = q [Go.Value.nilFunc] := by simp [goZ, zer92, Value.cells]
theorem agg93 : aggT Tryd.prog 93 = some false := by unfold aggT; rw [Tryd.underlying93]; rfl
@[simp] theorem siz93 : szT Tryd.prog 93 = some 1 := by unfold szT; rw [show Tryd.prog.info? 93 = some Tryd.t93 from Tryd.type93]; rfl
@[simp ↓] theorem ty93 {q : Bool → Nat → Prop} : goTy Tryd.prog 93 q = q false 1 := by simp only [goTy, agg93, siz93]
@[simp ↓] theorem sz93 {q : Nat → Prop} : goSz Tryd.prog 93 q = q 1 := by simp only [goSz, siz93]
theorem zer93 : zero? Tryd.prog 93 = some Go.Value.nilFunc := by unfold zero?; rw [show Tryd.prog.info? 93 = some Tryd.t93 from Tryd.type93]; rfl
@[simp ↓] theorem z93 {q : List Value → Prop} : goZ Tryd.prog 93 q = q [Go.Value.nilFunc] := by simp [goZ, zer93, Value.cells]
theorem agg94 : aggT Tryd.prog 94 = some false := by unfold aggT; rw [Tryd.underlying94]; rfl
@[simp] theorem siz94 : szT Tryd.prog 94 = some 1 := by unfold szT; rw [show Tryd.prog.info? 94 = some Tryd.t94 from Tryd.type94]; rfl
@[simp ↓] theorem ty94 {q : Bool → Nat → Prop} : goTy Tryd.prog 94 q = q false 1 := by simp only [goTy, agg94, siz94]
@[simp ↓] theorem sz94 {q : Nat → Prop} : goSz Tryd.prog 94 q = q 1 := by simp only [goSz, siz94]
theorem zer94 : zero? Tryd.prog 94 = some Go.Value.nilFunc := by unfold zero?; rw [show Tryd.prog.info? 94 = some Tryd.t94 from Tryd.type94]; rfl
@[simp ↓] theorem z94 {q : List Value → Prop} : goZ Tryd.prog 94 q = q [Go.Value.nilFunc] := by simp [goZ, zer94, Value.cells]
theorem agg95 : aggT Tryd.prog 95 = some false := by unfold aggT; rw [Tryd.underlying95]; rfl
@[simp] theorem siz95 : szT Tryd.prog 95 = some 1 := by unfold szT; rw [show Tryd.prog.info? 95 = some Tryd.t95 from Tryd.type95]; rfl
@[simp ↓] theorem ty95 {q : Bool → Nat → Prop} : goTy Tryd.prog 95 q = q false 1 := by simp only [goTy, agg95, siz95]
@[simp ↓] theorem sz95 {q : Nat → Prop} : goSz Tryd.prog 95 q = q 1 := by simp only [goSz, siz95]
theorem zer95 : zero? Tryd.prog 95 = some Go.Value.nilFunc := by unfold zero?; rw [show Tryd.prog.info? 95 = some Tryd.t95 from Tryd.type95]; rfl
@[simp ↓] theorem z95 {q : List Value → Prop} : goZ Tryd.prog 95 q = q [Go.Value.nilFunc] := by simp [goZ, zer95, Value.cells]
theorem agg96 : aggT Tryd.prog 96 = some true := by unfold aggT; rw [Tryd.underlying96]; rfl
@[simp] theorem siz96 : szT Tryd.prog 96 = some 3 := by unfold szT; rw [show Tryd.prog.info? 96 = some Tryd.t96 from Tryd.type96]; rfl
@[simp ↓] theorem ty96 {q : Bool → Nat → Prop} : goTy Tryd.prog 96 q = q true 3 := by simp only [goTy, agg96, siz96]
@[simp ↓] theorem sz96 {q : Nat → Prop} : goSz Tryd.prog 96 q = q 3 := by simp only [goSz, siz96]
theorem zer96 : zero? Tryd.prog 96 = some (Go.Value.agg #[Go.Value.bool false, Go.Value.int Go.IntKind.i64 0, Go.Value.string { data := #[] }]) := by unfold zero?; rw [show Tryd.prog.info? 96 = some Tryd.t96 from Tryd.type96]; rfl
@[simp ↓] theorem z96 {q : List Value → Prop} : goZ Tryd.prog 96 q = q [Go.Value.bool false, Go.Value.int Go.IntKind.i64 0, Go.Value.string { data := #[] }] := by simp [goZ, zer96, Value.cells]
@[simp] theorem und96 : Tryd.prog.underlying 96 = some (Go.TypeDesc.struct
  #[{ name := "Has", type := 4, offset := 0, embedded := false, tag := "", pkgPath := "", byteOffset := 0 },
    { name := "Code", type := 3, offset := 1, embedded := false, tag := "", pkgPath := "", byteOffset := 8 },
    { name := "Text", type := 9, offset := 2, embedded := false, tag := "", pkgPath := "", byteOffset := 16 }]) := opq Tryd.underlying96
@[simp ↓] theorem fld96_0 {q : Nat → TypeId → Prop} : goFld Tryd.prog 96 0 q = q 0 4 := by simp only [goFld, und96]; rfl
@[simp ↓] theorem fld96_1 {q : Nat → TypeId → Prop} : goFld Tryd.prog 96 1 q = q 1 3 := by simp only [goFld, und96]; rfl
@[simp ↓] theorem fld96_2 {q : Nat → TypeId → Prop} : goFld Tryd.prog 96 2 q = q 2 9 := by simp only [goFld, und96]; rfl
@[simp ↓] theorem bld96 {q : List Value → List (Nat × Nat) → Prop} : goBld Tryd.prog 96 q = q [Go.Value.bool false, Go.Value.int Go.IntKind.i64 0, Go.Value.string { data := #[] }] [(0, 1), (1, 1), (2, 1)] := by simp [goBld, und96, zer96, placesL, Value.cells]
theorem agg97 : aggT Tryd.prog 97 = some true := by unfold aggT; rw [Tryd.underlying97]; rfl
@[simp] theorem siz97 : szT Tryd.prog 97 = some 3 := by unfold szT; rw [show Tryd.prog.info? 97 = some Tryd.t97 from Tryd.type97]; rfl
@[simp ↓] theorem ty97 {q : Bool → Nat → Prop} : goTy Tryd.prog 97 q = q true 3 := by simp only [goTy, agg97, siz97]
@[simp ↓] theorem sz97 {q : Nat → Prop} : goSz Tryd.prog 97 q = q 3 := by simp only [goSz, siz97]
theorem zer97 : zero? Tryd.prog 97 = some (Go.Value.agg #[Go.Value.bool false, Go.Value.int Go.IntKind.i64 0, Go.Value.string { data := #[] }]) := by unfold zero?; rw [show Tryd.prog.info? 97 = some Tryd.t97 from Tryd.type97]; rfl
@[simp ↓] theorem z97 {q : List Value → Prop} : goZ Tryd.prog 97 q = q [Go.Value.bool false, Go.Value.int Go.IntKind.i64 0, Go.Value.string { data := #[] }] := by simp [goZ, zer97, Value.cells]
@[simp] theorem und97 : Tryd.prog.underlying 97 = some (Go.TypeDesc.struct
  #[{ name := "Has", type := 4, offset := 0, embedded := false, tag := "", pkgPath := "", byteOffset := 0 },
    { name := "Code", type := 3, offset := 1, embedded := false, tag := "", pkgPath := "", byteOffset := 8 },
    { name := "Text", type := 9, offset := 2, embedded := false, tag := "", pkgPath := "", byteOffset := 16 }]) := opq Tryd.underlying97
@[simp ↓] theorem fld97_0 {q : Nat → TypeId → Prop} : goFld Tryd.prog 97 0 q = q 0 4 := by simp only [goFld, und97]; rfl
@[simp ↓] theorem fld97_1 {q : Nat → TypeId → Prop} : goFld Tryd.prog 97 1 q = q 1 3 := by simp only [goFld, und97]; rfl
@[simp ↓] theorem fld97_2 {q : Nat → TypeId → Prop} : goFld Tryd.prog 97 2 q = q 2 9 := by simp only [goFld, und97]; rfl
@[simp ↓] theorem bld97 {q : List Value → List (Nat × Nat) → Prop} : goBld Tryd.prog 97 q = q [Go.Value.bool false, Go.Value.int Go.IntKind.i64 0, Go.Value.string { data := #[] }] [(0, 1), (1, 1), (2, 1)] := by simp [goBld, und97, zer97, placesL, Value.cells]
theorem agg98 : aggT Tryd.prog 98 = some true := by unfold aggT; rw [Tryd.underlying98]; rfl
@[simp] theorem siz98 : szT Tryd.prog 98 = some 3 := by unfold szT; rw [show Tryd.prog.info? 98 = some Tryd.t98 from Tryd.type98]; rfl
@[simp ↓] theorem ty98 {q : Bool → Nat → Prop} : goTy Tryd.prog 98 q = q true 3 := by simp only [goTy, agg98, siz98]
@[simp ↓] theorem sz98 {q : Nat → Prop} : goSz Tryd.prog 98 q = q 3 := by simp only [goSz, siz98]
theorem zer98 : zero? Tryd.prog 98 = some (Go.Value.agg #[Go.Value.bool false, Go.Value.int Go.IntKind.i64 0, Go.Value.string { data := #[] }]) := by unfold zero?; rw [show Tryd.prog.info? 98 = some Tryd.t98 from Tryd.type98]; rfl
@[simp ↓] theorem z98 {q : List Value → Prop} : goZ Tryd.prog 98 q = q [Go.Value.bool false, Go.Value.int Go.IntKind.i64 0, Go.Value.string { data := #[] }] := by simp [goZ, zer98, Value.cells]
@[simp] theorem und98 : Tryd.prog.underlying 98 = some (Go.TypeDesc.struct
  #[{ name := "Has", type := 4, offset := 0, embedded := false, tag := "", pkgPath := "", byteOffset := 0 },
    { name := "Code", type := 3, offset := 1, embedded := false, tag := "", pkgPath := "", byteOffset := 8 },
    { name := "Text", type := 9, offset := 2, embedded := false, tag := "", pkgPath := "", byteOffset := 16 }]) := opq Tryd.underlying98
@[simp ↓] theorem fld98_0 {q : Nat → TypeId → Prop} : goFld Tryd.prog 98 0 q = q 0 4 := by simp only [goFld, und98]; rfl
@[simp ↓] theorem fld98_1 {q : Nat → TypeId → Prop} : goFld Tryd.prog 98 1 q = q 1 3 := by simp only [goFld, und98]; rfl
@[simp ↓] theorem fld98_2 {q : Nat → TypeId → Prop} : goFld Tryd.prog 98 2 q = q 2 9 := by simp only [goFld, und98]; rfl
@[simp ↓] theorem bld98 {q : List Value → List (Nat × Nat) → Prop} : goBld Tryd.prog 98 q = q [Go.Value.bool false, Go.Value.int Go.IntKind.i64 0, Go.Value.string { data := #[] }] [(0, 1), (1, 1), (2, 1)] := by simp [goBld, und98, zer98, placesL, Value.cells]
theorem agg99 : aggT Tryd.prog 99 = some true := by unfold aggT; rw [Tryd.underlying99]; rfl
@[simp] theorem siz99 : szT Tryd.prog 99 = some 10 := by unfold szT; rw [show Tryd.prog.info? 99 = some Tryd.t99 from Tryd.type99]; rfl
@[simp ↓] theorem ty99 {q : Bool → Nat → Prop} : goTy Tryd.prog 99 q = q true 10 := by simp only [goTy, agg99, siz99]
@[simp ↓] theorem sz99 {q : Nat → Prop} : goSz Tryd.prog 99 q = q 10 := by simp only [goSz, siz99]
theorem zer99 : zero? Tryd.prog 99 = some
  (Go.Value.agg
    #[Go.Value.int Go.IntKind.i64 0, Go.Value.slice none 0 0, Go.Value.int Go.IntKind.i64 0,
      Go.Value.int Go.IntKind.i64 0, Go.Value.bool false, Go.Value.int Go.IntKind.i64 0,
      Go.Value.string { data := #[] }, Go.Value.bool false, Go.Value.string { data := #[] }, Go.Value.bool false]) := by unfold zero?; rw [show Tryd.prog.info? 99 = some Tryd.t99 from Tryd.type99]; rfl
@[simp ↓] theorem z99 {q : List Value → Prop} : goZ Tryd.prog 99 q = q [Go.Value.int Go.IntKind.i64 0, Go.Value.slice none 0 0, Go.Value.int Go.IntKind.i64 0,
      Go.Value.int Go.IntKind.i64 0, Go.Value.bool false, Go.Value.int Go.IntKind.i64 0,
      Go.Value.string { data := #[] }, Go.Value.bool false, Go.Value.string { data := #[] }, Go.Value.bool false] := by simp [goZ, zer99, Value.cells]
@[simp] theorem und99 : Tryd.prog.underlying 99 = some (Go.TypeDesc.struct
  #[{ name := "at", type := 3, offset := 0, embedded := false, tag := "", pkgPath := "loop.example/kilndeed/spec",
      byteOffset := 0 },
    { name := "stack", type := 23, offset := 1, embedded := false, tag := "", pkgPath := "loop.example/kilndeed/spec",
      byteOffset := 8 },
    { name := "steps", type := 3, offset := 2, embedded := false, tag := "", pkgPath := "loop.example/kilndeed/spec",
      byteOffset := 32 },
    { name := "looks", type := 3, offset := 3, embedded := false, tag := "", pkgPath := "loop.example/kilndeed/spec",
      byteOffset := 40 },
    { name := "over", type := 4, offset := 4, embedded := false, tag := "", pkgPath := "loop.example/kilndeed/spec",
      byteOffset := 48 },
    { name := "code", type := 3, offset := 5, embedded := false, tag := "", pkgPath := "loop.example/kilndeed/spec",
      byteOffset := 56 },
    { name := "text", type := 9, offset := 6, embedded := false, tag := "", pkgPath := "loop.example/kilndeed/spec",
      byteOffset := 64 },
    { name := "ask", type := 4, offset := 7, embedded := false, tag := "", pkgPath := "loop.example/kilndeed/spec",
      byteOffset := 80 },
    { name := "name", type := 9, offset := 8, embedded := false, tag := "", pkgPath := "loop.example/kilndeed/spec",
      byteOffset := 88 },
    { name := "wait", type := 4, offset := 9, embedded := false, tag := "", pkgPath := "loop.example/kilndeed/spec",
      byteOffset := 104 }]) := opq Tryd.underlying99
@[simp ↓] theorem fld99_0 {q : Nat → TypeId → Prop} : goFld Tryd.prog 99 0 q = q 0 3 := by simp only [goFld, und99]; rfl
@[simp ↓] theorem fld99_1 {q : Nat → TypeId → Prop} : goFld Tryd.prog 99 1 q = q 1 23 := by simp only [goFld, und99]; rfl
@[simp ↓] theorem fld99_2 {q : Nat → TypeId → Prop} : goFld Tryd.prog 99 2 q = q 2 3 := by simp only [goFld, und99]; rfl
@[simp ↓] theorem fld99_3 {q : Nat → TypeId → Prop} : goFld Tryd.prog 99 3 q = q 3 3 := by simp only [goFld, und99]; rfl
@[simp ↓] theorem fld99_4 {q : Nat → TypeId → Prop} : goFld Tryd.prog 99 4 q = q 4 4 := by simp only [goFld, und99]; rfl
@[simp ↓] theorem fld99_5 {q : Nat → TypeId → Prop} : goFld Tryd.prog 99 5 q = q 5 3 := by simp only [goFld, und99]; rfl
@[simp ↓] theorem fld99_6 {q : Nat → TypeId → Prop} : goFld Tryd.prog 99 6 q = q 6 9 := by simp only [goFld, und99]; rfl
@[simp ↓] theorem fld99_7 {q : Nat → TypeId → Prop} : goFld Tryd.prog 99 7 q = q 7 4 := by simp only [goFld, und99]; rfl
@[simp ↓] theorem fld99_8 {q : Nat → TypeId → Prop} : goFld Tryd.prog 99 8 q = q 8 9 := by simp only [goFld, und99]; rfl
@[simp ↓] theorem fld99_9 {q : Nat → TypeId → Prop} : goFld Tryd.prog 99 9 q = q 9 4 := by simp only [goFld, und99]; rfl
@[simp ↓] theorem bld99 {q : List Value → List (Nat × Nat) → Prop} : goBld Tryd.prog 99 q = q [Go.Value.int Go.IntKind.i64 0, Go.Value.slice none 0 0, Go.Value.int Go.IntKind.i64 0,
      Go.Value.int Go.IntKind.i64 0, Go.Value.bool false, Go.Value.int Go.IntKind.i64 0,
      Go.Value.string { data := #[] }, Go.Value.bool false, Go.Value.string { data := #[] }, Go.Value.bool false] [(0, 1), (1, 1), (2, 1), (3, 1), (4, 1), (5, 1), (6, 1), (7, 1), (8, 1), (9, 1)] := by simp [goBld, und99, zer99, placesL, Value.cells]
theorem agg100 : aggT Tryd.prog 100 = some true := by unfold aggT; rw [Tryd.underlying100]; rfl
@[simp] theorem siz100 : szT Tryd.prog 100 = some 10 := by unfold szT; rw [show Tryd.prog.info? 100 = some Tryd.t100 from Tryd.type100]; rfl
@[simp ↓] theorem ty100 {q : Bool → Nat → Prop} : goTy Tryd.prog 100 q = q true 10 := by simp only [goTy, agg100, siz100]
@[simp ↓] theorem sz100 {q : Nat → Prop} : goSz Tryd.prog 100 q = q 10 := by simp only [goSz, siz100]
theorem zer100 : zero? Tryd.prog 100 = some
  (Go.Value.agg
    #[Go.Value.int Go.IntKind.i64 0, Go.Value.slice none 0 0, Go.Value.int Go.IntKind.i64 0,
      Go.Value.int Go.IntKind.i64 0, Go.Value.bool false, Go.Value.int Go.IntKind.i64 0,
      Go.Value.string { data := #[] }, Go.Value.bool false, Go.Value.string { data := #[] }, Go.Value.bool false]) := by unfold zero?; rw [show Tryd.prog.info? 100 = some Tryd.t100 from Tryd.type100]; rfl
@[simp ↓] theorem z100 {q : List Value → Prop} : goZ Tryd.prog 100 q = q [Go.Value.int Go.IntKind.i64 0, Go.Value.slice none 0 0, Go.Value.int Go.IntKind.i64 0,
      Go.Value.int Go.IntKind.i64 0, Go.Value.bool false, Go.Value.int Go.IntKind.i64 0,
      Go.Value.string { data := #[] }, Go.Value.bool false, Go.Value.string { data := #[] }, Go.Value.bool false] := by simp [goZ, zer100, Value.cells]
@[simp] theorem und100 : Tryd.prog.underlying 100 = some (Go.TypeDesc.struct
  #[{ name := "at", type := 3, offset := 0, embedded := false, tag := "", pkgPath := "loop.example/kilndeed/spec",
      byteOffset := 0 },
    { name := "stack", type := 23, offset := 1, embedded := false, tag := "", pkgPath := "loop.example/kilndeed/spec",
      byteOffset := 8 },
    { name := "steps", type := 3, offset := 2, embedded := false, tag := "", pkgPath := "loop.example/kilndeed/spec",
      byteOffset := 32 },
    { name := "looks", type := 3, offset := 3, embedded := false, tag := "", pkgPath := "loop.example/kilndeed/spec",
      byteOffset := 40 },
    { name := "over", type := 4, offset := 4, embedded := false, tag := "", pkgPath := "loop.example/kilndeed/spec",
      byteOffset := 48 },
    { name := "code", type := 3, offset := 5, embedded := false, tag := "", pkgPath := "loop.example/kilndeed/spec",
      byteOffset := 56 },
    { name := "text", type := 9, offset := 6, embedded := false, tag := "", pkgPath := "loop.example/kilndeed/spec",
      byteOffset := 64 },
    { name := "ask", type := 4, offset := 7, embedded := false, tag := "", pkgPath := "loop.example/kilndeed/spec",
      byteOffset := 80 },
    { name := "name", type := 9, offset := 8, embedded := false, tag := "", pkgPath := "loop.example/kilndeed/spec",
      byteOffset := 88 },
    { name := "wait", type := 4, offset := 9, embedded := false, tag := "", pkgPath := "loop.example/kilndeed/spec",
      byteOffset := 104 }]) := opq Tryd.underlying100
@[simp ↓] theorem fld100_0 {q : Nat → TypeId → Prop} : goFld Tryd.prog 100 0 q = q 0 3 := by simp only [goFld, und100]; rfl
@[simp ↓] theorem fld100_1 {q : Nat → TypeId → Prop} : goFld Tryd.prog 100 1 q = q 1 23 := by simp only [goFld, und100]; rfl
@[simp ↓] theorem fld100_2 {q : Nat → TypeId → Prop} : goFld Tryd.prog 100 2 q = q 2 3 := by simp only [goFld, und100]; rfl
@[simp ↓] theorem fld100_3 {q : Nat → TypeId → Prop} : goFld Tryd.prog 100 3 q = q 3 3 := by simp only [goFld, und100]; rfl
@[simp ↓] theorem fld100_4 {q : Nat → TypeId → Prop} : goFld Tryd.prog 100 4 q = q 4 4 := by simp only [goFld, und100]; rfl
@[simp ↓] theorem fld100_5 {q : Nat → TypeId → Prop} : goFld Tryd.prog 100 5 q = q 5 3 := by simp only [goFld, und100]; rfl
@[simp ↓] theorem fld100_6 {q : Nat → TypeId → Prop} : goFld Tryd.prog 100 6 q = q 6 9 := by simp only [goFld, und100]; rfl
@[simp ↓] theorem fld100_7 {q : Nat → TypeId → Prop} : goFld Tryd.prog 100 7 q = q 7 4 := by simp only [goFld, und100]; rfl
@[simp ↓] theorem fld100_8 {q : Nat → TypeId → Prop} : goFld Tryd.prog 100 8 q = q 8 9 := by simp only [goFld, und100]; rfl
@[simp ↓] theorem fld100_9 {q : Nat → TypeId → Prop} : goFld Tryd.prog 100 9 q = q 9 4 := by simp only [goFld, und100]; rfl
@[simp ↓] theorem bld100 {q : List Value → List (Nat × Nat) → Prop} : goBld Tryd.prog 100 q = q [Go.Value.int Go.IntKind.i64 0, Go.Value.slice none 0 0, Go.Value.int Go.IntKind.i64 0,
      Go.Value.int Go.IntKind.i64 0, Go.Value.bool false, Go.Value.int Go.IntKind.i64 0,
      Go.Value.string { data := #[] }, Go.Value.bool false, Go.Value.string { data := #[] }, Go.Value.bool false] [(0, 1), (1, 1), (2, 1), (3, 1), (4, 1), (5, 1), (6, 1), (7, 1), (8, 1), (9, 1)] := by simp [goBld, und100, zer100, placesL, Value.cells]
theorem agg101 : aggT Tryd.prog 101 = some false := by unfold aggT; rw [Tryd.underlying101]; rfl
@[simp] theorem siz101 : szT Tryd.prog 101 = some 1 := by unfold szT; rw [show Tryd.prog.info? 101 = some Tryd.t101 from Tryd.type101]; rfl
@[simp ↓] theorem ty101 {q : Bool → Nat → Prop} : goTy Tryd.prog 101 q = q false 1 := by simp only [goTy, agg101, siz101]
@[simp ↓] theorem sz101 {q : Nat → Prop} : goSz Tryd.prog 101 q = q 1 := by simp only [goSz, siz101]
theorem zer101 : zero? Tryd.prog 101 = some Go.Value.nilFunc := by unfold zero?; rw [show Tryd.prog.info? 101 = some Tryd.t101 from Tryd.type101]; rfl
@[simp ↓] theorem z101 {q : List Value → Prop} : goZ Tryd.prog 101 q = q [Go.Value.nilFunc] := by simp [goZ, zer101, Value.cells]
theorem agg102 : aggT Tryd.prog 102 = some false := by unfold aggT; rw [Tryd.underlying102]; rfl
@[simp] theorem siz102 : szT Tryd.prog 102 = some 1 := by unfold szT; rw [show Tryd.prog.info? 102 = some Tryd.t102 from Tryd.type102]; rfl
@[simp ↓] theorem ty102 {q : Bool → Nat → Prop} : goTy Tryd.prog 102 q = q false 1 := by simp only [goTy, agg102, siz102]
@[simp ↓] theorem sz102 {q : Nat → Prop} : goSz Tryd.prog 102 q = q 1 := by simp only [goSz, siz102]
theorem zer102 : zero? Tryd.prog 102 = some Go.Value.nilFunc := by unfold zero?; rw [show Tryd.prog.info? 102 = some Tryd.t102 from Tryd.type102]; rfl
@[simp ↓] theorem z102 {q : List Value → Prop} : goZ Tryd.prog 102 q = q [Go.Value.nilFunc] := by simp [goZ, zer102, Value.cells]
theorem agg103 : aggT Tryd.prog 103 = some false := by unfold aggT; rw [Tryd.underlying103]; rfl
@[simp] theorem siz103 : szT Tryd.prog 103 = some 1 := by unfold szT; rw [show Tryd.prog.info? 103 = some Tryd.t103 from Tryd.type103]; rfl
@[simp ↓] theorem ty103 {q : Bool → Nat → Prop} : goTy Tryd.prog 103 q = q false 1 := by simp only [goTy, agg103, siz103]
@[simp ↓] theorem sz103 {q : Nat → Prop} : goSz Tryd.prog 103 q = q 1 := by simp only [goSz, siz103]
theorem zer103 : zero? Tryd.prog 103 = some (Go.Value.pointer none) := by unfold zero?; rw [show Tryd.prog.info? 103 = some Tryd.t103 from Tryd.type103]; rfl
@[simp ↓] theorem z103 {q : List Value → Prop} : goZ Tryd.prog 103 q = q [(Go.Value.pointer none)] := by simp [goZ, zer103, Value.cells]
@[simp] theorem und103 : Tryd.prog.underlying 103 = some (Go.TypeDesc.pointer 105) := opq Tryd.underlying103
@[simp ↓] theorem un103 {q : TypeDesc → Prop} : goUnd Tryd.prog 103 q = q (Go.TypeDesc.pointer 105) := by simp only [goUnd, und103]
theorem agg104 : aggT Tryd.prog 104 = some true := by unfold aggT; rw [Tryd.underlying104]; rfl
@[simp] theorem siz104 : szT Tryd.prog 104 = some 11 := by unfold szT; rw [show Tryd.prog.info? 104 = some Tryd.t104 from Tryd.type104]; rfl
@[simp ↓] theorem ty104 {q : Bool → Nat → Prop} : goTy Tryd.prog 104 q = q true 11 := by simp only [goTy, agg104, siz104]
@[simp ↓] theorem sz104 {q : Nat → Prop} : goSz Tryd.prog 104 q = q 11 := by simp only [goSz, siz104]
theorem zer104 : zero? Tryd.prog 104 = some
  (Go.Value.agg
    #[Go.Value.slice none 0 0, Go.Value.slice none 0 0, Go.Value.int Go.IntKind.i64 0, Go.Value.int Go.IntKind.i64 0,
      Go.Value.int Go.IntKind.i64 0, Go.Value.bool false, Go.Value.int Go.IntKind.i64 0,
      Go.Value.string { data := #[] }, Go.Value.bool false, Go.Value.string { data := #[] },
      Go.Value.int Go.IntKind.i64 0]) := by unfold zero?; rw [show Tryd.prog.info? 104 = some Tryd.t104 from Tryd.type104]; rfl
@[simp ↓] theorem z104 {q : List Value → Prop} : goZ Tryd.prog 104 q = q [Go.Value.slice none 0 0, Go.Value.slice none 0 0, Go.Value.int Go.IntKind.i64 0, Go.Value.int Go.IntKind.i64 0,
      Go.Value.int Go.IntKind.i64 0, Go.Value.bool false, Go.Value.int Go.IntKind.i64 0,
      Go.Value.string { data := #[] }, Go.Value.bool false, Go.Value.string { data := #[] },
      Go.Value.int Go.IntKind.i64 0] := by simp [goZ, zer104, Value.cells]
@[simp] theorem und104 : Tryd.prog.underlying 104 = some (Go.TypeDesc.struct
  #[{ name := "code", type := 38, offset := 0, embedded := false, tag := "", pkgPath := "loop.example/kilndeed/impl",
      byteOffset := 0 },
    { name := "stack", type := 23, offset := 1, embedded := false, tag := "", pkgPath := "loop.example/kilndeed/impl",
      byteOffset := 24 },
    { name := "at", type := 3, offset := 2, embedded := false, tag := "", pkgPath := "loop.example/kilndeed/impl",
      byteOffset := 48 },
    { name := "steps", type := 3, offset := 3, embedded := false, tag := "", pkgPath := "loop.example/kilndeed/impl",
      byteOffset := 56 },
    { name := "looks", type := 3, offset := 4, embedded := false, tag := "", pkgPath := "loop.example/kilndeed/impl",
      byteOffset := 64 },
    { name := "turn", type := 47, offset := 5, embedded := false, tag := "", pkgPath := "loop.example/kilndeed/impl",
      byteOffset := 72 }]) := opq Tryd.underlying104
@[simp ↓] theorem fld104_0 {q : Nat → TypeId → Prop} : goFld Tryd.prog 104 0 q = q 0 38 := by simp only [goFld, und104]; rfl
@[simp ↓] theorem fld104_1 {q : Nat → TypeId → Prop} : goFld Tryd.prog 104 1 q = q 1 23 := by simp only [goFld, und104]; rfl
@[simp ↓] theorem fld104_2 {q : Nat → TypeId → Prop} : goFld Tryd.prog 104 2 q = q 2 3 := by simp only [goFld, und104]; rfl
@[simp ↓] theorem fld104_3 {q : Nat → TypeId → Prop} : goFld Tryd.prog 104 3 q = q 3 3 := by simp only [goFld, und104]; rfl
@[simp ↓] theorem fld104_4 {q : Nat → TypeId → Prop} : goFld Tryd.prog 104 4 q = q 4 3 := by simp only [goFld, und104]; rfl
@[simp ↓] theorem fld104_5 {q : Nat → TypeId → Prop} : goFld Tryd.prog 104 5 q = q 5 47 := by simp only [goFld, und104]; rfl
@[simp ↓] theorem bld104 {q : List Value → List (Nat × Nat) → Prop} : goBld Tryd.prog 104 q = q [Go.Value.slice none 0 0, Go.Value.slice none 0 0, Go.Value.int Go.IntKind.i64 0, Go.Value.int Go.IntKind.i64 0,
      Go.Value.int Go.IntKind.i64 0, Go.Value.bool false, Go.Value.int Go.IntKind.i64 0,
      Go.Value.string { data := #[] }, Go.Value.bool false, Go.Value.string { data := #[] },
      Go.Value.int Go.IntKind.i64 0] [(0, 1), (1, 1), (2, 1), (3, 1), (4, 1), (5, 6)] := by simp [goBld, und104, zer104, placesL, Value.cells]
theorem agg105 : aggT Tryd.prog 105 = some true := by unfold aggT; rw [Tryd.underlying105]; rfl
@[simp] theorem siz105 : szT Tryd.prog 105 = some 11 := by unfold szT; rw [show Tryd.prog.info? 105 = some Tryd.t105 from Tryd.type105]; rfl
@[simp ↓] theorem ty105 {q : Bool → Nat → Prop} : goTy Tryd.prog 105 q = q true 11 := by simp only [goTy, agg105, siz105]
@[simp ↓] theorem sz105 {q : Nat → Prop} : goSz Tryd.prog 105 q = q 11 := by simp only [goSz, siz105]
theorem zer105 : zero? Tryd.prog 105 = some
  (Go.Value.agg
    #[Go.Value.slice none 0 0, Go.Value.slice none 0 0, Go.Value.int Go.IntKind.i64 0, Go.Value.int Go.IntKind.i64 0,
      Go.Value.int Go.IntKind.i64 0, Go.Value.bool false, Go.Value.int Go.IntKind.i64 0,
      Go.Value.string { data := #[] }, Go.Value.bool false, Go.Value.string { data := #[] },
      Go.Value.int Go.IntKind.i64 0]) := by unfold zero?; rw [show Tryd.prog.info? 105 = some Tryd.t105 from Tryd.type105]; rfl
@[simp ↓] theorem z105 {q : List Value → Prop} : goZ Tryd.prog 105 q = q [Go.Value.slice none 0 0, Go.Value.slice none 0 0, Go.Value.int Go.IntKind.i64 0, Go.Value.int Go.IntKind.i64 0,
      Go.Value.int Go.IntKind.i64 0, Go.Value.bool false, Go.Value.int Go.IntKind.i64 0,
      Go.Value.string { data := #[] }, Go.Value.bool false, Go.Value.string { data := #[] },
      Go.Value.int Go.IntKind.i64 0] := by simp [goZ, zer105, Value.cells]
@[simp] theorem und105 : Tryd.prog.underlying 105 = some (Go.TypeDesc.struct
  #[{ name := "code", type := 38, offset := 0, embedded := false, tag := "", pkgPath := "loop.example/kilndeed/impl",
      byteOffset := 0 },
    { name := "stack", type := 23, offset := 1, embedded := false, tag := "", pkgPath := "loop.example/kilndeed/impl",
      byteOffset := 24 },
    { name := "at", type := 3, offset := 2, embedded := false, tag := "", pkgPath := "loop.example/kilndeed/impl",
      byteOffset := 48 },
    { name := "steps", type := 3, offset := 3, embedded := false, tag := "", pkgPath := "loop.example/kilndeed/impl",
      byteOffset := 56 },
    { name := "looks", type := 3, offset := 4, embedded := false, tag := "", pkgPath := "loop.example/kilndeed/impl",
      byteOffset := 64 },
    { name := "turn", type := 47, offset := 5, embedded := false, tag := "", pkgPath := "loop.example/kilndeed/impl",
      byteOffset := 72 }]) := opq Tryd.underlying105
@[simp ↓] theorem fld105_0 {q : Nat → TypeId → Prop} : goFld Tryd.prog 105 0 q = q 0 38 := by simp only [goFld, und105]; rfl
@[simp ↓] theorem fld105_1 {q : Nat → TypeId → Prop} : goFld Tryd.prog 105 1 q = q 1 23 := by simp only [goFld, und105]; rfl
@[simp ↓] theorem fld105_2 {q : Nat → TypeId → Prop} : goFld Tryd.prog 105 2 q = q 2 3 := by simp only [goFld, und105]; rfl
@[simp ↓] theorem fld105_3 {q : Nat → TypeId → Prop} : goFld Tryd.prog 105 3 q = q 3 3 := by simp only [goFld, und105]; rfl
@[simp ↓] theorem fld105_4 {q : Nat → TypeId → Prop} : goFld Tryd.prog 105 4 q = q 4 3 := by simp only [goFld, und105]; rfl
@[simp ↓] theorem fld105_5 {q : Nat → TypeId → Prop} : goFld Tryd.prog 105 5 q = q 5 47 := by simp only [goFld, und105]; rfl
@[simp ↓] theorem bld105 {q : List Value → List (Nat × Nat) → Prop} : goBld Tryd.prog 105 q = q [Go.Value.slice none 0 0, Go.Value.slice none 0 0, Go.Value.int Go.IntKind.i64 0, Go.Value.int Go.IntKind.i64 0,
      Go.Value.int Go.IntKind.i64 0, Go.Value.bool false, Go.Value.int Go.IntKind.i64 0,
      Go.Value.string { data := #[] }, Go.Value.bool false, Go.Value.string { data := #[] },
      Go.Value.int Go.IntKind.i64 0] [(0, 1), (1, 1), (2, 1), (3, 1), (4, 1), (5, 6)] := by simp [goBld, und105, zer105, placesL, Value.cells]
theorem agg106 : aggT Tryd.prog 106 = some false := by unfold aggT; rw [Tryd.underlying106]; rfl
@[simp] theorem siz106 : szT Tryd.prog 106 = some 1 := by unfold szT; rw [show Tryd.prog.info? 106 = some Tryd.t106 from Tryd.type106]; rfl
@[simp ↓] theorem ty106 {q : Bool → Nat → Prop} : goTy Tryd.prog 106 q = q false 1 := by simp only [goTy, agg106, siz106]
@[simp ↓] theorem sz106 {q : Nat → Prop} : goSz Tryd.prog 106 q = q 1 := by simp only [goSz, siz106]
theorem zer106 : zero? Tryd.prog 106 = some Go.Value.nilFunc := by unfold zero?; rw [show Tryd.prog.info? 106 = some Tryd.t106 from Tryd.type106]; rfl
@[simp ↓] theorem z106 {q : List Value → Prop} : goZ Tryd.prog 106 q = q [Go.Value.nilFunc] := by simp [goZ, zer106, Value.cells]
theorem agg107 : aggT Tryd.prog 107 = some false := by unfold aggT; rw [Tryd.underlying107]; rfl
@[simp] theorem siz107 : szT Tryd.prog 107 = some 1 := by unfold szT; rw [show Tryd.prog.info? 107 = some Tryd.t107 from Tryd.type107]; rfl
@[simp ↓] theorem ty107 {q : Bool → Nat → Prop} : goTy Tryd.prog 107 q = q false 1 := by simp only [goTy, agg107, siz107]
@[simp ↓] theorem sz107 {q : Nat → Prop} : goSz Tryd.prog 107 q = q 1 := by simp only [goSz, siz107]
theorem zer107 : zero? Tryd.prog 107 = some Go.Value.nilFunc := by unfold zero?; rw [show Tryd.prog.info? 107 = some Tryd.t107 from Tryd.type107]; rfl
@[simp ↓] theorem z107 {q : List Value → Prop} : goZ Tryd.prog 107 q = q [Go.Value.nilFunc] := by simp [goZ, zer107, Value.cells]
theorem agg108 : aggT Tryd.prog 108 = some false := by unfold aggT; rw [Tryd.underlying108]; rfl
@[simp] theorem siz108 : szT Tryd.prog 108 = some 1 := by unfold szT; rw [show Tryd.prog.info? 108 = some Tryd.t108 from Tryd.type108]; rfl
@[simp ↓] theorem ty108 {q : Bool → Nat → Prop} : goTy Tryd.prog 108 q = q false 1 := by simp only [goTy, agg108, siz108]
@[simp ↓] theorem sz108 {q : Nat → Prop} : goSz Tryd.prog 108 q = q 1 := by simp only [goSz, siz108]
theorem zer108 : zero? Tryd.prog 108 = some Go.Value.nilFunc := by unfold zero?; rw [show Tryd.prog.info? 108 = some Tryd.t108 from Tryd.type108]; rfl
@[simp ↓] theorem z108 {q : List Value → Prop} : goZ Tryd.prog 108 q = q [Go.Value.nilFunc] := by simp [goZ, zer108, Value.cells]
theorem agg109 : aggT Tryd.prog 109 = some false := by unfold aggT; rw [Tryd.underlying109]; rfl
@[simp] theorem siz109 : szT Tryd.prog 109 = some 1 := by unfold szT; rw [show Tryd.prog.info? 109 = some Tryd.t109 from Tryd.type109]; rfl
@[simp ↓] theorem ty109 {q : Bool → Nat → Prop} : goTy Tryd.prog 109 q = q false 1 := by simp only [goTy, agg109, siz109]
@[simp ↓] theorem sz109 {q : Nat → Prop} : goSz Tryd.prog 109 q = q 1 := by simp only [goSz, siz109]
theorem zer109 : zero? Tryd.prog 109 = some Go.Value.nilFunc := by unfold zero?; rw [show Tryd.prog.info? 109 = some Tryd.t109 from Tryd.type109]; rfl
@[simp ↓] theorem z109 {q : List Value → Prop} : goZ Tryd.prog 109 q = q [Go.Value.nilFunc] := by simp [goZ, zer109, Value.cells]
theorem agg110 : aggT Tryd.prog 110 = some false := by unfold aggT; rw [Tryd.underlying110]; rfl
@[simp] theorem siz110 : szT Tryd.prog 110 = some 1 := by unfold szT; rw [show Tryd.prog.info? 110 = some Tryd.t110 from Tryd.type110]; rfl
@[simp ↓] theorem ty110 {q : Bool → Nat → Prop} : goTy Tryd.prog 110 q = q false 1 := by simp only [goTy, agg110, siz110]
@[simp ↓] theorem sz110 {q : Nat → Prop} : goSz Tryd.prog 110 q = q 1 := by simp only [goSz, siz110]
theorem zer110 : zero? Tryd.prog 110 = some Go.Value.nilFunc := by unfold zero?; rw [show Tryd.prog.info? 110 = some Tryd.t110 from Tryd.type110]; rfl
@[simp ↓] theorem z110 {q : List Value → Prop} : goZ Tryd.prog 110 q = q [Go.Value.nilFunc] := by simp [goZ, zer110, Value.cells]
theorem agg111 : aggT Tryd.prog 111 = some false := by unfold aggT; rw [Tryd.underlying111]; rfl
@[simp] theorem siz111 : szT Tryd.prog 111 = some 1 := by unfold szT; rw [show Tryd.prog.info? 111 = some Tryd.t111 from Tryd.type111]; rfl
@[simp ↓] theorem ty111 {q : Bool → Nat → Prop} : goTy Tryd.prog 111 q = q false 1 := by simp only [goTy, agg111, siz111]
@[simp ↓] theorem sz111 {q : Nat → Prop} : goSz Tryd.prog 111 q = q 1 := by simp only [goSz, siz111]
theorem zer111 : zero? Tryd.prog 111 = some (Go.Value.slice none 0 0) := by unfold zero?; rw [show Tryd.prog.info? 111 = some Tryd.t111 from Tryd.type111]; rfl
@[simp ↓] theorem z111 {q : List Value → Prop} : goZ Tryd.prog 111 q = q [(Go.Value.slice none 0 0)] := by simp [goZ, zer111, Value.cells]
@[simp] theorem und111 : Tryd.prog.underlying 111 = some (Go.TypeDesc.slice 118) := opq Tryd.underlying111
@[simp ↓] theorem un111 {q : TypeDesc → Prop} : goUnd Tryd.prog 111 q = q (Go.TypeDesc.slice 118) := by simp only [goUnd, und111]
theorem slt111 : SlT Tryd.prog 111 118 4 32 := ⟨Tryd.underlying111, ⟨Tryd.t118, _, Tryd.type118, rfl, rfl, rfl, by simp, rfl⟩, by decide⟩
@[simp ↓] theorem sl111 {q : TypeId → Nat → List Value → Prop} : goSl Tryd.prog 111 q = q 118 4 [Go.Value.string { data := #[] }, Go.Value.bool false, Go.Value.bool false, Go.Value.int Go.IntKind.i64 0] := by simp [goSl, und111, show zero? Tryd.prog 118 = some
  (Go.Value.agg
    #[Go.Value.string { data := #[] }, Go.Value.bool false, Go.Value.bool false, Go.Value.int Go.IntKind.i64 0]) from by unfold zero?; rw [show Tryd.prog.info? 118 = some Tryd.t118 from Tryd.type118]; rfl, show szT Tryd.prog 118 = some 4 from by unfold szT; rw [show Tryd.prog.info? 118 = some Tryd.t118 from Tryd.type118]; rfl, Value.cells]
theorem agg112 : aggT Tryd.prog 112 = some true := by unfold aggT; rw [Tryd.underlying112]; rfl
@[simp] theorem siz112 : szT Tryd.prog 112 = some 6 := by unfold szT; rw [show Tryd.prog.info? 112 = some Tryd.t112 from Tryd.type112]; rfl
@[simp ↓] theorem ty112 {q : Bool → Nat → Prop} : goTy Tryd.prog 112 q = q true 6 := by simp only [goTy, agg112, siz112]
@[simp ↓] theorem sz112 {q : Nat → Prop} : goSz Tryd.prog 112 q = q 6 := by simp only [goSz, siz112]
theorem zer112 : zero? Tryd.prog 112 = some
  (Go.Value.agg
    #[Go.Value.string { data := #[] }, Go.Value.int Go.IntKind.i64 0, Go.Value.int Go.IntKind.i64 0,
      Go.Value.string { data := #[] }, Go.Value.slice none 0 0, Go.Value.slice none 0 0]) := by unfold zero?; rw [show Tryd.prog.info? 112 = some Tryd.t112 from Tryd.type112]; rfl
@[simp ↓] theorem z112 {q : List Value → Prop} : goZ Tryd.prog 112 q = q [Go.Value.string { data := #[] }, Go.Value.int Go.IntKind.i64 0, Go.Value.int Go.IntKind.i64 0,
      Go.Value.string { data := #[] }, Go.Value.slice none 0 0, Go.Value.slice none 0 0] := by simp [goZ, zer112, Value.cells]
@[simp] theorem und112 : Tryd.prog.underlying 112 = some (Go.TypeDesc.struct
  #[{ name := "Name", type := 9, offset := 0, embedded := false, tag := "", pkgPath := "", byteOffset := 0 },
    { name := "Kind", type := 3, offset := 1, embedded := false, tag := "", pkgPath := "", byteOffset := 16 },
    { name := "Code", type := 3, offset := 2, embedded := false, tag := "", pkgPath := "", byteOffset := 24 },
    { name := "Text", type := 9, offset := 3, embedded := false, tag := "", pkgPath := "", byteOffset := 32 },
    { name := "Action", type := 40, offset := 4, embedded := false, tag := "", pkgPath := "", byteOffset := 48 },
    { name := "Links", type := 111, offset := 5, embedded := false, tag := "", pkgPath := "", byteOffset := 72 }]) := opq Tryd.underlying112
@[simp ↓] theorem fld112_0 {q : Nat → TypeId → Prop} : goFld Tryd.prog 112 0 q = q 0 9 := by simp only [goFld, und112]; rfl
@[simp ↓] theorem fld112_1 {q : Nat → TypeId → Prop} : goFld Tryd.prog 112 1 q = q 1 3 := by simp only [goFld, und112]; rfl
@[simp ↓] theorem fld112_2 {q : Nat → TypeId → Prop} : goFld Tryd.prog 112 2 q = q 2 3 := by simp only [goFld, und112]; rfl
@[simp ↓] theorem fld112_3 {q : Nat → TypeId → Prop} : goFld Tryd.prog 112 3 q = q 3 9 := by simp only [goFld, und112]; rfl
@[simp ↓] theorem fld112_4 {q : Nat → TypeId → Prop} : goFld Tryd.prog 112 4 q = q 4 40 := by simp only [goFld, und112]; rfl
@[simp ↓] theorem fld112_5 {q : Nat → TypeId → Prop} : goFld Tryd.prog 112 5 q = q 5 111 := by simp only [goFld, und112]; rfl
@[simp ↓] theorem bld112 {q : List Value → List (Nat × Nat) → Prop} : goBld Tryd.prog 112 q = q [Go.Value.string { data := #[] }, Go.Value.int Go.IntKind.i64 0, Go.Value.int Go.IntKind.i64 0,
      Go.Value.string { data := #[] }, Go.Value.slice none 0 0, Go.Value.slice none 0 0] [(0, 1), (1, 1), (2, 1), (3, 1), (4, 1), (5, 1)] := by simp [goBld, und112, zer112, placesL, Value.cells]
theorem agg113 : aggT Tryd.prog 113 = some true := by unfold aggT; rw [Tryd.underlying113]; rfl
@[simp] theorem siz113 : szT Tryd.prog 113 = some 6 := by unfold szT; rw [show Tryd.prog.info? 113 = some Tryd.t113 from Tryd.type113]; rfl
@[simp ↓] theorem ty113 {q : Bool → Nat → Prop} : goTy Tryd.prog 113 q = q true 6 := by simp only [goTy, agg113, siz113]
@[simp ↓] theorem sz113 {q : Nat → Prop} : goSz Tryd.prog 113 q = q 6 := by simp only [goSz, siz113]
theorem zer113 : zero? Tryd.prog 113 = some
  (Go.Value.agg
    #[Go.Value.string { data := #[] }, Go.Value.int Go.IntKind.i64 0, Go.Value.int Go.IntKind.i64 0,
      Go.Value.string { data := #[] }, Go.Value.slice none 0 0, Go.Value.slice none 0 0]) := by unfold zero?; rw [show Tryd.prog.info? 113 = some Tryd.t113 from Tryd.type113]; rfl
@[simp ↓] theorem z113 {q : List Value → Prop} : goZ Tryd.prog 113 q = q [Go.Value.string { data := #[] }, Go.Value.int Go.IntKind.i64 0, Go.Value.int Go.IntKind.i64 0,
      Go.Value.string { data := #[] }, Go.Value.slice none 0 0, Go.Value.slice none 0 0] := by simp [goZ, zer113, Value.cells]
@[simp] theorem und113 : Tryd.prog.underlying 113 = some (Go.TypeDesc.struct
  #[{ name := "Name", type := 9, offset := 0, embedded := false, tag := "", pkgPath := "", byteOffset := 0 },
    { name := "Kind", type := 3, offset := 1, embedded := false, tag := "", pkgPath := "", byteOffset := 16 },
    { name := "Code", type := 3, offset := 2, embedded := false, tag := "", pkgPath := "", byteOffset := 24 },
    { name := "Text", type := 9, offset := 3, embedded := false, tag := "", pkgPath := "", byteOffset := 32 },
    { name := "Action", type := 40, offset := 4, embedded := false, tag := "", pkgPath := "", byteOffset := 48 },
    { name := "Links", type := 111, offset := 5, embedded := false, tag := "", pkgPath := "", byteOffset := 72 }]) := opq Tryd.underlying113
@[simp ↓] theorem fld113_0 {q : Nat → TypeId → Prop} : goFld Tryd.prog 113 0 q = q 0 9 := by simp only [goFld, und113]; rfl
@[simp ↓] theorem fld113_1 {q : Nat → TypeId → Prop} : goFld Tryd.prog 113 1 q = q 1 3 := by simp only [goFld, und113]; rfl
@[simp ↓] theorem fld113_2 {q : Nat → TypeId → Prop} : goFld Tryd.prog 113 2 q = q 2 3 := by simp only [goFld, und113]; rfl
@[simp ↓] theorem fld113_3 {q : Nat → TypeId → Prop} : goFld Tryd.prog 113 3 q = q 3 9 := by simp only [goFld, und113]; rfl
@[simp ↓] theorem fld113_4 {q : Nat → TypeId → Prop} : goFld Tryd.prog 113 4 q = q 4 40 := by simp only [goFld, und113]; rfl
@[simp ↓] theorem fld113_5 {q : Nat → TypeId → Prop} : goFld Tryd.prog 113 5 q = q 5 111 := by simp only [goFld, und113]; rfl
@[simp ↓] theorem bld113 {q : List Value → List (Nat × Nat) → Prop} : goBld Tryd.prog 113 q = q [Go.Value.string { data := #[] }, Go.Value.int Go.IntKind.i64 0, Go.Value.int Go.IntKind.i64 0,
      Go.Value.string { data := #[] }, Go.Value.slice none 0 0, Go.Value.slice none 0 0] [(0, 1), (1, 1), (2, 1), (3, 1), (4, 1), (5, 1)] := by simp [goBld, und113, zer113, placesL, Value.cells]
theorem agg114 : aggT Tryd.prog 114 = some false := by unfold aggT; rw [Tryd.underlying114]; rfl
@[simp] theorem siz114 : szT Tryd.prog 114 = some 1 := by unfold szT; rw [show Tryd.prog.info? 114 = some Tryd.t114 from Tryd.type114]; rfl
@[simp ↓] theorem ty114 {q : Bool → Nat → Prop} : goTy Tryd.prog 114 q = q false 1 := by simp only [goTy, agg114, siz114]
@[simp ↓] theorem sz114 {q : Nat → Prop} : goSz Tryd.prog 114 q = q 1 := by simp only [goSz, siz114]
theorem zer114 : zero? Tryd.prog 114 = some Go.Value.nilFunc := by unfold zero?; rw [show Tryd.prog.info? 114 = some Tryd.t114 from Tryd.type114]; rfl
@[simp ↓] theorem z114 {q : List Value → Prop} : goZ Tryd.prog 114 q = q [Go.Value.nilFunc] := by simp [goZ, zer114, Value.cells]
theorem agg115 : aggT Tryd.prog 115 = some false := by unfold aggT; rw [Tryd.underlying115]; rfl
@[simp] theorem siz115 : szT Tryd.prog 115 = some 1 := by unfold szT; rw [show Tryd.prog.info? 115 = some Tryd.t115 from Tryd.type115]; rfl
@[simp ↓] theorem ty115 {q : Bool → Nat → Prop} : goTy Tryd.prog 115 q = q false 1 := by simp only [goTy, agg115, siz115]
@[simp ↓] theorem sz115 {q : Nat → Prop} : goSz Tryd.prog 115 q = q 1 := by simp only [goSz, siz115]
theorem zer115 : zero? Tryd.prog 115 = some Go.Value.nilFunc := by unfold zero?; rw [show Tryd.prog.info? 115 = some Tryd.t115 from Tryd.type115]; rfl
@[simp ↓] theorem z115 {q : List Value → Prop} : goZ Tryd.prog 115 q = q [Go.Value.nilFunc] := by simp [goZ, zer115, Value.cells]
theorem agg116 : aggT Tryd.prog 116 = some false := by unfold aggT; rw [Tryd.underlying116]; rfl
@[simp] theorem siz116 : szT Tryd.prog 116 = some 1 := by unfold szT; rw [show Tryd.prog.info? 116 = some Tryd.t116 from Tryd.type116]; rfl
@[simp ↓] theorem ty116 {q : Bool → Nat → Prop} : goTy Tryd.prog 116 q = q false 1 := by simp only [goTy, agg116, siz116]
@[simp ↓] theorem sz116 {q : Nat → Prop} : goSz Tryd.prog 116 q = q 1 := by simp only [goSz, siz116]
theorem zer116 : zero? Tryd.prog 116 = some Go.Value.nilFunc := by unfold zero?; rw [show Tryd.prog.info? 116 = some Tryd.t116 from Tryd.type116]; rfl
@[simp ↓] theorem z116 {q : List Value → Prop} : goZ Tryd.prog 116 q = q [Go.Value.nilFunc] := by simp [goZ, zer116, Value.cells]
theorem agg117 : aggT Tryd.prog 117 = some true := by unfold aggT; rw [Tryd.underlying117]; rfl
@[simp] theorem siz117 : szT Tryd.prog 117 = some 4 := by unfold szT; rw [show Tryd.prog.info? 117 = some Tryd.t117 from Tryd.type117]; rfl
@[simp ↓] theorem ty117 {q : Bool → Nat → Prop} : goTy Tryd.prog 117 q = q true 4 := by simp only [goTy, agg117, siz117]
@[simp ↓] theorem sz117 {q : Nat → Prop} : goSz Tryd.prog 117 q = q 4 := by simp only [goSz, siz117]
theorem zer117 : zero? Tryd.prog 117 = some
  (Go.Value.agg
    #[Go.Value.string { data := #[] }, Go.Value.bool false, Go.Value.bool false, Go.Value.int Go.IntKind.i64 0]) := by unfold zero?; rw [show Tryd.prog.info? 117 = some Tryd.t117 from Tryd.type117]; rfl
@[simp ↓] theorem z117 {q : List Value → Prop} : goZ Tryd.prog 117 q = q [Go.Value.string { data := #[] }, Go.Value.bool false, Go.Value.bool false, Go.Value.int Go.IntKind.i64 0] := by simp [goZ, zer117, Value.cells]
@[simp] theorem und117 : Tryd.prog.underlying 117 = some (Go.TypeDesc.struct
  #[{ name := "Name", type := 9, offset := 0, embedded := false, tag := "", pkgPath := "", byteOffset := 0 },
    { name := "Ask", type := 4, offset := 1, embedded := false, tag := "", pkgPath := "", byteOffset := 16 },
    { name := "Has", type := 4, offset := 2, embedded := false, tag := "", pkgPath := "", byteOffset := 17 },
    { name := "At", type := 3, offset := 3, embedded := false, tag := "", pkgPath := "", byteOffset := 24 }]) := opq Tryd.underlying117
@[simp ↓] theorem fld117_0 {q : Nat → TypeId → Prop} : goFld Tryd.prog 117 0 q = q 0 9 := by simp only [goFld, und117]; rfl
@[simp ↓] theorem fld117_1 {q : Nat → TypeId → Prop} : goFld Tryd.prog 117 1 q = q 1 4 := by simp only [goFld, und117]; rfl
@[simp ↓] theorem fld117_2 {q : Nat → TypeId → Prop} : goFld Tryd.prog 117 2 q = q 2 4 := by simp only [goFld, und117]; rfl
@[simp ↓] theorem fld117_3 {q : Nat → TypeId → Prop} : goFld Tryd.prog 117 3 q = q 3 3 := by simp only [goFld, und117]; rfl
@[simp ↓] theorem bld117 {q : List Value → List (Nat × Nat) → Prop} : goBld Tryd.prog 117 q = q [Go.Value.string { data := #[] }, Go.Value.bool false, Go.Value.bool false, Go.Value.int Go.IntKind.i64 0] [(0, 1), (1, 1), (2, 1), (3, 1)] := by simp [goBld, und117, zer117, placesL, Value.cells]
theorem agg118 : aggT Tryd.prog 118 = some true := by unfold aggT; rw [Tryd.underlying118]; rfl
@[simp] theorem siz118 : szT Tryd.prog 118 = some 4 := by unfold szT; rw [show Tryd.prog.info? 118 = some Tryd.t118 from Tryd.type118]; rfl
@[simp ↓] theorem ty118 {q : Bool → Nat → Prop} : goTy Tryd.prog 118 q = q true 4 := by simp only [goTy, agg118, siz118]
@[simp ↓] theorem sz118 {q : Nat → Prop} : goSz Tryd.prog 118 q = q 4 := by simp only [goSz, siz118]
theorem zer118 : zero? Tryd.prog 118 = some
  (Go.Value.agg
    #[Go.Value.string { data := #[] }, Go.Value.bool false, Go.Value.bool false, Go.Value.int Go.IntKind.i64 0]) := by unfold zero?; rw [show Tryd.prog.info? 118 = some Tryd.t118 from Tryd.type118]; rfl
@[simp ↓] theorem z118 {q : List Value → Prop} : goZ Tryd.prog 118 q = q [Go.Value.string { data := #[] }, Go.Value.bool false, Go.Value.bool false, Go.Value.int Go.IntKind.i64 0] := by simp [goZ, zer118, Value.cells]
@[simp] theorem und118 : Tryd.prog.underlying 118 = some (Go.TypeDesc.struct
  #[{ name := "Name", type := 9, offset := 0, embedded := false, tag := "", pkgPath := "", byteOffset := 0 },
    { name := "Ask", type := 4, offset := 1, embedded := false, tag := "", pkgPath := "", byteOffset := 16 },
    { name := "Has", type := 4, offset := 2, embedded := false, tag := "", pkgPath := "", byteOffset := 17 },
    { name := "At", type := 3, offset := 3, embedded := false, tag := "", pkgPath := "", byteOffset := 24 }]) := opq Tryd.underlying118
@[simp ↓] theorem fld118_0 {q : Nat → TypeId → Prop} : goFld Tryd.prog 118 0 q = q 0 9 := by simp only [goFld, und118]; rfl
@[simp ↓] theorem fld118_1 {q : Nat → TypeId → Prop} : goFld Tryd.prog 118 1 q = q 1 4 := by simp only [goFld, und118]; rfl
@[simp ↓] theorem fld118_2 {q : Nat → TypeId → Prop} : goFld Tryd.prog 118 2 q = q 2 4 := by simp only [goFld, und118]; rfl
@[simp ↓] theorem fld118_3 {q : Nat → TypeId → Prop} : goFld Tryd.prog 118 3 q = q 3 3 := by simp only [goFld, und118]; rfl
@[simp ↓] theorem bld118 {q : List Value → List (Nat × Nat) → Prop} : goBld Tryd.prog 118 q = q [Go.Value.string { data := #[] }, Go.Value.bool false, Go.Value.bool false, Go.Value.int Go.IntKind.i64 0] [(0, 1), (1, 1), (2, 1), (3, 1)] := by simp [goBld, und118, zer118, placesL, Value.cells]
theorem agg119 : aggT Tryd.prog 119 = some false := by unfold aggT; rw [Tryd.underlying119]; rfl
@[simp] theorem siz119 : szT Tryd.prog 119 = some 1 := by unfold szT; rw [show Tryd.prog.info? 119 = some Tryd.t119 from Tryd.type119]; rfl
@[simp ↓] theorem ty119 {q : Bool → Nat → Prop} : goTy Tryd.prog 119 q = q false 1 := by simp only [goTy, agg119, siz119]
@[simp ↓] theorem sz119 {q : Nat → Prop} : goSz Tryd.prog 119 q = q 1 := by simp only [goSz, siz119]
theorem zer119 : zero? Tryd.prog 119 = some Go.Value.nilFunc := by unfold zero?; rw [show Tryd.prog.info? 119 = some Tryd.t119 from Tryd.type119]; rfl
@[simp ↓] theorem z119 {q : List Value → Prop} : goZ Tryd.prog 119 q = q [Go.Value.nilFunc] := by simp [goZ, zer119, Value.cells]
theorem agg120 : aggT Tryd.prog 120 = some false := by unfold aggT; rw [Tryd.underlying120]; rfl
@[simp] theorem siz120 : szT Tryd.prog 120 = some 1 := by unfold szT; rw [show Tryd.prog.info? 120 = some Tryd.t120 from Tryd.type120]; rfl
@[simp ↓] theorem ty120 {q : Bool → Nat → Prop} : goTy Tryd.prog 120 q = q false 1 := by simp only [goTy, agg120, siz120]
@[simp ↓] theorem sz120 {q : Nat → Prop} : goSz Tryd.prog 120 q = q 1 := by simp only [goSz, siz120]
theorem zer120 : zero? Tryd.prog 120 = some Go.Value.nilFunc := by unfold zero?; rw [show Tryd.prog.info? 120 = some Tryd.t120 from Tryd.type120]; rfl
@[simp ↓] theorem z120 {q : List Value → Prop} : goZ Tryd.prog 120 q = q [Go.Value.nilFunc] := by simp [goZ, zer120, Value.cells]
theorem agg121 : aggT Tryd.prog 121 = some false := by unfold aggT; rw [Tryd.underlying121]; rfl
@[simp] theorem siz121 : szT Tryd.prog 121 = some 1 := by unfold szT; rw [show Tryd.prog.info? 121 = some Tryd.t121 from Tryd.type121]; rfl
@[simp ↓] theorem ty121 {q : Bool → Nat → Prop} : goTy Tryd.prog 121 q = q false 1 := by simp only [goTy, agg121, siz121]
@[simp ↓] theorem sz121 {q : Nat → Prop} : goSz Tryd.prog 121 q = q 1 := by simp only [goSz, siz121]
theorem zer121 : zero? Tryd.prog 121 = some Go.Value.nilFunc := by unfold zero?; rw [show Tryd.prog.info? 121 = some Tryd.t121 from Tryd.type121]; rfl
@[simp ↓] theorem z121 {q : List Value → Prop} : goZ Tryd.prog 121 q = q [Go.Value.nilFunc] := by simp [goZ, zer121, Value.cells]
theorem agg123 : aggT Tryd.prog 123 = some false := by unfold aggT; rw [Tryd.underlying123]; rfl
@[simp] theorem siz123 : szT Tryd.prog 123 = some 1 := by unfold szT; rw [show Tryd.prog.info? 123 = some Tryd.t123 from Tryd.type123]; rfl
@[simp ↓] theorem ty123 {q : Bool → Nat → Prop} : goTy Tryd.prog 123 q = q false 1 := by simp only [goTy, agg123, siz123]
@[simp ↓] theorem sz123 {q : Nat → Prop} : goSz Tryd.prog 123 q = q 1 := by simp only [goSz, siz123]
theorem zer123 : zero? Tryd.prog 123 = some Go.Value.nilFunc := by unfold zero?; rw [show Tryd.prog.info? 123 = some Tryd.t123 from Tryd.type123]; rfl
@[simp ↓] theorem z123 {q : List Value → Prop} : goZ Tryd.prog 123 q = q [Go.Value.nilFunc] := by simp [goZ, zer123, Value.cells]
theorem agg125 : aggT Tryd.prog 125 = some false := by unfold aggT; rw [Tryd.underlying125]; rfl
@[simp] theorem siz125 : szT Tryd.prog 125 = some 1 := by unfold szT; rw [show Tryd.prog.info? 125 = some Tryd.t125 from Tryd.type125]; rfl
@[simp ↓] theorem ty125 {q : Bool → Nat → Prop} : goTy Tryd.prog 125 q = q false 1 := by simp only [goTy, agg125, siz125]
@[simp ↓] theorem sz125 {q : Nat → Prop} : goSz Tryd.prog 125 q = q 1 := by simp only [goSz, siz125]
theorem zer125 : zero? Tryd.prog 125 = some Go.Value.nilFunc := by unfold zero?; rw [show Tryd.prog.info? 125 = some Tryd.t125 from Tryd.type125]; rfl
@[simp ↓] theorem z125 {q : List Value → Prop} : goZ Tryd.prog 125 q = q [Go.Value.nilFunc] := by simp [goZ, zer125, Value.cells]
theorem agg126 : aggT Tryd.prog 126 = some false := by unfold aggT; rw [Tryd.underlying126]; rfl
@[simp] theorem siz126 : szT Tryd.prog 126 = some 1 := by unfold szT; rw [show Tryd.prog.info? 126 = some Tryd.t126 from Tryd.type126]; rfl
@[simp ↓] theorem ty126 {q : Bool → Nat → Prop} : goTy Tryd.prog 126 q = q false 1 := by simp only [goTy, agg126, siz126]
@[simp ↓] theorem sz126 {q : Nat → Prop} : goSz Tryd.prog 126 q = q 1 := by simp only [goSz, siz126]
theorem zer126 : zero? Tryd.prog 126 = some Go.Value.nilFunc := by unfold zero?; rw [show Tryd.prog.info? 126 = some Tryd.t126 from Tryd.type126]; rfl
@[simp ↓] theorem z126 {q : List Value → Prop} : goZ Tryd.prog 126 q = q [Go.Value.nilFunc] := by simp [goZ, zer126, Value.cells]
theorem agg127 : aggT Tryd.prog 127 = some true := by unfold aggT; rw [Tryd.underlying127]; rfl
@[simp] theorem siz127 : szT Tryd.prog 127 = some 2 := by unfold szT; rw [show Tryd.prog.info? 127 = some Tryd.t127 from Tryd.type127]; rfl
@[simp ↓] theorem ty127 {q : Bool → Nat → Prop} : goTy Tryd.prog 127 q = q true 2 := by simp only [goTy, agg127, siz127]
@[simp ↓] theorem sz127 {q : Nat → Prop} : goSz Tryd.prog 127 q = q 2 := by simp only [goSz, siz127]
theorem zer127 : zero? Tryd.prog 127 = some (Go.Value.agg #[Go.Value.slice none 0 0, Go.Value.int Go.IntKind.i64 0]) := by unfold zero?; rw [show Tryd.prog.info? 127 = some Tryd.t127 from Tryd.type127]; rfl
@[simp ↓] theorem z127 {q : List Value → Prop} : goZ Tryd.prog 127 q = q [Go.Value.slice none 0 0, Go.Value.int Go.IntKind.i64 0] := by simp [goZ, zer127, Value.cells]
@[simp] theorem und127 : Tryd.prog.underlying 127 = some (Go.TypeDesc.struct
  #[{ name := "b", type := 22, offset := 0, embedded := false, tag := "", pkgPath := "loop.example/kilndeed/spec",
      byteOffset := 0 },
    { name := "p", type := 3, offset := 1, embedded := false, tag := "", pkgPath := "loop.example/kilndeed/spec",
      byteOffset := 24 }]) := opq Tryd.underlying127
@[simp ↓] theorem fld127_0 {q : Nat → TypeId → Prop} : goFld Tryd.prog 127 0 q = q 0 22 := by simp only [goFld, und127]; rfl
@[simp ↓] theorem fld127_1 {q : Nat → TypeId → Prop} : goFld Tryd.prog 127 1 q = q 1 3 := by simp only [goFld, und127]; rfl
@[simp ↓] theorem bld127 {q : List Value → List (Nat × Nat) → Prop} : goBld Tryd.prog 127 q = q [Go.Value.slice none 0 0, Go.Value.int Go.IntKind.i64 0] [(0, 1), (1, 1)] := by simp [goBld, und127, zer127, placesL, Value.cells]
theorem agg128 : aggT Tryd.prog 128 = some true := by unfold aggT; rw [Tryd.underlying128]; rfl
@[simp] theorem siz128 : szT Tryd.prog 128 = some 2 := by unfold szT; rw [show Tryd.prog.info? 128 = some Tryd.t128 from Tryd.type128]; rfl
@[simp ↓] theorem ty128 {q : Bool → Nat → Prop} : goTy Tryd.prog 128 q = q true 2 := by simp only [goTy, agg128, siz128]
@[simp ↓] theorem sz128 {q : Nat → Prop} : goSz Tryd.prog 128 q = q 2 := by simp only [goSz, siz128]
theorem zer128 : zero? Tryd.prog 128 = some (Go.Value.agg #[Go.Value.slice none 0 0, Go.Value.int Go.IntKind.i64 0]) := by unfold zero?; rw [show Tryd.prog.info? 128 = some Tryd.t128 from Tryd.type128]; rfl
@[simp ↓] theorem z128 {q : List Value → Prop} : goZ Tryd.prog 128 q = q [Go.Value.slice none 0 0, Go.Value.int Go.IntKind.i64 0] := by simp [goZ, zer128, Value.cells]
@[simp] theorem und128 : Tryd.prog.underlying 128 = some (Go.TypeDesc.struct
  #[{ name := "b", type := 22, offset := 0, embedded := false, tag := "", pkgPath := "loop.example/kilndeed/spec",
      byteOffset := 0 },
    { name := "p", type := 3, offset := 1, embedded := false, tag := "", pkgPath := "loop.example/kilndeed/spec",
      byteOffset := 24 }]) := opq Tryd.underlying128
@[simp ↓] theorem fld128_0 {q : Nat → TypeId → Prop} : goFld Tryd.prog 128 0 q = q 0 22 := by simp only [goFld, und128]; rfl
@[simp ↓] theorem fld128_1 {q : Nat → TypeId → Prop} : goFld Tryd.prog 128 1 q = q 1 3 := by simp only [goFld, und128]; rfl
@[simp ↓] theorem bld128 {q : List Value → List (Nat × Nat) → Prop} : goBld Tryd.prog 128 q = q [Go.Value.slice none 0 0, Go.Value.int Go.IntKind.i64 0] [(0, 1), (1, 1)] := by simp [goBld, und128, zer128, placesL, Value.cells]
theorem agg129 : aggT Tryd.prog 129 = some false := by unfold aggT; rw [Tryd.underlying129]; rfl
@[simp] theorem siz129 : szT Tryd.prog 129 = some 1 := by unfold szT; rw [show Tryd.prog.info? 129 = some Tryd.t129 from Tryd.type129]; rfl
@[simp ↓] theorem ty129 {q : Bool → Nat → Prop} : goTy Tryd.prog 129 q = q false 1 := by simp only [goTy, agg129, siz129]
@[simp ↓] theorem sz129 {q : Nat → Prop} : goSz Tryd.prog 129 q = q 1 := by simp only [goSz, siz129]
theorem zer129 : zero? Tryd.prog 129 = some Go.Value.nilFunc := by unfold zero?; rw [show Tryd.prog.info? 129 = some Tryd.t129 from Tryd.type129]; rfl
@[simp ↓] theorem z129 {q : List Value → Prop} : goZ Tryd.prog 129 q = q [Go.Value.nilFunc] := by simp [goZ, zer129, Value.cells]
theorem agg130 : aggT Tryd.prog 130 = some true := by unfold aggT; rw [Tryd.underlying130]; rfl
@[simp] theorem siz130 : szT Tryd.prog 130 = some 3 := by unfold szT; rw [show Tryd.prog.info? 130 = some Tryd.t130 from Tryd.type130]; rfl
@[simp ↓] theorem ty130 {q : Bool → Nat → Prop} : goTy Tryd.prog 130 q = q true 3 := by simp only [goTy, agg130, siz130]
@[simp ↓] theorem sz130 {q : Nat → Prop} : goSz Tryd.prog 130 q = q 3 := by simp only [goSz, siz130]
theorem zer130 : zero? Tryd.prog 130 = some (Go.Value.agg #[Go.Value.int Go.IntKind.i64 0, Go.Value.string { data := #[] }, Go.Value.int Go.IntKind.i64 0]) := by unfold zero?; rw [show Tryd.prog.info? 130 = some Tryd.t130 from Tryd.type130]; rfl
@[simp ↓] theorem z130 {q : List Value → Prop} : goZ Tryd.prog 130 q = q [Go.Value.int Go.IntKind.i64 0, Go.Value.string { data := #[] }, Go.Value.int Go.IntKind.i64 0] := by simp [goZ, zer130, Value.cells]
@[simp] theorem und130 : Tryd.prog.underlying 130 = some (Go.TypeDesc.struct
  #[{ name := "Op", type := 3, offset := 0, embedded := false, tag := "", pkgPath := "", byteOffset := 0 },
    { name := "Text", type := 9, offset := 1, embedded := false, tag := "", pkgPath := "", byteOffset := 8 },
    { name := "N", type := 3, offset := 2, embedded := false, tag := "", pkgPath := "", byteOffset := 24 }]) := opq Tryd.underlying130
@[simp ↓] theorem fld130_0 {q : Nat → TypeId → Prop} : goFld Tryd.prog 130 0 q = q 0 3 := by simp only [goFld, und130]; rfl
@[simp ↓] theorem fld130_1 {q : Nat → TypeId → Prop} : goFld Tryd.prog 130 1 q = q 1 9 := by simp only [goFld, und130]; rfl
@[simp ↓] theorem fld130_2 {q : Nat → TypeId → Prop} : goFld Tryd.prog 130 2 q = q 2 3 := by simp only [goFld, und130]; rfl
@[simp ↓] theorem bld130 {q : List Value → List (Nat × Nat) → Prop} : goBld Tryd.prog 130 q = q [Go.Value.int Go.IntKind.i64 0, Go.Value.string { data := #[] }, Go.Value.int Go.IntKind.i64 0] [(0, 1), (1, 1), (2, 1)] := by simp [goBld, und130, zer130, placesL, Value.cells]
theorem agg131 : aggT Tryd.prog 131 = some false := by unfold aggT; rw [Tryd.underlying131]; rfl
@[simp] theorem siz131 : szT Tryd.prog 131 = some 1 := by unfold szT; rw [show Tryd.prog.info? 131 = some Tryd.t131 from Tryd.type131]; rfl
@[simp ↓] theorem ty131 {q : Bool → Nat → Prop} : goTy Tryd.prog 131 q = q false 1 := by simp only [goTy, agg131, siz131]
@[simp ↓] theorem sz131 {q : Nat → Prop} : goSz Tryd.prog 131 q = q 1 := by simp only [goSz, siz131]
theorem zer131 : zero? Tryd.prog 131 = some Go.Value.nilFunc := by unfold zero?; rw [show Tryd.prog.info? 131 = some Tryd.t131 from Tryd.type131]; rfl
@[simp ↓] theorem z131 {q : List Value → Prop} : goZ Tryd.prog 131 q = q [Go.Value.nilFunc] := by simp [goZ, zer131, Value.cells]
theorem agg133 : aggT Tryd.prog 133 = some false := by unfold aggT; rw [Tryd.underlying133]; rfl
@[simp] theorem siz133 : szT Tryd.prog 133 = some 1 := by unfold szT; rw [show Tryd.prog.info? 133 = some Tryd.t133 from Tryd.type133]; rfl
@[simp ↓] theorem ty133 {q : Bool → Nat → Prop} : goTy Tryd.prog 133 q = q false 1 := by simp only [goTy, agg133, siz133]
@[simp ↓] theorem sz133 {q : Nat → Prop} : goSz Tryd.prog 133 q = q 1 := by simp only [goSz, siz133]
theorem zer133 : zero? Tryd.prog 133 = some Go.Value.nilFunc := by unfold zero?; rw [show Tryd.prog.info? 133 = some Tryd.t133 from Tryd.type133]; rfl
@[simp ↓] theorem z133 {q : List Value → Prop} : goZ Tryd.prog 133 q = q [Go.Value.nilFunc] := by simp [goZ, zer133, Value.cells]
theorem agg134 : aggT Tryd.prog 134 = some false := by unfold aggT; rw [Tryd.underlying134]; rfl
@[simp] theorem siz134 : szT Tryd.prog 134 = some 1 := by unfold szT; rw [show Tryd.prog.info? 134 = some Tryd.t134 from Tryd.type134]; rfl
@[simp ↓] theorem ty134 {q : Bool → Nat → Prop} : goTy Tryd.prog 134 q = q false 1 := by simp only [goTy, agg134, siz134]
@[simp ↓] theorem sz134 {q : Nat → Prop} : goSz Tryd.prog 134 q = q 1 := by simp only [goSz, siz134]
theorem zer134 : zero? Tryd.prog 134 = some Go.Value.nilFunc := by unfold zero?; rw [show Tryd.prog.info? 134 = some Tryd.t134 from Tryd.type134]; rfl
@[simp ↓] theorem z134 {q : List Value → Prop} : goZ Tryd.prog 134 q = q [Go.Value.nilFunc] := by simp [goZ, zer134, Value.cells]
theorem agg135 : aggT Tryd.prog 135 = some false := by unfold aggT; rw [Tryd.underlying135]; rfl
@[simp] theorem siz135 : szT Tryd.prog 135 = some 1 := by unfold szT; rw [show Tryd.prog.info? 135 = some Tryd.t135 from Tryd.type135]; rfl
@[simp ↓] theorem ty135 {q : Bool → Nat → Prop} : goTy Tryd.prog 135 q = q false 1 := by simp only [goTy, agg135, siz135]
@[simp ↓] theorem sz135 {q : Nat → Prop} : goSz Tryd.prog 135 q = q 1 := by simp only [goSz, siz135]
theorem zer135 : zero? Tryd.prog 135 = some (Go.Value.pointer none) := by unfold zero?; rw [show Tryd.prog.info? 135 = some Tryd.t135 from Tryd.type135]; rfl
@[simp ↓] theorem z135 {q : List Value → Prop} : goZ Tryd.prog 135 q = q [(Go.Value.pointer none)] := by simp [goZ, zer135, Value.cells]
@[simp] theorem und135 : Tryd.prog.underlying 135 = some (Go.TypeDesc.pointer 5) := opq Tryd.underlying135
@[simp ↓] theorem un135 {q : TypeDesc → Prop} : goUnd Tryd.prog 135 q = q (Go.TypeDesc.pointer 5) := by simp only [goUnd, und135]
theorem agg136 : aggT Tryd.prog 136 = some false := by unfold aggT; rw [Tryd.underlying136]; rfl
@[simp] theorem siz136 : szT Tryd.prog 136 = some 1 := by unfold szT; rw [show Tryd.prog.info? 136 = some Tryd.t136 from Tryd.type136]; rfl
@[simp ↓] theorem ty136 {q : Bool → Nat → Prop} : goTy Tryd.prog 136 q = q false 1 := by simp only [goTy, agg136, siz136]
@[simp ↓] theorem sz136 {q : Nat → Prop} : goSz Tryd.prog 136 q = q 1 := by simp only [goSz, siz136]
theorem zer136 : zero? Tryd.prog 136 = some Go.Value.nilFunc := by unfold zero?; rw [show Tryd.prog.info? 136 = some Tryd.t136 from Tryd.type136]; rfl
@[simp ↓] theorem z136 {q : List Value → Prop} : goZ Tryd.prog 136 q = q [Go.Value.nilFunc] := by simp [goZ, zer136, Value.cells]
theorem agg137 : aggT Tryd.prog 137 = some false := by unfold aggT; rw [Tryd.underlying137]; rfl
@[simp] theorem siz137 : szT Tryd.prog 137 = some 1 := by unfold szT; rw [show Tryd.prog.info? 137 = some Tryd.t137 from Tryd.type137]; rfl
@[simp ↓] theorem ty137 {q : Bool → Nat → Prop} : goTy Tryd.prog 137 q = q false 1 := by simp only [goTy, agg137, siz137]
@[simp ↓] theorem sz137 {q : Nat → Prop} : goSz Tryd.prog 137 q = q 1 := by simp only [goSz, siz137]
theorem zer137 : zero? Tryd.prog 137 = some Go.Value.nilFunc := by unfold zero?; rw [show Tryd.prog.info? 137 = some Tryd.t137 from Tryd.type137]; rfl
@[simp ↓] theorem z137 {q : List Value → Prop} : goZ Tryd.prog 137 q = q [Go.Value.nilFunc] := by simp [goZ, zer137, Value.cells]
theorem agg139 : aggT Tryd.prog 139 = some false := by unfold aggT; rw [Tryd.underlying139]; rfl
@[simp] theorem siz139 : szT Tryd.prog 139 = some 1 := by unfold szT; rw [show Tryd.prog.info? 139 = some Tryd.t139 from Tryd.type139]; rfl
@[simp ↓] theorem ty139 {q : Bool → Nat → Prop} : goTy Tryd.prog 139 q = q false 1 := by simp only [goTy, agg139, siz139]
@[simp ↓] theorem sz139 {q : Nat → Prop} : goSz Tryd.prog 139 q = q 1 := by simp only [goSz, siz139]
theorem zer139 : zero? Tryd.prog 139 = some Go.Value.nilFunc := by unfold zero?; rw [show Tryd.prog.info? 139 = some Tryd.t139 from Tryd.type139]; rfl
@[simp ↓] theorem z139 {q : List Value → Prop} : goZ Tryd.prog 139 q = q [Go.Value.nilFunc] := by simp [goZ, zer139, Value.cells]
theorem agg140 : aggT Tryd.prog 140 = some false := by unfold aggT; rw [Tryd.underlying140]; rfl
@[simp] theorem siz140 : szT Tryd.prog 140 = some 1 := by unfold szT; rw [show Tryd.prog.info? 140 = some Tryd.t140 from Tryd.type140]; rfl
@[simp ↓] theorem ty140 {q : Bool → Nat → Prop} : goTy Tryd.prog 140 q = q false 1 := by simp only [goTy, agg140, siz140]
@[simp ↓] theorem sz140 {q : Nat → Prop} : goSz Tryd.prog 140 q = q 1 := by simp only [goSz, siz140]
theorem zer140 : zero? Tryd.prog 140 = some Go.Value.nilFunc := by unfold zero?; rw [show Tryd.prog.info? 140 = some Tryd.t140 from Tryd.type140]; rfl
@[simp ↓] theorem z140 {q : List Value → Prop} : goZ Tryd.prog 140 q = q [Go.Value.nilFunc] := by simp [goZ, zer140, Value.cells]
theorem agg141 : aggT Tryd.prog 141 = some false := by unfold aggT; rw [Tryd.underlying141]; rfl
@[simp] theorem siz141 : szT Tryd.prog 141 = some 1 := by unfold szT; rw [show Tryd.prog.info? 141 = some Tryd.t141 from Tryd.type141]; rfl
@[simp ↓] theorem ty141 {q : Bool → Nat → Prop} : goTy Tryd.prog 141 q = q false 1 := by simp only [goTy, agg141, siz141]
@[simp ↓] theorem sz141 {q : Nat → Prop} : goSz Tryd.prog 141 q = q 1 := by simp only [goSz, siz141]
theorem zer141 : zero? Tryd.prog 141 = some Go.Value.nilFunc := by unfold zero?; rw [show Tryd.prog.info? 141 = some Tryd.t141 from Tryd.type141]; rfl
@[simp ↓] theorem z141 {q : List Value → Prop} : goZ Tryd.prog 141 q = q [Go.Value.nilFunc] := by simp [goZ, zer141, Value.cells]
theorem agg142 : aggT Tryd.prog 142 = some false := by unfold aggT; rw [Tryd.underlying142]; rfl
@[simp] theorem siz142 : szT Tryd.prog 142 = some 1 := by unfold szT; rw [show Tryd.prog.info? 142 = some Tryd.t142 from Tryd.type142]; rfl
@[simp ↓] theorem ty142 {q : Bool → Nat → Prop} : goTy Tryd.prog 142 q = q false 1 := by simp only [goTy, agg142, siz142]
@[simp ↓] theorem sz142 {q : Nat → Prop} : goSz Tryd.prog 142 q = q 1 := by simp only [goSz, siz142]
theorem zer142 : zero? Tryd.prog 142 = some Go.Value.nilFunc := by unfold zero?; rw [show Tryd.prog.info? 142 = some Tryd.t142 from Tryd.type142]; rfl
@[simp ↓] theorem z142 {q : List Value → Prop} : goZ Tryd.prog 142 q = q [Go.Value.nilFunc] := by simp [goZ, zer142, Value.cells]
theorem agg143 : aggT Tryd.prog 143 = some false := by unfold aggT; rw [Tryd.underlying143]; rfl
@[simp] theorem siz143 : szT Tryd.prog 143 = some 1 := by unfold szT; rw [show Tryd.prog.info? 143 = some Tryd.t143 from Tryd.type143]; rfl
@[simp ↓] theorem ty143 {q : Bool → Nat → Prop} : goTy Tryd.prog 143 q = q false 1 := by simp only [goTy, agg143, siz143]
@[simp ↓] theorem sz143 {q : Nat → Prop} : goSz Tryd.prog 143 q = q 1 := by simp only [goSz, siz143]
theorem zer143 : zero? Tryd.prog 143 = some Go.Value.nilFunc := by unfold zero?; rw [show Tryd.prog.info? 143 = some Tryd.t143 from Tryd.type143]; rfl
@[simp ↓] theorem z143 {q : List Value → Prop} : goZ Tryd.prog 143 q = q [Go.Value.nilFunc] := by simp [goZ, zer143, Value.cells]
theorem agg144 : aggT Tryd.prog 144 = some false := by unfold aggT; rw [Tryd.underlying144]; rfl
@[simp] theorem siz144 : szT Tryd.prog 144 = some 1 := by unfold szT; rw [show Tryd.prog.info? 144 = some Tryd.t144 from Tryd.type144]; rfl
@[simp ↓] theorem ty144 {q : Bool → Nat → Prop} : goTy Tryd.prog 144 q = q false 1 := by simp only [goTy, agg144, siz144]
@[simp ↓] theorem sz144 {q : Nat → Prop} : goSz Tryd.prog 144 q = q 1 := by simp only [goSz, siz144]
theorem zer144 : zero? Tryd.prog 144 = some (Go.Value.slice none 0 0) := by unfold zero?; rw [show Tryd.prog.info? 144 = some Tryd.t144 from Tryd.type144]; rfl
@[simp ↓] theorem z144 {q : List Value → Prop} : goZ Tryd.prog 144 q = q [(Go.Value.slice none 0 0)] := by simp [goZ, zer144, Value.cells]
@[simp] theorem und144 : Tryd.prog.underlying 144 = some (Go.TypeDesc.slice 189) := opq Tryd.underlying144
@[simp ↓] theorem un144 {q : TypeDesc → Prop} : goUnd Tryd.prog 144 q = q (Go.TypeDesc.slice 189) := by simp only [goUnd, und144]
theorem slt144 : SlT Tryd.prog 144 189 4 32 := ⟨Tryd.underlying144, ⟨Tryd.t189, _, Tryd.type189, rfl, rfl, rfl, by simp, rfl⟩, by decide⟩
@[simp ↓] theorem sl144 {q : TypeId → Nat → List Value → Prop} : goSl Tryd.prog 144 q = q 189 4 [Go.Value.string { data := #[] }, Go.Value.bool false, Go.Value.bool false, Go.Value.int Go.IntKind.i64 0] := by simp [goSl, und144, show zero? Tryd.prog 189 = some
  (Go.Value.agg
    #[Go.Value.string { data := #[] }, Go.Value.bool false, Go.Value.bool false, Go.Value.int Go.IntKind.i64 0]) from by unfold zero?; rw [show Tryd.prog.info? 189 = some Tryd.t189 from Tryd.type189]; rfl, show szT Tryd.prog 189 = some 4 from by unfold szT; rw [show Tryd.prog.info? 189 = some Tryd.t189 from Tryd.type189]; rfl, Value.cells]
theorem agg145 : aggT Tryd.prog 145 = some true := by unfold aggT; rw [Tryd.underlying145]; rfl
@[simp] theorem siz145 : szT Tryd.prog 145 = some 6 := by unfold szT; rw [show Tryd.prog.info? 145 = some Tryd.t145 from Tryd.type145]; rfl
@[simp ↓] theorem ty145 {q : Bool → Nat → Prop} : goTy Tryd.prog 145 q = q true 6 := by simp only [goTy, agg145, siz145]
@[simp ↓] theorem sz145 {q : Nat → Prop} : goSz Tryd.prog 145 q = q 6 := by simp only [goSz, siz145]
theorem zer145 : zero? Tryd.prog 145 = some
  (Go.Value.agg
    #[Go.Value.string { data := #[] }, Go.Value.int Go.IntKind.i64 0, Go.Value.int Go.IntKind.i64 0,
      Go.Value.string { data := #[] }, Go.Value.slice none 0 0, Go.Value.slice none 0 0]) := by unfold zero?; rw [show Tryd.prog.info? 145 = some Tryd.t145 from Tryd.type145]; rfl
@[simp ↓] theorem z145 {q : List Value → Prop} : goZ Tryd.prog 145 q = q [Go.Value.string { data := #[] }, Go.Value.int Go.IntKind.i64 0, Go.Value.int Go.IntKind.i64 0,
      Go.Value.string { data := #[] }, Go.Value.slice none 0 0, Go.Value.slice none 0 0] := by simp [goZ, zer145, Value.cells]
@[simp] theorem und145 : Tryd.prog.underlying 145 = some (Go.TypeDesc.struct
  #[{ name := "Name", type := 9, offset := 0, embedded := false, tag := "", pkgPath := "", byteOffset := 0 },
    { name := "Kind", type := 3, offset := 1, embedded := false, tag := "", pkgPath := "", byteOffset := 16 },
    { name := "Code", type := 3, offset := 2, embedded := false, tag := "", pkgPath := "", byteOffset := 24 },
    { name := "Text", type := 9, offset := 3, embedded := false, tag := "", pkgPath := "", byteOffset := 32 },
    { name := "Action", type := 35, offset := 4, embedded := false, tag := "", pkgPath := "", byteOffset := 48 },
    { name := "Links", type := 144, offset := 5, embedded := false, tag := "", pkgPath := "", byteOffset := 72 }]) := opq Tryd.underlying145
@[simp ↓] theorem fld145_0 {q : Nat → TypeId → Prop} : goFld Tryd.prog 145 0 q = q 0 9 := by simp only [goFld, und145]; rfl
@[simp ↓] theorem fld145_1 {q : Nat → TypeId → Prop} : goFld Tryd.prog 145 1 q = q 1 3 := by simp only [goFld, und145]; rfl
@[simp ↓] theorem fld145_2 {q : Nat → TypeId → Prop} : goFld Tryd.prog 145 2 q = q 2 3 := by simp only [goFld, und145]; rfl
@[simp ↓] theorem fld145_3 {q : Nat → TypeId → Prop} : goFld Tryd.prog 145 3 q = q 3 9 := by simp only [goFld, und145]; rfl
@[simp ↓] theorem fld145_4 {q : Nat → TypeId → Prop} : goFld Tryd.prog 145 4 q = q 4 35 := by simp only [goFld, und145]; rfl
@[simp ↓] theorem fld145_5 {q : Nat → TypeId → Prop} : goFld Tryd.prog 145 5 q = q 5 144 := by simp only [goFld, und145]; rfl
@[simp ↓] theorem bld145 {q : List Value → List (Nat × Nat) → Prop} : goBld Tryd.prog 145 q = q [Go.Value.string { data := #[] }, Go.Value.int Go.IntKind.i64 0, Go.Value.int Go.IntKind.i64 0,
      Go.Value.string { data := #[] }, Go.Value.slice none 0 0, Go.Value.slice none 0 0] [(0, 1), (1, 1), (2, 1), (3, 1), (4, 1), (5, 1)] := by simp [goBld, und145, zer145, placesL, Value.cells]
theorem agg146 : aggT Tryd.prog 146 = some true := by unfold aggT; rw [Tryd.underlying146]; rfl
@[simp] theorem siz146 : szT Tryd.prog 146 = some 6 := by unfold szT; rw [show Tryd.prog.info? 146 = some Tryd.t146 from Tryd.type146]; rfl
@[simp ↓] theorem ty146 {q : Bool → Nat → Prop} : goTy Tryd.prog 146 q = q true 6 := by simp only [goTy, agg146, siz146]
@[simp ↓] theorem sz146 {q : Nat → Prop} : goSz Tryd.prog 146 q = q 6 := by simp only [goSz, siz146]
theorem zer146 : zero? Tryd.prog 146 = some
  (Go.Value.agg
    #[Go.Value.string { data := #[] }, Go.Value.int Go.IntKind.i64 0, Go.Value.int Go.IntKind.i64 0,
      Go.Value.string { data := #[] }, Go.Value.slice none 0 0, Go.Value.slice none 0 0]) := by unfold zero?; rw [show Tryd.prog.info? 146 = some Tryd.t146 from Tryd.type146]; rfl
@[simp ↓] theorem z146 {q : List Value → Prop} : goZ Tryd.prog 146 q = q [Go.Value.string { data := #[] }, Go.Value.int Go.IntKind.i64 0, Go.Value.int Go.IntKind.i64 0,
      Go.Value.string { data := #[] }, Go.Value.slice none 0 0, Go.Value.slice none 0 0] := by simp [goZ, zer146, Value.cells]
@[simp] theorem und146 : Tryd.prog.underlying 146 = some (Go.TypeDesc.struct
  #[{ name := "Name", type := 9, offset := 0, embedded := false, tag := "", pkgPath := "", byteOffset := 0 },
    { name := "Kind", type := 3, offset := 1, embedded := false, tag := "", pkgPath := "", byteOffset := 16 },
    { name := "Code", type := 3, offset := 2, embedded := false, tag := "", pkgPath := "", byteOffset := 24 },
    { name := "Text", type := 9, offset := 3, embedded := false, tag := "", pkgPath := "", byteOffset := 32 },
    { name := "Action", type := 35, offset := 4, embedded := false, tag := "", pkgPath := "", byteOffset := 48 },
    { name := "Links", type := 144, offset := 5, embedded := false, tag := "", pkgPath := "", byteOffset := 72 }]) := opq Tryd.underlying146
@[simp ↓] theorem fld146_0 {q : Nat → TypeId → Prop} : goFld Tryd.prog 146 0 q = q 0 9 := by simp only [goFld, und146]; rfl
@[simp ↓] theorem fld146_1 {q : Nat → TypeId → Prop} : goFld Tryd.prog 146 1 q = q 1 3 := by simp only [goFld, und146]; rfl
@[simp ↓] theorem fld146_2 {q : Nat → TypeId → Prop} : goFld Tryd.prog 146 2 q = q 2 3 := by simp only [goFld, und146]; rfl
@[simp ↓] theorem fld146_3 {q : Nat → TypeId → Prop} : goFld Tryd.prog 146 3 q = q 3 9 := by simp only [goFld, und146]; rfl
@[simp ↓] theorem fld146_4 {q : Nat → TypeId → Prop} : goFld Tryd.prog 146 4 q = q 4 35 := by simp only [goFld, und146]; rfl
@[simp ↓] theorem fld146_5 {q : Nat → TypeId → Prop} : goFld Tryd.prog 146 5 q = q 5 144 := by simp only [goFld, und146]; rfl
@[simp ↓] theorem bld146 {q : List Value → List (Nat × Nat) → Prop} : goBld Tryd.prog 146 q = q [Go.Value.string { data := #[] }, Go.Value.int Go.IntKind.i64 0, Go.Value.int Go.IntKind.i64 0,
      Go.Value.string { data := #[] }, Go.Value.slice none 0 0, Go.Value.slice none 0 0] [(0, 1), (1, 1), (2, 1), (3, 1), (4, 1), (5, 1)] := by simp [goBld, und146, zer146, placesL, Value.cells]
theorem agg147 : aggT Tryd.prog 147 = some false := by unfold aggT; rw [Tryd.underlying147]; rfl
@[simp] theorem siz147 : szT Tryd.prog 147 = some 1 := by unfold szT; rw [show Tryd.prog.info? 147 = some Tryd.t147 from Tryd.type147]; rfl
@[simp ↓] theorem ty147 {q : Bool → Nat → Prop} : goTy Tryd.prog 147 q = q false 1 := by simp only [goTy, agg147, siz147]
@[simp ↓] theorem sz147 {q : Nat → Prop} : goSz Tryd.prog 147 q = q 1 := by simp only [goSz, siz147]
theorem zer147 : zero? Tryd.prog 147 = some Go.Value.nilFunc := by unfold zero?; rw [show Tryd.prog.info? 147 = some Tryd.t147 from Tryd.type147]; rfl
@[simp ↓] theorem z147 {q : List Value → Prop} : goZ Tryd.prog 147 q = q [Go.Value.nilFunc] := by simp [goZ, zer147, Value.cells]
theorem agg148 : aggT Tryd.prog 148 = some false := by unfold aggT; rw [Tryd.underlying148]; rfl
@[simp] theorem siz148 : szT Tryd.prog 148 = some 1 := by unfold szT; rw [show Tryd.prog.info? 148 = some Tryd.t148 from Tryd.type148]; rfl
@[simp ↓] theorem ty148 {q : Bool → Nat → Prop} : goTy Tryd.prog 148 q = q false 1 := by simp only [goTy, agg148, siz148]
@[simp ↓] theorem sz148 {q : Nat → Prop} : goSz Tryd.prog 148 q = q 1 := by simp only [goSz, siz148]
theorem zer148 : zero? Tryd.prog 148 = some Go.Value.nilFunc := by unfold zero?; rw [show Tryd.prog.info? 148 = some Tryd.t148 from Tryd.type148]; rfl
@[simp ↓] theorem z148 {q : List Value → Prop} : goZ Tryd.prog 148 q = q [Go.Value.nilFunc] := by simp [goZ, zer148, Value.cells]
theorem agg149 : aggT Tryd.prog 149 = some false := by unfold aggT; rw [Tryd.underlying149]; rfl
@[simp] theorem siz149 : szT Tryd.prog 149 = some 1 := by unfold szT; rw [show Tryd.prog.info? 149 = some Tryd.t149 from Tryd.type149]; rfl
@[simp ↓] theorem ty149 {q : Bool → Nat → Prop} : goTy Tryd.prog 149 q = q false 1 := by simp only [goTy, agg149, siz149]
@[simp ↓] theorem sz149 {q : Nat → Prop} : goSz Tryd.prog 149 q = q 1 := by simp only [goSz, siz149]
theorem zer149 : zero? Tryd.prog 149 = some Go.Value.nilFunc := by unfold zero?; rw [show Tryd.prog.info? 149 = some Tryd.t149 from Tryd.type149]; rfl
@[simp ↓] theorem z149 {q : List Value → Prop} : goZ Tryd.prog 149 q = q [Go.Value.nilFunc] := by simp [goZ, zer149, Value.cells]
theorem agg150 : aggT Tryd.prog 150 = some false := by unfold aggT; rw [Tryd.underlying150]; rfl
@[simp] theorem siz150 : szT Tryd.prog 150 = some 1 := by unfold szT; rw [show Tryd.prog.info? 150 = some Tryd.t150 from Tryd.type150]; rfl
@[simp ↓] theorem ty150 {q : Bool → Nat → Prop} : goTy Tryd.prog 150 q = q false 1 := by simp only [goTy, agg150, siz150]
@[simp ↓] theorem sz150 {q : Nat → Prop} : goSz Tryd.prog 150 q = q 1 := by simp only [goSz, siz150]
theorem zer150 : zero? Tryd.prog 150 = some (Go.Value.int Go.IntKind.u64 0) := by unfold zero?; rw [show Tryd.prog.info? 150 = some Tryd.t150 from Tryd.type150]; rfl
@[simp ↓] theorem z150 {q : List Value → Prop} : goZ Tryd.prog 150 q = q [(Go.Value.int Go.IntKind.u64 0)] := by simp [goZ, zer150, Value.cells]
@[simp] theorem und150 : Tryd.prog.underlying 150 = some (Go.TypeDesc.int Go.IntKind.u64) := opq Tryd.underlying150
@[simp ↓] theorem un150 {q : TypeDesc → Prop} : goUnd Tryd.prog 150 q = q (Go.TypeDesc.int Go.IntKind.u64) := by simp only [goUnd, und150]
theorem agg151 : aggT Tryd.prog 151 = some false := by unfold aggT; rw [Tryd.underlying151]; rfl
@[simp] theorem siz151 : szT Tryd.prog 151 = some 1 := by unfold szT; rw [show Tryd.prog.info? 151 = some Tryd.t151 from Tryd.type151]; rfl
@[simp ↓] theorem ty151 {q : Bool → Nat → Prop} : goTy Tryd.prog 151 q = q false 1 := by simp only [goTy, agg151, siz151]
@[simp ↓] theorem sz151 {q : Nat → Prop} : goSz Tryd.prog 151 q = q 1 := by simp only [goSz, siz151]
theorem zer151 : zero? Tryd.prog 151 = some Go.Value.nilFunc := by unfold zero?; rw [show Tryd.prog.info? 151 = some Tryd.t151 from Tryd.type151]; rfl
@[simp ↓] theorem z151 {q : List Value → Prop} : goZ Tryd.prog 151 q = q [Go.Value.nilFunc] := by simp [goZ, zer151, Value.cells]
theorem agg152 : aggT Tryd.prog 152 = some false := by unfold aggT; rw [Tryd.underlying152]; rfl
@[simp] theorem siz152 : szT Tryd.prog 152 = some 1 := by unfold szT; rw [show Tryd.prog.info? 152 = some Tryd.t152 from Tryd.type152]; rfl
@[simp ↓] theorem ty152 {q : Bool → Nat → Prop} : goTy Tryd.prog 152 q = q false 1 := by simp only [goTy, agg152, siz152]
@[simp ↓] theorem sz152 {q : Nat → Prop} : goSz Tryd.prog 152 q = q 1 := by simp only [goSz, siz152]
theorem zer152 : zero? Tryd.prog 152 = some Go.Value.nilFunc := by unfold zero?; rw [show Tryd.prog.info? 152 = some Tryd.t152 from Tryd.type152]; rfl
@[simp ↓] theorem z152 {q : List Value → Prop} : goZ Tryd.prog 152 q = q [Go.Value.nilFunc] := by simp [goZ, zer152, Value.cells]
theorem agg154 : aggT Tryd.prog 154 = some false := by unfold aggT; rw [Tryd.underlying154]; rfl
@[simp] theorem siz154 : szT Tryd.prog 154 = some 1 := by unfold szT; rw [show Tryd.prog.info? 154 = some Tryd.t154 from Tryd.type154]; rfl
@[simp ↓] theorem ty154 {q : Bool → Nat → Prop} : goTy Tryd.prog 154 q = q false 1 := by simp only [goTy, agg154, siz154]
@[simp ↓] theorem sz154 {q : Nat → Prop} : goSz Tryd.prog 154 q = q 1 := by simp only [goSz, siz154]
theorem zer154 : zero? Tryd.prog 154 = some Go.Value.nilFunc := by unfold zero?; rw [show Tryd.prog.info? 154 = some Tryd.t154 from Tryd.type154]; rfl
@[simp ↓] theorem z154 {q : List Value → Prop} : goZ Tryd.prog 154 q = q [Go.Value.nilFunc] := by simp [goZ, zer154, Value.cells]
theorem agg156 : aggT Tryd.prog 156 = some false := by unfold aggT; rw [Tryd.underlying156]; rfl
@[simp] theorem siz156 : szT Tryd.prog 156 = some 1 := by unfold szT; rw [show Tryd.prog.info? 156 = some Tryd.t156 from Tryd.type156]; rfl
@[simp ↓] theorem ty156 {q : Bool → Nat → Prop} : goTy Tryd.prog 156 q = q false 1 := by simp only [goTy, agg156, siz156]
@[simp ↓] theorem sz156 {q : Nat → Prop} : goSz Tryd.prog 156 q = q 1 := by simp only [goSz, siz156]
theorem zer156 : zero? Tryd.prog 156 = some Go.Value.nilFunc := by unfold zero?; rw [show Tryd.prog.info? 156 = some Tryd.t156 from Tryd.type156]; rfl
@[simp ↓] theorem z156 {q : List Value → Prop} : goZ Tryd.prog 156 q = q [Go.Value.nilFunc] := by simp [goZ, zer156, Value.cells]
theorem agg157 : aggT Tryd.prog 157 = some false := by unfold aggT; rw [Tryd.underlying157]; rfl
@[simp] theorem siz157 : szT Tryd.prog 157 = some 1 := by unfold szT; rw [show Tryd.prog.info? 157 = some Tryd.t157 from Tryd.type157]; rfl
@[simp ↓] theorem ty157 {q : Bool → Nat → Prop} : goTy Tryd.prog 157 q = q false 1 := by simp only [goTy, agg157, siz157]
@[simp ↓] theorem sz157 {q : Nat → Prop} : goSz Tryd.prog 157 q = q 1 := by simp only [goSz, siz157]
theorem zer157 : zero? Tryd.prog 157 = some Go.Value.nilFunc := by unfold zero?; rw [show Tryd.prog.info? 157 = some Tryd.t157 from Tryd.type157]; rfl
@[simp ↓] theorem z157 {q : List Value → Prop} : goZ Tryd.prog 157 q = q [Go.Value.nilFunc] := by simp [goZ, zer157, Value.cells]
theorem agg158 : aggT Tryd.prog 158 = some false := by unfold aggT; rw [Tryd.underlying158]; rfl
@[simp] theorem siz158 : szT Tryd.prog 158 = some 1 := by unfold szT; rw [show Tryd.prog.info? 158 = some Tryd.t158 from Tryd.type158]; rfl
@[simp ↓] theorem ty158 {q : Bool → Nat → Prop} : goTy Tryd.prog 158 q = q false 1 := by simp only [goTy, agg158, siz158]
@[simp ↓] theorem sz158 {q : Nat → Prop} : goSz Tryd.prog 158 q = q 1 := by simp only [goSz, siz158]
theorem zer158 : zero? Tryd.prog 158 = some Go.Value.nilFunc := by unfold zero?; rw [show Tryd.prog.info? 158 = some Tryd.t158 from Tryd.type158]; rfl
@[simp ↓] theorem z158 {q : List Value → Prop} : goZ Tryd.prog 158 q = q [Go.Value.nilFunc] := by simp [goZ, zer158, Value.cells]
theorem agg159 : aggT Tryd.prog 159 = some false := by unfold aggT; rw [Tryd.underlying159]; rfl
@[simp] theorem siz159 : szT Tryd.prog 159 = some 1 := by unfold szT; rw [show Tryd.prog.info? 159 = some Tryd.t159 from Tryd.type159]; rfl
@[simp ↓] theorem ty159 {q : Bool → Nat → Prop} : goTy Tryd.prog 159 q = q false 1 := by simp only [goTy, agg159, siz159]
@[simp ↓] theorem sz159 {q : Nat → Prop} : goSz Tryd.prog 159 q = q 1 := by simp only [goSz, siz159]
theorem zer159 : zero? Tryd.prog 159 = some (Go.Value.pointer none) := by unfold zero?; rw [show Tryd.prog.info? 159 = some Tryd.t159 from Tryd.type159]; rfl
@[simp ↓] theorem z159 {q : List Value → Prop} : goZ Tryd.prog 159 q = q [(Go.Value.pointer none)] := by simp [goZ, zer159, Value.cells]
@[simp] theorem und159 : Tryd.prog.underlying 159 = some (Go.TypeDesc.unsafePointer) := opq Tryd.underlying159
@[simp ↓] theorem un159 {q : TypeDesc → Prop} : goUnd Tryd.prog 159 q = q (Go.TypeDesc.unsafePointer) := by simp only [goUnd, und159]
theorem agg160 : aggT Tryd.prog 160 = some false := by unfold aggT; rw [Tryd.underlying160]; rfl
@[simp] theorem siz160 : szT Tryd.prog 160 = some 1 := by unfold szT; rw [show Tryd.prog.info? 160 = some Tryd.t160 from Tryd.type160]; rfl
@[simp ↓] theorem ty160 {q : Bool → Nat → Prop} : goTy Tryd.prog 160 q = q false 1 := by simp only [goTy, agg160, siz160]
@[simp ↓] theorem sz160 {q : Nat → Prop} : goSz Tryd.prog 160 q = q 1 := by simp only [goSz, siz160]
theorem zer160 : zero? Tryd.prog 160 = some Go.Value.nilFunc := by unfold zero?; rw [show Tryd.prog.info? 160 = some Tryd.t160 from Tryd.type160]; rfl
@[simp ↓] theorem z160 {q : List Value → Prop} : goZ Tryd.prog 160 q = q [Go.Value.nilFunc] := by simp [goZ, zer160, Value.cells]
theorem agg161 : aggT Tryd.prog 161 = some false := by unfold aggT; rw [Tryd.underlying161]; rfl
@[simp] theorem siz161 : szT Tryd.prog 161 = some 1 := by unfold szT; rw [show Tryd.prog.info? 161 = some Tryd.t161 from Tryd.type161]; rfl
@[simp ↓] theorem ty161 {q : Bool → Nat → Prop} : goTy Tryd.prog 161 q = q false 1 := by simp only [goTy, agg161, siz161]
@[simp ↓] theorem sz161 {q : Nat → Prop} : goSz Tryd.prog 161 q = q 1 := by simp only [goSz, siz161]
theorem zer161 : zero? Tryd.prog 161 = some Go.Value.nilFunc := by unfold zero?; rw [show Tryd.prog.info? 161 = some Tryd.t161 from Tryd.type161]; rfl
@[simp ↓] theorem z161 {q : List Value → Prop} : goZ Tryd.prog 161 q = q [Go.Value.nilFunc] := by simp [goZ, zer161, Value.cells]
theorem agg162 : aggT Tryd.prog 162 = some false := by unfold aggT; rw [Tryd.underlying162]; rfl
@[simp] theorem siz162 : szT Tryd.prog 162 = some 1 := by unfold szT; rw [show Tryd.prog.info? 162 = some Tryd.t162 from Tryd.type162]; rfl
@[simp ↓] theorem ty162 {q : Bool → Nat → Prop} : goTy Tryd.prog 162 q = q false 1 := by simp only [goTy, agg162, siz162]
@[simp ↓] theorem sz162 {q : Nat → Prop} : goSz Tryd.prog 162 q = q 1 := by simp only [goSz, siz162]
theorem zer162 : zero? Tryd.prog 162 = some Go.Value.nilFunc := by unfold zero?; rw [show Tryd.prog.info? 162 = some Tryd.t162 from Tryd.type162]; rfl
@[simp ↓] theorem z162 {q : List Value → Prop} : goZ Tryd.prog 162 q = q [Go.Value.nilFunc] := by simp [goZ, zer162, Value.cells]
theorem agg163 : aggT Tryd.prog 163 = some false := by unfold aggT; rw [Tryd.underlying163]; rfl
@[simp] theorem siz163 : szT Tryd.prog 163 = some 1 := by unfold szT; rw [show Tryd.prog.info? 163 = some Tryd.t163 from Tryd.type163]; rfl
@[simp ↓] theorem ty163 {q : Bool → Nat → Prop} : goTy Tryd.prog 163 q = q false 1 := by simp only [goTy, agg163, siz163]
@[simp ↓] theorem sz163 {q : Nat → Prop} : goSz Tryd.prog 163 q = q 1 := by simp only [goSz, siz163]
theorem zer163 : zero? Tryd.prog 163 = some (Go.Value.pointer none) := by unfold zero?; rw [show Tryd.prog.info? 163 = some Tryd.t163 from Tryd.type163]; rfl
@[simp ↓] theorem z163 {q : List Value → Prop} : goZ Tryd.prog 163 q = q [(Go.Value.pointer none)] := by simp [goZ, zer163, Value.cells]
@[simp] theorem und163 : Tryd.prog.underlying 163 = some (Go.TypeDesc.pointer 168) := opq Tryd.underlying163
@[simp ↓] theorem un163 {q : TypeDesc → Prop} : goUnd Tryd.prog 163 q = q (Go.TypeDesc.pointer 168) := by simp only [goUnd, und163]
theorem agg164 : aggT Tryd.prog 164 = some false := by unfold aggT; rw [Tryd.underlying164]; rfl
@[simp] theorem siz164 : szT Tryd.prog 164 = some 1 := by unfold szT; rw [show Tryd.prog.info? 164 = some Tryd.t164 from Tryd.type164]; rfl
@[simp ↓] theorem ty164 {q : Bool → Nat → Prop} : goTy Tryd.prog 164 q = q false 1 := by simp only [goTy, agg164, siz164]
@[simp ↓] theorem sz164 {q : Nat → Prop} : goSz Tryd.prog 164 q = q 1 := by simp only [goSz, siz164]
theorem zer164 : zero? Tryd.prog 164 = some Go.Value.nilFunc := by unfold zero?; rw [show Tryd.prog.info? 164 = some Tryd.t164 from Tryd.type164]; rfl
@[simp ↓] theorem z164 {q : List Value → Prop} : goZ Tryd.prog 164 q = q [Go.Value.nilFunc] := by simp [goZ, zer164, Value.cells]
theorem agg165 : aggT Tryd.prog 165 = some false := by unfold aggT; rw [Tryd.underlying165]; rfl
@[simp] theorem siz165 : szT Tryd.prog 165 = some 1 := by unfold szT; rw [show Tryd.prog.info? 165 = some Tryd.t165 from Tryd.type165]; rfl
@[simp ↓] theorem ty165 {q : Bool → Nat → Prop} : goTy Tryd.prog 165 q = q false 1 := by simp only [goTy, agg165, siz165]
@[simp ↓] theorem sz165 {q : Nat → Prop} : goSz Tryd.prog 165 q = q 1 := by simp only [goSz, siz165]
theorem zer165 : zero? Tryd.prog 165 = some (Go.Value.slice none 0 0) := by unfold zero?; rw [show Tryd.prog.info? 165 = some Tryd.t165 from Tryd.type165]; rfl
@[simp ↓] theorem z165 {q : List Value → Prop} : goZ Tryd.prog 165 q = q [(Go.Value.slice none 0 0)] := by simp [goZ, zer165, Value.cells]
@[simp] theorem und165 : Tryd.prog.underlying 165 = some (Go.TypeDesc.slice 4) := opq Tryd.underlying165
@[simp ↓] theorem un165 {q : TypeDesc → Prop} : goUnd Tryd.prog 165 q = q (Go.TypeDesc.slice 4) := by simp only [goUnd, und165]
theorem slt165 : SlT Tryd.prog 165 4 1 1 := ⟨Tryd.underlying165, ⟨Tryd.t4, _, Tryd.type4, rfl, rfl, rfl, by simp, rfl⟩, by decide⟩
@[simp ↓] theorem sl165 {q : TypeId → Nat → List Value → Prop} : goSl Tryd.prog 165 q = q 4 1 [(Go.Value.bool false)] := by simp [goSl, und165, show zero? Tryd.prog 4 = some (Go.Value.bool false) from by unfold zero?; rw [show Tryd.prog.info? 4 = some Tryd.t4 from Tryd.type4]; rfl, show szT Tryd.prog 4 = some 1 from by unfold szT; rw [show Tryd.prog.info? 4 = some Tryd.t4 from Tryd.type4]; rfl, Value.cells]
theorem agg166 : aggT Tryd.prog 166 = some false := by unfold aggT; rw [Tryd.underlying166]; rfl
@[simp] theorem siz166 : szT Tryd.prog 166 = some 1 := by unfold szT; rw [show Tryd.prog.info? 166 = some Tryd.t166 from Tryd.type166]; rfl
@[simp ↓] theorem ty166 {q : Bool → Nat → Prop} : goTy Tryd.prog 166 q = q false 1 := by simp only [goTy, agg166, siz166]
@[simp ↓] theorem sz166 {q : Nat → Prop} : goSz Tryd.prog 166 q = q 1 := by simp only [goSz, siz166]
theorem zer166 : zero? Tryd.prog 166 = some (Go.Value.slice none 0 0) := by unfold zero?; rw [show Tryd.prog.info? 166 = some Tryd.t166 from Tryd.type166]; rfl
@[simp ↓] theorem z166 {q : List Value → Prop} : goZ Tryd.prog 166 q = q [(Go.Value.slice none 0 0)] := by simp [goZ, zer166, Value.cells]
@[simp] theorem und166 : Tryd.prog.underlying 166 = some (Go.TypeDesc.slice 3) := opq Tryd.underlying166
@[simp ↓] theorem un166 {q : TypeDesc → Prop} : goUnd Tryd.prog 166 q = q (Go.TypeDesc.slice 3) := by simp only [goUnd, und166]
theorem slt166 : SlT Tryd.prog 166 3 1 8 := ⟨Tryd.underlying166, ⟨Tryd.t3, _, Tryd.type3, rfl, rfl, rfl, by simp, rfl⟩, by decide⟩
@[simp ↓] theorem sl166 {q : TypeId → Nat → List Value → Prop} : goSl Tryd.prog 166 q = q 3 1 [(Go.Value.int Go.IntKind.i64 0)] := by simp [goSl, und166, show zero? Tryd.prog 3 = some (Go.Value.int Go.IntKind.i64 0) from by unfold zero?; rw [show Tryd.prog.info? 3 = some Tryd.t3 from Tryd.type3]; rfl, show szT Tryd.prog 3 = some 1 from by unfold szT; rw [show Tryd.prog.info? 3 = some Tryd.t3 from Tryd.type3]; rfl, Value.cells]
theorem agg167 : aggT Tryd.prog 167 = some true := by unfold aggT; rw [Tryd.underlying167]; rfl
@[simp] theorem siz167 : szT Tryd.prog 167 = some 4 := by unfold szT; rw [show Tryd.prog.info? 167 = some Tryd.t167 from Tryd.type167]; rfl
@[simp ↓] theorem ty167 {q : Bool → Nat → Prop} : goTy Tryd.prog 167 q = q true 4 := by simp only [goTy, agg167, siz167]
@[simp ↓] theorem sz167 {q : Nat → Prop} : goSz Tryd.prog 167 q = q 4 := by simp only [goSz, siz167]
theorem zer167 : zero? Tryd.prog 167 = some
  (Go.Value.agg
    #[Go.Value.slice none 0 0, Go.Value.slice none 0 0, Go.Value.slice none 0 0, Go.Value.int Go.IntKind.i64 0]) := by unfold zero?; rw [show Tryd.prog.info? 167 = some Tryd.t167 from Tryd.type167]; rfl
@[simp ↓] theorem z167 {q : List Value → Prop} : goZ Tryd.prog 167 q = q [Go.Value.slice none 0 0, Go.Value.slice none 0 0, Go.Value.slice none 0 0, Go.Value.int Go.IntKind.i64 0] := by simp [goZ, zer167, Value.cells]
@[simp] theorem und167 : Tryd.prog.underlying 167 = some (Go.TypeDesc.struct
  #[{ name := "a", type := 61, offset := 0, embedded := false, tag := "", pkgPath := "loop.example/kilndeed/spec",
      byteOffset := 0 },
    { name := "listed", type := 165, offset := 1, embedded := false, tag := "", pkgPath := "loop.example/kilndeed/spec",
      byteOffset := 24 },
    { name := "order", type := 166, offset := 2, embedded := false, tag := "", pkgPath := "loop.example/kilndeed/spec",
      byteOffset := 48 },
    { name := "deep", type := 3, offset := 3, embedded := false, tag := "", pkgPath := "loop.example/kilndeed/spec",
      byteOffset := 72 }]) := opq Tryd.underlying167
@[simp ↓] theorem fld167_0 {q : Nat → TypeId → Prop} : goFld Tryd.prog 167 0 q = q 0 61 := by simp only [goFld, und167]; rfl
@[simp ↓] theorem fld167_1 {q : Nat → TypeId → Prop} : goFld Tryd.prog 167 1 q = q 1 165 := by simp only [goFld, und167]; rfl
@[simp ↓] theorem fld167_2 {q : Nat → TypeId → Prop} : goFld Tryd.prog 167 2 q = q 2 166 := by simp only [goFld, und167]; rfl
@[simp ↓] theorem fld167_3 {q : Nat → TypeId → Prop} : goFld Tryd.prog 167 3 q = q 3 3 := by simp only [goFld, und167]; rfl
@[simp ↓] theorem bld167 {q : List Value → List (Nat × Nat) → Prop} : goBld Tryd.prog 167 q = q [Go.Value.slice none 0 0, Go.Value.slice none 0 0, Go.Value.slice none 0 0, Go.Value.int Go.IntKind.i64 0] [(0, 1), (1, 1), (2, 1), (3, 1)] := by simp [goBld, und167, zer167, placesL, Value.cells]
theorem agg168 : aggT Tryd.prog 168 = some true := by unfold aggT; rw [Tryd.underlying168]; rfl
@[simp] theorem siz168 : szT Tryd.prog 168 = some 4 := by unfold szT; rw [show Tryd.prog.info? 168 = some Tryd.t168 from Tryd.type168]; rfl
@[simp ↓] theorem ty168 {q : Bool → Nat → Prop} : goTy Tryd.prog 168 q = q true 4 := by simp only [goTy, agg168, siz168]
@[simp ↓] theorem sz168 {q : Nat → Prop} : goSz Tryd.prog 168 q = q 4 := by simp only [goSz, siz168]
theorem zer168 : zero? Tryd.prog 168 = some
  (Go.Value.agg
    #[Go.Value.slice none 0 0, Go.Value.slice none 0 0, Go.Value.slice none 0 0, Go.Value.int Go.IntKind.i64 0]) := by unfold zero?; rw [show Tryd.prog.info? 168 = some Tryd.t168 from Tryd.type168]; rfl
@[simp ↓] theorem z168 {q : List Value → Prop} : goZ Tryd.prog 168 q = q [Go.Value.slice none 0 0, Go.Value.slice none 0 0, Go.Value.slice none 0 0, Go.Value.int Go.IntKind.i64 0] := by simp [goZ, zer168, Value.cells]
@[simp] theorem und168 : Tryd.prog.underlying 168 = some (Go.TypeDesc.struct
  #[{ name := "a", type := 61, offset := 0, embedded := false, tag := "", pkgPath := "loop.example/kilndeed/spec",
      byteOffset := 0 },
    { name := "listed", type := 165, offset := 1, embedded := false, tag := "", pkgPath := "loop.example/kilndeed/spec",
      byteOffset := 24 },
    { name := "order", type := 166, offset := 2, embedded := false, tag := "", pkgPath := "loop.example/kilndeed/spec",
      byteOffset := 48 },
    { name := "deep", type := 3, offset := 3, embedded := false, tag := "", pkgPath := "loop.example/kilndeed/spec",
      byteOffset := 72 }]) := opq Tryd.underlying168
@[simp ↓] theorem fld168_0 {q : Nat → TypeId → Prop} : goFld Tryd.prog 168 0 q = q 0 61 := by simp only [goFld, und168]; rfl
@[simp ↓] theorem fld168_1 {q : Nat → TypeId → Prop} : goFld Tryd.prog 168 1 q = q 1 165 := by simp only [goFld, und168]; rfl
@[simp ↓] theorem fld168_2 {q : Nat → TypeId → Prop} : goFld Tryd.prog 168 2 q = q 2 166 := by simp only [goFld, und168]; rfl
@[simp ↓] theorem fld168_3 {q : Nat → TypeId → Prop} : goFld Tryd.prog 168 3 q = q 3 3 := by simp only [goFld, und168]; rfl
@[simp ↓] theorem bld168 {q : List Value → List (Nat × Nat) → Prop} : goBld Tryd.prog 168 q = q [Go.Value.slice none 0 0, Go.Value.slice none 0 0, Go.Value.slice none 0 0, Go.Value.int Go.IntKind.i64 0] [(0, 1), (1, 1), (2, 1), (3, 1)] := by simp [goBld, und168, zer168, placesL, Value.cells]
theorem agg169 : aggT Tryd.prog 169 = some false := by unfold aggT; rw [Tryd.underlying169]; rfl
@[simp] theorem siz169 : szT Tryd.prog 169 = some 1 := by unfold szT; rw [show Tryd.prog.info? 169 = some Tryd.t169 from Tryd.type169]; rfl
@[simp ↓] theorem ty169 {q : Bool → Nat → Prop} : goTy Tryd.prog 169 q = q false 1 := by simp only [goTy, agg169, siz169]
@[simp ↓] theorem sz169 {q : Nat → Prop} : goSz Tryd.prog 169 q = q 1 := by simp only [goSz, siz169]
theorem zer169 : zero? Tryd.prog 169 = some Go.Value.nilFunc := by unfold zero?; rw [show Tryd.prog.info? 169 = some Tryd.t169 from Tryd.type169]; rfl
@[simp ↓] theorem z169 {q : List Value → Prop} : goZ Tryd.prog 169 q = q [Go.Value.nilFunc] := by simp [goZ, zer169, Value.cells]
theorem agg170 : aggT Tryd.prog 170 = some false := by unfold aggT; rw [Tryd.underlying170]; rfl
@[simp] theorem siz170 : szT Tryd.prog 170 = some 1 := by unfold szT; rw [show Tryd.prog.info? 170 = some Tryd.t170 from Tryd.type170]; rfl
@[simp ↓] theorem ty170 {q : Bool → Nat → Prop} : goTy Tryd.prog 170 q = q false 1 := by simp only [goTy, agg170, siz170]
@[simp ↓] theorem sz170 {q : Nat → Prop} : goSz Tryd.prog 170 q = q 1 := by simp only [goSz, siz170]
theorem zer170 : zero? Tryd.prog 170 = some Go.Value.nilFunc := by unfold zero?; rw [show Tryd.prog.info? 170 = some Tryd.t170 from Tryd.type170]; rfl
@[simp ↓] theorem z170 {q : List Value → Prop} : goZ Tryd.prog 170 q = q [Go.Value.nilFunc] := by simp [goZ, zer170, Value.cells]
theorem agg171 : aggT Tryd.prog 171 = some false := by unfold aggT; rw [Tryd.underlying171]; rfl
@[simp] theorem siz171 : szT Tryd.prog 171 = some 1 := by unfold szT; rw [show Tryd.prog.info? 171 = some Tryd.t171 from Tryd.type171]; rfl
@[simp ↓] theorem ty171 {q : Bool → Nat → Prop} : goTy Tryd.prog 171 q = q false 1 := by simp only [goTy, agg171, siz171]
@[simp ↓] theorem sz171 {q : Nat → Prop} : goSz Tryd.prog 171 q = q 1 := by simp only [goSz, siz171]
theorem zer171 : zero? Tryd.prog 171 = some (Go.Value.map none) := by unfold zero?; rw [show Tryd.prog.info? 171 = some Tryd.t171 from Tryd.type171]; rfl
@[simp ↓] theorem z171 {q : List Value → Prop} : goZ Tryd.prog 171 q = q [(Go.Value.map none)] := by simp [goZ, zer171, Value.cells]
@[simp] theorem und171 : Tryd.prog.underlying 171 = some (Go.TypeDesc.map 9 4) := opq Tryd.underlying171
@[simp ↓] theorem un171 {q : TypeDesc → Prop} : goUnd Tryd.prog 171 q = q (Go.TypeDesc.map 9 4) := by simp only [goUnd, und171]
theorem agg172 : aggT Tryd.prog 172 = some false := by unfold aggT; rw [Tryd.underlying172]; rfl
@[simp] theorem siz172 : szT Tryd.prog 172 = some 1 := by unfold szT; rw [show Tryd.prog.info? 172 = some Tryd.t172 from Tryd.type172]; rfl
@[simp ↓] theorem ty172 {q : Bool → Nat → Prop} : goTy Tryd.prog 172 q = q false 1 := by simp only [goTy, agg172, siz172]
@[simp ↓] theorem sz172 {q : Nat → Prop} : goSz Tryd.prog 172 q = q 1 := by simp only [goSz, siz172]
theorem zer172 : zero? Tryd.prog 172 = some (Go.Value.map none) := by unfold zero?; rw [show Tryd.prog.info? 172 = some Tryd.t172 from Tryd.type172]; rfl
@[simp ↓] theorem z172 {q : List Value → Prop} : goZ Tryd.prog 172 q = q [(Go.Value.map none)] := by simp [goZ, zer172, Value.cells]
@[simp] theorem und172 : Tryd.prog.underlying 172 = some (Go.TypeDesc.map 3 3) := opq Tryd.underlying172
@[simp ↓] theorem un172 {q : TypeDesc → Prop} : goUnd Tryd.prog 172 q = q (Go.TypeDesc.map 3 3) := by simp only [goUnd, und172]
theorem agg174 : aggT Tryd.prog 174 = some false := by unfold aggT; rw [Tryd.underlying174]; rfl
@[simp] theorem siz174 : szT Tryd.prog 174 = some 1 := by unfold szT; rw [show Tryd.prog.info? 174 = some Tryd.t174 from Tryd.type174]; rfl
@[simp ↓] theorem ty174 {q : Bool → Nat → Prop} : goTy Tryd.prog 174 q = q false 1 := by simp only [goTy, agg174, siz174]
@[simp ↓] theorem sz174 {q : Nat → Prop} : goSz Tryd.prog 174 q = q 1 := by simp only [goSz, siz174]
theorem zer174 : zero? Tryd.prog 174 = some Go.Value.nilFunc := by unfold zero?; rw [show Tryd.prog.info? 174 = some Tryd.t174 from Tryd.type174]; rfl
@[simp ↓] theorem z174 {q : List Value → Prop} : goZ Tryd.prog 174 q = q [Go.Value.nilFunc] := by simp [goZ, zer174, Value.cells]
theorem agg175 : aggT Tryd.prog 175 = some false := by unfold aggT; rw [Tryd.underlying175]; rfl
@[simp] theorem siz175 : szT Tryd.prog 175 = some 1 := by unfold szT; rw [show Tryd.prog.info? 175 = some Tryd.t175 from Tryd.type175]; rfl
@[simp ↓] theorem ty175 {q : Bool → Nat → Prop} : goTy Tryd.prog 175 q = q false 1 := by simp only [goTy, agg175, siz175]
@[simp ↓] theorem sz175 {q : Nat → Prop} : goSz Tryd.prog 175 q = q 1 := by simp only [goSz, siz175]
theorem zer175 : zero? Tryd.prog 175 = some Go.Value.nilFunc := by unfold zero?; rw [show Tryd.prog.info? 175 = some Tryd.t175 from Tryd.type175]; rfl
@[simp ↓] theorem z175 {q : List Value → Prop} : goZ Tryd.prog 175 q = q [Go.Value.nilFunc] := by simp [goZ, zer175, Value.cells]
theorem agg176 : aggT Tryd.prog 176 = some false := by unfold aggT; rw [Tryd.underlying176]; rfl
@[simp] theorem siz176 : szT Tryd.prog 176 = some 1 := by unfold szT; rw [show Tryd.prog.info? 176 = some Tryd.t176 from Tryd.type176]; rfl
@[simp ↓] theorem ty176 {q : Bool → Nat → Prop} : goTy Tryd.prog 176 q = q false 1 := by simp only [goTy, agg176, siz176]
@[simp ↓] theorem sz176 {q : Nat → Prop} : goSz Tryd.prog 176 q = q 1 := by simp only [goSz, siz176]
theorem zer176 : zero? Tryd.prog 176 = some Go.Value.nilFunc := by unfold zero?; rw [show Tryd.prog.info? 176 = some Tryd.t176 from Tryd.type176]; rfl
@[simp ↓] theorem z176 {q : List Value → Prop} : goZ Tryd.prog 176 q = q [Go.Value.nilFunc] := by simp [goZ, zer176, Value.cells]
theorem agg177 : aggT Tryd.prog 177 = some false := by unfold aggT; rw [Tryd.underlying177]; rfl
@[simp] theorem siz177 : szT Tryd.prog 177 = some 1 := by unfold szT; rw [show Tryd.prog.info? 177 = some Tryd.t177 from Tryd.type177]; rfl
@[simp ↓] theorem ty177 {q : Bool → Nat → Prop} : goTy Tryd.prog 177 q = q false 1 := by simp only [goTy, agg177, siz177]
@[simp ↓] theorem sz177 {q : Nat → Prop} : goSz Tryd.prog 177 q = q 1 := by simp only [goSz, siz177]
theorem zer177 : zero? Tryd.prog 177 = some Go.Value.nilFunc := by unfold zero?; rw [show Tryd.prog.info? 177 = some Tryd.t177 from Tryd.type177]; rfl
@[simp ↓] theorem z177 {q : List Value → Prop} : goZ Tryd.prog 177 q = q [Go.Value.nilFunc] := by simp [goZ, zer177, Value.cells]
theorem agg178 : aggT Tryd.prog 178 = some false := by unfold aggT; rw [Tryd.underlying178]; rfl
@[simp] theorem siz178 : szT Tryd.prog 178 = some 1 := by unfold szT; rw [show Tryd.prog.info? 178 = some Tryd.t178 from Tryd.type178]; rfl
@[simp ↓] theorem ty178 {q : Bool → Nat → Prop} : goTy Tryd.prog 178 q = q false 1 := by simp only [goTy, agg178, siz178]
@[simp ↓] theorem sz178 {q : Nat → Prop} : goSz Tryd.prog 178 q = q 1 := by simp only [goSz, siz178]
theorem zer178 : zero? Tryd.prog 178 = some (Go.Value.int Go.IntKind.u64 0) := by unfold zero?; rw [show Tryd.prog.info? 178 = some Tryd.t178 from Tryd.type178]; rfl
@[simp ↓] theorem z178 {q : List Value → Prop} : goZ Tryd.prog 178 q = q [(Go.Value.int Go.IntKind.u64 0)] := by simp [goZ, zer178, Value.cells]
@[simp] theorem und178 : Tryd.prog.underlying 178 = some (Go.TypeDesc.int Go.IntKind.u64) := opq Tryd.underlying178
@[simp ↓] theorem un178 {q : TypeDesc → Prop} : goUnd Tryd.prog 178 q = q (Go.TypeDesc.int Go.IntKind.u64) := by simp only [goUnd, und178]
theorem agg180 : aggT Tryd.prog 180 = some false := by unfold aggT; rw [Tryd.underlying180]; rfl
@[simp] theorem siz180 : szT Tryd.prog 180 = some 1 := by unfold szT; rw [show Tryd.prog.info? 180 = some Tryd.t180 from Tryd.type180]; rfl
@[simp ↓] theorem ty180 {q : Bool → Nat → Prop} : goTy Tryd.prog 180 q = q false 1 := by simp only [goTy, agg180, siz180]
@[simp ↓] theorem sz180 {q : Nat → Prop} : goSz Tryd.prog 180 q = q 1 := by simp only [goSz, siz180]
theorem zer180 : zero? Tryd.prog 180 = some Go.Value.nilFunc := by unfold zero?; rw [show Tryd.prog.info? 180 = some Tryd.t180 from Tryd.type180]; rfl
@[simp ↓] theorem z180 {q : List Value → Prop} : goZ Tryd.prog 180 q = q [Go.Value.nilFunc] := by simp [goZ, zer180, Value.cells]
theorem agg181 : aggT Tryd.prog 181 = some true := by unfold aggT; rw [Tryd.underlying181]; rfl
@[simp] theorem siz181 : szT Tryd.prog 181 = some 24 := by unfold szT; rw [show Tryd.prog.info? 181 = some Tryd.t181 from Tryd.type181]; rfl
@[simp ↓] theorem ty181 {q : Bool → Nat → Prop} : goTy Tryd.prog 181 q = q true 24 := by simp only [goTy, agg181, siz181]
@[simp ↓] theorem sz181 {q : Nat → Prop} : goSz Tryd.prog 181 q = q 24 := by simp only [goSz, siz181]
theorem zer181 : zero? Tryd.prog 181 = some
  (Go.Value.agg
    #[Go.Value.int Go.IntKind.u8 0, Go.Value.int Go.IntKind.u8 0, Go.Value.int Go.IntKind.u8 0,
      Go.Value.int Go.IntKind.u8 0, Go.Value.int Go.IntKind.u8 0, Go.Value.int Go.IntKind.u8 0,
      Go.Value.int Go.IntKind.u8 0, Go.Value.int Go.IntKind.u8 0, Go.Value.int Go.IntKind.u8 0,
      Go.Value.int Go.IntKind.u8 0, Go.Value.int Go.IntKind.u8 0, Go.Value.int Go.IntKind.u8 0,
      Go.Value.int Go.IntKind.u8 0, Go.Value.int Go.IntKind.u8 0, Go.Value.int Go.IntKind.u8 0,
      Go.Value.int Go.IntKind.u8 0, Go.Value.int Go.IntKind.u8 0, Go.Value.int Go.IntKind.u8 0,
      Go.Value.int Go.IntKind.u8 0, Go.Value.int Go.IntKind.u8 0, Go.Value.int Go.IntKind.u8 0,
      Go.Value.int Go.IntKind.u8 0, Go.Value.int Go.IntKind.u8 0, Go.Value.int Go.IntKind.u8 0]) := by unfold zero?; rw [show Tryd.prog.info? 181 = some Tryd.t181 from Tryd.type181]; rfl
@[simp ↓] theorem z181 {q : List Value → Prop} : goZ Tryd.prog 181 q = q [Go.Value.int Go.IntKind.u8 0, Go.Value.int Go.IntKind.u8 0, Go.Value.int Go.IntKind.u8 0,
      Go.Value.int Go.IntKind.u8 0, Go.Value.int Go.IntKind.u8 0, Go.Value.int Go.IntKind.u8 0,
      Go.Value.int Go.IntKind.u8 0, Go.Value.int Go.IntKind.u8 0, Go.Value.int Go.IntKind.u8 0,
      Go.Value.int Go.IntKind.u8 0, Go.Value.int Go.IntKind.u8 0, Go.Value.int Go.IntKind.u8 0,
      Go.Value.int Go.IntKind.u8 0, Go.Value.int Go.IntKind.u8 0, Go.Value.int Go.IntKind.u8 0,
      Go.Value.int Go.IntKind.u8 0, Go.Value.int Go.IntKind.u8 0, Go.Value.int Go.IntKind.u8 0,
      Go.Value.int Go.IntKind.u8 0, Go.Value.int Go.IntKind.u8 0, Go.Value.int Go.IntKind.u8 0,
      Go.Value.int Go.IntKind.u8 0, Go.Value.int Go.IntKind.u8 0, Go.Value.int Go.IntKind.u8 0] := by simp [goZ, zer181, Value.cells]
@[simp] theorem und181 : Tryd.prog.underlying 181 = some (Go.TypeDesc.array 24 5) := opq Tryd.underlying181
@[simp ↓] theorem un181 {q : TypeDesc → Prop} : goUnd Tryd.prog 181 q = q (Go.TypeDesc.array 24 5) := by simp only [goUnd, und181]
theorem agg182 : aggT Tryd.prog 182 = some false := by unfold aggT; rw [Tryd.underlying182]; rfl
@[simp] theorem siz182 : szT Tryd.prog 182 = some 1 := by unfold szT; rw [show Tryd.prog.info? 182 = some Tryd.t182 from Tryd.type182]; rfl
@[simp ↓] theorem ty182 {q : Bool → Nat → Prop} : goTy Tryd.prog 182 q = q false 1 := by simp only [goTy, agg182, siz182]
@[simp ↓] theorem sz182 {q : Nat → Prop} : goSz Tryd.prog 182 q = q 1 := by simp only [goSz, siz182]
theorem zer182 : zero? Tryd.prog 182 = some Go.Value.nilFunc := by unfold zero?; rw [show Tryd.prog.info? 182 = some Tryd.t182 from Tryd.type182]; rfl
@[simp ↓] theorem z182 {q : List Value → Prop} : goZ Tryd.prog 182 q = q [Go.Value.nilFunc] := by simp [goZ, zer182, Value.cells]
theorem agg183 : aggT Tryd.prog 183 = some false := by unfold aggT; rw [Tryd.underlying183]; rfl
@[simp] theorem siz183 : szT Tryd.prog 183 = some 1 := by unfold szT; rw [show Tryd.prog.info? 183 = some Tryd.t183 from Tryd.type183]; rfl
@[simp ↓] theorem ty183 {q : Bool → Nat → Prop} : goTy Tryd.prog 183 q = q false 1 := by simp only [goTy, agg183, siz183]
@[simp ↓] theorem sz183 {q : Nat → Prop} : goSz Tryd.prog 183 q = q 1 := by simp only [goSz, siz183]
theorem zer183 : zero? Tryd.prog 183 = some Go.Value.nilFunc := by unfold zero?; rw [show Tryd.prog.info? 183 = some Tryd.t183 from Tryd.type183]; rfl
@[simp ↓] theorem z183 {q : List Value → Prop} : goZ Tryd.prog 183 q = q [Go.Value.nilFunc] := by simp [goZ, zer183, Value.cells]
theorem agg185 : aggT Tryd.prog 185 = some false := by unfold aggT; rw [Tryd.underlying185]; rfl
@[simp] theorem siz185 : szT Tryd.prog 185 = some 1 := by unfold szT; rw [show Tryd.prog.info? 185 = some Tryd.t185 from Tryd.type185]; rfl
@[simp ↓] theorem ty185 {q : Bool → Nat → Prop} : goTy Tryd.prog 185 q = q false 1 := by simp only [goTy, agg185, siz185]
@[simp ↓] theorem sz185 {q : Nat → Prop} : goSz Tryd.prog 185 q = q 1 := by simp only [goSz, siz185]
theorem zer185 : zero? Tryd.prog 185 = some Go.Value.nilFunc := by unfold zero?; rw [show Tryd.prog.info? 185 = some Tryd.t185 from Tryd.type185]; rfl
@[simp ↓] theorem z185 {q : List Value → Prop} : goZ Tryd.prog 185 q = q [Go.Value.nilFunc] := by simp [goZ, zer185, Value.cells]
theorem agg186 : aggT Tryd.prog 186 = some false := by unfold aggT; rw [Tryd.underlying186]; rfl
@[simp] theorem siz186 : szT Tryd.prog 186 = some 1 := by unfold szT; rw [show Tryd.prog.info? 186 = some Tryd.t186 from Tryd.type186]; rfl
@[simp ↓] theorem ty186 {q : Bool → Nat → Prop} : goTy Tryd.prog 186 q = q false 1 := by simp only [goTy, agg186, siz186]
@[simp ↓] theorem sz186 {q : Nat → Prop} : goSz Tryd.prog 186 q = q 1 := by simp only [goSz, siz186]
theorem zer186 : zero? Tryd.prog 186 = some Go.Value.nilFunc := by unfold zero?; rw [show Tryd.prog.info? 186 = some Tryd.t186 from Tryd.type186]; rfl
@[simp ↓] theorem z186 {q : List Value → Prop} : goZ Tryd.prog 186 q = q [Go.Value.nilFunc] := by simp [goZ, zer186, Value.cells]
theorem agg187 : aggT Tryd.prog 187 = some false := by unfold aggT; rw [Tryd.underlying187]; rfl
@[simp] theorem siz187 : szT Tryd.prog 187 = some 1 := by unfold szT; rw [show Tryd.prog.info? 187 = some Tryd.t187 from Tryd.type187]; rfl
@[simp ↓] theorem ty187 {q : Bool → Nat → Prop} : goTy Tryd.prog 187 q = q false 1 := by simp only [goTy, agg187, siz187]
@[simp ↓] theorem sz187 {q : Nat → Prop} : goSz Tryd.prog 187 q = q 1 := by simp only [goSz, siz187]
theorem zer187 : zero? Tryd.prog 187 = some Go.Value.nilFunc := by unfold zero?; rw [show Tryd.prog.info? 187 = some Tryd.t187 from Tryd.type187]; rfl
@[simp ↓] theorem z187 {q : List Value → Prop} : goZ Tryd.prog 187 q = q [Go.Value.nilFunc] := by simp [goZ, zer187, Value.cells]
theorem agg188 : aggT Tryd.prog 188 = some false := by unfold aggT; rw [Tryd.underlying188]; rfl
@[simp] theorem siz188 : szT Tryd.prog 188 = some 1 := by unfold szT; rw [show Tryd.prog.info? 188 = some Tryd.t188 from Tryd.type188]; rfl
@[simp ↓] theorem ty188 {q : Bool → Nat → Prop} : goTy Tryd.prog 188 q = q false 1 := by simp only [goTy, agg188, siz188]
@[simp ↓] theorem sz188 {q : Nat → Prop} : goSz Tryd.prog 188 q = q 1 := by simp only [goSz, siz188]
theorem zer188 : zero? Tryd.prog 188 = some Go.Value.nilFunc := by unfold zero?; rw [show Tryd.prog.info? 188 = some Tryd.t188 from Tryd.type188]; rfl
@[simp ↓] theorem z188 {q : List Value → Prop} : goZ Tryd.prog 188 q = q [Go.Value.nilFunc] := by simp [goZ, zer188, Value.cells]
theorem agg189 : aggT Tryd.prog 189 = some true := by unfold aggT; rw [Tryd.underlying189]; rfl
@[simp] theorem siz189 : szT Tryd.prog 189 = some 4 := by unfold szT; rw [show Tryd.prog.info? 189 = some Tryd.t189 from Tryd.type189]; rfl
@[simp ↓] theorem ty189 {q : Bool → Nat → Prop} : goTy Tryd.prog 189 q = q true 4 := by simp only [goTy, agg189, siz189]
@[simp ↓] theorem sz189 {q : Nat → Prop} : goSz Tryd.prog 189 q = q 4 := by simp only [goSz, siz189]
theorem zer189 : zero? Tryd.prog 189 = some
  (Go.Value.agg
    #[Go.Value.string { data := #[] }, Go.Value.bool false, Go.Value.bool false, Go.Value.int Go.IntKind.i64 0]) := by unfold zero?; rw [show Tryd.prog.info? 189 = some Tryd.t189 from Tryd.type189]; rfl
@[simp ↓] theorem z189 {q : List Value → Prop} : goZ Tryd.prog 189 q = q [Go.Value.string { data := #[] }, Go.Value.bool false, Go.Value.bool false, Go.Value.int Go.IntKind.i64 0] := by simp [goZ, zer189, Value.cells]
@[simp] theorem und189 : Tryd.prog.underlying 189 = some (Go.TypeDesc.struct
  #[{ name := "Name", type := 9, offset := 0, embedded := false, tag := "", pkgPath := "", byteOffset := 0 },
    { name := "Ask", type := 4, offset := 1, embedded := false, tag := "", pkgPath := "", byteOffset := 16 },
    { name := "Has", type := 4, offset := 2, embedded := false, tag := "", pkgPath := "", byteOffset := 17 },
    { name := "At", type := 3, offset := 3, embedded := false, tag := "", pkgPath := "", byteOffset := 24 }]) := opq Tryd.underlying189
@[simp ↓] theorem fld189_0 {q : Nat → TypeId → Prop} : goFld Tryd.prog 189 0 q = q 0 9 := by simp only [goFld, und189]; rfl
@[simp ↓] theorem fld189_1 {q : Nat → TypeId → Prop} : goFld Tryd.prog 189 1 q = q 1 4 := by simp only [goFld, und189]; rfl
@[simp ↓] theorem fld189_2 {q : Nat → TypeId → Prop} : goFld Tryd.prog 189 2 q = q 2 4 := by simp only [goFld, und189]; rfl
@[simp ↓] theorem fld189_3 {q : Nat → TypeId → Prop} : goFld Tryd.prog 189 3 q = q 3 3 := by simp only [goFld, und189]; rfl
@[simp ↓] theorem bld189 {q : List Value → List (Nat × Nat) → Prop} : goBld Tryd.prog 189 q = q [Go.Value.string { data := #[] }, Go.Value.bool false, Go.Value.bool false, Go.Value.int Go.IntKind.i64 0] [(0, 1), (1, 1), (2, 1), (3, 1)] := by simp [goBld, und189, zer189, placesL, Value.cells]
theorem agg190 : aggT Tryd.prog 190 = some false := by unfold aggT; rw [Tryd.underlying190]; rfl
@[simp] theorem siz190 : szT Tryd.prog 190 = some 1 := by unfold szT; rw [show Tryd.prog.info? 190 = some Tryd.t190 from Tryd.type190]; rfl
@[simp ↓] theorem ty190 {q : Bool → Nat → Prop} : goTy Tryd.prog 190 q = q false 1 := by simp only [goTy, agg190, siz190]
@[simp ↓] theorem sz190 {q : Nat → Prop} : goSz Tryd.prog 190 q = q 1 := by simp only [goSz, siz190]
theorem zer190 : zero? Tryd.prog 190 = some Go.Value.nilFunc := by unfold zero?; rw [show Tryd.prog.info? 190 = some Tryd.t190 from Tryd.type190]; rfl
@[simp ↓] theorem z190 {q : List Value → Prop} : goZ Tryd.prog 190 q = q [Go.Value.nilFunc] := by simp [goZ, zer190, Value.cells]
theorem agg191 : aggT Tryd.prog 191 = some false := by unfold aggT; rw [Tryd.underlying191]; rfl
@[simp] theorem siz191 : szT Tryd.prog 191 = some 1 := by unfold szT; rw [show Tryd.prog.info? 191 = some Tryd.t191 from Tryd.type191]; rfl
@[simp ↓] theorem ty191 {q : Bool → Nat → Prop} : goTy Tryd.prog 191 q = q false 1 := by simp only [goTy, agg191, siz191]
@[simp ↓] theorem sz191 {q : Nat → Prop} : goSz Tryd.prog 191 q = q 1 := by simp only [goSz, siz191]
theorem zer191 : zero? Tryd.prog 191 = some Go.Value.nilFunc := by unfold zero?; rw [show Tryd.prog.info? 191 = some Tryd.t191 from Tryd.type191]; rfl
@[simp ↓] theorem z191 {q : List Value → Prop} : goZ Tryd.prog 191 q = q [Go.Value.nilFunc] := by simp [goZ, zer191, Value.cells]
theorem agg192 : aggT Tryd.prog 192 = some false := by unfold aggT; rw [Tryd.underlying192]; rfl
@[simp] theorem siz192 : szT Tryd.prog 192 = some 1 := by unfold szT; rw [show Tryd.prog.info? 192 = some Tryd.t192 from Tryd.type192]; rfl
@[simp ↓] theorem ty192 {q : Bool → Nat → Prop} : goTy Tryd.prog 192 q = q false 1 := by simp only [goTy, agg192, siz192]
@[simp ↓] theorem sz192 {q : Nat → Prop} : goSz Tryd.prog 192 q = q 1 := by simp only [goSz, siz192]
theorem zer192 : zero? Tryd.prog 192 = some Go.Value.nilFunc := by unfold zero?; rw [show Tryd.prog.info? 192 = some Tryd.t192 from Tryd.type192]; rfl
@[simp ↓] theorem z192 {q : List Value → Prop} : goZ Tryd.prog 192 q = q [Go.Value.nilFunc] := by simp [goZ, zer192, Value.cells]
theorem agg193 : aggT Tryd.prog 193 = some false := by unfold aggT; rw [Tryd.underlying193]; rfl
@[simp] theorem siz193 : szT Tryd.prog 193 = some 1 := by unfold szT; rw [show Tryd.prog.info? 193 = some Tryd.t193 from Tryd.type193]; rfl
@[simp ↓] theorem ty193 {q : Bool → Nat → Prop} : goTy Tryd.prog 193 q = q false 1 := by simp only [goTy, agg193, siz193]
@[simp ↓] theorem sz193 {q : Nat → Prop} : goSz Tryd.prog 193 q = q 1 := by simp only [goSz, siz193]
theorem zer193 : zero? Tryd.prog 193 = some Go.Value.nilFunc := by unfold zero?; rw [show Tryd.prog.info? 193 = some Tryd.t193 from Tryd.type193]; rfl
@[simp ↓] theorem z193 {q : List Value → Prop} : goZ Tryd.prog 193 q = q [Go.Value.nilFunc] := by simp [goZ, zer193, Value.cells]
theorem agg194 : aggT Tryd.prog 194 = some false := by unfold aggT; rw [Tryd.underlying194]; rfl
@[simp] theorem siz194 : szT Tryd.prog 194 = some 1 := by unfold szT; rw [show Tryd.prog.info? 194 = some Tryd.t194 from Tryd.type194]; rfl
@[simp ↓] theorem ty194 {q : Bool → Nat → Prop} : goTy Tryd.prog 194 q = q false 1 := by simp only [goTy, agg194, siz194]
@[simp ↓] theorem sz194 {q : Nat → Prop} : goSz Tryd.prog 194 q = q 1 := by simp only [goSz, siz194]
theorem zer194 : zero? Tryd.prog 194 = some Go.Value.nilFunc := by unfold zero?; rw [show Tryd.prog.info? 194 = some Tryd.t194 from Tryd.type194]; rfl
@[simp ↓] theorem z194 {q : List Value → Prop} : goZ Tryd.prog 194 q = q [Go.Value.nilFunc] := by simp [goZ, zer194, Value.cells]
theorem agg195 : aggT Tryd.prog 195 = some false := by unfold aggT; rw [Tryd.underlying195]; rfl
@[simp] theorem siz195 : szT Tryd.prog 195 = some 1 := by unfold szT; rw [show Tryd.prog.info? 195 = some Tryd.t195 from Tryd.type195]; rfl
@[simp ↓] theorem ty195 {q : Bool → Nat → Prop} : goTy Tryd.prog 195 q = q false 1 := by simp only [goTy, agg195, siz195]
@[simp ↓] theorem sz195 {q : Nat → Prop} : goSz Tryd.prog 195 q = q 1 := by simp only [goSz, siz195]
theorem zer195 : zero? Tryd.prog 195 = some Go.Value.nilFunc := by unfold zero?; rw [show Tryd.prog.info? 195 = some Tryd.t195 from Tryd.type195]; rfl
@[simp ↓] theorem z195 {q : List Value → Prop} : goZ Tryd.prog 195 q = q [Go.Value.nilFunc] := by simp [goZ, zer195, Value.cells]
theorem agg196 : aggT Tryd.prog 196 = some false := by unfold aggT; rw [Tryd.underlying196]; rfl
@[simp] theorem siz196 : szT Tryd.prog 196 = some 1 := by unfold szT; rw [show Tryd.prog.info? 196 = some Tryd.t196 from Tryd.type196]; rfl
@[simp ↓] theorem ty196 {q : Bool → Nat → Prop} : goTy Tryd.prog 196 q = q false 1 := by simp only [goTy, agg196, siz196]
@[simp ↓] theorem sz196 {q : Nat → Prop} : goSz Tryd.prog 196 q = q 1 := by simp only [goSz, siz196]
theorem zer196 : zero? Tryd.prog 196 = some Go.Value.nilFunc := by unfold zero?; rw [show Tryd.prog.info? 196 = some Tryd.t196 from Tryd.type196]; rfl
@[simp ↓] theorem z196 {q : List Value → Prop} : goZ Tryd.prog 196 q = q [Go.Value.nilFunc] := by simp [goZ, zer196, Value.cells]
theorem agg197 : aggT Tryd.prog 197 = some true := by unfold aggT; rw [Tryd.underlying197]; rfl
@[simp] theorem siz197 : szT Tryd.prog 197 = some 20 := by unfold szT; rw [show Tryd.prog.info? 197 = some Tryd.t197 from Tryd.type197]; rfl
@[simp ↓] theorem ty197 {q : Bool → Nat → Prop} : goTy Tryd.prog 197 q = q true 20 := by simp only [goTy, agg197, siz197]
@[simp ↓] theorem sz197 {q : Nat → Prop} : goSz Tryd.prog 197 q = q 20 := by simp only [goSz, siz197]
theorem zer197 : zero? Tryd.prog 197 = some
  (Go.Value.agg
    #[Go.Value.int Go.IntKind.u64 0, Go.Value.int Go.IntKind.u64 0, Go.Value.int Go.IntKind.u64 0,
      Go.Value.int Go.IntKind.u64 0, Go.Value.int Go.IntKind.u64 0, Go.Value.int Go.IntKind.u64 0,
      Go.Value.int Go.IntKind.u64 0, Go.Value.int Go.IntKind.u64 0, Go.Value.int Go.IntKind.u64 0,
      Go.Value.int Go.IntKind.u64 0, Go.Value.int Go.IntKind.u64 0, Go.Value.int Go.IntKind.u64 0,
      Go.Value.int Go.IntKind.u64 0, Go.Value.int Go.IntKind.u64 0, Go.Value.int Go.IntKind.u64 0,
      Go.Value.int Go.IntKind.u64 0, Go.Value.int Go.IntKind.u64 0, Go.Value.int Go.IntKind.u64 0,
      Go.Value.int Go.IntKind.u64 0, Go.Value.int Go.IntKind.u64 0]) := by unfold zero?; rw [show Tryd.prog.info? 197 = some Tryd.t197 from Tryd.type197]; rfl
@[simp ↓] theorem z197 {q : List Value → Prop} : goZ Tryd.prog 197 q = q [Go.Value.int Go.IntKind.u64 0, Go.Value.int Go.IntKind.u64 0, Go.Value.int Go.IntKind.u64 0,
      Go.Value.int Go.IntKind.u64 0, Go.Value.int Go.IntKind.u64 0, Go.Value.int Go.IntKind.u64 0,
      Go.Value.int Go.IntKind.u64 0, Go.Value.int Go.IntKind.u64 0, Go.Value.int Go.IntKind.u64 0,
      Go.Value.int Go.IntKind.u64 0, Go.Value.int Go.IntKind.u64 0, Go.Value.int Go.IntKind.u64 0,
      Go.Value.int Go.IntKind.u64 0, Go.Value.int Go.IntKind.u64 0, Go.Value.int Go.IntKind.u64 0,
      Go.Value.int Go.IntKind.u64 0, Go.Value.int Go.IntKind.u64 0, Go.Value.int Go.IntKind.u64 0,
      Go.Value.int Go.IntKind.u64 0, Go.Value.int Go.IntKind.u64 0] := by simp [goZ, zer197, Value.cells]
@[simp] theorem und197 : Tryd.prog.underlying 197 = some (Go.TypeDesc.array 20 178) := opq Tryd.underlying197
@[simp ↓] theorem un197 {q : TypeDesc → Prop} : goUnd Tryd.prog 197 q = q (Go.TypeDesc.array 20 178) := by simp only [goUnd, und197]
theorem agg198 : aggT Tryd.prog 198 = some false := by unfold aggT; rw [Tryd.underlying198]; rfl
@[simp] theorem siz198 : szT Tryd.prog 198 = some 1 := by unfold szT; rw [show Tryd.prog.info? 198 = some Tryd.t198 from Tryd.type198]; rfl
@[simp ↓] theorem ty198 {q : Bool → Nat → Prop} : goTy Tryd.prog 198 q = q false 1 := by simp only [goTy, agg198, siz198]
@[simp ↓] theorem sz198 {q : Nat → Prop} : goSz Tryd.prog 198 q = q 1 := by simp only [goSz, siz198]
theorem zer198 : zero? Tryd.prog 198 = some (Go.Value.int Go.IntKind.u32 0) := by unfold zero?; rw [show Tryd.prog.info? 198 = some Tryd.t198 from Tryd.type198]; rfl
@[simp ↓] theorem z198 {q : List Value → Prop} : goZ Tryd.prog 198 q = q [(Go.Value.int Go.IntKind.u32 0)] := by simp [goZ, zer198, Value.cells]
@[simp] theorem und198 : Tryd.prog.underlying 198 = some (Go.TypeDesc.int Go.IntKind.u32) := opq Tryd.underlying198
@[simp ↓] theorem un198 {q : TypeDesc → Prop} : goUnd Tryd.prog 198 q = q (Go.TypeDesc.int Go.IntKind.u32) := by simp only [goUnd, und198]
theorem agg199 : aggT Tryd.prog 199 = some true := by unfold aggT; rw [Tryd.underlying199]; rfl
@[simp] theorem siz199 : szT Tryd.prog 199 = some 65 := by unfold szT; rw [show Tryd.prog.info? 199 = some Tryd.t199 from Tryd.type199]; rfl
@[simp ↓] theorem ty199 {q : Bool → Nat → Prop} : goTy Tryd.prog 199 q = q true 65 := by simp only [goTy, agg199, siz199]
@[simp ↓] theorem sz199 {q : Nat → Prop} : goSz Tryd.prog 199 q = q 65 := by simp only [goSz, siz199]
@[simp] theorem und199 : Tryd.prog.underlying 199 = some (Go.TypeDesc.array 65 5) := opq Tryd.underlying199
@[simp ↓] theorem un199 {q : TypeDesc → Prop} : goUnd Tryd.prog 199 q = q (Go.TypeDesc.array 65 5) := by simp only [goUnd, und199]
theorem agg200 : aggT Tryd.prog 200 = some false := by unfold aggT; rw [Tryd.underlying200]; rfl
@[simp] theorem siz200 : szT Tryd.prog 200 = some 1 := by unfold szT; rw [show Tryd.prog.info? 200 = some Tryd.t200 from Tryd.type200]; rfl
@[simp ↓] theorem ty200 {q : Bool → Nat → Prop} : goTy Tryd.prog 200 q = q false 1 := by simp only [goTy, agg200, siz200]
@[simp ↓] theorem sz200 {q : Nat → Prop} : goSz Tryd.prog 200 q = q 1 := by simp only [goSz, siz200]
theorem zer200 : zero? Tryd.prog 200 = some Go.Value.nilFunc := by unfold zero?; rw [show Tryd.prog.info? 200 = some Tryd.t200 from Tryd.type200]; rfl
@[simp ↓] theorem z200 {q : List Value → Prop} : goZ Tryd.prog 200 q = q [Go.Value.nilFunc] := by simp [goZ, zer200, Value.cells]
theorem agg201 : aggT Tryd.prog 201 = some false := by unfold aggT; rw [Tryd.underlying201]; rfl
@[simp] theorem siz201 : szT Tryd.prog 201 = some 1 := by unfold szT; rw [show Tryd.prog.info? 201 = some Tryd.t201 from Tryd.type201]; rfl
@[simp ↓] theorem ty201 {q : Bool → Nat → Prop} : goTy Tryd.prog 201 q = q false 1 := by simp only [goTy, agg201, siz201]
@[simp ↓] theorem sz201 {q : Nat → Prop} : goSz Tryd.prog 201 q = q 1 := by simp only [goSz, siz201]
theorem zer201 : zero? Tryd.prog 201 = some Go.Value.nilFunc := by unfold zero?; rw [show Tryd.prog.info? 201 = some Tryd.t201 from Tryd.type201]; rfl
@[simp ↓] theorem z201 {q : List Value → Prop} : goZ Tryd.prog 201 q = q [Go.Value.nilFunc] := by simp [goZ, zer201, Value.cells]
theorem agg202 : aggT Tryd.prog 202 = some false := by unfold aggT; rw [Tryd.underlying202]; rfl
@[simp] theorem siz202 : szT Tryd.prog 202 = some 1 := by unfold szT; rw [show Tryd.prog.info? 202 = some Tryd.t202 from Tryd.type202]; rfl
@[simp ↓] theorem ty202 {q : Bool → Nat → Prop} : goTy Tryd.prog 202 q = q false 1 := by simp only [goTy, agg202, siz202]
@[simp ↓] theorem sz202 {q : Nat → Prop} : goSz Tryd.prog 202 q = q 1 := by simp only [goSz, siz202]
theorem zer202 : zero? Tryd.prog 202 = some (Go.Value.slice none 0 0) := by unfold zero?; rw [show Tryd.prog.info? 202 = some Tryd.t202 from Tryd.type202]; rfl
@[simp ↓] theorem z202 {q : List Value → Prop} : goZ Tryd.prog 202 q = q [(Go.Value.slice none 0 0)] := by simp [goZ, zer202, Value.cells]
@[simp] theorem und202 : Tryd.prog.underlying 202 = some (Go.TypeDesc.slice 204) := opq Tryd.underlying202
@[simp ↓] theorem un202 {q : TypeDesc → Prop} : goUnd Tryd.prog 202 q = q (Go.TypeDesc.slice 204) := by simp only [goUnd, und202]
theorem slt202 : SlT Tryd.prog 202 204 2 16 := ⟨Tryd.underlying202, ⟨Tryd.t204, _, Tryd.type204, rfl, rfl, rfl, by simp, rfl⟩, by decide⟩
@[simp ↓] theorem sl202 {q : TypeId → Nat → List Value → Prop} : goSl Tryd.prog 202 q = q 204 2 [Go.Value.int Go.IntKind.i64 0, Go.Value.int Go.IntKind.i64 0] := by simp [goSl, und202, show zero? Tryd.prog 204 = some (Go.Value.agg #[Go.Value.int Go.IntKind.i64 0, Go.Value.int Go.IntKind.i64 0]) from by unfold zero?; rw [show Tryd.prog.info? 204 = some Tryd.t204 from Tryd.type204]; rfl, show szT Tryd.prog 204 = some 2 from by unfold szT; rw [show Tryd.prog.info? 204 = some Tryd.t204 from Tryd.type204]; rfl, Value.cells]
theorem agg203 : aggT Tryd.prog 203 = some true := by unfold aggT; rw [Tryd.underlying203]; rfl
@[simp] theorem siz203 : szT Tryd.prog 203 = some 2 := by unfold szT; rw [show Tryd.prog.info? 203 = some Tryd.t203 from Tryd.type203]; rfl
@[simp ↓] theorem ty203 {q : Bool → Nat → Prop} : goTy Tryd.prog 203 q = q true 2 := by simp only [goTy, agg203, siz203]
@[simp ↓] theorem sz203 {q : Nat → Prop} : goSz Tryd.prog 203 q = q 2 := by simp only [goSz, siz203]
theorem zer203 : zero? Tryd.prog 203 = some (Go.Value.agg #[Go.Value.int Go.IntKind.i64 0, Go.Value.int Go.IntKind.i64 0]) := by unfold zero?; rw [show Tryd.prog.info? 203 = some Tryd.t203 from Tryd.type203]; rfl
@[simp ↓] theorem z203 {q : List Value → Prop} : goZ Tryd.prog 203 q = q [Go.Value.int Go.IntKind.i64 0, Go.Value.int Go.IntKind.i64 0] := by simp [goZ, zer203, Value.cells]
@[simp] theorem und203 : Tryd.prog.underlying 203 = some (Go.TypeDesc.struct
  #[{ name := "start", type := 3, offset := 0, embedded := false, tag := "", pkgPath := "strings", byteOffset := 0 },
    { name := "end", type := 3, offset := 1, embedded := false, tag := "", pkgPath := "strings", byteOffset := 8 }]) := opq Tryd.underlying203
@[simp ↓] theorem fld203_0 {q : Nat → TypeId → Prop} : goFld Tryd.prog 203 0 q = q 0 3 := by simp only [goFld, und203]; rfl
@[simp ↓] theorem fld203_1 {q : Nat → TypeId → Prop} : goFld Tryd.prog 203 1 q = q 1 3 := by simp only [goFld, und203]; rfl
@[simp ↓] theorem bld203 {q : List Value → List (Nat × Nat) → Prop} : goBld Tryd.prog 203 q = q [Go.Value.int Go.IntKind.i64 0, Go.Value.int Go.IntKind.i64 0] [(0, 1), (1, 1)] := by simp [goBld, und203, zer203, placesL, Value.cells]
theorem agg204 : aggT Tryd.prog 204 = some true := by unfold aggT; rw [Tryd.underlying204]; rfl
@[simp] theorem siz204 : szT Tryd.prog 204 = some 2 := by unfold szT; rw [show Tryd.prog.info? 204 = some Tryd.t204 from Tryd.type204]; rfl
@[simp ↓] theorem ty204 {q : Bool → Nat → Prop} : goTy Tryd.prog 204 q = q true 2 := by simp only [goTy, agg204, siz204]
@[simp ↓] theorem sz204 {q : Nat → Prop} : goSz Tryd.prog 204 q = q 2 := by simp only [goSz, siz204]
theorem zer204 : zero? Tryd.prog 204 = some (Go.Value.agg #[Go.Value.int Go.IntKind.i64 0, Go.Value.int Go.IntKind.i64 0]) := by unfold zero?; rw [show Tryd.prog.info? 204 = some Tryd.t204 from Tryd.type204]; rfl
@[simp ↓] theorem z204 {q : List Value → Prop} : goZ Tryd.prog 204 q = q [Go.Value.int Go.IntKind.i64 0, Go.Value.int Go.IntKind.i64 0] := by simp [goZ, zer204, Value.cells]
@[simp] theorem und204 : Tryd.prog.underlying 204 = some (Go.TypeDesc.struct
  #[{ name := "start", type := 3, offset := 0, embedded := false, tag := "", pkgPath := "strings", byteOffset := 0 },
    { name := "end", type := 3, offset := 1, embedded := false, tag := "", pkgPath := "strings", byteOffset := 8 }]) := opq Tryd.underlying204
@[simp ↓] theorem fld204_0 {q : Nat → TypeId → Prop} : goFld Tryd.prog 204 0 q = q 0 3 := by simp only [goFld, und204]; rfl
@[simp ↓] theorem fld204_1 {q : Nat → TypeId → Prop} : goFld Tryd.prog 204 1 q = q 1 3 := by simp only [goFld, und204]; rfl
@[simp ↓] theorem bld204 {q : List Value → List (Nat × Nat) → Prop} : goBld Tryd.prog 204 q = q [Go.Value.int Go.IntKind.i64 0, Go.Value.int Go.IntKind.i64 0] [(0, 1), (1, 1)] := by simp [goBld, und204, zer204, placesL, Value.cells]
theorem agg206 : aggT Tryd.prog 206 = some false := by unfold aggT; rw [Tryd.underlying206]; rfl
@[simp] theorem siz206 : szT Tryd.prog 206 = some 1 := by unfold szT; rw [show Tryd.prog.info? 206 = some Tryd.t206 from Tryd.type206]; rfl
@[simp ↓] theorem ty206 {q : Bool → Nat → Prop} : goTy Tryd.prog 206 q = q false 1 := by simp only [goTy, agg206, siz206]
@[simp ↓] theorem sz206 {q : Nat → Prop} : goSz Tryd.prog 206 q = q 1 := by simp only [goSz, siz206]
theorem zer206 : zero? Tryd.prog 206 = some Go.Value.nilFunc := by unfold zero?; rw [show Tryd.prog.info? 206 = some Tryd.t206 from Tryd.type206]; rfl
@[simp ↓] theorem z206 {q : List Value → Prop} : goZ Tryd.prog 206 q = q [Go.Value.nilFunc] := by simp [goZ, zer206, Value.cells]
theorem agg207 : aggT Tryd.prog 207 = some false := by unfold aggT; rw [Tryd.underlying207]; rfl
@[simp] theorem siz207 : szT Tryd.prog 207 = some 1 := by unfold szT; rw [show Tryd.prog.info? 207 = some Tryd.t207 from Tryd.type207]; rfl
@[simp ↓] theorem ty207 {q : Bool → Nat → Prop} : goTy Tryd.prog 207 q = q false 1 := by simp only [goTy, agg207, siz207]
@[simp ↓] theorem sz207 {q : Nat → Prop} : goSz Tryd.prog 207 q = q 1 := by simp only [goSz, siz207]
theorem zer207 : zero? Tryd.prog 207 = some (Go.Value.int Go.IntKind.i64 0) := by unfold zero?; rw [show Tryd.prog.info? 207 = some Tryd.t207 from Tryd.type207]; rfl
@[simp ↓] theorem z207 {q : List Value → Prop} : goZ Tryd.prog 207 q = q [(Go.Value.int Go.IntKind.i64 0)] := by simp [goZ, zer207, Value.cells]
@[simp] theorem und207 : Tryd.prog.underlying 207 = some (Go.TypeDesc.int Go.IntKind.i64) := opq Tryd.underlying207
@[simp ↓] theorem un207 {q : TypeDesc → Prop} : goUnd Tryd.prog 207 q = q (Go.TypeDesc.int Go.IntKind.i64) := by simp only [goUnd, und207]
theorem agg208 : aggT Tryd.prog 208 = some false := by unfold aggT; rw [Tryd.underlying208]; rfl
@[simp] theorem siz208 : szT Tryd.prog 208 = some 1 := by unfold szT; rw [show Tryd.prog.info? 208 = some Tryd.t208 from Tryd.type208]; rfl
@[simp ↓] theorem ty208 {q : Bool → Nat → Prop} : goTy Tryd.prog 208 q = q false 1 := by simp only [goTy, agg208, siz208]
@[simp ↓] theorem sz208 {q : Nat → Prop} : goSz Tryd.prog 208 q = q 1 := by simp only [goSz, siz208]
theorem zer208 : zero? Tryd.prog 208 = some Go.Value.nilFunc := by unfold zero?; rw [show Tryd.prog.info? 208 = some Tryd.t208 from Tryd.type208]; rfl
@[simp ↓] theorem z208 {q : List Value → Prop} : goZ Tryd.prog 208 q = q [Go.Value.nilFunc] := by simp [goZ, zer208, Value.cells]
theorem agg209 : aggT Tryd.prog 209 = some false := by unfold aggT; rw [Tryd.underlying209]; rfl
@[simp] theorem siz209 : szT Tryd.prog 209 = some 1 := by unfold szT; rw [show Tryd.prog.info? 209 = some Tryd.t209 from Tryd.type209]; rfl
@[simp ↓] theorem ty209 {q : Bool → Nat → Prop} : goTy Tryd.prog 209 q = q false 1 := by simp only [goTy, agg209, siz209]
@[simp ↓] theorem sz209 {q : Nat → Prop} : goSz Tryd.prog 209 q = q 1 := by simp only [goSz, siz209]
theorem zer209 : zero? Tryd.prog 209 = some (Go.Value.pointer none) := by unfold zero?; rw [show Tryd.prog.info? 209 = some Tryd.t209 from Tryd.type209]; rfl
@[simp ↓] theorem z209 {q : List Value → Prop} : goZ Tryd.prog 209 q = q [(Go.Value.pointer none)] := by simp [goZ, zer209, Value.cells]
@[simp] theorem und209 : Tryd.prog.underlying 209 = some (Go.TypeDesc.pointer 216) := opq Tryd.underlying209
@[simp ↓] theorem un209 {q : TypeDesc → Prop} : goUnd Tryd.prog 209 q = q (Go.TypeDesc.pointer 216) := by simp only [goUnd, und209]
theorem agg210 : aggT Tryd.prog 210 = some false := by unfold aggT; rw [Tryd.underlying210]; rfl
@[simp] theorem siz210 : szT Tryd.prog 210 = some 1 := by unfold szT; rw [show Tryd.prog.info? 210 = some Tryd.t210 from Tryd.type210]; rfl
@[simp ↓] theorem ty210 {q : Bool → Nat → Prop} : goTy Tryd.prog 210 q = q false 1 := by simp only [goTy, agg210, siz210]
@[simp ↓] theorem sz210 {q : Nat → Prop} : goSz Tryd.prog 210 q = q 1 := by simp only [goSz, siz210]
theorem zer210 : zero? Tryd.prog 210 = some Go.Value.nilFunc := by unfold zero?; rw [show Tryd.prog.info? 210 = some Tryd.t210 from Tryd.type210]; rfl
@[simp ↓] theorem z210 {q : List Value → Prop} : goZ Tryd.prog 210 q = q [Go.Value.nilFunc] := by simp [goZ, zer210, Value.cells]
theorem agg211 : aggT Tryd.prog 211 = some false := by unfold aggT; rw [Tryd.underlying211]; rfl
@[simp] theorem siz211 : szT Tryd.prog 211 = some 1 := by unfold szT; rw [show Tryd.prog.info? 211 = some Tryd.t211 from Tryd.type211]; rfl
@[simp ↓] theorem ty211 {q : Bool → Nat → Prop} : goTy Tryd.prog 211 q = q false 1 := by simp only [goTy, agg211, siz211]
@[simp ↓] theorem sz211 {q : Nat → Prop} : goSz Tryd.prog 211 q = q 1 := by simp only [goSz, siz211]
theorem zer211 : zero? Tryd.prog 211 = some Go.Value.nilFunc := by unfold zero?; rw [show Tryd.prog.info? 211 = some Tryd.t211 from Tryd.type211]; rfl
@[simp ↓] theorem z211 {q : List Value → Prop} : goZ Tryd.prog 211 q = q [Go.Value.nilFunc] := by simp [goZ, zer211, Value.cells]
theorem agg213 : aggT Tryd.prog 213 = some false := by unfold aggT; rw [Tryd.underlying213]; rfl
@[simp] theorem siz213 : szT Tryd.prog 213 = some 1 := by unfold szT; rw [show Tryd.prog.info? 213 = some Tryd.t213 from Tryd.type213]; rfl
@[simp ↓] theorem ty213 {q : Bool → Nat → Prop} : goTy Tryd.prog 213 q = q false 1 := by simp only [goTy, agg213, siz213]
@[simp ↓] theorem sz213 {q : Nat → Prop} : goSz Tryd.prog 213 q = q 1 := by simp only [goSz, siz213]
theorem zer213 : zero? Tryd.prog 213 = some Go.Value.nilFunc := by unfold zero?; rw [show Tryd.prog.info? 213 = some Tryd.t213 from Tryd.type213]; rfl
@[simp ↓] theorem z213 {q : List Value → Prop} : goZ Tryd.prog 213 q = q [Go.Value.nilFunc] := by simp [goZ, zer213, Value.cells]
theorem agg214 : aggT Tryd.prog 214 = some false := by unfold aggT; rw [Tryd.underlying214]; rfl
@[simp] theorem siz214 : szT Tryd.prog 214 = some 1 := by unfold szT; rw [show Tryd.prog.info? 214 = some Tryd.t214 from Tryd.type214]; rfl
@[simp ↓] theorem ty214 {q : Bool → Nat → Prop} : goTy Tryd.prog 214 q = q false 1 := by simp only [goTy, agg214, siz214]
@[simp ↓] theorem sz214 {q : Nat → Prop} : goSz Tryd.prog 214 q = q 1 := by simp only [goSz, siz214]
theorem zer214 : zero? Tryd.prog 214 = some Go.Value.nilFunc := by unfold zero?; rw [show Tryd.prog.info? 214 = some Tryd.t214 from Tryd.type214]; rfl
@[simp ↓] theorem z214 {q : List Value → Prop} : goZ Tryd.prog 214 q = q [Go.Value.nilFunc] := by simp [goZ, zer214, Value.cells]
theorem agg215 : aggT Tryd.prog 215 = some true := by unfold aggT; rw [Tryd.underlying215]; rfl
@[simp] theorem siz215 : szT Tryd.prog 215 = some 3 := by unfold szT; rw [show Tryd.prog.info? 215 = some Tryd.t215 from Tryd.type215]; rfl
@[simp ↓] theorem ty215 {q : Bool → Nat → Prop} : goTy Tryd.prog 215 q = q true 3 := by simp only [goTy, agg215, siz215]
@[simp ↓] theorem sz215 {q : Nat → Prop} : goSz Tryd.prog 215 q = q 3 := by simp only [goSz, siz215]
theorem zer215 : zero? Tryd.prog 215 = some (Go.Value.agg #[Go.Value.string { data := #[] }, Go.Value.string { data := #[] }, Go.Value.nilIface]) := by unfold zero?; rw [show Tryd.prog.info? 215 = some Tryd.t215 from Tryd.type215]; rfl
@[simp ↓] theorem z215 {q : List Value → Prop} : goZ Tryd.prog 215 q = q [Go.Value.string { data := #[] }, Go.Value.string { data := #[] }, Go.Value.nilIface] := by simp [goZ, zer215, Value.cells]
@[simp] theorem und215 : Tryd.prog.underlying 215 = some (Go.TypeDesc.struct
  #[{ name := "Func", type := 9, offset := 0, embedded := false, tag := "", pkgPath := "", byteOffset := 0 },
    { name := "Num", type := 9, offset := 1, embedded := false, tag := "", pkgPath := "", byteOffset := 16 },
    { name := "Err", type := 90, offset := 2, embedded := false, tag := "", pkgPath := "", byteOffset := 32 }]) := opq Tryd.underlying215
@[simp ↓] theorem fld215_0 {q : Nat → TypeId → Prop} : goFld Tryd.prog 215 0 q = q 0 9 := by simp only [goFld, und215]; rfl
@[simp ↓] theorem fld215_1 {q : Nat → TypeId → Prop} : goFld Tryd.prog 215 1 q = q 1 9 := by simp only [goFld, und215]; rfl
@[simp ↓] theorem fld215_2 {q : Nat → TypeId → Prop} : goFld Tryd.prog 215 2 q = q 2 90 := by simp only [goFld, und215]; rfl
@[simp ↓] theorem bld215 {q : List Value → List (Nat × Nat) → Prop} : goBld Tryd.prog 215 q = q [Go.Value.string { data := #[] }, Go.Value.string { data := #[] }, Go.Value.nilIface] [(0, 1), (1, 1), (2, 1)] := by simp [goBld, und215, zer215, placesL, Value.cells]
theorem agg216 : aggT Tryd.prog 216 = some true := by unfold aggT; rw [Tryd.underlying216]; rfl
@[simp] theorem siz216 : szT Tryd.prog 216 = some 3 := by unfold szT; rw [show Tryd.prog.info? 216 = some Tryd.t216 from Tryd.type216]; rfl
@[simp ↓] theorem ty216 {q : Bool → Nat → Prop} : goTy Tryd.prog 216 q = q true 3 := by simp only [goTy, agg216, siz216]
@[simp ↓] theorem sz216 {q : Nat → Prop} : goSz Tryd.prog 216 q = q 3 := by simp only [goSz, siz216]
theorem zer216 : zero? Tryd.prog 216 = some (Go.Value.agg #[Go.Value.string { data := #[] }, Go.Value.string { data := #[] }, Go.Value.nilIface]) := by unfold zero?; rw [show Tryd.prog.info? 216 = some Tryd.t216 from Tryd.type216]; rfl
@[simp ↓] theorem z216 {q : List Value → Prop} : goZ Tryd.prog 216 q = q [Go.Value.string { data := #[] }, Go.Value.string { data := #[] }, Go.Value.nilIface] := by simp [goZ, zer216, Value.cells]
@[simp] theorem und216 : Tryd.prog.underlying 216 = some (Go.TypeDesc.struct
  #[{ name := "Func", type := 9, offset := 0, embedded := false, tag := "", pkgPath := "", byteOffset := 0 },
    { name := "Num", type := 9, offset := 1, embedded := false, tag := "", pkgPath := "", byteOffset := 16 },
    { name := "Err", type := 90, offset := 2, embedded := false, tag := "", pkgPath := "", byteOffset := 32 }]) := opq Tryd.underlying216
@[simp ↓] theorem fld216_0 {q : Nat → TypeId → Prop} : goFld Tryd.prog 216 0 q = q 0 9 := by simp only [goFld, und216]; rfl
@[simp ↓] theorem fld216_1 {q : Nat → TypeId → Prop} : goFld Tryd.prog 216 1 q = q 1 9 := by simp only [goFld, und216]; rfl
@[simp ↓] theorem fld216_2 {q : Nat → TypeId → Prop} : goFld Tryd.prog 216 2 q = q 2 90 := by simp only [goFld, und216]; rfl
@[simp ↓] theorem bld216 {q : List Value → List (Nat × Nat) → Prop} : goBld Tryd.prog 216 q = q [Go.Value.string { data := #[] }, Go.Value.string { data := #[] }, Go.Value.nilIface] [(0, 1), (1, 1), (2, 1)] := by simp [goBld, und216, zer216, placesL, Value.cells]
theorem agg217 : aggT Tryd.prog 217 = some false := by unfold aggT; rw [Tryd.underlying217]; rfl
@[simp] theorem siz217 : szT Tryd.prog 217 = some 1 := by unfold szT; rw [show Tryd.prog.info? 217 = some Tryd.t217 from Tryd.type217]; rfl
@[simp ↓] theorem ty217 {q : Bool → Nat → Prop} : goTy Tryd.prog 217 q = q false 1 := by simp only [goTy, agg217, siz217]
@[simp ↓] theorem sz217 {q : Nat → Prop} : goSz Tryd.prog 217 q = q 1 := by simp only [goSz, siz217]
theorem zer217 : zero? Tryd.prog 217 = some Go.Value.nilFunc := by unfold zero?; rw [show Tryd.prog.info? 217 = some Tryd.t217 from Tryd.type217]; rfl
@[simp ↓] theorem z217 {q : List Value → Prop} : goZ Tryd.prog 217 q = q [Go.Value.nilFunc] := by simp [goZ, zer217, Value.cells]
theorem agg218 : aggT Tryd.prog 218 = some true := by unfold aggT; rw [Tryd.underlying218]; rfl
@[simp] theorem siz218 : szT Tryd.prog 218 = some 32 := by unfold szT; rw [show Tryd.prog.info? 218 = some Tryd.t218 from Tryd.type218]; rfl
@[simp ↓] theorem ty218 {q : Bool → Nat → Prop} : goTy Tryd.prog 218 q = q true 32 := by simp only [goTy, agg218, siz218]
@[simp ↓] theorem sz218 {q : Nat → Prop} : goSz Tryd.prog 218 q = q 32 := by simp only [goSz, siz218]
theorem zer218 : zero? Tryd.prog 218 = some
  (Go.Value.agg
    #[Go.Value.int Go.IntKind.u8 0, Go.Value.int Go.IntKind.u8 0, Go.Value.int Go.IntKind.u8 0,
      Go.Value.int Go.IntKind.u8 0, Go.Value.int Go.IntKind.u8 0, Go.Value.int Go.IntKind.u8 0,
      Go.Value.int Go.IntKind.u8 0, Go.Value.int Go.IntKind.u8 0, Go.Value.int Go.IntKind.u8 0,
      Go.Value.int Go.IntKind.u8 0, Go.Value.int Go.IntKind.u8 0, Go.Value.int Go.IntKind.u8 0,
      Go.Value.int Go.IntKind.u8 0, Go.Value.int Go.IntKind.u8 0, Go.Value.int Go.IntKind.u8 0,
      Go.Value.int Go.IntKind.u8 0, Go.Value.int Go.IntKind.u8 0, Go.Value.int Go.IntKind.u8 0,
      Go.Value.int Go.IntKind.u8 0, Go.Value.int Go.IntKind.u8 0, Go.Value.int Go.IntKind.u8 0,
      Go.Value.int Go.IntKind.u8 0, Go.Value.int Go.IntKind.u8 0, Go.Value.int Go.IntKind.u8 0,
      Go.Value.int Go.IntKind.u8 0, Go.Value.int Go.IntKind.u8 0, Go.Value.int Go.IntKind.u8 0,
      Go.Value.int Go.IntKind.u8 0, Go.Value.int Go.IntKind.u8 0, Go.Value.int Go.IntKind.u8 0,
      Go.Value.int Go.IntKind.u8 0, Go.Value.int Go.IntKind.u8 0]) := by unfold zero?; rw [show Tryd.prog.info? 218 = some Tryd.t218 from Tryd.type218]; rfl
@[simp ↓] theorem z218 {q : List Value → Prop} : goZ Tryd.prog 218 q = q [Go.Value.int Go.IntKind.u8 0, Go.Value.int Go.IntKind.u8 0, Go.Value.int Go.IntKind.u8 0,
      Go.Value.int Go.IntKind.u8 0, Go.Value.int Go.IntKind.u8 0, Go.Value.int Go.IntKind.u8 0,
      Go.Value.int Go.IntKind.u8 0, Go.Value.int Go.IntKind.u8 0, Go.Value.int Go.IntKind.u8 0,
      Go.Value.int Go.IntKind.u8 0, Go.Value.int Go.IntKind.u8 0, Go.Value.int Go.IntKind.u8 0,
      Go.Value.int Go.IntKind.u8 0, Go.Value.int Go.IntKind.u8 0, Go.Value.int Go.IntKind.u8 0,
      Go.Value.int Go.IntKind.u8 0, Go.Value.int Go.IntKind.u8 0, Go.Value.int Go.IntKind.u8 0,
      Go.Value.int Go.IntKind.u8 0, Go.Value.int Go.IntKind.u8 0, Go.Value.int Go.IntKind.u8 0,
      Go.Value.int Go.IntKind.u8 0, Go.Value.int Go.IntKind.u8 0, Go.Value.int Go.IntKind.u8 0,
      Go.Value.int Go.IntKind.u8 0, Go.Value.int Go.IntKind.u8 0, Go.Value.int Go.IntKind.u8 0,
      Go.Value.int Go.IntKind.u8 0, Go.Value.int Go.IntKind.u8 0, Go.Value.int Go.IntKind.u8 0,
      Go.Value.int Go.IntKind.u8 0, Go.Value.int Go.IntKind.u8 0] := by simp [goZ, zer218, Value.cells]
@[simp] theorem und218 : Tryd.prog.underlying 218 = some (Go.TypeDesc.array 32 5) := opq Tryd.underlying218
@[simp ↓] theorem un218 {q : TypeDesc → Prop} : goUnd Tryd.prog 218 q = q (Go.TypeDesc.array 32 5) := by simp only [goUnd, und218]
theorem agg219 : aggT Tryd.prog 219 = some true := by unfold aggT; rw [Tryd.underlying219]; rfl
@[simp] theorem siz219 : szT Tryd.prog 219 = some 64 := by unfold szT; rw [show Tryd.prog.info? 219 = some Tryd.t219 from Tryd.type219]; rfl
@[simp ↓] theorem ty219 {q : Bool → Nat → Prop} : goTy Tryd.prog 219 q = q true 64 := by simp only [goTy, agg219, siz219]
@[simp ↓] theorem sz219 {q : Nat → Prop} : goSz Tryd.prog 219 q = q 64 := by simp only [goSz, siz219]
@[simp] theorem und219 : Tryd.prog.underlying 219 = some (Go.TypeDesc.array 64 5) := opq Tryd.underlying219
@[simp ↓] theorem un219 {q : TypeDesc → Prop} : goUnd Tryd.prog 219 q = q (Go.TypeDesc.array 64 5) := by simp only [goUnd, und219]
theorem agg220 : aggT Tryd.prog 220 = some false := by unfold aggT; rw [Tryd.underlying220]; rfl
@[simp] theorem siz220 : szT Tryd.prog 220 = some 1 := by unfold szT; rw [show Tryd.prog.info? 220 = some Tryd.t220 from Tryd.type220]; rfl
@[simp ↓] theorem ty220 {q : Bool → Nat → Prop} : goTy Tryd.prog 220 q = q false 1 := by simp only [goTy, agg220, siz220]
@[simp ↓] theorem sz220 {q : Nat → Prop} : goSz Tryd.prog 220 q = q 1 := by simp only [goSz, siz220]
theorem zer220 : zero? Tryd.prog 220 = some (Go.Value.pointer none) := by unfold zero?; rw [show Tryd.prog.info? 220 = some Tryd.t220 from Tryd.type220]; rfl
@[simp ↓] theorem z220 {q : List Value → Prop} : goZ Tryd.prog 220 q = q [(Go.Value.pointer none)] := by simp [goZ, zer220, Value.cells]
@[simp] theorem und220 : Tryd.prog.underlying 220 = some (Go.TypeDesc.pointer 222) := opq Tryd.underlying220
@[simp ↓] theorem un220 {q : TypeDesc → Prop} : goUnd Tryd.prog 220 q = q (Go.TypeDesc.pointer 222) := by simp only [goUnd, und220]
theorem agg221 : aggT Tryd.prog 221 = some true := by unfold aggT; rw [Tryd.underlying221]; rfl
@[simp] theorem siz221 : szT Tryd.prog 221 = some 1 := by unfold szT; rw [show Tryd.prog.info? 221 = some Tryd.t221 from Tryd.type221]; rfl
@[simp ↓] theorem ty221 {q : Bool → Nat → Prop} : goTy Tryd.prog 221 q = q true 1 := by simp only [goTy, agg221, siz221]
@[simp ↓] theorem sz221 {q : Nat → Prop} : goSz Tryd.prog 221 q = q 1 := by simp only [goSz, siz221]
theorem zer221 : zero? Tryd.prog 221 = some (Go.Value.agg #[Go.Value.string { data := #[] }]) := by unfold zero?; rw [show Tryd.prog.info? 221 = some Tryd.t221 from Tryd.type221]; rfl
@[simp ↓] theorem z221 {q : List Value → Prop} : goZ Tryd.prog 221 q = q [Go.Value.string { data := #[] }] := by simp [goZ, zer221, Value.cells]
@[simp] theorem und221 : Tryd.prog.underlying 221 = some (Go.TypeDesc.struct
  #[{ name := "s", type := 9, offset := 0, embedded := false, tag := "", pkgPath := "errors", byteOffset := 0 }]) := opq Tryd.underlying221
@[simp ↓] theorem fld221_0 {q : Nat → TypeId → Prop} : goFld Tryd.prog 221 0 q = q 0 9 := by simp only [goFld, und221]; rfl
@[simp ↓] theorem bld221 {q : List Value → List (Nat × Nat) → Prop} : goBld Tryd.prog 221 q = q [Go.Value.string { data := #[] }] [(0, 1)] := by simp [goBld, und221, zer221, placesL, Value.cells]
theorem agg222 : aggT Tryd.prog 222 = some true := by unfold aggT; rw [Tryd.underlying222]; rfl
@[simp] theorem siz222 : szT Tryd.prog 222 = some 1 := by unfold szT; rw [show Tryd.prog.info? 222 = some Tryd.t222 from Tryd.type222]; rfl
@[simp ↓] theorem ty222 {q : Bool → Nat → Prop} : goTy Tryd.prog 222 q = q true 1 := by simp only [goTy, agg222, siz222]
@[simp ↓] theorem sz222 {q : Nat → Prop} : goSz Tryd.prog 222 q = q 1 := by simp only [goSz, siz222]
theorem zer222 : zero? Tryd.prog 222 = some (Go.Value.agg #[Go.Value.string { data := #[] }]) := by unfold zero?; rw [show Tryd.prog.info? 222 = some Tryd.t222 from Tryd.type222]; rfl
@[simp ↓] theorem z222 {q : List Value → Prop} : goZ Tryd.prog 222 q = q [Go.Value.string { data := #[] }] := by simp [goZ, zer222, Value.cells]
@[simp] theorem und222 : Tryd.prog.underlying 222 = some (Go.TypeDesc.struct
  #[{ name := "s", type := 9, offset := 0, embedded := false, tag := "", pkgPath := "errors", byteOffset := 0 }]) := opq Tryd.underlying222
@[simp ↓] theorem fld222_0 {q : Nat → TypeId → Prop} : goFld Tryd.prog 222 0 q = q 0 9 := by simp only [goFld, und222]; rfl
@[simp ↓] theorem bld222 {q : List Value → List (Nat × Nat) → Prop} : goBld Tryd.prog 222 q = q [Go.Value.string { data := #[] }] [(0, 1)] := by simp [goBld, und222, zer222, placesL, Value.cells]
theorem agg223 : aggT Tryd.prog 223 = some true := by unfold aggT; rw [Tryd.underlying223]; rfl
@[simp] theorem siz223 : szT Tryd.prog 223 = some 4 := by unfold szT; rw [show Tryd.prog.info? 223 = some Tryd.t223 from Tryd.type223]; rfl
@[simp ↓] theorem ty223 {q : Bool → Nat → Prop} : goTy Tryd.prog 223 q = q true 4 := by simp only [goTy, agg223, siz223]
@[simp ↓] theorem sz223 {q : Nat → Prop} : goSz Tryd.prog 223 q = q 4 := by simp only [goSz, siz223]
theorem zer223 : zero? Tryd.prog 223 = some
  (Go.Value.agg #[Go.Value.pointer none, Go.Value.pointer none, Go.Value.pointer none, Go.Value.string { data := #[] }]) := by unfold zero?; rw [show Tryd.prog.info? 223 = some Tryd.t223 from Tryd.type223]; rfl
@[simp ↓] theorem z223 {q : List Value → Prop} : goZ Tryd.prog 223 q = q [Go.Value.pointer none, Go.Value.pointer none, Go.Value.pointer none, Go.Value.string { data := #[] }] := by simp [goZ, zer223, Value.cells]
@[simp] theorem und223 : Tryd.prog.underlying 223 = some (Go.TypeDesc.struct
  #[{ name := "_interface", type := 17, offset := 0, embedded := false, tag := "", pkgPath := "runtime",
      byteOffset := 0 },
    { name := "concrete", type := 17, offset := 1, embedded := false, tag := "", pkgPath := "runtime",
      byteOffset := 8 },
    { name := "asserted", type := 17, offset := 2, embedded := false, tag := "", pkgPath := "runtime",
      byteOffset := 16 },
    { name := "missingMethod", type := 9, offset := 3, embedded := false, tag := "", pkgPath := "runtime",
      byteOffset := 24 }]) := opq Tryd.underlying223
@[simp ↓] theorem fld223_0 {q : Nat → TypeId → Prop} : goFld Tryd.prog 223 0 q = q 0 17 := by simp only [goFld, und223]; rfl
@[simp ↓] theorem fld223_1 {q : Nat → TypeId → Prop} : goFld Tryd.prog 223 1 q = q 1 17 := by simp only [goFld, und223]; rfl
@[simp ↓] theorem fld223_2 {q : Nat → TypeId → Prop} : goFld Tryd.prog 223 2 q = q 2 17 := by simp only [goFld, und223]; rfl
@[simp ↓] theorem fld223_3 {q : Nat → TypeId → Prop} : goFld Tryd.prog 223 3 q = q 3 9 := by simp only [goFld, und223]; rfl
@[simp ↓] theorem bld223 {q : List Value → List (Nat × Nat) → Prop} : goBld Tryd.prog 223 q = q [Go.Value.pointer none, Go.Value.pointer none, Go.Value.pointer none, Go.Value.string { data := #[] }] [(0, 1), (1, 1), (2, 1), (3, 1)] := by simp [goBld, und223, zer223, placesL, Value.cells]
theorem agg224 : aggT Tryd.prog 224 = some true := by unfold aggT; rw [Tryd.underlying224]; rfl
@[simp] theorem siz224 : szT Tryd.prog 224 = some 4 := by unfold szT; rw [show Tryd.prog.info? 224 = some Tryd.t224 from Tryd.type224]; rfl
@[simp ↓] theorem ty224 {q : Bool → Nat → Prop} : goTy Tryd.prog 224 q = q true 4 := by simp only [goTy, agg224, siz224]
@[simp ↓] theorem sz224 {q : Nat → Prop} : goSz Tryd.prog 224 q = q 4 := by simp only [goSz, siz224]
theorem zer224 : zero? Tryd.prog 224 = some
  (Go.Value.agg #[Go.Value.pointer none, Go.Value.pointer none, Go.Value.pointer none, Go.Value.string { data := #[] }]) := by unfold zero?; rw [show Tryd.prog.info? 224 = some Tryd.t224 from Tryd.type224]; rfl
@[simp ↓] theorem z224 {q : List Value → Prop} : goZ Tryd.prog 224 q = q [Go.Value.pointer none, Go.Value.pointer none, Go.Value.pointer none, Go.Value.string { data := #[] }] := by simp [goZ, zer224, Value.cells]
@[simp] theorem und224 : Tryd.prog.underlying 224 = some (Go.TypeDesc.struct
  #[{ name := "_interface", type := 17, offset := 0, embedded := false, tag := "", pkgPath := "runtime",
      byteOffset := 0 },
    { name := "concrete", type := 17, offset := 1, embedded := false, tag := "", pkgPath := "runtime",
      byteOffset := 8 },
    { name := "asserted", type := 17, offset := 2, embedded := false, tag := "", pkgPath := "runtime",
      byteOffset := 16 },
    { name := "missingMethod", type := 9, offset := 3, embedded := false, tag := "", pkgPath := "runtime",
      byteOffset := 24 }]) := opq Tryd.underlying224
@[simp ↓] theorem fld224_0 {q : Nat → TypeId → Prop} : goFld Tryd.prog 224 0 q = q 0 17 := by simp only [goFld, und224]; rfl
@[simp ↓] theorem fld224_1 {q : Nat → TypeId → Prop} : goFld Tryd.prog 224 1 q = q 1 17 := by simp only [goFld, und224]; rfl
@[simp ↓] theorem fld224_2 {q : Nat → TypeId → Prop} : goFld Tryd.prog 224 2 q = q 2 17 := by simp only [goFld, und224]; rfl
@[simp ↓] theorem fld224_3 {q : Nat → TypeId → Prop} : goFld Tryd.prog 224 3 q = q 3 9 := by simp only [goFld, und224]; rfl
@[simp ↓] theorem bld224 {q : List Value → List (Nat × Nat) → Prop} : goBld Tryd.prog 224 q = q [Go.Value.pointer none, Go.Value.pointer none, Go.Value.pointer none, Go.Value.string { data := #[] }] [(0, 1), (1, 1), (2, 1), (3, 1)] := by simp [goBld, und224, zer224, placesL, Value.cells]
theorem agg225 : aggT Tryd.prog 225 = some true := by unfold aggT; rw [Tryd.underlying225]; rfl
@[simp] theorem siz225 : szT Tryd.prog 225 = some 0 := by unfold szT; rw [show Tryd.prog.info? 225 = some Tryd.t225 from Tryd.type225]; rfl
@[simp ↓] theorem ty225 {q : Bool → Nat → Prop} : goTy Tryd.prog 225 q = q true 0 := by simp only [goTy, agg225, siz225]
@[simp ↓] theorem sz225 {q : Nat → Prop} : goSz Tryd.prog 225 q = q 0 := by simp only [goSz, siz225]
theorem zer225 : zero? Tryd.prog 225 = some (Go.Value.agg #[]) := by unfold zero?; rw [show Tryd.prog.info? 225 = some Tryd.t225 from Tryd.type225]; rfl
@[simp ↓] theorem z225 {q : List Value → Prop} : goZ Tryd.prog 225 q = q [] := by simp [goZ, zer225, Value.cells]
@[simp] theorem und225 : Tryd.prog.underlying 225 = some (Go.TypeDesc.array 0 16) := opq Tryd.underlying225
@[simp ↓] theorem un225 {q : TypeDesc → Prop} : goUnd Tryd.prog 225 q = q (Go.TypeDesc.array 0 16) := by simp only [goUnd, und225]
theorem agg226 : aggT Tryd.prog 226 = some true := by unfold aggT; rw [Tryd.underlying226]; rfl
@[simp] theorem siz226 : szT Tryd.prog 226 = some 0 := by unfold szT; rw [show Tryd.prog.info? 226 = some Tryd.t226 from Tryd.type226]; rfl
@[simp ↓] theorem ty226 {q : Bool → Nat → Prop} : goTy Tryd.prog 226 q = q true 0 := by simp only [goTy, agg226, siz226]
@[simp ↓] theorem sz226 {q : Nat → Prop} : goSz Tryd.prog 226 q = q 0 := by simp only [goSz, siz226]
theorem zer226 : zero? Tryd.prog 226 = some (Go.Value.agg #[]) := by unfold zero?; rw [show Tryd.prog.info? 226 = some Tryd.t226 from Tryd.type226]; rfl
@[simp ↓] theorem z226 {q : List Value → Prop} : goZ Tryd.prog 226 q = q [] := by simp [goZ, zer226, Value.cells]
@[simp] theorem und226 : Tryd.prog.underlying 226 = some (Go.TypeDesc.struct
  #[{ name := "_", type := 225, offset := 0, embedded := false, tag := "", pkgPath := "runtime", byteOffset := 0 }]) := opq Tryd.underlying226
@[simp ↓] theorem fld226_0 {q : Nat → TypeId → Prop} : goFld Tryd.prog 226 0 q = q 0 225 := by simp only [goFld, und226]; rfl
@[simp ↓] theorem bld226 {q : List Value → List (Nat × Nat) → Prop} : goBld Tryd.prog 226 q = q [] [(0, 0)] := by simp [goBld, und226, zer226, placesL, Value.cells]
theorem agg227 : aggT Tryd.prog 227 = some true := by unfold aggT; rw [Tryd.underlying227]; rfl
@[simp] theorem siz227 : szT Tryd.prog 227 = some 0 := by unfold szT; rw [show Tryd.prog.info? 227 = some Tryd.t227 from Tryd.type227]; rfl
@[simp ↓] theorem ty227 {q : Bool → Nat → Prop} : goTy Tryd.prog 227 q = q true 0 := by simp only [goTy, agg227, siz227]
@[simp ↓] theorem sz227 {q : Nat → Prop} : goSz Tryd.prog 227 q = q 0 := by simp only [goSz, siz227]
theorem zer227 : zero? Tryd.prog 227 = some (Go.Value.agg #[]) := by unfold zero?; rw [show Tryd.prog.info? 227 = some Tryd.t227 from Tryd.type227]; rfl
@[simp ↓] theorem z227 {q : List Value → Prop} : goZ Tryd.prog 227 q = q [] := by simp [goZ, zer227, Value.cells]
@[simp] theorem und227 : Tryd.prog.underlying 227 = some (Go.TypeDesc.struct
  #[{ name := "_", type := 225, offset := 0, embedded := false, tag := "", pkgPath := "runtime", byteOffset := 0 }]) := opq Tryd.underlying227
@[simp ↓] theorem fld227_0 {q : Nat → TypeId → Prop} : goFld Tryd.prog 227 0 q = q 0 225 := by simp only [goFld, und227]; rfl
@[simp ↓] theorem bld227 {q : List Value → List (Nat × Nat) → Prop} : goBld Tryd.prog 227 q = q [] [(0, 0)] := by simp [goBld, und227, zer227, placesL, Value.cells]
theorem agg228 : aggT Tryd.prog 228 = some false := by unfold aggT; rw [Tryd.underlying228]; rfl
@[simp] theorem siz228 : szT Tryd.prog 228 = some 1 := by unfold szT; rw [show Tryd.prog.info? 228 = some Tryd.t228 from Tryd.type228]; rfl
@[simp ↓] theorem ty228 {q : Bool → Nat → Prop} : goTy Tryd.prog 228 q = q false 1 := by simp only [goTy, agg228, siz228]
@[simp ↓] theorem sz228 {q : Nat → Prop} : goSz Tryd.prog 228 q = q 1 := by simp only [goSz, siz228]
theorem zer228 : zero? Tryd.prog 228 = some (Go.Value.int Go.IntKind.u8 0) := by unfold zero?; rw [show Tryd.prog.info? 228 = some Tryd.t228 from Tryd.type228]; rfl
@[simp ↓] theorem z228 {q : List Value → Prop} : goZ Tryd.prog 228 q = q [(Go.Value.int Go.IntKind.u8 0)] := by simp [goZ, zer228, Value.cells]
@[simp] theorem und228 : Tryd.prog.underlying 228 = some (Go.TypeDesc.int Go.IntKind.u8) := opq Tryd.underlying228
@[simp ↓] theorem un228 {q : TypeDesc → Prop} : goUnd Tryd.prog 228 q = q (Go.TypeDesc.int Go.IntKind.u8) := by simp only [goUnd, und228]
theorem agg229 : aggT Tryd.prog 229 = some false := by unfold aggT; rw [Tryd.underlying229]; rfl
@[simp] theorem siz229 : szT Tryd.prog 229 = some 1 := by unfold szT; rw [show Tryd.prog.info? 229 = some Tryd.t229 from Tryd.type229]; rfl
@[simp ↓] theorem ty229 {q : Bool → Nat → Prop} : goTy Tryd.prog 229 q = q false 1 := by simp only [goTy, agg229, siz229]
@[simp ↓] theorem sz229 {q : Nat → Prop} : goSz Tryd.prog 229 q = q 1 := by simp only [goSz, siz229]
theorem zer229 : zero? Tryd.prog 229 = some (Go.Value.int Go.IntKind.u8 0) := by unfold zero?; rw [show Tryd.prog.info? 229 = some Tryd.t229 from Tryd.type229]; rfl
@[simp ↓] theorem z229 {q : List Value → Prop} : goZ Tryd.prog 229 q = q [(Go.Value.int Go.IntKind.u8 0)] := by simp [goZ, zer229, Value.cells]
@[simp] theorem und229 : Tryd.prog.underlying 229 = some (Go.TypeDesc.int Go.IntKind.u8) := opq Tryd.underlying229
@[simp ↓] theorem un229 {q : TypeDesc → Prop} : goUnd Tryd.prog 229 q = q (Go.TypeDesc.int Go.IntKind.u8) := by simp only [goUnd, und229]
theorem agg230 : aggT Tryd.prog 230 = some false := by unfold aggT; rw [Tryd.underlying230]; rfl
@[simp] theorem siz230 : szT Tryd.prog 230 = some 1 := by unfold szT; rw [show Tryd.prog.info? 230 = some Tryd.t230 from Tryd.type230]; rfl
@[simp ↓] theorem ty230 {q : Bool → Nat → Prop} : goTy Tryd.prog 230 q = q false 1 := by simp only [goTy, agg230, siz230]
@[simp ↓] theorem sz230 {q : Nat → Prop} : goSz Tryd.prog 230 q = q 1 := by simp only [goSz, siz230]
theorem zer230 : zero? Tryd.prog 230 = some Go.Value.nilFunc := by unfold zero?; rw [show Tryd.prog.info? 230 = some Tryd.t230 from Tryd.type230]; rfl
@[simp ↓] theorem z230 {q : List Value → Prop} : goZ Tryd.prog 230 q = q [Go.Value.nilFunc] := by simp [goZ, zer230, Value.cells]
theorem agg231 : aggT Tryd.prog 231 = some false := by unfold aggT; rw [Tryd.underlying231]; rfl
@[simp] theorem siz231 : szT Tryd.prog 231 = some 1 := by unfold szT; rw [show Tryd.prog.info? 231 = some Tryd.t231 from Tryd.type231]; rfl
@[simp ↓] theorem ty231 {q : Bool → Nat → Prop} : goTy Tryd.prog 231 q = q false 1 := by simp only [goTy, agg231, siz231]
@[simp ↓] theorem sz231 {q : Nat → Prop} : goSz Tryd.prog 231 q = q 1 := by simp only [goSz, siz231]
theorem zer231 : zero? Tryd.prog 231 = some (Go.Value.int Go.IntKind.i32 0) := by unfold zero?; rw [show Tryd.prog.info? 231 = some Tryd.t231 from Tryd.type231]; rfl
@[simp ↓] theorem z231 {q : List Value → Prop} : goZ Tryd.prog 231 q = q [(Go.Value.int Go.IntKind.i32 0)] := by simp [goZ, zer231, Value.cells]
@[simp] theorem und231 : Tryd.prog.underlying 231 = some (Go.TypeDesc.int Go.IntKind.i32) := opq Tryd.underlying231
@[simp ↓] theorem un231 {q : TypeDesc → Prop} : goUnd Tryd.prog 231 q = q (Go.TypeDesc.int Go.IntKind.i32) := by simp only [goUnd, und231]
theorem agg232 : aggT Tryd.prog 232 = some false := by unfold aggT; rw [Tryd.underlying232]; rfl
@[simp] theorem siz232 : szT Tryd.prog 232 = some 1 := by unfold szT; rw [show Tryd.prog.info? 232 = some Tryd.t232 from Tryd.type232]; rfl
@[simp ↓] theorem ty232 {q : Bool → Nat → Prop} : goTy Tryd.prog 232 q = q false 1 := by simp only [goTy, agg232, siz232]
@[simp ↓] theorem sz232 {q : Nat → Prop} : goSz Tryd.prog 232 q = q 1 := by simp only [goSz, siz232]
theorem zer232 : zero? Tryd.prog 232 = some (Go.Value.int Go.IntKind.i32 0) := by unfold zero?; rw [show Tryd.prog.info? 232 = some Tryd.t232 from Tryd.type232]; rfl
@[simp ↓] theorem z232 {q : List Value → Prop} : goZ Tryd.prog 232 q = q [(Go.Value.int Go.IntKind.i32 0)] := by simp [goZ, zer232, Value.cells]
@[simp] theorem und232 : Tryd.prog.underlying 232 = some (Go.TypeDesc.int Go.IntKind.i32) := opq Tryd.underlying232
@[simp ↓] theorem un232 {q : TypeDesc → Prop} : goUnd Tryd.prog 232 q = q (Go.TypeDesc.int Go.IntKind.i32) := by simp only [goUnd, und232]
theorem agg233 : aggT Tryd.prog 233 = some true := by unfold aggT; rw [Tryd.underlying233]; rfl
@[simp] theorem siz233 : szT Tryd.prog 233 = some 11 := by unfold szT; rw [show Tryd.prog.info? 233 = some Tryd.t233 from Tryd.type233]; rfl
@[simp ↓] theorem ty233 {q : Bool → Nat → Prop} : goTy Tryd.prog 233 q = q true 11 := by simp only [goTy, agg233, siz233]
@[simp ↓] theorem sz233 {q : Nat → Prop} : goSz Tryd.prog 233 q = q 11 := by simp only [goSz, siz233]
theorem zer233 : zero? Tryd.prog 233 = some
  (Go.Value.agg
    #[Go.Value.int Go.IntKind.u64 0, Go.Value.int Go.IntKind.u64 0, Go.Value.int Go.IntKind.u32 0,
      Go.Value.int Go.IntKind.u8 0, Go.Value.int Go.IntKind.u8 0, Go.Value.int Go.IntKind.u8 0,
      Go.Value.int Go.IntKind.u8 0, Go.Value.nilFunc, Go.Value.pointer none, Go.Value.int Go.IntKind.i32 0,
      Go.Value.int Go.IntKind.i32 0]) := by unfold zero?; rw [show Tryd.prog.info? 233 = some Tryd.t233 from Tryd.type233]; rfl
@[simp ↓] theorem z233 {q : List Value → Prop} : goZ Tryd.prog 233 q = q [Go.Value.int Go.IntKind.u64 0, Go.Value.int Go.IntKind.u64 0, Go.Value.int Go.IntKind.u32 0,
      Go.Value.int Go.IntKind.u8 0, Go.Value.int Go.IntKind.u8 0, Go.Value.int Go.IntKind.u8 0,
      Go.Value.int Go.IntKind.u8 0, Go.Value.nilFunc, Go.Value.pointer none, Go.Value.int Go.IntKind.i32 0,
      Go.Value.int Go.IntKind.i32 0] := by simp [goZ, zer233, Value.cells]
@[simp] theorem und233 : Tryd.prog.underlying 233 = some (Go.TypeDesc.struct
  #[{ name := "Size_", type := 12, offset := 0, embedded := false, tag := "", pkgPath := "", byteOffset := 0 },
    { name := "PtrBytes", type := 12, offset := 1, embedded := false, tag := "", pkgPath := "", byteOffset := 8 },
    { name := "Hash", type := 198, offset := 2, embedded := false, tag := "", pkgPath := "", byteOffset := 16 },
    { name := "TFlag", type := 228, offset := 3, embedded := false, tag := "", pkgPath := "", byteOffset := 20 },
    { name := "Align_", type := 5, offset := 4, embedded := false, tag := "", pkgPath := "", byteOffset := 21 },
    { name := "FieldAlign_", type := 5, offset := 5, embedded := false, tag := "", pkgPath := "", byteOffset := 22 },
    { name := "Kind_", type := 229, offset := 6, embedded := false, tag := "", pkgPath := "", byteOffset := 23 },
    { name := "Equal", type := 230, offset := 7, embedded := false, tag := "", pkgPath := "", byteOffset := 24 },
    { name := "GCData", type := 135, offset := 8, embedded := false, tag := "", pkgPath := "", byteOffset := 32 },
    { name := "Str", type := 231, offset := 9, embedded := false, tag := "", pkgPath := "", byteOffset := 40 },
    { name := "PtrToThis", type := 232, offset := 10, embedded := false, tag := "", pkgPath := "", byteOffset := 44 }]) := opq Tryd.underlying233
@[simp ↓] theorem fld233_0 {q : Nat → TypeId → Prop} : goFld Tryd.prog 233 0 q = q 0 12 := by simp only [goFld, und233]; rfl
@[simp ↓] theorem fld233_1 {q : Nat → TypeId → Prop} : goFld Tryd.prog 233 1 q = q 1 12 := by simp only [goFld, und233]; rfl
@[simp ↓] theorem fld233_2 {q : Nat → TypeId → Prop} : goFld Tryd.prog 233 2 q = q 2 198 := by simp only [goFld, und233]; rfl
@[simp ↓] theorem fld233_3 {q : Nat → TypeId → Prop} : goFld Tryd.prog 233 3 q = q 3 228 := by simp only [goFld, und233]; rfl
@[simp ↓] theorem fld233_4 {q : Nat → TypeId → Prop} : goFld Tryd.prog 233 4 q = q 4 5 := by simp only [goFld, und233]; rfl
@[simp ↓] theorem fld233_5 {q : Nat → TypeId → Prop} : goFld Tryd.prog 233 5 q = q 5 5 := by simp only [goFld, und233]; rfl
@[simp ↓] theorem fld233_6 {q : Nat → TypeId → Prop} : goFld Tryd.prog 233 6 q = q 6 229 := by simp only [goFld, und233]; rfl
@[simp ↓] theorem fld233_7 {q : Nat → TypeId → Prop} : goFld Tryd.prog 233 7 q = q 7 230 := by simp only [goFld, und233]; rfl
@[simp ↓] theorem fld233_8 {q : Nat → TypeId → Prop} : goFld Tryd.prog 233 8 q = q 8 135 := by simp only [goFld, und233]; rfl
@[simp ↓] theorem fld233_9 {q : Nat → TypeId → Prop} : goFld Tryd.prog 233 9 q = q 9 231 := by simp only [goFld, und233]; rfl
@[simp ↓] theorem fld233_10 {q : Nat → TypeId → Prop} : goFld Tryd.prog 233 10 q = q 10 232 := by simp only [goFld, und233]; rfl
@[simp ↓] theorem bld233 {q : List Value → List (Nat × Nat) → Prop} : goBld Tryd.prog 233 q = q [Go.Value.int Go.IntKind.u64 0, Go.Value.int Go.IntKind.u64 0, Go.Value.int Go.IntKind.u32 0,
      Go.Value.int Go.IntKind.u8 0, Go.Value.int Go.IntKind.u8 0, Go.Value.int Go.IntKind.u8 0,
      Go.Value.int Go.IntKind.u8 0, Go.Value.nilFunc, Go.Value.pointer none, Go.Value.int Go.IntKind.i32 0,
      Go.Value.int Go.IntKind.i32 0] [(0, 1), (1, 1), (2, 1), (3, 1), (4, 1), (5, 1), (6, 1), (7, 1), (8, 1), (9, 1), (10, 1)] := by simp [goBld, und233, zer233, placesL, Value.cells]
theorem agg234 : aggT Tryd.prog 234 = some true := by unfold aggT; rw [Tryd.underlying234]; rfl
@[simp] theorem siz234 : szT Tryd.prog 234 = some 11 := by unfold szT; rw [show Tryd.prog.info? 234 = some Tryd.t234 from Tryd.type234]; rfl
@[simp ↓] theorem ty234 {q : Bool → Nat → Prop} : goTy Tryd.prog 234 q = q true 11 := by simp only [goTy, agg234, siz234]
@[simp ↓] theorem sz234 {q : Nat → Prop} : goSz Tryd.prog 234 q = q 11 := by simp only [goSz, siz234]
theorem zer234 : zero? Tryd.prog 234 = some
  (Go.Value.agg
    #[Go.Value.int Go.IntKind.u64 0, Go.Value.int Go.IntKind.u64 0, Go.Value.int Go.IntKind.u32 0,
      Go.Value.int Go.IntKind.u8 0, Go.Value.int Go.IntKind.u8 0, Go.Value.int Go.IntKind.u8 0,
      Go.Value.int Go.IntKind.u8 0, Go.Value.nilFunc, Go.Value.pointer none, Go.Value.int Go.IntKind.i32 0,
      Go.Value.int Go.IntKind.i32 0]) := by unfold zero?; rw [show Tryd.prog.info? 234 = some Tryd.t234 from Tryd.type234]; rfl
@[simp ↓] theorem z234 {q : List Value → Prop} : goZ Tryd.prog 234 q = q [Go.Value.int Go.IntKind.u64 0, Go.Value.int Go.IntKind.u64 0, Go.Value.int Go.IntKind.u32 0,
      Go.Value.int Go.IntKind.u8 0, Go.Value.int Go.IntKind.u8 0, Go.Value.int Go.IntKind.u8 0,
      Go.Value.int Go.IntKind.u8 0, Go.Value.nilFunc, Go.Value.pointer none, Go.Value.int Go.IntKind.i32 0,
      Go.Value.int Go.IntKind.i32 0] := by simp [goZ, zer234, Value.cells]
@[simp] theorem und234 : Tryd.prog.underlying 234 = some (Go.TypeDesc.struct
  #[{ name := "Size_", type := 12, offset := 0, embedded := false, tag := "", pkgPath := "", byteOffset := 0 },
    { name := "PtrBytes", type := 12, offset := 1, embedded := false, tag := "", pkgPath := "", byteOffset := 8 },
    { name := "Hash", type := 198, offset := 2, embedded := false, tag := "", pkgPath := "", byteOffset := 16 },
    { name := "TFlag", type := 228, offset := 3, embedded := false, tag := "", pkgPath := "", byteOffset := 20 },
    { name := "Align_", type := 5, offset := 4, embedded := false, tag := "", pkgPath := "", byteOffset := 21 },
    { name := "FieldAlign_", type := 5, offset := 5, embedded := false, tag := "", pkgPath := "", byteOffset := 22 },
    { name := "Kind_", type := 229, offset := 6, embedded := false, tag := "", pkgPath := "", byteOffset := 23 },
    { name := "Equal", type := 230, offset := 7, embedded := false, tag := "", pkgPath := "", byteOffset := 24 },
    { name := "GCData", type := 135, offset := 8, embedded := false, tag := "", pkgPath := "", byteOffset := 32 },
    { name := "Str", type := 231, offset := 9, embedded := false, tag := "", pkgPath := "", byteOffset := 40 },
    { name := "PtrToThis", type := 232, offset := 10, embedded := false, tag := "", pkgPath := "", byteOffset := 44 }]) := opq Tryd.underlying234
@[simp ↓] theorem fld234_0 {q : Nat → TypeId → Prop} : goFld Tryd.prog 234 0 q = q 0 12 := by simp only [goFld, und234]; rfl
@[simp ↓] theorem fld234_1 {q : Nat → TypeId → Prop} : goFld Tryd.prog 234 1 q = q 1 12 := by simp only [goFld, und234]; rfl
@[simp ↓] theorem fld234_2 {q : Nat → TypeId → Prop} : goFld Tryd.prog 234 2 q = q 2 198 := by simp only [goFld, und234]; rfl
@[simp ↓] theorem fld234_3 {q : Nat → TypeId → Prop} : goFld Tryd.prog 234 3 q = q 3 228 := by simp only [goFld, und234]; rfl
@[simp ↓] theorem fld234_4 {q : Nat → TypeId → Prop} : goFld Tryd.prog 234 4 q = q 4 5 := by simp only [goFld, und234]; rfl
@[simp ↓] theorem fld234_5 {q : Nat → TypeId → Prop} : goFld Tryd.prog 234 5 q = q 5 5 := by simp only [goFld, und234]; rfl
@[simp ↓] theorem fld234_6 {q : Nat → TypeId → Prop} : goFld Tryd.prog 234 6 q = q 6 229 := by simp only [goFld, und234]; rfl
@[simp ↓] theorem fld234_7 {q : Nat → TypeId → Prop} : goFld Tryd.prog 234 7 q = q 7 230 := by simp only [goFld, und234]; rfl
@[simp ↓] theorem fld234_8 {q : Nat → TypeId → Prop} : goFld Tryd.prog 234 8 q = q 8 135 := by simp only [goFld, und234]; rfl
@[simp ↓] theorem fld234_9 {q : Nat → TypeId → Prop} : goFld Tryd.prog 234 9 q = q 9 231 := by simp only [goFld, und234]; rfl
@[simp ↓] theorem fld234_10 {q : Nat → TypeId → Prop} : goFld Tryd.prog 234 10 q = q 10 232 := by simp only [goFld, und234]; rfl
@[simp ↓] theorem bld234 {q : List Value → List (Nat × Nat) → Prop} : goBld Tryd.prog 234 q = q [Go.Value.int Go.IntKind.u64 0, Go.Value.int Go.IntKind.u64 0, Go.Value.int Go.IntKind.u32 0,
      Go.Value.int Go.IntKind.u8 0, Go.Value.int Go.IntKind.u8 0, Go.Value.int Go.IntKind.u8 0,
      Go.Value.int Go.IntKind.u8 0, Go.Value.nilFunc, Go.Value.pointer none, Go.Value.int Go.IntKind.i32 0,
      Go.Value.int Go.IntKind.i32 0] [(0, 1), (1, 1), (2, 1), (3, 1), (4, 1), (5, 1), (6, 1), (7, 1), (8, 1), (9, 1), (10, 1)] := by simp [goBld, und234, zer234, placesL, Value.cells]
theorem agg235 : aggT Tryd.prog 235 = some false := by unfold aggT; rw [Tryd.underlying235]; rfl
@[simp] theorem siz235 : szT Tryd.prog 235 = some 1 := by unfold szT; rw [show Tryd.prog.info? 235 = some Tryd.t235 from Tryd.type235]; rfl
@[simp ↓] theorem ty235 {q : Bool → Nat → Prop} : goTy Tryd.prog 235 q = q false 1 := by simp only [goTy, agg235, siz235]
@[simp ↓] theorem sz235 {q : Nat → Prop} : goSz Tryd.prog 235 q = q 1 := by simp only [goSz, siz235]
theorem zer235 : zero? Tryd.prog 235 = some Go.Value.nilFunc := by unfold zero?; rw [show Tryd.prog.info? 235 = some Tryd.t235 from Tryd.type235]; rfl
@[simp ↓] theorem z235 {q : List Value → Prop} : goZ Tryd.prog 235 q = q [Go.Value.nilFunc] := by simp [goZ, zer235, Value.cells]
theorem agg236 : aggT Tryd.prog 236 = some false := by unfold aggT; rw [Tryd.underlying236]; rfl
@[simp] theorem siz236 : szT Tryd.prog 236 = some 1 := by unfold szT; rw [show Tryd.prog.info? 236 = some Tryd.t236 from Tryd.type236]; rfl
@[simp ↓] theorem ty236 {q : Bool → Nat → Prop} : goTy Tryd.prog 236 q = q false 1 := by simp only [goTy, agg236, siz236]
@[simp ↓] theorem sz236 {q : Nat → Prop} : goSz Tryd.prog 236 q = q 1 := by simp only [goSz, siz236]
theorem zer236 : zero? Tryd.prog 236 = some Go.Value.nilFunc := by unfold zero?; rw [show Tryd.prog.info? 236 = some Tryd.t236 from Tryd.type236]; rfl
@[simp ↓] theorem z236 {q : List Value → Prop} : goZ Tryd.prog 236 q = q [Go.Value.nilFunc] := by simp [goZ, zer236, Value.cells]
end Go.Proofs.YtehhjbomdohgoaaDoor
