/- Facts about the seat's types, for the abstract machine. No condition. -/
import Derived.Test.YtiimabmdokpmbaaDoorProg
import Derived.Test.YtiimabmdokpmbaaDoorAm20
namespace Go.Proofs.YtiimabmdokpmbaaDoor
open Go Go.Am Go.Proofs
set_option linter.unusedSimpArgs false
theorem agg1 : aggT Tryd.prog 1 = some false := by unfold aggT; rw [Tryd.underlying1]; rfl
@[simp] theorem siz1 : szT Tryd.prog 1 = some 1 := by unfold szT; rw [show Tryd.prog.info? 1 = some Tryd.t1 from Tryd.type1]; rfl
@[simp ↓] theorem ty1 {q : Bool → Nat → Prop} : goTy Tryd.prog 1 q = q false 1 := by simp only [goTy, agg1, siz1]
@[simp ↓] theorem sz1 {q : Nat → Prop} : goSz Tryd.prog 1 q = q 1 := by simp only [goSz, siz1]
theorem zer1 : zero? Tryd.prog 1 = some Go.Value.nilFunc := by unfold zero?; rw [show Tryd.prog.info? 1 = some Tryd.t1 from Tryd.type1]; rfl
@[simp ↓] theorem z1 {q : List Value → Prop} : goZ Tryd.prog 1 q = q [Go.Value.nilFunc] := by simp [goZ, zer1, Value.cells]
theorem agg2 : aggT Tryd.prog 2 = some false := by unfold aggT; rw [Tryd.underlying2]; rfl
@[simp] theorem siz2 : szT Tryd.prog 2 = some 1 := by unfold szT; rw [show Tryd.prog.info? 2 = some Tryd.t2 from Tryd.type2]; rfl
@[simp ↓] theorem ty2 {q : Bool → Nat → Prop} : goTy Tryd.prog 2 q = q false 1 := by simp only [goTy, agg2, siz2]
@[simp ↓] theorem sz2 {q : Nat → Prop} : goSz Tryd.prog 2 q = q 1 := by simp only [goSz, siz2]
theorem zer2 : zero? Tryd.prog 2 = some (Go.Value.int Go.IntKind.i64 0) := by unfold zero?; rw [show Tryd.prog.info? 2 = some Tryd.t2 from Tryd.type2]; rfl
@[simp ↓] theorem z2 {q : List Value → Prop} : goZ Tryd.prog 2 q = q [(Go.Value.int Go.IntKind.i64 0)] := by simp [goZ, zer2, Value.cells]
@[simp] theorem und2 : Tryd.prog.underlying 2 = some (Go.TypeDesc.int Go.IntKind.i64) := opq Tryd.underlying2
@[simp ↓] theorem un2 {q : TypeDesc → Prop} : goUnd Tryd.prog 2 q = q (Go.TypeDesc.int Go.IntKind.i64) := by simp only [goUnd, und2]
theorem agg3 : aggT Tryd.prog 3 = some false := by unfold aggT; rw [Tryd.underlying3]; rfl
@[simp] theorem siz3 : szT Tryd.prog 3 = some 1 := by unfold szT; rw [show Tryd.prog.info? 3 = some Tryd.t3 from Tryd.type3]; rfl
@[simp ↓] theorem ty3 {q : Bool → Nat → Prop} : goTy Tryd.prog 3 q = q false 1 := by simp only [goTy, agg3, siz3]
@[simp ↓] theorem sz3 {q : Nat → Prop} : goSz Tryd.prog 3 q = q 1 := by simp only [goSz, siz3]
theorem zer3 : zero? Tryd.prog 3 = some (Go.Value.int Go.IntKind.i64 0) := by unfold zero?; rw [show Tryd.prog.info? 3 = some Tryd.t3 from Tryd.type3]; rfl
@[simp ↓] theorem z3 {q : List Value → Prop} : goZ Tryd.prog 3 q = q [(Go.Value.int Go.IntKind.i64 0)] := by simp [goZ, zer3, Value.cells]
@[simp] theorem und3 : Tryd.prog.underlying 3 = some (Go.TypeDesc.int Go.IntKind.i64) := opq Tryd.underlying3
@[simp ↓] theorem un3 {q : TypeDesc → Prop} : goUnd Tryd.prog 3 q = q (Go.TypeDesc.int Go.IntKind.i64) := by simp only [goUnd, und3]
theorem agg4 : aggT Tryd.prog 4 = some false := by unfold aggT; rw [Tryd.underlying4]; rfl
@[simp] theorem siz4 : szT Tryd.prog 4 = some 1 := by unfold szT; rw [show Tryd.prog.info? 4 = some Tryd.t4 from Tryd.type4]; rfl
@[simp ↓] theorem ty4 {q : Bool → Nat → Prop} : goTy Tryd.prog 4 q = q false 1 := by simp only [goTy, agg4, siz4]
@[simp ↓] theorem sz4 {q : Nat → Prop} : goSz Tryd.prog 4 q = q 1 := by simp only [goSz, siz4]
theorem zer4 : zero? Tryd.prog 4 = some (Go.Value.bool false) := by unfold zero?; rw [show Tryd.prog.info? 4 = some Tryd.t4 from Tryd.type4]; rfl
@[simp ↓] theorem z4 {q : List Value → Prop} : goZ Tryd.prog 4 q = q [(Go.Value.bool false)] := by simp [goZ, zer4, Value.cells]
@[simp] theorem und4 : Tryd.prog.underlying 4 = some (Go.TypeDesc.bool) := opq Tryd.underlying4
@[simp ↓] theorem un4 {q : TypeDesc → Prop} : goUnd Tryd.prog 4 q = q (Go.TypeDesc.bool) := by simp only [goUnd, und4]
theorem agg5 : aggT Tryd.prog 5 = some false := by unfold aggT; rw [Tryd.underlying5]; rfl
@[simp] theorem siz5 : szT Tryd.prog 5 = some 1 := by unfold szT; rw [show Tryd.prog.info? 5 = some Tryd.t5 from Tryd.type5]; rfl
@[simp ↓] theorem ty5 {q : Bool → Nat → Prop} : goTy Tryd.prog 5 q = q false 1 := by simp only [goTy, agg5, siz5]
@[simp ↓] theorem sz5 {q : Nat → Prop} : goSz Tryd.prog 5 q = q 1 := by simp only [goSz, siz5]
theorem zer5 : zero? Tryd.prog 5 = some (Go.Value.int Go.IntKind.u8 0) := by unfold zero?; rw [show Tryd.prog.info? 5 = some Tryd.t5 from Tryd.type5]; rfl
@[simp ↓] theorem z5 {q : List Value → Prop} : goZ Tryd.prog 5 q = q [(Go.Value.int Go.IntKind.u8 0)] := by simp [goZ, zer5, Value.cells]
@[simp] theorem und5 : Tryd.prog.underlying 5 = some (Go.TypeDesc.int Go.IntKind.u8) := opq Tryd.underlying5
@[simp ↓] theorem un5 {q : TypeDesc → Prop} : goUnd Tryd.prog 5 q = q (Go.TypeDesc.int Go.IntKind.u8) := by simp only [goUnd, und5]
theorem agg6 : aggT Tryd.prog 6 = some false := by unfold aggT; rw [Tryd.underlying6]; rfl
@[simp] theorem siz6 : szT Tryd.prog 6 = some 1 := by unfold szT; rw [show Tryd.prog.info? 6 = some Tryd.t6 from Tryd.type6]; rfl
@[simp ↓] theorem ty6 {q : Bool → Nat → Prop} : goTy Tryd.prog 6 q = q false 1 := by simp only [goTy, agg6, siz6]
@[simp ↓] theorem sz6 {q : Nat → Prop} : goSz Tryd.prog 6 q = q 1 := by simp only [goSz, siz6]
theorem zer6 : zero? Tryd.prog 6 = some (Go.Value.int Go.IntKind.u8 0) := by unfold zero?; rw [show Tryd.prog.info? 6 = some Tryd.t6 from Tryd.type6]; rfl
@[simp ↓] theorem z6 {q : List Value → Prop} : goZ Tryd.prog 6 q = q [(Go.Value.int Go.IntKind.u8 0)] := by simp [goZ, zer6, Value.cells]
@[simp] theorem und6 : Tryd.prog.underlying 6 = some (Go.TypeDesc.int Go.IntKind.u8) := opq Tryd.underlying6
@[simp ↓] theorem un6 {q : TypeDesc → Prop} : goUnd Tryd.prog 6 q = q (Go.TypeDesc.int Go.IntKind.u8) := by simp only [goUnd, und6]
theorem agg7 : aggT Tryd.prog 7 = some true := by unfold aggT; rw [Tryd.underlying7]; rfl
@[simp] theorem siz7 : szT Tryd.prog 7 = some 4 := by unfold szT; rw [show Tryd.prog.info? 7 = some Tryd.t7 from Tryd.type7]; rfl
@[simp ↓] theorem ty7 {q : Bool → Nat → Prop} : goTy Tryd.prog 7 q = q true 4 := by simp only [goTy, agg7, siz7]
@[simp ↓] theorem sz7 {q : Nat → Prop} : goSz Tryd.prog 7 q = q 4 := by simp only [goSz, siz7]
theorem zer7 : zero? Tryd.prog 7 = some
  (Go.Value.agg
    #[Go.Value.int Go.IntKind.i64 0, Go.Value.int Go.IntKind.i64 0, Go.Value.bool false, Go.Value.int Go.IntKind.u8 0]) := by unfold zero?; rw [show Tryd.prog.info? 7 = some Tryd.t7 from Tryd.type7]; rfl
@[simp ↓] theorem z7 {q : List Value → Prop} : goZ Tryd.prog 7 q = q [Go.Value.int Go.IntKind.i64 0, Go.Value.int Go.IntKind.i64 0, Go.Value.bool false, Go.Value.int Go.IntKind.u8 0] := by simp [goZ, zer7, Value.cells]
@[simp] theorem und7 : Tryd.prog.underlying 7 = some (Go.TypeDesc.struct
  #[{ name := "x", type := 2, offset := 0, embedded := false, tag := "", pkgPath := "runtime", byteOffset := 0 },
    { name := "y", type := 3, offset := 1, embedded := false, tag := "", pkgPath := "runtime", byteOffset := 8 },
    { name := "signed", type := 4, offset := 2, embedded := false, tag := "", pkgPath := "runtime", byteOffset := 16 },
    { name := "code", type := 6, offset := 3, embedded := false, tag := "", pkgPath := "runtime", byteOffset := 17 }]) := opq Tryd.underlying7
@[simp ↓] theorem fld7_0 {q : Nat → TypeId → Prop} : goFld Tryd.prog 7 0 q = q 0 2 := by simp only [goFld, und7]; rfl
@[simp ↓] theorem fld7_1 {q : Nat → TypeId → Prop} : goFld Tryd.prog 7 1 q = q 1 3 := by simp only [goFld, und7]; rfl
@[simp ↓] theorem fld7_2 {q : Nat → TypeId → Prop} : goFld Tryd.prog 7 2 q = q 2 4 := by simp only [goFld, und7]; rfl
@[simp ↓] theorem fld7_3 {q : Nat → TypeId → Prop} : goFld Tryd.prog 7 3 q = q 3 6 := by simp only [goFld, und7]; rfl
@[simp ↓] theorem bld7 {q : List Value → List (Nat × Nat) → Prop} : goBld Tryd.prog 7 q = q [Go.Value.int Go.IntKind.i64 0, Go.Value.int Go.IntKind.i64 0, Go.Value.bool false, Go.Value.int Go.IntKind.u8 0] [(0, 1), (1, 1), (2, 1), (3, 1)] := by simp [goBld, und7, zer7, placesL, Value.cells]
theorem agg8 : aggT Tryd.prog 8 = some true := by unfold aggT; rw [Tryd.underlying8]; rfl
@[simp] theorem siz8 : szT Tryd.prog 8 = some 4 := by unfold szT; rw [show Tryd.prog.info? 8 = some Tryd.t8 from Tryd.type8]; rfl
@[simp ↓] theorem ty8 {q : Bool → Nat → Prop} : goTy Tryd.prog 8 q = q true 4 := by simp only [goTy, agg8, siz8]
@[simp ↓] theorem sz8 {q : Nat → Prop} : goSz Tryd.prog 8 q = q 4 := by simp only [goSz, siz8]
theorem zer8 : zero? Tryd.prog 8 = some
  (Go.Value.agg
    #[Go.Value.int Go.IntKind.i64 0, Go.Value.int Go.IntKind.i64 0, Go.Value.bool false, Go.Value.int Go.IntKind.u8 0]) := by unfold zero?; rw [show Tryd.prog.info? 8 = some Tryd.t8 from Tryd.type8]; rfl
@[simp ↓] theorem z8 {q : List Value → Prop} : goZ Tryd.prog 8 q = q [Go.Value.int Go.IntKind.i64 0, Go.Value.int Go.IntKind.i64 0, Go.Value.bool false, Go.Value.int Go.IntKind.u8 0] := by simp [goZ, zer8, Value.cells]
@[simp] theorem und8 : Tryd.prog.underlying 8 = some (Go.TypeDesc.struct
  #[{ name := "x", type := 2, offset := 0, embedded := false, tag := "", pkgPath := "runtime", byteOffset := 0 },
    { name := "y", type := 3, offset := 1, embedded := false, tag := "", pkgPath := "runtime", byteOffset := 8 },
    { name := "signed", type := 4, offset := 2, embedded := false, tag := "", pkgPath := "runtime", byteOffset := 16 },
    { name := "code", type := 6, offset := 3, embedded := false, tag := "", pkgPath := "runtime", byteOffset := 17 }]) := opq Tryd.underlying8
@[simp ↓] theorem fld8_0 {q : Nat → TypeId → Prop} : goFld Tryd.prog 8 0 q = q 0 2 := by simp only [goFld, und8]; rfl
@[simp ↓] theorem fld8_1 {q : Nat → TypeId → Prop} : goFld Tryd.prog 8 1 q = q 1 3 := by simp only [goFld, und8]; rfl
@[simp ↓] theorem fld8_2 {q : Nat → TypeId → Prop} : goFld Tryd.prog 8 2 q = q 2 4 := by simp only [goFld, und8]; rfl
@[simp ↓] theorem fld8_3 {q : Nat → TypeId → Prop} : goFld Tryd.prog 8 3 q = q 3 6 := by simp only [goFld, und8]; rfl
@[simp ↓] theorem bld8 {q : List Value → List (Nat × Nat) → Prop} : goBld Tryd.prog 8 q = q [Go.Value.int Go.IntKind.i64 0, Go.Value.int Go.IntKind.i64 0, Go.Value.bool false, Go.Value.int Go.IntKind.u8 0] [(0, 1), (1, 1), (2, 1), (3, 1)] := by simp [goBld, und8, zer8, placesL, Value.cells]
theorem agg9 : aggT Tryd.prog 9 = some false := by unfold aggT; rw [Tryd.underlying9]; rfl
@[simp] theorem siz9 : szT Tryd.prog 9 = some 1 := by unfold szT; rw [show Tryd.prog.info? 9 = some Tryd.t9 from Tryd.type9]; rfl
@[simp ↓] theorem ty9 {q : Bool → Nat → Prop} : goTy Tryd.prog 9 q = q false 1 := by simp only [goTy, agg9, siz9]
@[simp ↓] theorem sz9 {q : Nat → Prop} : goSz Tryd.prog 9 q = q 1 := by simp only [goSz, siz9]
theorem zer9 : zero? Tryd.prog 9 = some (Go.Value.string { data := #[] }) := by unfold zero?; rw [show Tryd.prog.info? 9 = some Tryd.t9 from Tryd.type9]; rfl
@[simp ↓] theorem z9 {q : List Value → Prop} : goZ Tryd.prog 9 q = q [(Go.Value.string { data := #[] })] := by simp [goZ, zer9, Value.cells]
@[simp] theorem und9 : Tryd.prog.underlying 9 = some (Go.TypeDesc.string) := opq Tryd.underlying9
@[simp ↓] theorem un9 {q : TypeDesc → Prop} : goUnd Tryd.prog 9 q = q (Go.TypeDesc.string) := by simp only [goUnd, und9]
theorem agg10 : aggT Tryd.prog 10 = some false := by unfold aggT; rw [Tryd.underlying10]; rfl
@[simp] theorem siz10 : szT Tryd.prog 10 = some 1 := by unfold szT; rw [show Tryd.prog.info? 10 = some Tryd.t10 from Tryd.type10]; rfl
@[simp ↓] theorem ty10 {q : Bool → Nat → Prop} : goTy Tryd.prog 10 q = q false 1 := by simp only [goTy, agg10, siz10]
@[simp ↓] theorem sz10 {q : Nat → Prop} : goSz Tryd.prog 10 q = q 1 := by simp only [goSz, siz10]
theorem zer10 : zero? Tryd.prog 10 = some (Go.Value.string { data := #[] }) := by unfold zero?; rw [show Tryd.prog.info? 10 = some Tryd.t10 from Tryd.type10]; rfl
@[simp ↓] theorem z10 {q : List Value → Prop} : goZ Tryd.prog 10 q = q [(Go.Value.string { data := #[] })] := by simp [goZ, zer10, Value.cells]
@[simp] theorem und10 : Tryd.prog.underlying 10 = some (Go.TypeDesc.string) := opq Tryd.underlying10
@[simp ↓] theorem un10 {q : TypeDesc → Prop} : goUnd Tryd.prog 10 q = q (Go.TypeDesc.string) := by simp only [goUnd, und10]
theorem agg11 : aggT Tryd.prog 11 = some false := by unfold aggT; rw [Tryd.underlying11]; rfl
@[simp] theorem siz11 : szT Tryd.prog 11 = some 1 := by unfold szT; rw [show Tryd.prog.info? 11 = some Tryd.t11 from Tryd.type11]; rfl
@[simp ↓] theorem ty11 {q : Bool → Nat → Prop} : goTy Tryd.prog 11 q = q false 1 := by simp only [goTy, agg11, siz11]
@[simp ↓] theorem sz11 {q : Nat → Prop} : goSz Tryd.prog 11 q = q 1 := by simp only [goSz, siz11]
theorem zer11 : zero? Tryd.prog 11 = some (Go.Value.string { data := #[] }) := by unfold zero?; rw [show Tryd.prog.info? 11 = some Tryd.t11 from Tryd.type11]; rfl
@[simp ↓] theorem z11 {q : List Value → Prop} : goZ Tryd.prog 11 q = q [(Go.Value.string { data := #[] })] := by simp [goZ, zer11, Value.cells]
@[simp] theorem und11 : Tryd.prog.underlying 11 = some (Go.TypeDesc.string) := opq Tryd.underlying11
@[simp ↓] theorem un11 {q : TypeDesc → Prop} : goUnd Tryd.prog 11 q = q (Go.TypeDesc.string) := by simp only [goUnd, und11]
theorem agg12 : aggT Tryd.prog 12 = some false := by unfold aggT; rw [Tryd.underlying12]; rfl
@[simp] theorem siz12 : szT Tryd.prog 12 = some 1 := by unfold szT; rw [show Tryd.prog.info? 12 = some Tryd.t12 from Tryd.type12]; rfl
@[simp ↓] theorem ty12 {q : Bool → Nat → Prop} : goTy Tryd.prog 12 q = q false 1 := by simp only [goTy, agg12, siz12]
@[simp ↓] theorem sz12 {q : Nat → Prop} : goSz Tryd.prog 12 q = q 1 := by simp only [goSz, siz12]
theorem zer12 : zero? Tryd.prog 12 = some (Go.Value.int Go.IntKind.u64 0) := by unfold zero?; rw [show Tryd.prog.info? 12 = some Tryd.t12 from Tryd.type12]; rfl
@[simp ↓] theorem z12 {q : List Value → Prop} : goZ Tryd.prog 12 q = q [(Go.Value.int Go.IntKind.u64 0)] := by simp [goZ, zer12, Value.cells]
@[simp] theorem und12 : Tryd.prog.underlying 12 = some (Go.TypeDesc.int Go.IntKind.u64) := opq Tryd.underlying12
@[simp ↓] theorem un12 {q : TypeDesc → Prop} : goUnd Tryd.prog 12 q = q (Go.TypeDesc.int Go.IntKind.u64) := by simp only [goUnd, und12]
theorem agg13 : aggT Tryd.prog 13 = some true := by unfold aggT; rw [Tryd.underlying13]; rfl
@[simp] theorem siz13 : szT Tryd.prog 13 = some 2 := by unfold szT; rw [show Tryd.prog.info? 13 = some Tryd.t13 from Tryd.type13]; rfl
@[simp ↓] theorem ty13 {q : Bool → Nat → Prop} : goTy Tryd.prog 13 q = q true 2 := by simp only [goTy, agg13, siz13]
@[simp ↓] theorem sz13 {q : Nat → Prop} : goSz Tryd.prog 13 q = q 2 := by simp only [goSz, siz13]
theorem zer13 : zero? Tryd.prog 13 = some (Go.Value.agg #[Go.Value.string { data := #[] }, Go.Value.int Go.IntKind.u64 0]) := by unfold zero?; rw [show Tryd.prog.info? 13 = some Tryd.t13 from Tryd.type13]; rfl
@[simp ↓] theorem z13 {q : List Value → Prop} : goZ Tryd.prog 13 q = q [Go.Value.string { data := #[] }, Go.Value.int Go.IntKind.u64 0] := by simp [goZ, zer13, Value.cells]
@[simp] theorem und13 : Tryd.prog.underlying 13 = some (Go.TypeDesc.struct
  #[{ name := "msg", type := 9, offset := 0, embedded := false, tag := "", pkgPath := "runtime", byteOffset := 0 },
    { name := "addr", type := 12, offset := 1, embedded := false, tag := "", pkgPath := "runtime", byteOffset := 16 }]) := opq Tryd.underlying13
@[simp ↓] theorem fld13_0 {q : Nat → TypeId → Prop} : goFld Tryd.prog 13 0 q = q 0 9 := by simp only [goFld, und13]; rfl
@[simp ↓] theorem fld13_1 {q : Nat → TypeId → Prop} : goFld Tryd.prog 13 1 q = q 1 12 := by simp only [goFld, und13]; rfl
@[simp ↓] theorem bld13 {q : List Value → List (Nat × Nat) → Prop} : goBld Tryd.prog 13 q = q [Go.Value.string { data := #[] }, Go.Value.int Go.IntKind.u64 0] [(0, 1), (1, 1)] := by simp [goBld, und13, zer13, placesL, Value.cells]
theorem agg14 : aggT Tryd.prog 14 = some true := by unfold aggT; rw [Tryd.underlying14]; rfl
@[simp] theorem siz14 : szT Tryd.prog 14 = some 2 := by unfold szT; rw [show Tryd.prog.info? 14 = some Tryd.t14 from Tryd.type14]; rfl
@[simp ↓] theorem ty14 {q : Bool → Nat → Prop} : goTy Tryd.prog 14 q = q true 2 := by simp only [goTy, agg14, siz14]
@[simp ↓] theorem sz14 {q : Nat → Prop} : goSz Tryd.prog 14 q = q 2 := by simp only [goSz, siz14]
theorem zer14 : zero? Tryd.prog 14 = some (Go.Value.agg #[Go.Value.string { data := #[] }, Go.Value.int Go.IntKind.u64 0]) := by unfold zero?; rw [show Tryd.prog.info? 14 = some Tryd.t14 from Tryd.type14]; rfl
@[simp ↓] theorem z14 {q : List Value → Prop} : goZ Tryd.prog 14 q = q [Go.Value.string { data := #[] }, Go.Value.int Go.IntKind.u64 0] := by simp [goZ, zer14, Value.cells]
@[simp] theorem und14 : Tryd.prog.underlying 14 = some (Go.TypeDesc.struct
  #[{ name := "msg", type := 9, offset := 0, embedded := false, tag := "", pkgPath := "runtime", byteOffset := 0 },
    { name := "addr", type := 12, offset := 1, embedded := false, tag := "", pkgPath := "runtime", byteOffset := 16 }]) := opq Tryd.underlying14
@[simp ↓] theorem fld14_0 {q : Nat → TypeId → Prop} : goFld Tryd.prog 14 0 q = q 0 9 := by simp only [goFld, und14]; rfl
@[simp ↓] theorem fld14_1 {q : Nat → TypeId → Prop} : goFld Tryd.prog 14 1 q = q 1 12 := by simp only [goFld, und14]; rfl
@[simp ↓] theorem bld14 {q : List Value → List (Nat × Nat) → Prop} : goBld Tryd.prog 14 q = q [Go.Value.string { data := #[] }, Go.Value.int Go.IntKind.u64 0] [(0, 1), (1, 1)] := by simp [goBld, und14, zer14, placesL, Value.cells]
theorem agg15 : aggT Tryd.prog 15 = some false := by unfold aggT; rw [Tryd.underlying15]; rfl
@[simp] theorem siz15 : szT Tryd.prog 15 = some 1 := by unfold szT; rw [show Tryd.prog.info? 15 = some Tryd.t15 from Tryd.type15]; rfl
@[simp ↓] theorem ty15 {q : Bool → Nat → Prop} : goTy Tryd.prog 15 q = q false 1 := by simp only [goTy, agg15, siz15]
@[simp ↓] theorem sz15 {q : Nat → Prop} : goSz Tryd.prog 15 q = q 1 := by simp only [goSz, siz15]
theorem zer15 : zero? Tryd.prog 15 = some (Go.Value.pointer none) := by unfold zero?; rw [show Tryd.prog.info? 15 = some Tryd.t15 from Tryd.type15]; rfl
@[simp ↓] theorem z15 {q : List Value → Prop} : goZ Tryd.prog 15 q = q [(Go.Value.pointer none)] := by simp [goZ, zer15, Value.cells]
@[simp] theorem und15 : Tryd.prog.underlying 15 = some (Go.TypeDesc.pointer 68) := opq Tryd.underlying15
@[simp ↓] theorem un15 {q : TypeDesc → Prop} : goUnd Tryd.prog 15 q = q (Go.TypeDesc.pointer 68) := by simp only [goUnd, und15]
theorem agg16 : aggT Tryd.prog 16 = some false := by unfold aggT; rw [Tryd.underlying16]; rfl
@[simp] theorem siz16 : szT Tryd.prog 16 = some 1 := by unfold szT; rw [show Tryd.prog.info? 16 = some Tryd.t16 from Tryd.type16]; rfl
@[simp ↓] theorem ty16 {q : Bool → Nat → Prop} : goTy Tryd.prog 16 q = q false 1 := by simp only [goTy, agg16, siz16]
@[simp ↓] theorem sz16 {q : Nat → Prop} : goSz Tryd.prog 16 q = q 1 := by simp only [goSz, siz16]
theorem zer16 : zero? Tryd.prog 16 = some (Go.Value.pointer none) := by unfold zero?; rw [show Tryd.prog.info? 16 = some Tryd.t16 from Tryd.type16]; rfl
@[simp ↓] theorem z16 {q : List Value → Prop} : goZ Tryd.prog 16 q = q [(Go.Value.pointer none)] := by simp [goZ, zer16, Value.cells]
@[simp] theorem und16 : Tryd.prog.underlying 16 = some (Go.TypeDesc.pointer 71) := opq Tryd.underlying16
@[simp ↓] theorem un16 {q : TypeDesc → Prop} : goUnd Tryd.prog 16 q = q (Go.TypeDesc.pointer 71) := by simp only [goUnd, und16]
theorem agg17 : aggT Tryd.prog 17 = some false := by unfold aggT; rw [Tryd.underlying17]; rfl
@[simp] theorem siz17 : szT Tryd.prog 17 = some 1 := by unfold szT; rw [show Tryd.prog.info? 17 = some Tryd.t17 from Tryd.type17]; rfl
@[simp ↓] theorem ty17 {q : Bool → Nat → Prop} : goTy Tryd.prog 17 q = q false 1 := by simp only [goTy, agg17, siz17]
@[simp ↓] theorem sz17 {q : Nat → Prop} : goSz Tryd.prog 17 q = q 1 := by simp only [goSz, siz17]
theorem zer17 : zero? Tryd.prog 17 = some (Go.Value.pointer none) := by unfold zero?; rw [show Tryd.prog.info? 17 = some Tryd.t17 from Tryd.type17]; rfl
@[simp ↓] theorem z17 {q : List Value → Prop} : goZ Tryd.prog 17 q = q [(Go.Value.pointer none)] := by simp [goZ, zer17, Value.cells]
@[simp] theorem und17 : Tryd.prog.underlying 17 = some (Go.TypeDesc.pointer 80) := opq Tryd.underlying17
@[simp ↓] theorem un17 {q : TypeDesc → Prop} : goUnd Tryd.prog 17 q = q (Go.TypeDesc.pointer 80) := by simp only [goUnd, und17]
theorem agg18 : aggT Tryd.prog 18 = some true := by unfold aggT; rw [Tryd.underlying18]; rfl
@[simp] theorem siz18 : szT Tryd.prog 18 = some 1 := by unfold szT; rw [show Tryd.prog.info? 18 = some Tryd.t18 from Tryd.type18]; rfl
@[simp ↓] theorem ty18 {q : Bool → Nat → Prop} : goTy Tryd.prog 18 q = q true 1 := by simp only [goTy, agg18, siz18]
@[simp ↓] theorem sz18 {q : Nat → Prop} : goSz Tryd.prog 18 q = q 1 := by simp only [goSz, siz18]
theorem zer18 : zero? Tryd.prog 18 = some (Go.Value.agg #[Go.Value.pointer none]) := by unfold zero?; rw [show Tryd.prog.info? 18 = some Tryd.t18 from Tryd.type18]; rfl
@[simp ↓] theorem z18 {q : List Value → Prop} : goZ Tryd.prog 18 q = q [Go.Value.pointer none] := by simp [goZ, zer18, Value.cells]
@[simp] theorem und18 : Tryd.prog.underlying 18 = some (Go.TypeDesc.struct
  #[{ name := "typ", type := 17, offset := 0, embedded := false, tag := "", pkgPath := "internal/runtime/maps",
      byteOffset := 0 }]) := opq Tryd.underlying18
@[simp ↓] theorem fld18_0 {q : Nat → TypeId → Prop} : goFld Tryd.prog 18 0 q = q 0 17 := by simp only [goFld, und18]; rfl
@[simp ↓] theorem bld18 {q : List Value → List (Nat × Nat) → Prop} : goBld Tryd.prog 18 q = q [Go.Value.pointer none] [(0, 1)] := by simp [goBld, und18, zer18, placesL, Value.cells]
theorem agg19 : aggT Tryd.prog 19 = some true := by unfold aggT; rw [Tryd.underlying19]; rfl
@[simp] theorem siz19 : szT Tryd.prog 19 = some 1 := by unfold szT; rw [show Tryd.prog.info? 19 = some Tryd.t19 from Tryd.type19]; rfl
@[simp ↓] theorem ty19 {q : Bool → Nat → Prop} : goTy Tryd.prog 19 q = q true 1 := by simp only [goTy, agg19, siz19]
@[simp ↓] theorem sz19 {q : Nat → Prop} : goSz Tryd.prog 19 q = q 1 := by simp only [goSz, siz19]
theorem zer19 : zero? Tryd.prog 19 = some (Go.Value.agg #[Go.Value.pointer none]) := by unfold zero?; rw [show Tryd.prog.info? 19 = some Tryd.t19 from Tryd.type19]; rfl
@[simp ↓] theorem z19 {q : List Value → Prop} : goZ Tryd.prog 19 q = q [Go.Value.pointer none] := by simp [goZ, zer19, Value.cells]
@[simp] theorem und19 : Tryd.prog.underlying 19 = some (Go.TypeDesc.struct
  #[{ name := "typ", type := 17, offset := 0, embedded := false, tag := "", pkgPath := "internal/runtime/maps",
      byteOffset := 0 }]) := opq Tryd.underlying19
@[simp ↓] theorem fld19_0 {q : Nat → TypeId → Prop} : goFld Tryd.prog 19 0 q = q 0 17 := by simp only [goFld, und19]; rfl
@[simp ↓] theorem bld19 {q : List Value → List (Nat × Nat) → Prop} : goBld Tryd.prog 19 q = q [Go.Value.pointer none] [(0, 1)] := by simp [goBld, und19, zer19, placesL, Value.cells]
theorem agg21 : aggT Tryd.prog 21 = some false := by unfold aggT; rw [Tryd.underlying21]; rfl
@[simp] theorem siz21 : szT Tryd.prog 21 = some 1 := by unfold szT; rw [show Tryd.prog.info? 21 = some Tryd.t21 from Tryd.type21]; rfl
@[simp ↓] theorem ty21 {q : Bool → Nat → Prop} : goTy Tryd.prog 21 q = q false 1 := by simp only [goTy, agg21, siz21]
@[simp ↓] theorem sz21 {q : Nat → Prop} : goSz Tryd.prog 21 q = q 1 := by simp only [goSz, siz21]
theorem zer21 : zero? Tryd.prog 21 = some (Go.Value.int Go.IntKind.i32 0) := by unfold zero?; rw [show Tryd.prog.info? 21 = some Tryd.t21 from Tryd.type21]; rfl
@[simp ↓] theorem z21 {q : List Value → Prop} : goZ Tryd.prog 21 q = q [(Go.Value.int Go.IntKind.i32 0)] := by simp [goZ, zer21, Value.cells]
@[simp] theorem und21 : Tryd.prog.underlying 21 = some (Go.TypeDesc.int Go.IntKind.i32) := opq Tryd.underlying21
@[simp ↓] theorem un21 {q : TypeDesc → Prop} : goUnd Tryd.prog 21 q = q (Go.TypeDesc.int Go.IntKind.i32) := by simp only [goUnd, und21]
theorem agg22 : aggT Tryd.prog 22 = some false := by unfold aggT; rw [Tryd.underlying22]; rfl
@[simp] theorem siz22 : szT Tryd.prog 22 = some 1 := by unfold szT; rw [show Tryd.prog.info? 22 = some Tryd.t22 from Tryd.type22]; rfl
@[simp ↓] theorem ty22 {q : Bool → Nat → Prop} : goTy Tryd.prog 22 q = q false 1 := by simp only [goTy, agg22, siz22]
@[simp ↓] theorem sz22 {q : Nat → Prop} : goSz Tryd.prog 22 q = q 1 := by simp only [goSz, siz22]
theorem zer22 : zero? Tryd.prog 22 = some (Go.Value.slice none 0 0) := by unfold zero?; rw [show Tryd.prog.info? 22 = some Tryd.t22 from Tryd.type22]; rfl
@[simp ↓] theorem z22 {q : List Value → Prop} : goZ Tryd.prog 22 q = q [(Go.Value.slice none 0 0)] := by simp [goZ, zer22, Value.cells]
@[simp] theorem und22 : Tryd.prog.underlying 22 = some (Go.TypeDesc.slice 9) := opq Tryd.underlying22
@[simp ↓] theorem un22 {q : TypeDesc → Prop} : goUnd Tryd.prog 22 q = q (Go.TypeDesc.slice 9) := by simp only [goUnd, und22]
theorem slt22 : SlT Tryd.prog 22 9 1 16 := ⟨Tryd.underlying22, ⟨Tryd.t9, _, Tryd.type9, rfl, rfl, rfl, by simp, rfl⟩, by decide⟩
@[simp ↓] theorem sl22 {q : TypeId → Nat → List Value → Prop} : goSl Tryd.prog 22 q = q 9 1 [(Go.Value.string { data := #[] })] := by simp [goSl, und22, show zero? Tryd.prog 9 = some (Go.Value.string { data := #[] }) from by unfold zero?; rw [show Tryd.prog.info? 9 = some Tryd.t9 from Tryd.type9]; rfl, show szT Tryd.prog 9 = some 1 from by unfold szT; rw [show Tryd.prog.info? 9 = some Tryd.t9 from Tryd.type9]; rfl, Value.cells]
theorem agg23 : aggT Tryd.prog 23 = some true := by unfold aggT; rw [Tryd.underlying23]; rfl
@[simp] theorem siz23 : szT Tryd.prog 23 = some 3 := by unfold szT; rw [show Tryd.prog.info? 23 = some Tryd.t23 from Tryd.type23]; rfl
@[simp ↓] theorem ty23 {q : Bool → Nat → Prop} : goTy Tryd.prog 23 q = q true 3 := by simp only [goTy, agg23, siz23]
@[simp ↓] theorem sz23 {q : Nat → Prop} : goSz Tryd.prog 23 q = q 3 := by simp only [goSz, siz23]
theorem zer23 : zero? Tryd.prog 23 = some (Go.Value.agg #[Go.Value.int Go.IntKind.i64 0, Go.Value.string { data := #[] }, Go.Value.slice none 0 0]) := by unfold zero?; rw [show Tryd.prog.info? 23 = some Tryd.t23 from Tryd.type23]; rfl
@[simp ↓] theorem z23 {q : List Value → Prop} : goZ Tryd.prog 23 q = q [Go.Value.int Go.IntKind.i64 0, Go.Value.string { data := #[] }, Go.Value.slice none 0 0] := by simp [goZ, zer23, Value.cells]
@[simp] theorem und23 : Tryd.prog.underlying 23 = some (Go.TypeDesc.struct
  #[{ name := "Code", type := 3, offset := 0, embedded := false, tag := "", pkgPath := "", byteOffset := 0 },
    { name := "Text", type := 9, offset := 1, embedded := false, tag := "", pkgPath := "", byteOffset := 8 },
    { name := "Chain", type := 22, offset := 2, embedded := false, tag := "", pkgPath := "", byteOffset := 24 }]) := opq Tryd.underlying23
@[simp ↓] theorem fld23_0 {q : Nat → TypeId → Prop} : goFld Tryd.prog 23 0 q = q 0 3 := by simp only [goFld, und23]; rfl
@[simp ↓] theorem fld23_1 {q : Nat → TypeId → Prop} : goFld Tryd.prog 23 1 q = q 1 9 := by simp only [goFld, und23]; rfl
@[simp ↓] theorem fld23_2 {q : Nat → TypeId → Prop} : goFld Tryd.prog 23 2 q = q 2 22 := by simp only [goFld, und23]; rfl
@[simp ↓] theorem bld23 {q : List Value → List (Nat × Nat) → Prop} : goBld Tryd.prog 23 q = q [Go.Value.int Go.IntKind.i64 0, Go.Value.string { data := #[] }, Go.Value.slice none 0 0] [(0, 1), (1, 1), (2, 1)] := by simp [goBld, und23, zer23, placesL, Value.cells]
theorem agg24 : aggT Tryd.prog 24 = some true := by unfold aggT; rw [Tryd.underlying24]; rfl
@[simp] theorem siz24 : szT Tryd.prog 24 = some 3 := by unfold szT; rw [show Tryd.prog.info? 24 = some Tryd.t24 from Tryd.type24]; rfl
@[simp ↓] theorem ty24 {q : Bool → Nat → Prop} : goTy Tryd.prog 24 q = q true 3 := by simp only [goTy, agg24, siz24]
@[simp ↓] theorem sz24 {q : Nat → Prop} : goSz Tryd.prog 24 q = q 3 := by simp only [goSz, siz24]
theorem zer24 : zero? Tryd.prog 24 = some (Go.Value.agg #[Go.Value.int Go.IntKind.i64 0, Go.Value.string { data := #[] }, Go.Value.slice none 0 0]) := by unfold zero?; rw [show Tryd.prog.info? 24 = some Tryd.t24 from Tryd.type24]; rfl
@[simp ↓] theorem z24 {q : List Value → Prop} : goZ Tryd.prog 24 q = q [Go.Value.int Go.IntKind.i64 0, Go.Value.string { data := #[] }, Go.Value.slice none 0 0] := by simp [goZ, zer24, Value.cells]
@[simp] theorem und24 : Tryd.prog.underlying 24 = some (Go.TypeDesc.struct
  #[{ name := "Code", type := 3, offset := 0, embedded := false, tag := "", pkgPath := "", byteOffset := 0 },
    { name := "Text", type := 9, offset := 1, embedded := false, tag := "", pkgPath := "", byteOffset := 8 },
    { name := "Chain", type := 22, offset := 2, embedded := false, tag := "", pkgPath := "", byteOffset := 24 }]) := opq Tryd.underlying24
@[simp ↓] theorem fld24_0 {q : Nat → TypeId → Prop} : goFld Tryd.prog 24 0 q = q 0 3 := by simp only [goFld, und24]; rfl
@[simp ↓] theorem fld24_1 {q : Nat → TypeId → Prop} : goFld Tryd.prog 24 1 q = q 1 9 := by simp only [goFld, und24]; rfl
@[simp ↓] theorem fld24_2 {q : Nat → TypeId → Prop} : goFld Tryd.prog 24 2 q = q 2 22 := by simp only [goFld, und24]; rfl
@[simp ↓] theorem bld24 {q : List Value → List (Nat × Nat) → Prop} : goBld Tryd.prog 24 q = q [Go.Value.int Go.IntKind.i64 0, Go.Value.string { data := #[] }, Go.Value.slice none 0 0] [(0, 1), (1, 1), (2, 1)] := by simp [goBld, und24, zer24, placesL, Value.cells]
theorem agg25 : aggT Tryd.prog 25 = some false := by unfold aggT; rw [Tryd.underlying25]; rfl
@[simp] theorem siz25 : szT Tryd.prog 25 = some 1 := by unfold szT; rw [show Tryd.prog.info? 25 = some Tryd.t25 from Tryd.type25]; rfl
@[simp ↓] theorem ty25 {q : Bool → Nat → Prop} : goTy Tryd.prog 25 q = q false 1 := by simp only [goTy, agg25, siz25]
@[simp ↓] theorem sz25 {q : Nat → Prop} : goSz Tryd.prog 25 q = q 1 := by simp only [goSz, siz25]
theorem zer25 : zero? Tryd.prog 25 = some Go.Value.nilFunc := by unfold zero?; rw [show Tryd.prog.info? 25 = some Tryd.t25 from Tryd.type25]; rfl
@[simp ↓] theorem z25 {q : List Value → Prop} : goZ Tryd.prog 25 q = q [Go.Value.nilFunc] := by simp [goZ, zer25, Value.cells]
theorem agg26 : aggT Tryd.prog 26 = some false := by unfold aggT; rw [Tryd.underlying26]; rfl
@[simp] theorem siz26 : szT Tryd.prog 26 = some 1 := by unfold szT; rw [show Tryd.prog.info? 26 = some Tryd.t26 from Tryd.type26]; rfl
@[simp ↓] theorem ty26 {q : Bool → Nat → Prop} : goTy Tryd.prog 26 q = q false 1 := by simp only [goTy, agg26, siz26]
@[simp ↓] theorem sz26 {q : Nat → Prop} : goSz Tryd.prog 26 q = q 1 := by simp only [goSz, siz26]
theorem zer26 : zero? Tryd.prog 26 = some Go.Value.nilFunc := by unfold zero?; rw [show Tryd.prog.info? 26 = some Tryd.t26 from Tryd.type26]; rfl
@[simp ↓] theorem z26 {q : List Value → Prop} : goZ Tryd.prog 26 q = q [Go.Value.nilFunc] := by simp [goZ, zer26, Value.cells]
theorem agg27 : aggT Tryd.prog 27 = some true := by unfold aggT; rw [Tryd.underlying27]; rfl
@[simp] theorem siz27 : szT Tryd.prog 27 = some 3 := by unfold szT; rw [show Tryd.prog.info? 27 = some Tryd.t27 from Tryd.type27]; rfl
@[simp ↓] theorem ty27 {q : Bool → Nat → Prop} : goTy Tryd.prog 27 q = q true 3 := by simp only [goTy, agg27, siz27]
@[simp ↓] theorem sz27 {q : Nat → Prop} : goSz Tryd.prog 27 q = q 3 := by simp only [goSz, siz27]
theorem zer27 : zero? Tryd.prog 27 = some (Go.Value.agg #[Go.Value.int Go.IntKind.i64 0, Go.Value.string { data := #[] }, Go.Value.slice none 0 0]) := by unfold zero?; rw [show Tryd.prog.info? 27 = some Tryd.t27 from Tryd.type27]; rfl
@[simp ↓] theorem z27 {q : List Value → Prop} : goZ Tryd.prog 27 q = q [Go.Value.int Go.IntKind.i64 0, Go.Value.string { data := #[] }, Go.Value.slice none 0 0] := by simp [goZ, zer27, Value.cells]
@[simp] theorem und27 : Tryd.prog.underlying 27 = some (Go.TypeDesc.struct
  #[{ name := "Code", type := 3, offset := 0, embedded := false, tag := "", pkgPath := "", byteOffset := 0 },
    { name := "Text", type := 9, offset := 1, embedded := false, tag := "", pkgPath := "", byteOffset := 8 },
    { name := "Chain", type := 22, offset := 2, embedded := false, tag := "", pkgPath := "", byteOffset := 24 }]) := opq Tryd.underlying27
@[simp ↓] theorem fld27_0 {q : Nat → TypeId → Prop} : goFld Tryd.prog 27 0 q = q 0 3 := by simp only [goFld, und27]; rfl
@[simp ↓] theorem fld27_1 {q : Nat → TypeId → Prop} : goFld Tryd.prog 27 1 q = q 1 9 := by simp only [goFld, und27]; rfl
@[simp ↓] theorem fld27_2 {q : Nat → TypeId → Prop} : goFld Tryd.prog 27 2 q = q 2 22 := by simp only [goFld, und27]; rfl
@[simp ↓] theorem bld27 {q : List Value → List (Nat × Nat) → Prop} : goBld Tryd.prog 27 q = q [Go.Value.int Go.IntKind.i64 0, Go.Value.string { data := #[] }, Go.Value.slice none 0 0] [(0, 1), (1, 1), (2, 1)] := by simp [goBld, und27, zer27, placesL, Value.cells]
theorem agg28 : aggT Tryd.prog 28 = some false := by unfold aggT; rw [Tryd.underlying28]; rfl
@[simp] theorem siz28 : szT Tryd.prog 28 = some 1 := by unfold szT; rw [show Tryd.prog.info? 28 = some Tryd.t28 from Tryd.type28]; rfl
@[simp ↓] theorem ty28 {q : Bool → Nat → Prop} : goTy Tryd.prog 28 q = q false 1 := by simp only [goTy, agg28, siz28]
@[simp ↓] theorem sz28 {q : Nat → Prop} : goSz Tryd.prog 28 q = q 1 := by simp only [goSz, siz28]
theorem zer28 : zero? Tryd.prog 28 = some Go.Value.nilFunc := by unfold zero?; rw [show Tryd.prog.info? 28 = some Tryd.t28 from Tryd.type28]; rfl
@[simp ↓] theorem z28 {q : List Value → Prop} : goZ Tryd.prog 28 q = q [Go.Value.nilFunc] := by simp [goZ, zer28, Value.cells]
theorem agg29 : aggT Tryd.prog 29 = some false := by unfold aggT; rw [Tryd.underlying29]; rfl
@[simp] theorem siz29 : szT Tryd.prog 29 = some 1 := by unfold szT; rw [show Tryd.prog.info? 29 = some Tryd.t29 from Tryd.type29]; rfl
@[simp ↓] theorem ty29 {q : Bool → Nat → Prop} : goTy Tryd.prog 29 q = q false 1 := by simp only [goTy, agg29, siz29]
@[simp ↓] theorem sz29 {q : Nat → Prop} : goSz Tryd.prog 29 q = q 1 := by simp only [goSz, siz29]
theorem zer29 : zero? Tryd.prog 29 = some Go.Value.nilFunc := by unfold zero?; rw [show Tryd.prog.info? 29 = some Tryd.t29 from Tryd.type29]; rfl
@[simp ↓] theorem z29 {q : List Value → Prop} : goZ Tryd.prog 29 q = q [Go.Value.nilFunc] := by simp [goZ, zer29, Value.cells]
theorem agg30 : aggT Tryd.prog 30 = some false := by unfold aggT; rw [Tryd.underlying30]; rfl
@[simp] theorem siz30 : szT Tryd.prog 30 = some 1 := by unfold szT; rw [show Tryd.prog.info? 30 = some Tryd.t30 from Tryd.type30]; rfl
@[simp ↓] theorem ty30 {q : Bool → Nat → Prop} : goTy Tryd.prog 30 q = q false 1 := by simp only [goTy, agg30, siz30]
@[simp ↓] theorem sz30 {q : Nat → Prop} : goSz Tryd.prog 30 q = q 1 := by simp only [goSz, siz30]
theorem zer30 : zero? Tryd.prog 30 = some Go.Value.nilFunc := by unfold zero?; rw [show Tryd.prog.info? 30 = some Tryd.t30 from Tryd.type30]; rfl
@[simp ↓] theorem z30 {q : List Value → Prop} : goZ Tryd.prog 30 q = q [Go.Value.nilFunc] := by simp [goZ, zer30, Value.cells]
theorem agg31 : aggT Tryd.prog 31 = some false := by unfold aggT; rw [Tryd.underlying31]; rfl
@[simp] theorem siz31 : szT Tryd.prog 31 = some 1 := by unfold szT; rw [show Tryd.prog.info? 31 = some Tryd.t31 from Tryd.type31]; rfl
@[simp ↓] theorem ty31 {q : Bool → Nat → Prop} : goTy Tryd.prog 31 q = q false 1 := by simp only [goTy, agg31, siz31]
@[simp ↓] theorem sz31 {q : Nat → Prop} : goSz Tryd.prog 31 q = q 1 := by simp only [goSz, siz31]
theorem zer31 : zero? Tryd.prog 31 = some (Go.Value.slice none 0 0) := by unfold zero?; rw [show Tryd.prog.info? 31 = some Tryd.t31 from Tryd.type31]; rfl
@[simp ↓] theorem z31 {q : List Value → Prop} : goZ Tryd.prog 31 q = q [(Go.Value.slice none 0 0)] := by simp [goZ, zer31, Value.cells]
@[simp] theorem und31 : Tryd.prog.underlying 31 = some (Go.TypeDesc.slice 5) := opq Tryd.underlying31
@[simp ↓] theorem un31 {q : TypeDesc → Prop} : goUnd Tryd.prog 31 q = q (Go.TypeDesc.slice 5) := by simp only [goUnd, und31]
theorem slt31 : SlT Tryd.prog 31 5 1 1 := ⟨Tryd.underlying31, ⟨Tryd.t5, _, Tryd.type5, rfl, rfl, rfl, by simp, rfl⟩, by decide⟩
@[simp ↓] theorem sl31 {q : TypeId → Nat → List Value → Prop} : goSl Tryd.prog 31 q = q 5 1 [(Go.Value.int Go.IntKind.u8 0)] := by simp [goSl, und31, show zero? Tryd.prog 5 = some (Go.Value.int Go.IntKind.u8 0) from by unfold zero?; rw [show Tryd.prog.info? 5 = some Tryd.t5 from Tryd.type5]; rfl, show szT Tryd.prog 5 = some 1 from by unfold szT; rw [show Tryd.prog.info? 5 = some Tryd.t5 from Tryd.type5]; rfl, Value.cells]
theorem agg32 : aggT Tryd.prog 32 = some false := by unfold aggT; rw [Tryd.underlying32]; rfl
@[simp] theorem siz32 : szT Tryd.prog 32 = some 1 := by unfold szT; rw [show Tryd.prog.info? 32 = some Tryd.t32 from Tryd.type32]; rfl
@[simp ↓] theorem ty32 {q : Bool → Nat → Prop} : goTy Tryd.prog 32 q = q false 1 := by simp only [goTy, agg32, siz32]
@[simp ↓] theorem sz32 {q : Nat → Prop} : goSz Tryd.prog 32 q = q 1 := by simp only [goSz, siz32]
theorem zer32 : zero? Tryd.prog 32 = some Go.Value.nilFunc := by unfold zero?; rw [show Tryd.prog.info? 32 = some Tryd.t32 from Tryd.type32]; rfl
@[simp ↓] theorem z32 {q : List Value → Prop} : goZ Tryd.prog 32 q = q [Go.Value.nilFunc] := by simp [goZ, zer32, Value.cells]
theorem agg34 : aggT Tryd.prog 34 = some false := by unfold aggT; rw [Tryd.underlying34]; rfl
@[simp] theorem siz34 : szT Tryd.prog 34 = some 1 := by unfold szT; rw [show Tryd.prog.info? 34 = some Tryd.t34 from Tryd.type34]; rfl
@[simp ↓] theorem ty34 {q : Bool → Nat → Prop} : goTy Tryd.prog 34 q = q false 1 := by simp only [goTy, agg34, siz34]
@[simp ↓] theorem sz34 {q : Nat → Prop} : goSz Tryd.prog 34 q = q 1 := by simp only [goSz, siz34]
theorem zer34 : zero? Tryd.prog 34 = some Go.Value.nilFunc := by unfold zero?; rw [show Tryd.prog.info? 34 = some Tryd.t34 from Tryd.type34]; rfl
@[simp ↓] theorem z34 {q : List Value → Prop} : goZ Tryd.prog 34 q = q [Go.Value.nilFunc] := by simp [goZ, zer34, Value.cells]
theorem agg35 : aggT Tryd.prog 35 = some false := by unfold aggT; rw [Tryd.underlying35]; rfl
@[simp] theorem siz35 : szT Tryd.prog 35 = some 1 := by unfold szT; rw [show Tryd.prog.info? 35 = some Tryd.t35 from Tryd.type35]; rfl
@[simp ↓] theorem ty35 {q : Bool → Nat → Prop} : goTy Tryd.prog 35 q = q false 1 := by simp only [goTy, agg35, siz35]
@[simp ↓] theorem sz35 {q : Nat → Prop} : goSz Tryd.prog 35 q = q 1 := by simp only [goSz, siz35]
theorem zer35 : zero? Tryd.prog 35 = some Go.Value.nilFunc := by unfold zero?; rw [show Tryd.prog.info? 35 = some Tryd.t35 from Tryd.type35]; rfl
@[simp ↓] theorem z35 {q : List Value → Prop} : goZ Tryd.prog 35 q = q [Go.Value.nilFunc] := by simp [goZ, zer35, Value.cells]
theorem agg36 : aggT Tryd.prog 36 = some false := by unfold aggT; rw [Tryd.underlying36]; rfl
@[simp] theorem siz36 : szT Tryd.prog 36 = some 1 := by unfold szT; rw [show Tryd.prog.info? 36 = some Tryd.t36 from Tryd.type36]; rfl
@[simp ↓] theorem ty36 {q : Bool → Nat → Prop} : goTy Tryd.prog 36 q = q false 1 := by simp only [goTy, agg36, siz36]
@[simp ↓] theorem sz36 {q : Nat → Prop} : goSz Tryd.prog 36 q = q 1 := by simp only [goSz, siz36]
theorem zer36 : zero? Tryd.prog 36 = some Go.Value.nilFunc := by unfold zero?; rw [show Tryd.prog.info? 36 = some Tryd.t36 from Tryd.type36]; rfl
@[simp ↓] theorem z36 {q : List Value → Prop} : goZ Tryd.prog 36 q = q [Go.Value.nilFunc] := by simp [goZ, zer36, Value.cells]
theorem agg37 : aggT Tryd.prog 37 = some false := by unfold aggT; rw [Tryd.underlying37]; rfl
@[simp] theorem siz37 : szT Tryd.prog 37 = some 1 := by unfold szT; rw [show Tryd.prog.info? 37 = some Tryd.t37 from Tryd.type37]; rfl
@[simp ↓] theorem ty37 {q : Bool → Nat → Prop} : goTy Tryd.prog 37 q = q false 1 := by simp only [goTy, agg37, siz37]
@[simp ↓] theorem sz37 {q : Nat → Prop} : goSz Tryd.prog 37 q = q 1 := by simp only [goSz, siz37]
theorem zer37 : zero? Tryd.prog 37 = some Go.Value.nilFunc := by unfold zero?; rw [show Tryd.prog.info? 37 = some Tryd.t37 from Tryd.type37]; rfl
@[simp ↓] theorem z37 {q : List Value → Prop} : goZ Tryd.prog 37 q = q [Go.Value.nilFunc] := by simp [goZ, zer37, Value.cells]
theorem agg38 : aggT Tryd.prog 38 = some false := by unfold aggT; rw [Tryd.underlying38]; rfl
@[simp] theorem siz38 : szT Tryd.prog 38 = some 1 := by unfold szT; rw [show Tryd.prog.info? 38 = some Tryd.t38 from Tryd.type38]; rfl
@[simp ↓] theorem ty38 {q : Bool → Nat → Prop} : goTy Tryd.prog 38 q = q false 1 := by simp only [goTy, agg38, siz38]
@[simp ↓] theorem sz38 {q : Nat → Prop} : goSz Tryd.prog 38 q = q 1 := by simp only [goSz, siz38]
theorem zer38 : zero? Tryd.prog 38 = some Go.Value.nilFunc := by unfold zero?; rw [show Tryd.prog.info? 38 = some Tryd.t38 from Tryd.type38]; rfl
@[simp ↓] theorem z38 {q : List Value → Prop} : goZ Tryd.prog 38 q = q [Go.Value.nilFunc] := by simp [goZ, zer38, Value.cells]
theorem agg39 : aggT Tryd.prog 39 = some false := by unfold aggT; rw [Tryd.underlying39]; rfl
@[simp] theorem siz39 : szT Tryd.prog 39 = some 1 := by unfold szT; rw [show Tryd.prog.info? 39 = some Tryd.t39 from Tryd.type39]; rfl
@[simp ↓] theorem ty39 {q : Bool → Nat → Prop} : goTy Tryd.prog 39 q = q false 1 := by simp only [goTy, agg39, siz39]
@[simp ↓] theorem sz39 {q : Nat → Prop} : goSz Tryd.prog 39 q = q 1 := by simp only [goSz, siz39]
theorem zer39 : zero? Tryd.prog 39 = some Go.Value.nilFunc := by unfold zero?; rw [show Tryd.prog.info? 39 = some Tryd.t39 from Tryd.type39]; rfl
@[simp ↓] theorem z39 {q : List Value → Prop} : goZ Tryd.prog 39 q = q [Go.Value.nilFunc] := by simp [goZ, zer39, Value.cells]
theorem agg40 : aggT Tryd.prog 40 = some false := by unfold aggT; rw [Tryd.underlying40]; rfl
@[simp] theorem siz40 : szT Tryd.prog 40 = some 1 := by unfold szT; rw [show Tryd.prog.info? 40 = some Tryd.t40 from Tryd.type40]; rfl
@[simp ↓] theorem ty40 {q : Bool → Nat → Prop} : goTy Tryd.prog 40 q = q false 1 := by simp only [goTy, agg40, siz40]
@[simp ↓] theorem sz40 {q : Nat → Prop} : goSz Tryd.prog 40 q = q 1 := by simp only [goSz, siz40]
theorem zer40 : zero? Tryd.prog 40 = some Go.Value.nilFunc := by unfold zero?; rw [show Tryd.prog.info? 40 = some Tryd.t40 from Tryd.type40]; rfl
@[simp ↓] theorem z40 {q : List Value → Prop} : goZ Tryd.prog 40 q = q [Go.Value.nilFunc] := by simp [goZ, zer40, Value.cells]
theorem agg41 : aggT Tryd.prog 41 = some false := by unfold aggT; rw [Tryd.underlying41]; rfl
@[simp] theorem siz41 : szT Tryd.prog 41 = some 1 := by unfold szT; rw [show Tryd.prog.info? 41 = some Tryd.t41 from Tryd.type41]; rfl
@[simp ↓] theorem ty41 {q : Bool → Nat → Prop} : goTy Tryd.prog 41 q = q false 1 := by simp only [goTy, agg41, siz41]
@[simp ↓] theorem sz41 {q : Nat → Prop} : goSz Tryd.prog 41 q = q 1 := by simp only [goSz, siz41]
theorem zer41 : zero? Tryd.prog 41 = some (Go.Value.pointer none) := by unfold zero?; rw [show Tryd.prog.info? 41 = some Tryd.t41 from Tryd.type41]; rfl
@[simp ↓] theorem z41 {q : List Value → Prop} : goZ Tryd.prog 41 q = q [(Go.Value.pointer none)] := by simp [goZ, zer41, Value.cells]
@[simp] theorem und41 : Tryd.prog.underlying 41 = some (Go.TypeDesc.pointer 48) := opq Tryd.underlying41
@[simp ↓] theorem un41 {q : TypeDesc → Prop} : goUnd Tryd.prog 41 q = q (Go.TypeDesc.pointer 48) := by simp only [goUnd, und41]
theorem agg42 : aggT Tryd.prog 42 = some false := by unfold aggT; rw [Tryd.underlying42]; rfl
@[simp] theorem siz42 : szT Tryd.prog 42 = some 1 := by unfold szT; rw [show Tryd.prog.info? 42 = some Tryd.t42 from Tryd.type42]; rfl
@[simp ↓] theorem ty42 {q : Bool → Nat → Prop} : goTy Tryd.prog 42 q = q false 1 := by simp only [goTy, agg42, siz42]
@[simp ↓] theorem sz42 {q : Nat → Prop} : goSz Tryd.prog 42 q = q 1 := by simp only [goSz, siz42]
theorem zer42 : zero? Tryd.prog 42 = some Go.Value.nilFunc := by unfold zero?; rw [show Tryd.prog.info? 42 = some Tryd.t42 from Tryd.type42]; rfl
@[simp ↓] theorem z42 {q : List Value → Prop} : goZ Tryd.prog 42 q = q [Go.Value.nilFunc] := by simp [goZ, zer42, Value.cells]
theorem agg43 : aggT Tryd.prog 43 = some false := by unfold aggT; rw [Tryd.underlying43]; rfl
@[simp] theorem siz43 : szT Tryd.prog 43 = some 1 := by unfold szT; rw [show Tryd.prog.info? 43 = some Tryd.t43 from Tryd.type43]; rfl
@[simp ↓] theorem ty43 {q : Bool → Nat → Prop} : goTy Tryd.prog 43 q = q false 1 := by simp only [goTy, agg43, siz43]
@[simp ↓] theorem sz43 {q : Nat → Prop} : goSz Tryd.prog 43 q = q 1 := by simp only [goSz, siz43]
theorem zer43 : zero? Tryd.prog 43 = some Go.Value.nilFunc := by unfold zero?; rw [show Tryd.prog.info? 43 = some Tryd.t43 from Tryd.type43]; rfl
@[simp ↓] theorem z43 {q : List Value → Prop} : goZ Tryd.prog 43 q = q [Go.Value.nilFunc] := by simp [goZ, zer43, Value.cells]
theorem agg44 : aggT Tryd.prog 44 = some false := by unfold aggT; rw [Tryd.underlying44]; rfl
@[simp] theorem siz44 : szT Tryd.prog 44 = some 1 := by unfold szT; rw [show Tryd.prog.info? 44 = some Tryd.t44 from Tryd.type44]; rfl
@[simp ↓] theorem ty44 {q : Bool → Nat → Prop} : goTy Tryd.prog 44 q = q false 1 := by simp only [goTy, agg44, siz44]
@[simp ↓] theorem sz44 {q : Nat → Prop} : goSz Tryd.prog 44 q = q 1 := by simp only [goSz, siz44]
theorem zer44 : zero? Tryd.prog 44 = some Go.Value.nilFunc := by unfold zero?; rw [show Tryd.prog.info? 44 = some Tryd.t44 from Tryd.type44]; rfl
@[simp ↓] theorem z44 {q : List Value → Prop} : goZ Tryd.prog 44 q = q [Go.Value.nilFunc] := by simp [goZ, zer44, Value.cells]
theorem agg45 : aggT Tryd.prog 45 = some false := by unfold aggT; rw [Tryd.underlying45]; rfl
@[simp] theorem siz45 : szT Tryd.prog 45 = some 1 := by unfold szT; rw [show Tryd.prog.info? 45 = some Tryd.t45 from Tryd.type45]; rfl
@[simp ↓] theorem ty45 {q : Bool → Nat → Prop} : goTy Tryd.prog 45 q = q false 1 := by simp only [goTy, agg45, siz45]
@[simp ↓] theorem sz45 {q : Nat → Prop} : goSz Tryd.prog 45 q = q 1 := by simp only [goSz, siz45]
theorem zer45 : zero? Tryd.prog 45 = some Go.Value.nilFunc := by unfold zero?; rw [show Tryd.prog.info? 45 = some Tryd.t45 from Tryd.type45]; rfl
@[simp ↓] theorem z45 {q : List Value → Prop} : goZ Tryd.prog 45 q = q [Go.Value.nilFunc] := by simp [goZ, zer45, Value.cells]
theorem agg46 : aggT Tryd.prog 46 = some false := by unfold aggT; rw [Tryd.underlying46]; rfl
@[simp] theorem siz46 : szT Tryd.prog 46 = some 1 := by unfold szT; rw [show Tryd.prog.info? 46 = some Tryd.t46 from Tryd.type46]; rfl
@[simp ↓] theorem ty46 {q : Bool → Nat → Prop} : goTy Tryd.prog 46 q = q false 1 := by simp only [goTy, agg46, siz46]
@[simp ↓] theorem sz46 {q : Nat → Prop} : goSz Tryd.prog 46 q = q 1 := by simp only [goSz, siz46]
theorem zer46 : zero? Tryd.prog 46 = some Go.Value.nilFunc := by unfold zero?; rw [show Tryd.prog.info? 46 = some Tryd.t46 from Tryd.type46]; rfl
@[simp ↓] theorem z46 {q : List Value → Prop} : goZ Tryd.prog 46 q = q [Go.Value.nilFunc] := by simp [goZ, zer46, Value.cells]
theorem agg47 : aggT Tryd.prog 47 = some true := by unfold aggT; rw [Tryd.underlying47]; rfl
@[simp] theorem siz47 : szT Tryd.prog 47 = some 2 := by unfold szT; rw [show Tryd.prog.info? 47 = some Tryd.t47 from Tryd.type47]; rfl
@[simp ↓] theorem ty47 {q : Bool → Nat → Prop} : goTy Tryd.prog 47 q = q true 2 := by simp only [goTy, agg47, siz47]
@[simp ↓] theorem sz47 {q : Nat → Prop} : goSz Tryd.prog 47 q = q 2 := by simp only [goSz, siz47]
theorem zer47 : zero? Tryd.prog 47 = some (Go.Value.agg #[Go.Value.slice none 0 0, Go.Value.int Go.IntKind.i64 0]) := by unfold zero?; rw [show Tryd.prog.info? 47 = some Tryd.t47 from Tryd.type47]; rfl
@[simp ↓] theorem z47 {q : List Value → Prop} : goZ Tryd.prog 47 q = q [Go.Value.slice none 0 0, Go.Value.int Go.IntKind.i64 0] := by simp [goZ, zer47, Value.cells]
@[simp] theorem und47 : Tryd.prog.underlying 47 = some (Go.TypeDesc.struct
  #[{ name := "b", type := 31, offset := 0, embedded := false, tag := "", pkgPath := "loop.example/kilndeed/spec",
      byteOffset := 0 },
    { name := "p", type := 3, offset := 1, embedded := false, tag := "", pkgPath := "loop.example/kilndeed/spec",
      byteOffset := 24 }]) := opq Tryd.underlying47
@[simp ↓] theorem fld47_0 {q : Nat → TypeId → Prop} : goFld Tryd.prog 47 0 q = q 0 31 := by simp only [goFld, und47]; rfl
@[simp ↓] theorem fld47_1 {q : Nat → TypeId → Prop} : goFld Tryd.prog 47 1 q = q 1 3 := by simp only [goFld, und47]; rfl
@[simp ↓] theorem bld47 {q : List Value → List (Nat × Nat) → Prop} : goBld Tryd.prog 47 q = q [Go.Value.slice none 0 0, Go.Value.int Go.IntKind.i64 0] [(0, 1), (1, 1)] := by simp [goBld, und47, zer47, placesL, Value.cells]
theorem agg48 : aggT Tryd.prog 48 = some true := by unfold aggT; rw [Tryd.underlying48]; rfl
@[simp] theorem siz48 : szT Tryd.prog 48 = some 2 := by unfold szT; rw [show Tryd.prog.info? 48 = some Tryd.t48 from Tryd.type48]; rfl
@[simp ↓] theorem ty48 {q : Bool → Nat → Prop} : goTy Tryd.prog 48 q = q true 2 := by simp only [goTy, agg48, siz48]
@[simp ↓] theorem sz48 {q : Nat → Prop} : goSz Tryd.prog 48 q = q 2 := by simp only [goSz, siz48]
theorem zer48 : zero? Tryd.prog 48 = some (Go.Value.agg #[Go.Value.slice none 0 0, Go.Value.int Go.IntKind.i64 0]) := by unfold zero?; rw [show Tryd.prog.info? 48 = some Tryd.t48 from Tryd.type48]; rfl
@[simp ↓] theorem z48 {q : List Value → Prop} : goZ Tryd.prog 48 q = q [Go.Value.slice none 0 0, Go.Value.int Go.IntKind.i64 0] := by simp [goZ, zer48, Value.cells]
@[simp] theorem und48 : Tryd.prog.underlying 48 = some (Go.TypeDesc.struct
  #[{ name := "b", type := 31, offset := 0, embedded := false, tag := "", pkgPath := "loop.example/kilndeed/spec",
      byteOffset := 0 },
    { name := "p", type := 3, offset := 1, embedded := false, tag := "", pkgPath := "loop.example/kilndeed/spec",
      byteOffset := 24 }]) := opq Tryd.underlying48
@[simp ↓] theorem fld48_0 {q : Nat → TypeId → Prop} : goFld Tryd.prog 48 0 q = q 0 31 := by simp only [goFld, und48]; rfl
@[simp ↓] theorem fld48_1 {q : Nat → TypeId → Prop} : goFld Tryd.prog 48 1 q = q 1 3 := by simp only [goFld, und48]; rfl
@[simp ↓] theorem bld48 {q : List Value → List (Nat × Nat) → Prop} : goBld Tryd.prog 48 q = q [Go.Value.slice none 0 0, Go.Value.int Go.IntKind.i64 0] [(0, 1), (1, 1)] := by simp [goBld, und48, zer48, placesL, Value.cells]
theorem agg49 : aggT Tryd.prog 49 = some false := by unfold aggT; rw [Tryd.underlying49]; rfl
@[simp] theorem siz49 : szT Tryd.prog 49 = some 1 := by unfold szT; rw [show Tryd.prog.info? 49 = some Tryd.t49 from Tryd.type49]; rfl
@[simp ↓] theorem ty49 {q : Bool → Nat → Prop} : goTy Tryd.prog 49 q = q false 1 := by simp only [goTy, agg49, siz49]
@[simp ↓] theorem sz49 {q : Nat → Prop} : goSz Tryd.prog 49 q = q 1 := by simp only [goSz, siz49]
theorem zer49 : zero? Tryd.prog 49 = some Go.Value.nilFunc := by unfold zero?; rw [show Tryd.prog.info? 49 = some Tryd.t49 from Tryd.type49]; rfl
@[simp ↓] theorem z49 {q : List Value → Prop} : goZ Tryd.prog 49 q = q [Go.Value.nilFunc] := by simp [goZ, zer49, Value.cells]
theorem agg50 : aggT Tryd.prog 50 = some true := by unfold aggT; rw [Tryd.underlying50]; rfl
@[simp] theorem siz50 : szT Tryd.prog 50 = some 24 := by unfold szT; rw [show Tryd.prog.info? 50 = some Tryd.t50 from Tryd.type50]; rfl
@[simp ↓] theorem ty50 {q : Bool → Nat → Prop} : goTy Tryd.prog 50 q = q true 24 := by simp only [goTy, agg50, siz50]
@[simp ↓] theorem sz50 {q : Nat → Prop} : goSz Tryd.prog 50 q = q 24 := by simp only [goSz, siz50]
theorem zer50 : zero? Tryd.prog 50 = some
  (Go.Value.agg
    #[Go.Value.int Go.IntKind.u8 0, Go.Value.int Go.IntKind.u8 0, Go.Value.int Go.IntKind.u8 0,
      Go.Value.int Go.IntKind.u8 0, Go.Value.int Go.IntKind.u8 0, Go.Value.int Go.IntKind.u8 0,
      Go.Value.int Go.IntKind.u8 0, Go.Value.int Go.IntKind.u8 0, Go.Value.int Go.IntKind.u8 0,
      Go.Value.int Go.IntKind.u8 0, Go.Value.int Go.IntKind.u8 0, Go.Value.int Go.IntKind.u8 0,
      Go.Value.int Go.IntKind.u8 0, Go.Value.int Go.IntKind.u8 0, Go.Value.int Go.IntKind.u8 0,
      Go.Value.int Go.IntKind.u8 0, Go.Value.int Go.IntKind.u8 0, Go.Value.int Go.IntKind.u8 0,
      Go.Value.int Go.IntKind.u8 0, Go.Value.int Go.IntKind.u8 0, Go.Value.int Go.IntKind.u8 0,
      Go.Value.int Go.IntKind.u8 0, Go.Value.int Go.IntKind.u8 0, Go.Value.int Go.IntKind.u8 0]) := by unfold zero?; rw [show Tryd.prog.info? 50 = some Tryd.t50 from Tryd.type50]; rfl
@[simp ↓] theorem z50 {q : List Value → Prop} : goZ Tryd.prog 50 q = q [Go.Value.int Go.IntKind.u8 0, Go.Value.int Go.IntKind.u8 0, Go.Value.int Go.IntKind.u8 0,
      Go.Value.int Go.IntKind.u8 0, Go.Value.int Go.IntKind.u8 0, Go.Value.int Go.IntKind.u8 0,
      Go.Value.int Go.IntKind.u8 0, Go.Value.int Go.IntKind.u8 0, Go.Value.int Go.IntKind.u8 0,
      Go.Value.int Go.IntKind.u8 0, Go.Value.int Go.IntKind.u8 0, Go.Value.int Go.IntKind.u8 0,
      Go.Value.int Go.IntKind.u8 0, Go.Value.int Go.IntKind.u8 0, Go.Value.int Go.IntKind.u8 0,
      Go.Value.int Go.IntKind.u8 0, Go.Value.int Go.IntKind.u8 0, Go.Value.int Go.IntKind.u8 0,
      Go.Value.int Go.IntKind.u8 0, Go.Value.int Go.IntKind.u8 0, Go.Value.int Go.IntKind.u8 0,
      Go.Value.int Go.IntKind.u8 0, Go.Value.int Go.IntKind.u8 0, Go.Value.int Go.IntKind.u8 0] := by simp [goZ, zer50, Value.cells]
@[simp] theorem und50 : Tryd.prog.underlying 50 = some (Go.TypeDesc.array 24 5) := opq Tryd.underlying50
@[simp ↓] theorem un50 {q : TypeDesc → Prop} : goUnd Tryd.prog 50 q = q (Go.TypeDesc.array 24 5) := by simp only [goUnd, und50]
theorem agg51 : aggT Tryd.prog 51 = some false := by unfold aggT; rw [Tryd.underlying51]; rfl
@[simp] theorem siz51 : szT Tryd.prog 51 = some 1 := by unfold szT; rw [show Tryd.prog.info? 51 = some Tryd.t51 from Tryd.type51]; rfl
@[simp ↓] theorem ty51 {q : Bool → Nat → Prop} : goTy Tryd.prog 51 q = q false 1 := by simp only [goTy, agg51, siz51]
@[simp ↓] theorem sz51 {q : Nat → Prop} : goSz Tryd.prog 51 q = q 1 := by simp only [goSz, siz51]
theorem zer51 : zero? Tryd.prog 51 = some (Go.Value.int Go.IntKind.u64 0) := by unfold zero?; rw [show Tryd.prog.info? 51 = some Tryd.t51 from Tryd.type51]; rfl
@[simp ↓] theorem z51 {q : List Value → Prop} : goZ Tryd.prog 51 q = q [(Go.Value.int Go.IntKind.u64 0)] := by simp [goZ, zer51, Value.cells]
@[simp] theorem und51 : Tryd.prog.underlying 51 = some (Go.TypeDesc.int Go.IntKind.u64) := opq Tryd.underlying51
@[simp ↓] theorem un51 {q : TypeDesc → Prop} : goUnd Tryd.prog 51 q = q (Go.TypeDesc.int Go.IntKind.u64) := by simp only [goUnd, und51]
theorem agg52 : aggT Tryd.prog 52 = some false := by unfold aggT; rw [Tryd.underlying52]; rfl
@[simp] theorem siz52 : szT Tryd.prog 52 = some 1 := by unfold szT; rw [show Tryd.prog.info? 52 = some Tryd.t52 from Tryd.type52]; rfl
@[simp ↓] theorem ty52 {q : Bool → Nat → Prop} : goTy Tryd.prog 52 q = q false 1 := by simp only [goTy, agg52, siz52]
@[simp ↓] theorem sz52 {q : Nat → Prop} : goSz Tryd.prog 52 q = q 1 := by simp only [goSz, siz52]
theorem zer52 : zero? Tryd.prog 52 = some Go.Value.nilFunc := by unfold zero?; rw [show Tryd.prog.info? 52 = some Tryd.t52 from Tryd.type52]; rfl
@[simp ↓] theorem z52 {q : List Value → Prop} : goZ Tryd.prog 52 q = q [Go.Value.nilFunc] := by simp [goZ, zer52, Value.cells]
theorem agg53 : aggT Tryd.prog 53 = some false := by unfold aggT; rw [Tryd.underlying53]; rfl
@[simp] theorem siz53 : szT Tryd.prog 53 = some 1 := by unfold szT; rw [show Tryd.prog.info? 53 = some Tryd.t53 from Tryd.type53]; rfl
@[simp ↓] theorem ty53 {q : Bool → Nat → Prop} : goTy Tryd.prog 53 q = q false 1 := by simp only [goTy, agg53, siz53]
@[simp ↓] theorem sz53 {q : Nat → Prop} : goSz Tryd.prog 53 q = q 1 := by simp only [goSz, siz53]
theorem zer53 : zero? Tryd.prog 53 = some Go.Value.nilFunc := by unfold zero?; rw [show Tryd.prog.info? 53 = some Tryd.t53 from Tryd.type53]; rfl
@[simp ↓] theorem z53 {q : List Value → Prop} : goZ Tryd.prog 53 q = q [Go.Value.nilFunc] := by simp [goZ, zer53, Value.cells]
theorem agg55 : aggT Tryd.prog 55 = some false := by unfold aggT; rw [Tryd.underlying55]; rfl
@[simp] theorem siz55 : szT Tryd.prog 55 = some 1 := by unfold szT; rw [show Tryd.prog.info? 55 = some Tryd.t55 from Tryd.type55]; rfl
@[simp ↓] theorem ty55 {q : Bool → Nat → Prop} : goTy Tryd.prog 55 q = q false 1 := by simp only [goTy, agg55, siz55]
@[simp ↓] theorem sz55 {q : Nat → Prop} : goSz Tryd.prog 55 q = q 1 := by simp only [goSz, siz55]
theorem zer55 : zero? Tryd.prog 55 = some Go.Value.nilFunc := by unfold zero?; rw [show Tryd.prog.info? 55 = some Tryd.t55 from Tryd.type55]; rfl
@[simp ↓] theorem z55 {q : List Value → Prop} : goZ Tryd.prog 55 q = q [Go.Value.nilFunc] := by simp [goZ, zer55, Value.cells]
theorem agg56 : aggT Tryd.prog 56 = some false := by unfold aggT; rw [Tryd.underlying56]; rfl
@[simp] theorem siz56 : szT Tryd.prog 56 = some 1 := by unfold szT; rw [show Tryd.prog.info? 56 = some Tryd.t56 from Tryd.type56]; rfl
@[simp ↓] theorem ty56 {q : Bool → Nat → Prop} : goTy Tryd.prog 56 q = q false 1 := by simp only [goTy, agg56, siz56]
@[simp ↓] theorem sz56 {q : Nat → Prop} : goSz Tryd.prog 56 q = q 1 := by simp only [goSz, siz56]
theorem zer56 : zero? Tryd.prog 56 = some Go.Value.nilFunc := by unfold zero?; rw [show Tryd.prog.info? 56 = some Tryd.t56 from Tryd.type56]; rfl
@[simp ↓] theorem z56 {q : List Value → Prop} : goZ Tryd.prog 56 q = q [Go.Value.nilFunc] := by simp [goZ, zer56, Value.cells]
theorem agg57 : aggT Tryd.prog 57 = some true := by unfold aggT; rw [Tryd.underlying57]; rfl
@[simp] theorem siz57 : szT Tryd.prog 57 = some 20 := by unfold szT; rw [show Tryd.prog.info? 57 = some Tryd.t57 from Tryd.type57]; rfl
@[simp ↓] theorem ty57 {q : Bool → Nat → Prop} : goTy Tryd.prog 57 q = q true 20 := by simp only [goTy, agg57, siz57]
@[simp ↓] theorem sz57 {q : Nat → Prop} : goSz Tryd.prog 57 q = q 20 := by simp only [goSz, siz57]
theorem zer57 : zero? Tryd.prog 57 = some
  (Go.Value.agg
    #[Go.Value.int Go.IntKind.u64 0, Go.Value.int Go.IntKind.u64 0, Go.Value.int Go.IntKind.u64 0,
      Go.Value.int Go.IntKind.u64 0, Go.Value.int Go.IntKind.u64 0, Go.Value.int Go.IntKind.u64 0,
      Go.Value.int Go.IntKind.u64 0, Go.Value.int Go.IntKind.u64 0, Go.Value.int Go.IntKind.u64 0,
      Go.Value.int Go.IntKind.u64 0, Go.Value.int Go.IntKind.u64 0, Go.Value.int Go.IntKind.u64 0,
      Go.Value.int Go.IntKind.u64 0, Go.Value.int Go.IntKind.u64 0, Go.Value.int Go.IntKind.u64 0,
      Go.Value.int Go.IntKind.u64 0, Go.Value.int Go.IntKind.u64 0, Go.Value.int Go.IntKind.u64 0,
      Go.Value.int Go.IntKind.u64 0, Go.Value.int Go.IntKind.u64 0]) := by unfold zero?; rw [show Tryd.prog.info? 57 = some Tryd.t57 from Tryd.type57]; rfl
@[simp ↓] theorem z57 {q : List Value → Prop} : goZ Tryd.prog 57 q = q [Go.Value.int Go.IntKind.u64 0, Go.Value.int Go.IntKind.u64 0, Go.Value.int Go.IntKind.u64 0,
      Go.Value.int Go.IntKind.u64 0, Go.Value.int Go.IntKind.u64 0, Go.Value.int Go.IntKind.u64 0,
      Go.Value.int Go.IntKind.u64 0, Go.Value.int Go.IntKind.u64 0, Go.Value.int Go.IntKind.u64 0,
      Go.Value.int Go.IntKind.u64 0, Go.Value.int Go.IntKind.u64 0, Go.Value.int Go.IntKind.u64 0,
      Go.Value.int Go.IntKind.u64 0, Go.Value.int Go.IntKind.u64 0, Go.Value.int Go.IntKind.u64 0,
      Go.Value.int Go.IntKind.u64 0, Go.Value.int Go.IntKind.u64 0, Go.Value.int Go.IntKind.u64 0,
      Go.Value.int Go.IntKind.u64 0, Go.Value.int Go.IntKind.u64 0] := by simp [goZ, zer57, Value.cells]
@[simp] theorem und57 : Tryd.prog.underlying 57 = some (Go.TypeDesc.array 20 51) := opq Tryd.underlying57
@[simp ↓] theorem un57 {q : TypeDesc → Prop} : goUnd Tryd.prog 57 q = q (Go.TypeDesc.array 20 51) := by simp only [goUnd, und57]
theorem agg58 : aggT Tryd.prog 58 = some false := by unfold aggT; rw [Tryd.underlying58]; rfl
@[simp] theorem siz58 : szT Tryd.prog 58 = some 1 := by unfold szT; rw [show Tryd.prog.info? 58 = some Tryd.t58 from Tryd.type58]; rfl
@[simp ↓] theorem ty58 {q : Bool → Nat → Prop} : goTy Tryd.prog 58 q = q false 1 := by simp only [goTy, agg58, siz58]
@[simp ↓] theorem sz58 {q : Nat → Prop} : goSz Tryd.prog 58 q = q 1 := by simp only [goSz, siz58]
theorem zer58 : zero? Tryd.prog 58 = some (Go.Value.int Go.IntKind.u32 0) := by unfold zero?; rw [show Tryd.prog.info? 58 = some Tryd.t58 from Tryd.type58]; rfl
@[simp ↓] theorem z58 {q : List Value → Prop} : goZ Tryd.prog 58 q = q [(Go.Value.int Go.IntKind.u32 0)] := by simp [goZ, zer58, Value.cells]
@[simp] theorem und58 : Tryd.prog.underlying 58 = some (Go.TypeDesc.int Go.IntKind.u32) := opq Tryd.underlying58
@[simp ↓] theorem un58 {q : TypeDesc → Prop} : goUnd Tryd.prog 58 q = q (Go.TypeDesc.int Go.IntKind.u32) := by simp only [goUnd, und58]
theorem agg59 : aggT Tryd.prog 59 = some true := by unfold aggT; rw [Tryd.underlying59]; rfl
@[simp] theorem siz59 : szT Tryd.prog 59 = some 65 := by unfold szT; rw [show Tryd.prog.info? 59 = some Tryd.t59 from Tryd.type59]; rfl
@[simp ↓] theorem ty59 {q : Bool → Nat → Prop} : goTy Tryd.prog 59 q = q true 65 := by simp only [goTy, agg59, siz59]
@[simp ↓] theorem sz59 {q : Nat → Prop} : goSz Tryd.prog 59 q = q 65 := by simp only [goSz, siz59]
@[simp] theorem und59 : Tryd.prog.underlying 59 = some (Go.TypeDesc.array 65 5) := opq Tryd.underlying59
@[simp ↓] theorem un59 {q : TypeDesc → Prop} : goUnd Tryd.prog 59 q = q (Go.TypeDesc.array 65 5) := by simp only [goUnd, und59]
theorem agg60 : aggT Tryd.prog 60 = some false := by unfold aggT; rw [Tryd.underlying60]; rfl
@[simp] theorem siz60 : szT Tryd.prog 60 = some 1 := by unfold szT; rw [show Tryd.prog.info? 60 = some Tryd.t60 from Tryd.type60]; rfl
@[simp ↓] theorem ty60 {q : Bool → Nat → Prop} : goTy Tryd.prog 60 q = q false 1 := by simp only [goTy, agg60, siz60]
@[simp ↓] theorem sz60 {q : Nat → Prop} : goSz Tryd.prog 60 q = q 1 := by simp only [goSz, siz60]
theorem zer60 : zero? Tryd.prog 60 = some Go.Value.nilFunc := by unfold zero?; rw [show Tryd.prog.info? 60 = some Tryd.t60 from Tryd.type60]; rfl
@[simp ↓] theorem z60 {q : List Value → Prop} : goZ Tryd.prog 60 q = q [Go.Value.nilFunc] := by simp [goZ, zer60, Value.cells]
theorem agg61 : aggT Tryd.prog 61 = some false := by unfold aggT; rw [Tryd.underlying61]; rfl
@[simp] theorem siz61 : szT Tryd.prog 61 = some 1 := by unfold szT; rw [show Tryd.prog.info? 61 = some Tryd.t61 from Tryd.type61]; rfl
@[simp ↓] theorem ty61 {q : Bool → Nat → Prop} : goTy Tryd.prog 61 q = q false 1 := by simp only [goTy, agg61, siz61]
@[simp ↓] theorem sz61 {q : Nat → Prop} : goSz Tryd.prog 61 q = q 1 := by simp only [goSz, siz61]
theorem zer61 : zero? Tryd.prog 61 = some (Go.Value.int Go.IntKind.u64 0) := by unfold zero?; rw [show Tryd.prog.info? 61 = some Tryd.t61 from Tryd.type61]; rfl
@[simp ↓] theorem z61 {q : List Value → Prop} : goZ Tryd.prog 61 q = q [(Go.Value.int Go.IntKind.u64 0)] := by simp [goZ, zer61, Value.cells]
@[simp] theorem und61 : Tryd.prog.underlying 61 = some (Go.TypeDesc.int Go.IntKind.u64) := opq Tryd.underlying61
@[simp ↓] theorem un61 {q : TypeDesc → Prop} : goUnd Tryd.prog 61 q = q (Go.TypeDesc.int Go.IntKind.u64) := by simp only [goUnd, und61]
theorem agg62 : aggT Tryd.prog 62 = some false := by unfold aggT; rw [Tryd.underlying62]; rfl
@[simp] theorem siz62 : szT Tryd.prog 62 = some 1 := by unfold szT; rw [show Tryd.prog.info? 62 = some Tryd.t62 from Tryd.type62]; rfl
@[simp ↓] theorem ty62 {q : Bool → Nat → Prop} : goTy Tryd.prog 62 q = q false 1 := by simp only [goTy, agg62, siz62]
@[simp ↓] theorem sz62 {q : Nat → Prop} : goSz Tryd.prog 62 q = q 1 := by simp only [goSz, siz62]
theorem zer62 : zero? Tryd.prog 62 = some Go.Value.nilFunc := by unfold zero?; rw [show Tryd.prog.info? 62 = some Tryd.t62 from Tryd.type62]; rfl
@[simp ↓] theorem z62 {q : List Value → Prop} : goZ Tryd.prog 62 q = q [Go.Value.nilFunc] := by simp [goZ, zer62, Value.cells]
theorem agg63 : aggT Tryd.prog 63 = some false := by unfold aggT; rw [Tryd.underlying63]; rfl
@[simp] theorem siz63 : szT Tryd.prog 63 = some 1 := by unfold szT; rw [show Tryd.prog.info? 63 = some Tryd.t63 from Tryd.type63]; rfl
@[simp ↓] theorem ty63 {q : Bool → Nat → Prop} : goTy Tryd.prog 63 q = q false 1 := by simp only [goTy, agg63, siz63]
@[simp ↓] theorem sz63 {q : Nat → Prop} : goSz Tryd.prog 63 q = q 1 := by simp only [goSz, siz63]
theorem zer63 : zero? Tryd.prog 63 = some Go.Value.nilFunc := by unfold zero?; rw [show Tryd.prog.info? 63 = some Tryd.t63 from Tryd.type63]; rfl
@[simp ↓] theorem z63 {q : List Value → Prop} : goZ Tryd.prog 63 q = q [Go.Value.nilFunc] := by simp [goZ, zer63, Value.cells]
theorem agg64 : aggT Tryd.prog 64 = some true := by unfold aggT; rw [Tryd.underlying64]; rfl
@[simp] theorem siz64 : szT Tryd.prog 64 = some 32 := by unfold szT; rw [show Tryd.prog.info? 64 = some Tryd.t64 from Tryd.type64]; rfl
@[simp ↓] theorem ty64 {q : Bool → Nat → Prop} : goTy Tryd.prog 64 q = q true 32 := by simp only [goTy, agg64, siz64]
@[simp ↓] theorem sz64 {q : Nat → Prop} : goSz Tryd.prog 64 q = q 32 := by simp only [goSz, siz64]
theorem zer64 : zero? Tryd.prog 64 = some
  (Go.Value.agg
    #[Go.Value.int Go.IntKind.u8 0, Go.Value.int Go.IntKind.u8 0, Go.Value.int Go.IntKind.u8 0,
      Go.Value.int Go.IntKind.u8 0, Go.Value.int Go.IntKind.u8 0, Go.Value.int Go.IntKind.u8 0,
      Go.Value.int Go.IntKind.u8 0, Go.Value.int Go.IntKind.u8 0, Go.Value.int Go.IntKind.u8 0,
      Go.Value.int Go.IntKind.u8 0, Go.Value.int Go.IntKind.u8 0, Go.Value.int Go.IntKind.u8 0,
      Go.Value.int Go.IntKind.u8 0, Go.Value.int Go.IntKind.u8 0, Go.Value.int Go.IntKind.u8 0,
      Go.Value.int Go.IntKind.u8 0, Go.Value.int Go.IntKind.u8 0, Go.Value.int Go.IntKind.u8 0,
      Go.Value.int Go.IntKind.u8 0, Go.Value.int Go.IntKind.u8 0, Go.Value.int Go.IntKind.u8 0,
      Go.Value.int Go.IntKind.u8 0, Go.Value.int Go.IntKind.u8 0, Go.Value.int Go.IntKind.u8 0,
      Go.Value.int Go.IntKind.u8 0, Go.Value.int Go.IntKind.u8 0, Go.Value.int Go.IntKind.u8 0,
      Go.Value.int Go.IntKind.u8 0, Go.Value.int Go.IntKind.u8 0, Go.Value.int Go.IntKind.u8 0,
      Go.Value.int Go.IntKind.u8 0, Go.Value.int Go.IntKind.u8 0]) := by unfold zero?; rw [show Tryd.prog.info? 64 = some Tryd.t64 from Tryd.type64]; rfl
@[simp ↓] theorem z64 {q : List Value → Prop} : goZ Tryd.prog 64 q = q [Go.Value.int Go.IntKind.u8 0, Go.Value.int Go.IntKind.u8 0, Go.Value.int Go.IntKind.u8 0,
      Go.Value.int Go.IntKind.u8 0, Go.Value.int Go.IntKind.u8 0, Go.Value.int Go.IntKind.u8 0,
      Go.Value.int Go.IntKind.u8 0, Go.Value.int Go.IntKind.u8 0, Go.Value.int Go.IntKind.u8 0,
      Go.Value.int Go.IntKind.u8 0, Go.Value.int Go.IntKind.u8 0, Go.Value.int Go.IntKind.u8 0,
      Go.Value.int Go.IntKind.u8 0, Go.Value.int Go.IntKind.u8 0, Go.Value.int Go.IntKind.u8 0,
      Go.Value.int Go.IntKind.u8 0, Go.Value.int Go.IntKind.u8 0, Go.Value.int Go.IntKind.u8 0,
      Go.Value.int Go.IntKind.u8 0, Go.Value.int Go.IntKind.u8 0, Go.Value.int Go.IntKind.u8 0,
      Go.Value.int Go.IntKind.u8 0, Go.Value.int Go.IntKind.u8 0, Go.Value.int Go.IntKind.u8 0,
      Go.Value.int Go.IntKind.u8 0, Go.Value.int Go.IntKind.u8 0, Go.Value.int Go.IntKind.u8 0,
      Go.Value.int Go.IntKind.u8 0, Go.Value.int Go.IntKind.u8 0, Go.Value.int Go.IntKind.u8 0,
      Go.Value.int Go.IntKind.u8 0, Go.Value.int Go.IntKind.u8 0] := by simp [goZ, zer64, Value.cells]
@[simp] theorem und64 : Tryd.prog.underlying 64 = some (Go.TypeDesc.array 32 5) := opq Tryd.underlying64
@[simp ↓] theorem un64 {q : TypeDesc → Prop} : goUnd Tryd.prog 64 q = q (Go.TypeDesc.array 32 5) := by simp only [goUnd, und64]
theorem agg65 : aggT Tryd.prog 65 = some true := by unfold aggT; rw [Tryd.underlying65]; rfl
@[simp] theorem siz65 : szT Tryd.prog 65 = some 64 := by unfold szT; rw [show Tryd.prog.info? 65 = some Tryd.t65 from Tryd.type65]; rfl
@[simp ↓] theorem ty65 {q : Bool → Nat → Prop} : goTy Tryd.prog 65 q = q true 64 := by simp only [goTy, agg65, siz65]
@[simp ↓] theorem sz65 {q : Nat → Prop} : goSz Tryd.prog 65 q = q 64 := by simp only [goSz, siz65]
@[simp] theorem und65 : Tryd.prog.underlying 65 = some (Go.TypeDesc.array 64 5) := opq Tryd.underlying65
@[simp ↓] theorem un65 {q : TypeDesc → Prop} : goUnd Tryd.prog 65 q = q (Go.TypeDesc.array 64 5) := by simp only [goUnd, und65]
theorem agg66 : aggT Tryd.prog 66 = some false := by unfold aggT; rw [Tryd.underlying66]; rfl
@[simp] theorem siz66 : szT Tryd.prog 66 = some 1 := by unfold szT; rw [show Tryd.prog.info? 66 = some Tryd.t66 from Tryd.type66]; rfl
@[simp ↓] theorem ty66 {q : Bool → Nat → Prop} : goTy Tryd.prog 66 q = q false 1 := by simp only [goTy, agg66, siz66]
@[simp ↓] theorem sz66 {q : Nat → Prop} : goSz Tryd.prog 66 q = q 1 := by simp only [goSz, siz66]
theorem zer66 : zero? Tryd.prog 66 = some Go.Value.nilFunc := by unfold zero?; rw [show Tryd.prog.info? 66 = some Tryd.t66 from Tryd.type66]; rfl
@[simp ↓] theorem z66 {q : List Value → Prop} : goZ Tryd.prog 66 q = q [Go.Value.nilFunc] := by simp [goZ, zer66, Value.cells]
theorem agg67 : aggT Tryd.prog 67 = some true := by unfold aggT; rw [Tryd.underlying67]; rfl
@[simp] theorem siz67 : szT Tryd.prog 67 = some 4 := by unfold szT; rw [show Tryd.prog.info? 67 = some Tryd.t67 from Tryd.type67]; rfl
@[simp ↓] theorem ty67 {q : Bool → Nat → Prop} : goTy Tryd.prog 67 q = q true 4 := by simp only [goTy, agg67, siz67]
@[simp ↓] theorem sz67 {q : Nat → Prop} : goSz Tryd.prog 67 q = q 4 := by simp only [goSz, siz67]
theorem zer67 : zero? Tryd.prog 67 = some
  (Go.Value.agg #[Go.Value.pointer none, Go.Value.pointer none, Go.Value.pointer none, Go.Value.string { data := #[] }]) := by unfold zero?; rw [show Tryd.prog.info? 67 = some Tryd.t67 from Tryd.type67]; rfl
@[simp ↓] theorem z67 {q : List Value → Prop} : goZ Tryd.prog 67 q = q [Go.Value.pointer none, Go.Value.pointer none, Go.Value.pointer none, Go.Value.string { data := #[] }] := by simp [goZ, zer67, Value.cells]
@[simp] theorem und67 : Tryd.prog.underlying 67 = some (Go.TypeDesc.struct
  #[{ name := "_interface", type := 17, offset := 0, embedded := false, tag := "", pkgPath := "runtime",
      byteOffset := 0 },
    { name := "concrete", type := 17, offset := 1, embedded := false, tag := "", pkgPath := "runtime",
      byteOffset := 8 },
    { name := "asserted", type := 17, offset := 2, embedded := false, tag := "", pkgPath := "runtime",
      byteOffset := 16 },
    { name := "missingMethod", type := 9, offset := 3, embedded := false, tag := "", pkgPath := "runtime",
      byteOffset := 24 }]) := opq Tryd.underlying67
@[simp ↓] theorem fld67_0 {q : Nat → TypeId → Prop} : goFld Tryd.prog 67 0 q = q 0 17 := by simp only [goFld, und67]; rfl
@[simp ↓] theorem fld67_1 {q : Nat → TypeId → Prop} : goFld Tryd.prog 67 1 q = q 1 17 := by simp only [goFld, und67]; rfl
@[simp ↓] theorem fld67_2 {q : Nat → TypeId → Prop} : goFld Tryd.prog 67 2 q = q 2 17 := by simp only [goFld, und67]; rfl
@[simp ↓] theorem fld67_3 {q : Nat → TypeId → Prop} : goFld Tryd.prog 67 3 q = q 3 9 := by simp only [goFld, und67]; rfl
@[simp ↓] theorem bld67 {q : List Value → List (Nat × Nat) → Prop} : goBld Tryd.prog 67 q = q [Go.Value.pointer none, Go.Value.pointer none, Go.Value.pointer none, Go.Value.string { data := #[] }] [(0, 1), (1, 1), (2, 1), (3, 1)] := by simp [goBld, und67, zer67, placesL, Value.cells]
theorem agg68 : aggT Tryd.prog 68 = some true := by unfold aggT; rw [Tryd.underlying68]; rfl
@[simp] theorem siz68 : szT Tryd.prog 68 = some 4 := by unfold szT; rw [show Tryd.prog.info? 68 = some Tryd.t68 from Tryd.type68]; rfl
@[simp ↓] theorem ty68 {q : Bool → Nat → Prop} : goTy Tryd.prog 68 q = q true 4 := by simp only [goTy, agg68, siz68]
@[simp ↓] theorem sz68 {q : Nat → Prop} : goSz Tryd.prog 68 q = q 4 := by simp only [goSz, siz68]
theorem zer68 : zero? Tryd.prog 68 = some
  (Go.Value.agg #[Go.Value.pointer none, Go.Value.pointer none, Go.Value.pointer none, Go.Value.string { data := #[] }]) := by unfold zero?; rw [show Tryd.prog.info? 68 = some Tryd.t68 from Tryd.type68]; rfl
@[simp ↓] theorem z68 {q : List Value → Prop} : goZ Tryd.prog 68 q = q [Go.Value.pointer none, Go.Value.pointer none, Go.Value.pointer none, Go.Value.string { data := #[] }] := by simp [goZ, zer68, Value.cells]
@[simp] theorem und68 : Tryd.prog.underlying 68 = some (Go.TypeDesc.struct
  #[{ name := "_interface", type := 17, offset := 0, embedded := false, tag := "", pkgPath := "runtime",
      byteOffset := 0 },
    { name := "concrete", type := 17, offset := 1, embedded := false, tag := "", pkgPath := "runtime",
      byteOffset := 8 },
    { name := "asserted", type := 17, offset := 2, embedded := false, tag := "", pkgPath := "runtime",
      byteOffset := 16 },
    { name := "missingMethod", type := 9, offset := 3, embedded := false, tag := "", pkgPath := "runtime",
      byteOffset := 24 }]) := opq Tryd.underlying68
@[simp ↓] theorem fld68_0 {q : Nat → TypeId → Prop} : goFld Tryd.prog 68 0 q = q 0 17 := by simp only [goFld, und68]; rfl
@[simp ↓] theorem fld68_1 {q : Nat → TypeId → Prop} : goFld Tryd.prog 68 1 q = q 1 17 := by simp only [goFld, und68]; rfl
@[simp ↓] theorem fld68_2 {q : Nat → TypeId → Prop} : goFld Tryd.prog 68 2 q = q 2 17 := by simp only [goFld, und68]; rfl
@[simp ↓] theorem fld68_3 {q : Nat → TypeId → Prop} : goFld Tryd.prog 68 3 q = q 3 9 := by simp only [goFld, und68]; rfl
@[simp ↓] theorem bld68 {q : List Value → List (Nat × Nat) → Prop} : goBld Tryd.prog 68 q = q [Go.Value.pointer none, Go.Value.pointer none, Go.Value.pointer none, Go.Value.string { data := #[] }] [(0, 1), (1, 1), (2, 1), (3, 1)] := by simp [goBld, und68, zer68, placesL, Value.cells]
theorem agg69 : aggT Tryd.prog 69 = some true := by unfold aggT; rw [Tryd.underlying69]; rfl
@[simp] theorem siz69 : szT Tryd.prog 69 = some 0 := by unfold szT; rw [show Tryd.prog.info? 69 = some Tryd.t69 from Tryd.type69]; rfl
@[simp ↓] theorem ty69 {q : Bool → Nat → Prop} : goTy Tryd.prog 69 q = q true 0 := by simp only [goTy, agg69, siz69]
@[simp ↓] theorem sz69 {q : Nat → Prop} : goSz Tryd.prog 69 q = q 0 := by simp only [goSz, siz69]
theorem zer69 : zero? Tryd.prog 69 = some (Go.Value.agg #[]) := by unfold zero?; rw [show Tryd.prog.info? 69 = some Tryd.t69 from Tryd.type69]; rfl
@[simp ↓] theorem z69 {q : List Value → Prop} : goZ Tryd.prog 69 q = q [] := by simp [goZ, zer69, Value.cells]
@[simp] theorem und69 : Tryd.prog.underlying 69 = some (Go.TypeDesc.array 0 16) := opq Tryd.underlying69
@[simp ↓] theorem un69 {q : TypeDesc → Prop} : goUnd Tryd.prog 69 q = q (Go.TypeDesc.array 0 16) := by simp only [goUnd, und69]
theorem agg70 : aggT Tryd.prog 70 = some true := by unfold aggT; rw [Tryd.underlying70]; rfl
@[simp] theorem siz70 : szT Tryd.prog 70 = some 0 := by unfold szT; rw [show Tryd.prog.info? 70 = some Tryd.t70 from Tryd.type70]; rfl
@[simp ↓] theorem ty70 {q : Bool → Nat → Prop} : goTy Tryd.prog 70 q = q true 0 := by simp only [goTy, agg70, siz70]
@[simp ↓] theorem sz70 {q : Nat → Prop} : goSz Tryd.prog 70 q = q 0 := by simp only [goSz, siz70]
theorem zer70 : zero? Tryd.prog 70 = some (Go.Value.agg #[]) := by unfold zero?; rw [show Tryd.prog.info? 70 = some Tryd.t70 from Tryd.type70]; rfl
@[simp ↓] theorem z70 {q : List Value → Prop} : goZ Tryd.prog 70 q = q [] := by simp [goZ, zer70, Value.cells]
@[simp] theorem und70 : Tryd.prog.underlying 70 = some (Go.TypeDesc.struct
  #[{ name := "_", type := 69, offset := 0, embedded := false, tag := "", pkgPath := "runtime", byteOffset := 0 }]) := opq Tryd.underlying70
@[simp ↓] theorem fld70_0 {q : Nat → TypeId → Prop} : goFld Tryd.prog 70 0 q = q 0 69 := by simp only [goFld, und70]; rfl
@[simp ↓] theorem bld70 {q : List Value → List (Nat × Nat) → Prop} : goBld Tryd.prog 70 q = q [] [(0, 0)] := by simp [goBld, und70, zer70, placesL, Value.cells]
theorem agg71 : aggT Tryd.prog 71 = some true := by unfold aggT; rw [Tryd.underlying71]; rfl
@[simp] theorem siz71 : szT Tryd.prog 71 = some 0 := by unfold szT; rw [show Tryd.prog.info? 71 = some Tryd.t71 from Tryd.type71]; rfl
@[simp ↓] theorem ty71 {q : Bool → Nat → Prop} : goTy Tryd.prog 71 q = q true 0 := by simp only [goTy, agg71, siz71]
@[simp ↓] theorem sz71 {q : Nat → Prop} : goSz Tryd.prog 71 q = q 0 := by simp only [goSz, siz71]
theorem zer71 : zero? Tryd.prog 71 = some (Go.Value.agg #[]) := by unfold zero?; rw [show Tryd.prog.info? 71 = some Tryd.t71 from Tryd.type71]; rfl
@[simp ↓] theorem z71 {q : List Value → Prop} : goZ Tryd.prog 71 q = q [] := by simp [goZ, zer71, Value.cells]
@[simp] theorem und71 : Tryd.prog.underlying 71 = some (Go.TypeDesc.struct
  #[{ name := "_", type := 69, offset := 0, embedded := false, tag := "", pkgPath := "runtime", byteOffset := 0 }]) := opq Tryd.underlying71
@[simp ↓] theorem fld71_0 {q : Nat → TypeId → Prop} : goFld Tryd.prog 71 0 q = q 0 69 := by simp only [goFld, und71]; rfl
@[simp ↓] theorem bld71 {q : List Value → List (Nat × Nat) → Prop} : goBld Tryd.prog 71 q = q [] [(0, 0)] := by simp [goBld, und71, zer71, placesL, Value.cells]
theorem agg72 : aggT Tryd.prog 72 = some false := by unfold aggT; rw [Tryd.underlying72]; rfl
@[simp] theorem siz72 : szT Tryd.prog 72 = some 1 := by unfold szT; rw [show Tryd.prog.info? 72 = some Tryd.t72 from Tryd.type72]; rfl
@[simp ↓] theorem ty72 {q : Bool → Nat → Prop} : goTy Tryd.prog 72 q = q false 1 := by simp only [goTy, agg72, siz72]
@[simp ↓] theorem sz72 {q : Nat → Prop} : goSz Tryd.prog 72 q = q 1 := by simp only [goSz, siz72]
theorem zer72 : zero? Tryd.prog 72 = some Go.Value.nilFunc := by unfold zero?; rw [show Tryd.prog.info? 72 = some Tryd.t72 from Tryd.type72]; rfl
@[simp ↓] theorem z72 {q : List Value → Prop} : goZ Tryd.prog 72 q = q [Go.Value.nilFunc] := by simp [goZ, zer72, Value.cells]
theorem agg73 : aggT Tryd.prog 73 = some false := by unfold aggT; rw [Tryd.underlying73]; rfl
@[simp] theorem siz73 : szT Tryd.prog 73 = some 1 := by unfold szT; rw [show Tryd.prog.info? 73 = some Tryd.t73 from Tryd.type73]; rfl
@[simp ↓] theorem ty73 {q : Bool → Nat → Prop} : goTy Tryd.prog 73 q = q false 1 := by simp only [goTy, agg73, siz73]
@[simp ↓] theorem sz73 {q : Nat → Prop} : goSz Tryd.prog 73 q = q 1 := by simp only [goSz, siz73]
theorem zer73 : zero? Tryd.prog 73 = some (Go.Value.int Go.IntKind.u8 0) := by unfold zero?; rw [show Tryd.prog.info? 73 = some Tryd.t73 from Tryd.type73]; rfl
@[simp ↓] theorem z73 {q : List Value → Prop} : goZ Tryd.prog 73 q = q [(Go.Value.int Go.IntKind.u8 0)] := by simp [goZ, zer73, Value.cells]
@[simp] theorem und73 : Tryd.prog.underlying 73 = some (Go.TypeDesc.int Go.IntKind.u8) := opq Tryd.underlying73
@[simp ↓] theorem un73 {q : TypeDesc → Prop} : goUnd Tryd.prog 73 q = q (Go.TypeDesc.int Go.IntKind.u8) := by simp only [goUnd, und73]
theorem agg74 : aggT Tryd.prog 74 = some false := by unfold aggT; rw [Tryd.underlying74]; rfl
@[simp] theorem siz74 : szT Tryd.prog 74 = some 1 := by unfold szT; rw [show Tryd.prog.info? 74 = some Tryd.t74 from Tryd.type74]; rfl
@[simp ↓] theorem ty74 {q : Bool → Nat → Prop} : goTy Tryd.prog 74 q = q false 1 := by simp only [goTy, agg74, siz74]
@[simp ↓] theorem sz74 {q : Nat → Prop} : goSz Tryd.prog 74 q = q 1 := by simp only [goSz, siz74]
theorem zer74 : zero? Tryd.prog 74 = some (Go.Value.int Go.IntKind.u8 0) := by unfold zero?; rw [show Tryd.prog.info? 74 = some Tryd.t74 from Tryd.type74]; rfl
@[simp ↓] theorem z74 {q : List Value → Prop} : goZ Tryd.prog 74 q = q [(Go.Value.int Go.IntKind.u8 0)] := by simp [goZ, zer74, Value.cells]
@[simp] theorem und74 : Tryd.prog.underlying 74 = some (Go.TypeDesc.int Go.IntKind.u8) := opq Tryd.underlying74
@[simp ↓] theorem un74 {q : TypeDesc → Prop} : goUnd Tryd.prog 74 q = q (Go.TypeDesc.int Go.IntKind.u8) := by simp only [goUnd, und74]
theorem agg75 : aggT Tryd.prog 75 = some false := by unfold aggT; rw [Tryd.underlying75]; rfl
@[simp] theorem siz75 : szT Tryd.prog 75 = some 1 := by unfold szT; rw [show Tryd.prog.info? 75 = some Tryd.t75 from Tryd.type75]; rfl
@[simp ↓] theorem ty75 {q : Bool → Nat → Prop} : goTy Tryd.prog 75 q = q false 1 := by simp only [goTy, agg75, siz75]
@[simp ↓] theorem sz75 {q : Nat → Prop} : goSz Tryd.prog 75 q = q 1 := by simp only [goSz, siz75]
theorem zer75 : zero? Tryd.prog 75 = some Go.Value.nilFunc := by unfold zero?; rw [show Tryd.prog.info? 75 = some Tryd.t75 from Tryd.type75]; rfl
@[simp ↓] theorem z75 {q : List Value → Prop} : goZ Tryd.prog 75 q = q [Go.Value.nilFunc] := by simp [goZ, zer75, Value.cells]
theorem agg76 : aggT Tryd.prog 76 = some false := by unfold aggT; rw [Tryd.underlying76]; rfl
@[simp] theorem siz76 : szT Tryd.prog 76 = some 1 := by unfold szT; rw [show Tryd.prog.info? 76 = some Tryd.t76 from Tryd.type76]; rfl
@[simp ↓] theorem ty76 {q : Bool → Nat → Prop} : goTy Tryd.prog 76 q = q false 1 := by simp only [goTy, agg76, siz76]
@[simp ↓] theorem sz76 {q : Nat → Prop} : goSz Tryd.prog 76 q = q 1 := by simp only [goSz, siz76]
theorem zer76 : zero? Tryd.prog 76 = some (Go.Value.pointer none) := by unfold zero?; rw [show Tryd.prog.info? 76 = some Tryd.t76 from Tryd.type76]; rfl
@[simp ↓] theorem z76 {q : List Value → Prop} : goZ Tryd.prog 76 q = q [(Go.Value.pointer none)] := by simp [goZ, zer76, Value.cells]
@[simp] theorem und76 : Tryd.prog.underlying 76 = some (Go.TypeDesc.pointer 5) := opq Tryd.underlying76
@[simp ↓] theorem un76 {q : TypeDesc → Prop} : goUnd Tryd.prog 76 q = q (Go.TypeDesc.pointer 5) := by simp only [goUnd, und76]
theorem agg77 : aggT Tryd.prog 77 = some false := by unfold aggT; rw [Tryd.underlying77]; rfl
@[simp] theorem siz77 : szT Tryd.prog 77 = some 1 := by unfold szT; rw [show Tryd.prog.info? 77 = some Tryd.t77 from Tryd.type77]; rfl
@[simp ↓] theorem ty77 {q : Bool → Nat → Prop} : goTy Tryd.prog 77 q = q false 1 := by simp only [goTy, agg77, siz77]
@[simp ↓] theorem sz77 {q : Nat → Prop} : goSz Tryd.prog 77 q = q 1 := by simp only [goSz, siz77]
theorem zer77 : zero? Tryd.prog 77 = some (Go.Value.int Go.IntKind.i32 0) := by unfold zero?; rw [show Tryd.prog.info? 77 = some Tryd.t77 from Tryd.type77]; rfl
@[simp ↓] theorem z77 {q : List Value → Prop} : goZ Tryd.prog 77 q = q [(Go.Value.int Go.IntKind.i32 0)] := by simp [goZ, zer77, Value.cells]
@[simp] theorem und77 : Tryd.prog.underlying 77 = some (Go.TypeDesc.int Go.IntKind.i32) := opq Tryd.underlying77
@[simp ↓] theorem un77 {q : TypeDesc → Prop} : goUnd Tryd.prog 77 q = q (Go.TypeDesc.int Go.IntKind.i32) := by simp only [goUnd, und77]
theorem agg78 : aggT Tryd.prog 78 = some false := by unfold aggT; rw [Tryd.underlying78]; rfl
@[simp] theorem siz78 : szT Tryd.prog 78 = some 1 := by unfold szT; rw [show Tryd.prog.info? 78 = some Tryd.t78 from Tryd.type78]; rfl
@[simp ↓] theorem ty78 {q : Bool → Nat → Prop} : goTy Tryd.prog 78 q = q false 1 := by simp only [goTy, agg78, siz78]
@[simp ↓] theorem sz78 {q : Nat → Prop} : goSz Tryd.prog 78 q = q 1 := by simp only [goSz, siz78]
theorem zer78 : zero? Tryd.prog 78 = some (Go.Value.int Go.IntKind.i32 0) := by unfold zero?; rw [show Tryd.prog.info? 78 = some Tryd.t78 from Tryd.type78]; rfl
@[simp ↓] theorem z78 {q : List Value → Prop} : goZ Tryd.prog 78 q = q [(Go.Value.int Go.IntKind.i32 0)] := by simp [goZ, zer78, Value.cells]
@[simp] theorem und78 : Tryd.prog.underlying 78 = some (Go.TypeDesc.int Go.IntKind.i32) := opq Tryd.underlying78
@[simp ↓] theorem un78 {q : TypeDesc → Prop} : goUnd Tryd.prog 78 q = q (Go.TypeDesc.int Go.IntKind.i32) := by simp only [goUnd, und78]
theorem agg79 : aggT Tryd.prog 79 = some true := by unfold aggT; rw [Tryd.underlying79]; rfl
@[simp] theorem siz79 : szT Tryd.prog 79 = some 11 := by unfold szT; rw [show Tryd.prog.info? 79 = some Tryd.t79 from Tryd.type79]; rfl
@[simp ↓] theorem ty79 {q : Bool → Nat → Prop} : goTy Tryd.prog 79 q = q true 11 := by simp only [goTy, agg79, siz79]
@[simp ↓] theorem sz79 {q : Nat → Prop} : goSz Tryd.prog 79 q = q 11 := by simp only [goSz, siz79]
theorem zer79 : zero? Tryd.prog 79 = some
  (Go.Value.agg
    #[Go.Value.int Go.IntKind.u64 0, Go.Value.int Go.IntKind.u64 0, Go.Value.int Go.IntKind.u32 0,
      Go.Value.int Go.IntKind.u8 0, Go.Value.int Go.IntKind.u8 0, Go.Value.int Go.IntKind.u8 0,
      Go.Value.int Go.IntKind.u8 0, Go.Value.nilFunc, Go.Value.pointer none, Go.Value.int Go.IntKind.i32 0,
      Go.Value.int Go.IntKind.i32 0]) := by unfold zero?; rw [show Tryd.prog.info? 79 = some Tryd.t79 from Tryd.type79]; rfl
@[simp ↓] theorem z79 {q : List Value → Prop} : goZ Tryd.prog 79 q = q [Go.Value.int Go.IntKind.u64 0, Go.Value.int Go.IntKind.u64 0, Go.Value.int Go.IntKind.u32 0,
      Go.Value.int Go.IntKind.u8 0, Go.Value.int Go.IntKind.u8 0, Go.Value.int Go.IntKind.u8 0,
      Go.Value.int Go.IntKind.u8 0, Go.Value.nilFunc, Go.Value.pointer none, Go.Value.int Go.IntKind.i32 0,
      Go.Value.int Go.IntKind.i32 0] := by simp [goZ, zer79, Value.cells]
@[simp] theorem und79 : Tryd.prog.underlying 79 = some (Go.TypeDesc.struct
  #[{ name := "Size_", type := 12, offset := 0, embedded := false, tag := "", pkgPath := "", byteOffset := 0 },
    { name := "PtrBytes", type := 12, offset := 1, embedded := false, tag := "", pkgPath := "", byteOffset := 8 },
    { name := "Hash", type := 58, offset := 2, embedded := false, tag := "", pkgPath := "", byteOffset := 16 },
    { name := "TFlag", type := 73, offset := 3, embedded := false, tag := "", pkgPath := "", byteOffset := 20 },
    { name := "Align_", type := 5, offset := 4, embedded := false, tag := "", pkgPath := "", byteOffset := 21 },
    { name := "FieldAlign_", type := 5, offset := 5, embedded := false, tag := "", pkgPath := "", byteOffset := 22 },
    { name := "Kind_", type := 74, offset := 6, embedded := false, tag := "", pkgPath := "", byteOffset := 23 },
    { name := "Equal", type := 75, offset := 7, embedded := false, tag := "", pkgPath := "", byteOffset := 24 },
    { name := "GCData", type := 76, offset := 8, embedded := false, tag := "", pkgPath := "", byteOffset := 32 },
    { name := "Str", type := 77, offset := 9, embedded := false, tag := "", pkgPath := "", byteOffset := 40 },
    { name := "PtrToThis", type := 78, offset := 10, embedded := false, tag := "", pkgPath := "", byteOffset := 44 }]) := opq Tryd.underlying79
@[simp ↓] theorem fld79_0 {q : Nat → TypeId → Prop} : goFld Tryd.prog 79 0 q = q 0 12 := by simp only [goFld, und79]; rfl
@[simp ↓] theorem fld79_1 {q : Nat → TypeId → Prop} : goFld Tryd.prog 79 1 q = q 1 12 := by simp only [goFld, und79]; rfl
@[simp ↓] theorem fld79_2 {q : Nat → TypeId → Prop} : goFld Tryd.prog 79 2 q = q 2 58 := by simp only [goFld, und79]; rfl
@[simp ↓] theorem fld79_3 {q : Nat → TypeId → Prop} : goFld Tryd.prog 79 3 q = q 3 73 := by simp only [goFld, und79]; rfl
@[simp ↓] theorem fld79_4 {q : Nat → TypeId → Prop} : goFld Tryd.prog 79 4 q = q 4 5 := by simp only [goFld, und79]; rfl
@[simp ↓] theorem fld79_5 {q : Nat → TypeId → Prop} : goFld Tryd.prog 79 5 q = q 5 5 := by simp only [goFld, und79]; rfl
@[simp ↓] theorem fld79_6 {q : Nat → TypeId → Prop} : goFld Tryd.prog 79 6 q = q 6 74 := by simp only [goFld, und79]; rfl
@[simp ↓] theorem fld79_7 {q : Nat → TypeId → Prop} : goFld Tryd.prog 79 7 q = q 7 75 := by simp only [goFld, und79]; rfl
@[simp ↓] theorem fld79_8 {q : Nat → TypeId → Prop} : goFld Tryd.prog 79 8 q = q 8 76 := by simp only [goFld, und79]; rfl
@[simp ↓] theorem fld79_9 {q : Nat → TypeId → Prop} : goFld Tryd.prog 79 9 q = q 9 77 := by simp only [goFld, und79]; rfl
@[simp ↓] theorem fld79_10 {q : Nat → TypeId → Prop} : goFld Tryd.prog 79 10 q = q 10 78 := by simp only [goFld, und79]; rfl
@[simp ↓] theorem bld79 {q : List Value → List (Nat × Nat) → Prop} : goBld Tryd.prog 79 q = q [Go.Value.int Go.IntKind.u64 0, Go.Value.int Go.IntKind.u64 0, Go.Value.int Go.IntKind.u32 0,
      Go.Value.int Go.IntKind.u8 0, Go.Value.int Go.IntKind.u8 0, Go.Value.int Go.IntKind.u8 0,
      Go.Value.int Go.IntKind.u8 0, Go.Value.nilFunc, Go.Value.pointer none, Go.Value.int Go.IntKind.i32 0,
      Go.Value.int Go.IntKind.i32 0] [(0, 1), (1, 1), (2, 1), (3, 1), (4, 1), (5, 1), (6, 1), (7, 1), (8, 1), (9, 1), (10, 1)] := by simp [goBld, und79, zer79, placesL, Value.cells]
theorem agg80 : aggT Tryd.prog 80 = some true := by unfold aggT; rw [Tryd.underlying80]; rfl
@[simp] theorem siz80 : szT Tryd.prog 80 = some 11 := by unfold szT; rw [show Tryd.prog.info? 80 = some Tryd.t80 from Tryd.type80]; rfl
@[simp ↓] theorem ty80 {q : Bool → Nat → Prop} : goTy Tryd.prog 80 q = q true 11 := by simp only [goTy, agg80, siz80]
@[simp ↓] theorem sz80 {q : Nat → Prop} : goSz Tryd.prog 80 q = q 11 := by simp only [goSz, siz80]
theorem zer80 : zero? Tryd.prog 80 = some
  (Go.Value.agg
    #[Go.Value.int Go.IntKind.u64 0, Go.Value.int Go.IntKind.u64 0, Go.Value.int Go.IntKind.u32 0,
      Go.Value.int Go.IntKind.u8 0, Go.Value.int Go.IntKind.u8 0, Go.Value.int Go.IntKind.u8 0,
      Go.Value.int Go.IntKind.u8 0, Go.Value.nilFunc, Go.Value.pointer none, Go.Value.int Go.IntKind.i32 0,
      Go.Value.int Go.IntKind.i32 0]) := by unfold zero?; rw [show Tryd.prog.info? 80 = some Tryd.t80 from Tryd.type80]; rfl
@[simp ↓] theorem z80 {q : List Value → Prop} : goZ Tryd.prog 80 q = q [Go.Value.int Go.IntKind.u64 0, Go.Value.int Go.IntKind.u64 0, Go.Value.int Go.IntKind.u32 0,
      Go.Value.int Go.IntKind.u8 0, Go.Value.int Go.IntKind.u8 0, Go.Value.int Go.IntKind.u8 0,
      Go.Value.int Go.IntKind.u8 0, Go.Value.nilFunc, Go.Value.pointer none, Go.Value.int Go.IntKind.i32 0,
      Go.Value.int Go.IntKind.i32 0] := by simp [goZ, zer80, Value.cells]
@[simp] theorem und80 : Tryd.prog.underlying 80 = some (Go.TypeDesc.struct
  #[{ name := "Size_", type := 12, offset := 0, embedded := false, tag := "", pkgPath := "", byteOffset := 0 },
    { name := "PtrBytes", type := 12, offset := 1, embedded := false, tag := "", pkgPath := "", byteOffset := 8 },
    { name := "Hash", type := 58, offset := 2, embedded := false, tag := "", pkgPath := "", byteOffset := 16 },
    { name := "TFlag", type := 73, offset := 3, embedded := false, tag := "", pkgPath := "", byteOffset := 20 },
    { name := "Align_", type := 5, offset := 4, embedded := false, tag := "", pkgPath := "", byteOffset := 21 },
    { name := "FieldAlign_", type := 5, offset := 5, embedded := false, tag := "", pkgPath := "", byteOffset := 22 },
    { name := "Kind_", type := 74, offset := 6, embedded := false, tag := "", pkgPath := "", byteOffset := 23 },
    { name := "Equal", type := 75, offset := 7, embedded := false, tag := "", pkgPath := "", byteOffset := 24 },
    { name := "GCData", type := 76, offset := 8, embedded := false, tag := "", pkgPath := "", byteOffset := 32 },
    { name := "Str", type := 77, offset := 9, embedded := false, tag := "", pkgPath := "", byteOffset := 40 },
    { name := "PtrToThis", type := 78, offset := 10, embedded := false, tag := "", pkgPath := "", byteOffset := 44 }]) := opq Tryd.underlying80
@[simp ↓] theorem fld80_0 {q : Nat → TypeId → Prop} : goFld Tryd.prog 80 0 q = q 0 12 := by simp only [goFld, und80]; rfl
@[simp ↓] theorem fld80_1 {q : Nat → TypeId → Prop} : goFld Tryd.prog 80 1 q = q 1 12 := by simp only [goFld, und80]; rfl
@[simp ↓] theorem fld80_2 {q : Nat → TypeId → Prop} : goFld Tryd.prog 80 2 q = q 2 58 := by simp only [goFld, und80]; rfl
@[simp ↓] theorem fld80_3 {q : Nat → TypeId → Prop} : goFld Tryd.prog 80 3 q = q 3 73 := by simp only [goFld, und80]; rfl
@[simp ↓] theorem fld80_4 {q : Nat → TypeId → Prop} : goFld Tryd.prog 80 4 q = q 4 5 := by simp only [goFld, und80]; rfl
@[simp ↓] theorem fld80_5 {q : Nat → TypeId → Prop} : goFld Tryd.prog 80 5 q = q 5 5 := by simp only [goFld, und80]; rfl
@[simp ↓] theorem fld80_6 {q : Nat → TypeId → Prop} : goFld Tryd.prog 80 6 q = q 6 74 := by simp only [goFld, und80]; rfl
@[simp ↓] theorem fld80_7 {q : Nat → TypeId → Prop} : goFld Tryd.prog 80 7 q = q 7 75 := by simp only [goFld, und80]; rfl
@[simp ↓] theorem fld80_8 {q : Nat → TypeId → Prop} : goFld Tryd.prog 80 8 q = q 8 76 := by simp only [goFld, und80]; rfl
@[simp ↓] theorem fld80_9 {q : Nat → TypeId → Prop} : goFld Tryd.prog 80 9 q = q 9 77 := by simp only [goFld, und80]; rfl
@[simp ↓] theorem fld80_10 {q : Nat → TypeId → Prop} : goFld Tryd.prog 80 10 q = q 10 78 := by simp only [goFld, und80]; rfl
@[simp ↓] theorem bld80 {q : List Value → List (Nat × Nat) → Prop} : goBld Tryd.prog 80 q = q [Go.Value.int Go.IntKind.u64 0, Go.Value.int Go.IntKind.u64 0, Go.Value.int Go.IntKind.u32 0,
      Go.Value.int Go.IntKind.u8 0, Go.Value.int Go.IntKind.u8 0, Go.Value.int Go.IntKind.u8 0,
      Go.Value.int Go.IntKind.u8 0, Go.Value.nilFunc, Go.Value.pointer none, Go.Value.int Go.IntKind.i32 0,
      Go.Value.int Go.IntKind.i32 0] [(0, 1), (1, 1), (2, 1), (3, 1), (4, 1), (5, 1), (6, 1), (7, 1), (8, 1), (9, 1), (10, 1)] := by simp [goBld, und80, zer80, placesL, Value.cells]
theorem agg81 : aggT Tryd.prog 81 = some false := by unfold aggT; rw [Tryd.underlying81]; rfl
@[simp] theorem siz81 : szT Tryd.prog 81 = some 1 := by unfold szT; rw [show Tryd.prog.info? 81 = some Tryd.t81 from Tryd.type81]; rfl
@[simp ↓] theorem ty81 {q : Bool → Nat → Prop} : goTy Tryd.prog 81 q = q false 1 := by simp only [goTy, agg81, siz81]
@[simp ↓] theorem sz81 {q : Nat → Prop} : goSz Tryd.prog 81 q = q 1 := by simp only [goSz, siz81]
theorem zer81 : zero? Tryd.prog 81 = some (Go.Value.pointer none) := by unfold zero?; rw [show Tryd.prog.info? 81 = some Tryd.t81 from Tryd.type81]; rfl
@[simp ↓] theorem z81 {q : List Value → Prop} : goZ Tryd.prog 81 q = q [(Go.Value.pointer none)] := by simp [goZ, zer81, Value.cells]
@[simp] theorem und81 : Tryd.prog.underlying 81 = some (Go.TypeDesc.unsafePointer) := opq Tryd.underlying81
@[simp ↓] theorem un81 {q : TypeDesc → Prop} : goUnd Tryd.prog 81 q = q (Go.TypeDesc.unsafePointer) := by simp only [goUnd, und81]
end Go.Proofs.YtiimabmdokpmbaaDoor
