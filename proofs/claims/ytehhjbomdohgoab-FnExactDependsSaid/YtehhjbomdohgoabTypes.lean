/- Facts about the seat's types, for the abstract machine. No condition. -/
import Derived.Test.YtehhjbomdohgoabProg
import Derived.Test.YtehhjbomdohgoabAm20
namespace Go.Proofs.Ytehhjbomdohgoab
open Go Go.Am Go.Proofs
set_option linter.unusedSimpArgs false
set_option maxRecDepth 100000
theorem agg1 : aggT Try.prog 1 = some false := by unfold aggT; rw [Try.underlying1]; rfl
@[simp] theorem siz1 : szT Try.prog 1 = some 1 := by unfold szT; rw [show Try.prog.info? 1 = some Try.t1 from Try.type1]; rfl
@[simp ↓] theorem ty1 {q : Bool → Nat → Prop} : goTy Try.prog 1 q = q false 1 := by simp only [goTy, agg1, siz1]
@[simp ↓] theorem sz1 {q : Nat → Prop} : goSz Try.prog 1 q = q 1 := by simp only [goSz, siz1]
theorem zer1 : zero? Try.prog 1 = some Go.Value.nilFunc := by unfold zero?; rw [show Try.prog.info? 1 = some Try.t1 from Try.type1]; rfl
@[simp ↓] theorem z1 {q : List Value → Prop} : goZ Try.prog 1 q = q [Go.Value.nilFunc] := by simp [goZ, zer1, Value.cells]
theorem agg2 : aggT Try.prog 2 = some false := by unfold aggT; rw [Try.underlying2]; rfl
@[simp] theorem siz2 : szT Try.prog 2 = some 1 := by unfold szT; rw [show Try.prog.info? 2 = some Try.t2 from Try.type2]; rfl
@[simp ↓] theorem ty2 {q : Bool → Nat → Prop} : goTy Try.prog 2 q = q false 1 := by simp only [goTy, agg2, siz2]
@[simp ↓] theorem sz2 {q : Nat → Prop} : goSz Try.prog 2 q = q 1 := by simp only [goSz, siz2]
theorem zer2 : zero? Try.prog 2 = some (Go.Value.int Go.IntKind.i64 0) := by unfold zero?; rw [show Try.prog.info? 2 = some Try.t2 from Try.type2]; rfl
@[simp ↓] theorem z2 {q : List Value → Prop} : goZ Try.prog 2 q = q [(Go.Value.int Go.IntKind.i64 0)] := by simp [goZ, zer2, Value.cells]
@[simp] theorem und2 : Try.prog.underlying 2 = some (Go.TypeDesc.int Go.IntKind.i64) := opq Try.underlying2
@[simp ↓] theorem un2 {q : TypeDesc → Prop} : goUnd Try.prog 2 q = q (Go.TypeDesc.int Go.IntKind.i64) := by simp only [goUnd, und2]
theorem agg3 : aggT Try.prog 3 = some false := by unfold aggT; rw [Try.underlying3]; rfl
@[simp] theorem siz3 : szT Try.prog 3 = some 1 := by unfold szT; rw [show Try.prog.info? 3 = some Try.t3 from Try.type3]; rfl
@[simp ↓] theorem ty3 {q : Bool → Nat → Prop} : goTy Try.prog 3 q = q false 1 := by simp only [goTy, agg3, siz3]
@[simp ↓] theorem sz3 {q : Nat → Prop} : goSz Try.prog 3 q = q 1 := by simp only [goSz, siz3]
theorem zer3 : zero? Try.prog 3 = some (Go.Value.int Go.IntKind.i64 0) := by unfold zero?; rw [show Try.prog.info? 3 = some Try.t3 from Try.type3]; rfl
@[simp ↓] theorem z3 {q : List Value → Prop} : goZ Try.prog 3 q = q [(Go.Value.int Go.IntKind.i64 0)] := by simp [goZ, zer3, Value.cells]
@[simp] theorem und3 : Try.prog.underlying 3 = some (Go.TypeDesc.int Go.IntKind.i64) := opq Try.underlying3
@[simp ↓] theorem un3 {q : TypeDesc → Prop} : goUnd Try.prog 3 q = q (Go.TypeDesc.int Go.IntKind.i64) := by simp only [goUnd, und3]
theorem agg4 : aggT Try.prog 4 = some false := by unfold aggT; rw [Try.underlying4]; rfl
@[simp] theorem siz4 : szT Try.prog 4 = some 1 := by unfold szT; rw [show Try.prog.info? 4 = some Try.t4 from Try.type4]; rfl
@[simp ↓] theorem ty4 {q : Bool → Nat → Prop} : goTy Try.prog 4 q = q false 1 := by simp only [goTy, agg4, siz4]
@[simp ↓] theorem sz4 {q : Nat → Prop} : goSz Try.prog 4 q = q 1 := by simp only [goSz, siz4]
theorem zer4 : zero? Try.prog 4 = some (Go.Value.bool false) := by unfold zero?; rw [show Try.prog.info? 4 = some Try.t4 from Try.type4]; rfl
@[simp ↓] theorem z4 {q : List Value → Prop} : goZ Try.prog 4 q = q [(Go.Value.bool false)] := by simp [goZ, zer4, Value.cells]
@[simp] theorem und4 : Try.prog.underlying 4 = some (Go.TypeDesc.bool) := opq Try.underlying4
@[simp ↓] theorem un4 {q : TypeDesc → Prop} : goUnd Try.prog 4 q = q (Go.TypeDesc.bool) := by simp only [goUnd, und4]
theorem agg5 : aggT Try.prog 5 = some false := by unfold aggT; rw [Try.underlying5]; rfl
@[simp] theorem siz5 : szT Try.prog 5 = some 1 := by unfold szT; rw [show Try.prog.info? 5 = some Try.t5 from Try.type5]; rfl
@[simp ↓] theorem ty5 {q : Bool → Nat → Prop} : goTy Try.prog 5 q = q false 1 := by simp only [goTy, agg5, siz5]
@[simp ↓] theorem sz5 {q : Nat → Prop} : goSz Try.prog 5 q = q 1 := by simp only [goSz, siz5]
theorem zer5 : zero? Try.prog 5 = some (Go.Value.int Go.IntKind.u8 0) := by unfold zero?; rw [show Try.prog.info? 5 = some Try.t5 from Try.type5]; rfl
@[simp ↓] theorem z5 {q : List Value → Prop} : goZ Try.prog 5 q = q [(Go.Value.int Go.IntKind.u8 0)] := by simp [goZ, zer5, Value.cells]
@[simp] theorem und5 : Try.prog.underlying 5 = some (Go.TypeDesc.int Go.IntKind.u8) := opq Try.underlying5
@[simp ↓] theorem un5 {q : TypeDesc → Prop} : goUnd Try.prog 5 q = q (Go.TypeDesc.int Go.IntKind.u8) := by simp only [goUnd, und5]
theorem agg6 : aggT Try.prog 6 = some false := by unfold aggT; rw [Try.underlying6]; rfl
@[simp] theorem siz6 : szT Try.prog 6 = some 1 := by unfold szT; rw [show Try.prog.info? 6 = some Try.t6 from Try.type6]; rfl
@[simp ↓] theorem ty6 {q : Bool → Nat → Prop} : goTy Try.prog 6 q = q false 1 := by simp only [goTy, agg6, siz6]
@[simp ↓] theorem sz6 {q : Nat → Prop} : goSz Try.prog 6 q = q 1 := by simp only [goSz, siz6]
theorem zer6 : zero? Try.prog 6 = some (Go.Value.int Go.IntKind.u8 0) := by unfold zero?; rw [show Try.prog.info? 6 = some Try.t6 from Try.type6]; rfl
@[simp ↓] theorem z6 {q : List Value → Prop} : goZ Try.prog 6 q = q [(Go.Value.int Go.IntKind.u8 0)] := by simp [goZ, zer6, Value.cells]
@[simp] theorem und6 : Try.prog.underlying 6 = some (Go.TypeDesc.int Go.IntKind.u8) := opq Try.underlying6
@[simp ↓] theorem un6 {q : TypeDesc → Prop} : goUnd Try.prog 6 q = q (Go.TypeDesc.int Go.IntKind.u8) := by simp only [goUnd, und6]
theorem agg7 : aggT Try.prog 7 = some true := by unfold aggT; rw [Try.underlying7]; rfl
@[simp] theorem siz7 : szT Try.prog 7 = some 4 := by unfold szT; rw [show Try.prog.info? 7 = some Try.t7 from Try.type7]; rfl
@[simp ↓] theorem ty7 {q : Bool → Nat → Prop} : goTy Try.prog 7 q = q true 4 := by simp only [goTy, agg7, siz7]
@[simp ↓] theorem sz7 {q : Nat → Prop} : goSz Try.prog 7 q = q 4 := by simp only [goSz, siz7]
theorem zer7 : zero? Try.prog 7 = some
  (Go.Value.agg
    #[Go.Value.int Go.IntKind.i64 0, Go.Value.int Go.IntKind.i64 0, Go.Value.bool false, Go.Value.int Go.IntKind.u8 0]) := by unfold zero?; rw [show Try.prog.info? 7 = some Try.t7 from Try.type7]; rfl
@[simp ↓] theorem z7 {q : List Value → Prop} : goZ Try.prog 7 q = q [Go.Value.int Go.IntKind.i64 0, Go.Value.int Go.IntKind.i64 0, Go.Value.bool false, Go.Value.int Go.IntKind.u8 0] := by simp [goZ, zer7, Value.cells]
@[simp] theorem und7 : Try.prog.underlying 7 = some (Go.TypeDesc.struct
  #[{ name := "x", type := 2, offset := 0, embedded := false, tag := "", pkgPath := "runtime", byteOffset := 0 },
    { name := "y", type := 3, offset := 1, embedded := false, tag := "", pkgPath := "runtime", byteOffset := 8 },
    { name := "signed", type := 4, offset := 2, embedded := false, tag := "", pkgPath := "runtime", byteOffset := 16 },
    { name := "code", type := 6, offset := 3, embedded := false, tag := "", pkgPath := "runtime", byteOffset := 17 }]) := opq Try.underlying7
@[simp ↓] theorem fld7_0 {q : Nat → TypeId → Prop} : goFld Try.prog 7 0 q = q 0 2 := by simp only [goFld, und7]; rfl
@[simp ↓] theorem fld7_1 {q : Nat → TypeId → Prop} : goFld Try.prog 7 1 q = q 1 3 := by simp only [goFld, und7]; rfl
@[simp ↓] theorem fld7_2 {q : Nat → TypeId → Prop} : goFld Try.prog 7 2 q = q 2 4 := by simp only [goFld, und7]; rfl
@[simp ↓] theorem fld7_3 {q : Nat → TypeId → Prop} : goFld Try.prog 7 3 q = q 3 6 := by simp only [goFld, und7]; rfl
@[simp ↓] theorem bld7 {q : List Value → List (Nat × Nat) → Prop} : goBld Try.prog 7 q = q [Go.Value.int Go.IntKind.i64 0, Go.Value.int Go.IntKind.i64 0, Go.Value.bool false, Go.Value.int Go.IntKind.u8 0] [(0, 1), (1, 1), (2, 1), (3, 1)] := by simp [goBld, und7, zer7, placesL, Value.cells]
theorem agg8 : aggT Try.prog 8 = some true := by unfold aggT; rw [Try.underlying8]; rfl
@[simp] theorem siz8 : szT Try.prog 8 = some 4 := by unfold szT; rw [show Try.prog.info? 8 = some Try.t8 from Try.type8]; rfl
@[simp ↓] theorem ty8 {q : Bool → Nat → Prop} : goTy Try.prog 8 q = q true 4 := by simp only [goTy, agg8, siz8]
@[simp ↓] theorem sz8 {q : Nat → Prop} : goSz Try.prog 8 q = q 4 := by simp only [goSz, siz8]
theorem zer8 : zero? Try.prog 8 = some
  (Go.Value.agg
    #[Go.Value.int Go.IntKind.i64 0, Go.Value.int Go.IntKind.i64 0, Go.Value.bool false, Go.Value.int Go.IntKind.u8 0]) := by unfold zero?; rw [show Try.prog.info? 8 = some Try.t8 from Try.type8]; rfl
@[simp ↓] theorem z8 {q : List Value → Prop} : goZ Try.prog 8 q = q [Go.Value.int Go.IntKind.i64 0, Go.Value.int Go.IntKind.i64 0, Go.Value.bool false, Go.Value.int Go.IntKind.u8 0] := by simp [goZ, zer8, Value.cells]
@[simp] theorem und8 : Try.prog.underlying 8 = some (Go.TypeDesc.struct
  #[{ name := "x", type := 2, offset := 0, embedded := false, tag := "", pkgPath := "runtime", byteOffset := 0 },
    { name := "y", type := 3, offset := 1, embedded := false, tag := "", pkgPath := "runtime", byteOffset := 8 },
    { name := "signed", type := 4, offset := 2, embedded := false, tag := "", pkgPath := "runtime", byteOffset := 16 },
    { name := "code", type := 6, offset := 3, embedded := false, tag := "", pkgPath := "runtime", byteOffset := 17 }]) := opq Try.underlying8
@[simp ↓] theorem fld8_0 {q : Nat → TypeId → Prop} : goFld Try.prog 8 0 q = q 0 2 := by simp only [goFld, und8]; rfl
@[simp ↓] theorem fld8_1 {q : Nat → TypeId → Prop} : goFld Try.prog 8 1 q = q 1 3 := by simp only [goFld, und8]; rfl
@[simp ↓] theorem fld8_2 {q : Nat → TypeId → Prop} : goFld Try.prog 8 2 q = q 2 4 := by simp only [goFld, und8]; rfl
@[simp ↓] theorem fld8_3 {q : Nat → TypeId → Prop} : goFld Try.prog 8 3 q = q 3 6 := by simp only [goFld, und8]; rfl
@[simp ↓] theorem bld8 {q : List Value → List (Nat × Nat) → Prop} : goBld Try.prog 8 q = q [Go.Value.int Go.IntKind.i64 0, Go.Value.int Go.IntKind.i64 0, Go.Value.bool false, Go.Value.int Go.IntKind.u8 0] [(0, 1), (1, 1), (2, 1), (3, 1)] := by simp [goBld, und8, zer8, placesL, Value.cells]
theorem agg9 : aggT Try.prog 9 = some false := by unfold aggT; rw [Try.underlying9]; rfl
@[simp] theorem siz9 : szT Try.prog 9 = some 1 := by unfold szT; rw [show Try.prog.info? 9 = some Try.t9 from Try.type9]; rfl
@[simp ↓] theorem ty9 {q : Bool → Nat → Prop} : goTy Try.prog 9 q = q false 1 := by simp only [goTy, agg9, siz9]
@[simp ↓] theorem sz9 {q : Nat → Prop} : goSz Try.prog 9 q = q 1 := by simp only [goSz, siz9]
theorem zer9 : zero? Try.prog 9 = some (Go.Value.string { data := #[] }) := by unfold zero?; rw [show Try.prog.info? 9 = some Try.t9 from Try.type9]; rfl
@[simp ↓] theorem z9 {q : List Value → Prop} : goZ Try.prog 9 q = q [(Go.Value.string { data := #[] })] := by simp [goZ, zer9, Value.cells]
@[simp] theorem und9 : Try.prog.underlying 9 = some (Go.TypeDesc.string) := opq Try.underlying9
@[simp ↓] theorem un9 {q : TypeDesc → Prop} : goUnd Try.prog 9 q = q (Go.TypeDesc.string) := by simp only [goUnd, und9]
theorem agg10 : aggT Try.prog 10 = some false := by unfold aggT; rw [Try.underlying10]; rfl
@[simp] theorem siz10 : szT Try.prog 10 = some 1 := by unfold szT; rw [show Try.prog.info? 10 = some Try.t10 from Try.type10]; rfl
@[simp ↓] theorem ty10 {q : Bool → Nat → Prop} : goTy Try.prog 10 q = q false 1 := by simp only [goTy, agg10, siz10]
@[simp ↓] theorem sz10 {q : Nat → Prop} : goSz Try.prog 10 q = q 1 := by simp only [goSz, siz10]
theorem zer10 : zero? Try.prog 10 = some (Go.Value.string { data := #[] }) := by unfold zero?; rw [show Try.prog.info? 10 = some Try.t10 from Try.type10]; rfl
@[simp ↓] theorem z10 {q : List Value → Prop} : goZ Try.prog 10 q = q [(Go.Value.string { data := #[] })] := by simp [goZ, zer10, Value.cells]
@[simp] theorem und10 : Try.prog.underlying 10 = some (Go.TypeDesc.string) := opq Try.underlying10
@[simp ↓] theorem un10 {q : TypeDesc → Prop} : goUnd Try.prog 10 q = q (Go.TypeDesc.string) := by simp only [goUnd, und10]
theorem agg11 : aggT Try.prog 11 = some false := by unfold aggT; rw [Try.underlying11]; rfl
@[simp] theorem siz11 : szT Try.prog 11 = some 1 := by unfold szT; rw [show Try.prog.info? 11 = some Try.t11 from Try.type11]; rfl
@[simp ↓] theorem ty11 {q : Bool → Nat → Prop} : goTy Try.prog 11 q = q false 1 := by simp only [goTy, agg11, siz11]
@[simp ↓] theorem sz11 {q : Nat → Prop} : goSz Try.prog 11 q = q 1 := by simp only [goSz, siz11]
theorem zer11 : zero? Try.prog 11 = some (Go.Value.string { data := #[] }) := by unfold zero?; rw [show Try.prog.info? 11 = some Try.t11 from Try.type11]; rfl
@[simp ↓] theorem z11 {q : List Value → Prop} : goZ Try.prog 11 q = q [(Go.Value.string { data := #[] })] := by simp [goZ, zer11, Value.cells]
@[simp] theorem und11 : Try.prog.underlying 11 = some (Go.TypeDesc.string) := opq Try.underlying11
@[simp ↓] theorem un11 {q : TypeDesc → Prop} : goUnd Try.prog 11 q = q (Go.TypeDesc.string) := by simp only [goUnd, und11]
theorem agg12 : aggT Try.prog 12 = some false := by unfold aggT; rw [Try.underlying12]; rfl
@[simp] theorem siz12 : szT Try.prog 12 = some 1 := by unfold szT; rw [show Try.prog.info? 12 = some Try.t12 from Try.type12]; rfl
@[simp ↓] theorem ty12 {q : Bool → Nat → Prop} : goTy Try.prog 12 q = q false 1 := by simp only [goTy, agg12, siz12]
@[simp ↓] theorem sz12 {q : Nat → Prop} : goSz Try.prog 12 q = q 1 := by simp only [goSz, siz12]
theorem zer12 : zero? Try.prog 12 = some (Go.Value.int Go.IntKind.u64 0) := by unfold zero?; rw [show Try.prog.info? 12 = some Try.t12 from Try.type12]; rfl
@[simp ↓] theorem z12 {q : List Value → Prop} : goZ Try.prog 12 q = q [(Go.Value.int Go.IntKind.u64 0)] := by simp [goZ, zer12, Value.cells]
@[simp] theorem und12 : Try.prog.underlying 12 = some (Go.TypeDesc.int Go.IntKind.u64) := opq Try.underlying12
@[simp ↓] theorem un12 {q : TypeDesc → Prop} : goUnd Try.prog 12 q = q (Go.TypeDesc.int Go.IntKind.u64) := by simp only [goUnd, und12]
theorem agg13 : aggT Try.prog 13 = some true := by unfold aggT; rw [Try.underlying13]; rfl
@[simp] theorem siz13 : szT Try.prog 13 = some 2 := by unfold szT; rw [show Try.prog.info? 13 = some Try.t13 from Try.type13]; rfl
@[simp ↓] theorem ty13 {q : Bool → Nat → Prop} : goTy Try.prog 13 q = q true 2 := by simp only [goTy, agg13, siz13]
@[simp ↓] theorem sz13 {q : Nat → Prop} : goSz Try.prog 13 q = q 2 := by simp only [goSz, siz13]
theorem zer13 : zero? Try.prog 13 = some (Go.Value.agg #[Go.Value.string { data := #[] }, Go.Value.int Go.IntKind.u64 0]) := by unfold zero?; rw [show Try.prog.info? 13 = some Try.t13 from Try.type13]; rfl
@[simp ↓] theorem z13 {q : List Value → Prop} : goZ Try.prog 13 q = q [Go.Value.string { data := #[] }, Go.Value.int Go.IntKind.u64 0] := by simp [goZ, zer13, Value.cells]
@[simp] theorem und13 : Try.prog.underlying 13 = some (Go.TypeDesc.struct
  #[{ name := "msg", type := 9, offset := 0, embedded := false, tag := "", pkgPath := "runtime", byteOffset := 0 },
    { name := "addr", type := 12, offset := 1, embedded := false, tag := "", pkgPath := "runtime", byteOffset := 16 }]) := opq Try.underlying13
@[simp ↓] theorem fld13_0 {q : Nat → TypeId → Prop} : goFld Try.prog 13 0 q = q 0 9 := by simp only [goFld, und13]; rfl
@[simp ↓] theorem fld13_1 {q : Nat → TypeId → Prop} : goFld Try.prog 13 1 q = q 1 12 := by simp only [goFld, und13]; rfl
@[simp ↓] theorem bld13 {q : List Value → List (Nat × Nat) → Prop} : goBld Try.prog 13 q = q [Go.Value.string { data := #[] }, Go.Value.int Go.IntKind.u64 0] [(0, 1), (1, 1)] := by simp [goBld, und13, zer13, placesL, Value.cells]
theorem agg14 : aggT Try.prog 14 = some true := by unfold aggT; rw [Try.underlying14]; rfl
@[simp] theorem siz14 : szT Try.prog 14 = some 2 := by unfold szT; rw [show Try.prog.info? 14 = some Try.t14 from Try.type14]; rfl
@[simp ↓] theorem ty14 {q : Bool → Nat → Prop} : goTy Try.prog 14 q = q true 2 := by simp only [goTy, agg14, siz14]
@[simp ↓] theorem sz14 {q : Nat → Prop} : goSz Try.prog 14 q = q 2 := by simp only [goSz, siz14]
theorem zer14 : zero? Try.prog 14 = some (Go.Value.agg #[Go.Value.string { data := #[] }, Go.Value.int Go.IntKind.u64 0]) := by unfold zero?; rw [show Try.prog.info? 14 = some Try.t14 from Try.type14]; rfl
@[simp ↓] theorem z14 {q : List Value → Prop} : goZ Try.prog 14 q = q [Go.Value.string { data := #[] }, Go.Value.int Go.IntKind.u64 0] := by simp [goZ, zer14, Value.cells]
@[simp] theorem und14 : Try.prog.underlying 14 = some (Go.TypeDesc.struct
  #[{ name := "msg", type := 9, offset := 0, embedded := false, tag := "", pkgPath := "runtime", byteOffset := 0 },
    { name := "addr", type := 12, offset := 1, embedded := false, tag := "", pkgPath := "runtime", byteOffset := 16 }]) := opq Try.underlying14
@[simp ↓] theorem fld14_0 {q : Nat → TypeId → Prop} : goFld Try.prog 14 0 q = q 0 9 := by simp only [goFld, und14]; rfl
@[simp ↓] theorem fld14_1 {q : Nat → TypeId → Prop} : goFld Try.prog 14 1 q = q 1 12 := by simp only [goFld, und14]; rfl
@[simp ↓] theorem bld14 {q : List Value → List (Nat × Nat) → Prop} : goBld Try.prog 14 q = q [Go.Value.string { data := #[] }, Go.Value.int Go.IntKind.u64 0] [(0, 1), (1, 1)] := by simp [goBld, und14, zer14, placesL, Value.cells]
theorem agg15 : aggT Try.prog 15 = some false := by unfold aggT; rw [Try.underlying15]; rfl
@[simp] theorem siz15 : szT Try.prog 15 = some 1 := by unfold szT; rw [show Try.prog.info? 15 = some Try.t15 from Try.type15]; rfl
@[simp ↓] theorem ty15 {q : Bool → Nat → Prop} : goTy Try.prog 15 q = q false 1 := by simp only [goTy, agg15, siz15]
@[simp ↓] theorem sz15 {q : Nat → Prop} : goSz Try.prog 15 q = q 1 := by simp only [goSz, siz15]
theorem zer15 : zero? Try.prog 15 = some (Go.Value.pointer none) := by unfold zero?; rw [show Try.prog.info? 15 = some Try.t15 from Try.type15]; rfl
@[simp ↓] theorem z15 {q : List Value → Prop} : goZ Try.prog 15 q = q [(Go.Value.pointer none)] := by simp [goZ, zer15, Value.cells]
@[simp] theorem und15 : Try.prog.underlying 15 = some (Go.TypeDesc.pointer 136) := opq Try.underlying15
@[simp ↓] theorem un15 {q : TypeDesc → Prop} : goUnd Try.prog 15 q = q (Go.TypeDesc.pointer 136) := by simp only [goUnd, und15]
theorem agg16 : aggT Try.prog 16 = some false := by unfold aggT; rw [Try.underlying16]; rfl
@[simp] theorem siz16 : szT Try.prog 16 = some 1 := by unfold szT; rw [show Try.prog.info? 16 = some Try.t16 from Try.type16]; rfl
@[simp ↓] theorem ty16 {q : Bool → Nat → Prop} : goTy Try.prog 16 q = q false 1 := by simp only [goTy, agg16, siz16]
@[simp ↓] theorem sz16 {q : Nat → Prop} : goSz Try.prog 16 q = q 1 := by simp only [goSz, siz16]
theorem zer16 : zero? Try.prog 16 = some (Go.Value.pointer none) := by unfold zero?; rw [show Try.prog.info? 16 = some Try.t16 from Try.type16]; rfl
@[simp ↓] theorem z16 {q : List Value → Prop} : goZ Try.prog 16 q = q [(Go.Value.pointer none)] := by simp [goZ, zer16, Value.cells]
@[simp] theorem und16 : Try.prog.underlying 16 = some (Go.TypeDesc.pointer 139) := opq Try.underlying16
@[simp ↓] theorem un16 {q : TypeDesc → Prop} : goUnd Try.prog 16 q = q (Go.TypeDesc.pointer 139) := by simp only [goUnd, und16]
theorem agg17 : aggT Try.prog 17 = some false := by unfold aggT; rw [Try.underlying17]; rfl
@[simp] theorem siz17 : szT Try.prog 17 = some 1 := by unfold szT; rw [show Try.prog.info? 17 = some Try.t17 from Try.type17]; rfl
@[simp ↓] theorem ty17 {q : Bool → Nat → Prop} : goTy Try.prog 17 q = q false 1 := by simp only [goTy, agg17, siz17]
@[simp ↓] theorem sz17 {q : Nat → Prop} : goSz Try.prog 17 q = q 1 := by simp only [goSz, siz17]
theorem zer17 : zero? Try.prog 17 = some (Go.Value.pointer none) := by unfold zero?; rw [show Try.prog.info? 17 = some Try.t17 from Try.type17]; rfl
@[simp ↓] theorem z17 {q : List Value → Prop} : goZ Try.prog 17 q = q [(Go.Value.pointer none)] := by simp [goZ, zer17, Value.cells]
@[simp] theorem und17 : Try.prog.underlying 17 = some (Go.TypeDesc.pointer 148) := opq Try.underlying17
@[simp ↓] theorem un17 {q : TypeDesc → Prop} : goUnd Try.prog 17 q = q (Go.TypeDesc.pointer 148) := by simp only [goUnd, und17]
theorem agg18 : aggT Try.prog 18 = some true := by unfold aggT; rw [Try.underlying18]; rfl
@[simp] theorem siz18 : szT Try.prog 18 = some 1 := by unfold szT; rw [show Try.prog.info? 18 = some Try.t18 from Try.type18]; rfl
@[simp ↓] theorem ty18 {q : Bool → Nat → Prop} : goTy Try.prog 18 q = q true 1 := by simp only [goTy, agg18, siz18]
@[simp ↓] theorem sz18 {q : Nat → Prop} : goSz Try.prog 18 q = q 1 := by simp only [goSz, siz18]
theorem zer18 : zero? Try.prog 18 = some (Go.Value.agg #[Go.Value.pointer none]) := by unfold zero?; rw [show Try.prog.info? 18 = some Try.t18 from Try.type18]; rfl
@[simp ↓] theorem z18 {q : List Value → Prop} : goZ Try.prog 18 q = q [Go.Value.pointer none] := by simp [goZ, zer18, Value.cells]
@[simp] theorem und18 : Try.prog.underlying 18 = some (Go.TypeDesc.struct
  #[{ name := "typ", type := 17, offset := 0, embedded := false, tag := "", pkgPath := "internal/runtime/maps",
      byteOffset := 0 }]) := opq Try.underlying18
@[simp ↓] theorem fld18_0 {q : Nat → TypeId → Prop} : goFld Try.prog 18 0 q = q 0 17 := by simp only [goFld, und18]; rfl
@[simp ↓] theorem bld18 {q : List Value → List (Nat × Nat) → Prop} : goBld Try.prog 18 q = q [Go.Value.pointer none] [(0, 1)] := by simp [goBld, und18, zer18, placesL, Value.cells]
theorem agg19 : aggT Try.prog 19 = some true := by unfold aggT; rw [Try.underlying19]; rfl
@[simp] theorem siz19 : szT Try.prog 19 = some 1 := by unfold szT; rw [show Try.prog.info? 19 = some Try.t19 from Try.type19]; rfl
@[simp ↓] theorem ty19 {q : Bool → Nat → Prop} : goTy Try.prog 19 q = q true 1 := by simp only [goTy, agg19, siz19]
@[simp ↓] theorem sz19 {q : Nat → Prop} : goSz Try.prog 19 q = q 1 := by simp only [goSz, siz19]
theorem zer19 : zero? Try.prog 19 = some (Go.Value.agg #[Go.Value.pointer none]) := by unfold zero?; rw [show Try.prog.info? 19 = some Try.t19 from Try.type19]; rfl
@[simp ↓] theorem z19 {q : List Value → Prop} : goZ Try.prog 19 q = q [Go.Value.pointer none] := by simp [goZ, zer19, Value.cells]
@[simp] theorem und19 : Try.prog.underlying 19 = some (Go.TypeDesc.struct
  #[{ name := "typ", type := 17, offset := 0, embedded := false, tag := "", pkgPath := "internal/runtime/maps",
      byteOffset := 0 }]) := opq Try.underlying19
@[simp ↓] theorem fld19_0 {q : Nat → TypeId → Prop} : goFld Try.prog 19 0 q = q 0 17 := by simp only [goFld, und19]; rfl
@[simp ↓] theorem bld19 {q : List Value → List (Nat × Nat) → Prop} : goBld Try.prog 19 q = q [Go.Value.pointer none] [(0, 1)] := by simp [goBld, und19, zer19, placesL, Value.cells]
theorem agg21 : aggT Try.prog 21 = some false := by unfold aggT; rw [Try.underlying21]; rfl
@[simp] theorem siz21 : szT Try.prog 21 = some 1 := by unfold szT; rw [show Try.prog.info? 21 = some Try.t21 from Try.type21]; rfl
@[simp ↓] theorem ty21 {q : Bool → Nat → Prop} : goTy Try.prog 21 q = q false 1 := by simp only [goTy, agg21, siz21]
@[simp ↓] theorem sz21 {q : Nat → Prop} : goSz Try.prog 21 q = q 1 := by simp only [goSz, siz21]
theorem zer21 : zero? Try.prog 21 = some (Go.Value.int Go.IntKind.i32 0) := by unfold zero?; rw [show Try.prog.info? 21 = some Try.t21 from Try.type21]; rfl
@[simp ↓] theorem z21 {q : List Value → Prop} : goZ Try.prog 21 q = q [(Go.Value.int Go.IntKind.i32 0)] := by simp [goZ, zer21, Value.cells]
@[simp] theorem und21 : Try.prog.underlying 21 = some (Go.TypeDesc.int Go.IntKind.i32) := opq Try.underlying21
@[simp ↓] theorem un21 {q : TypeDesc → Prop} : goUnd Try.prog 21 q = q (Go.TypeDesc.int Go.IntKind.i32) := by simp only [goUnd, und21]
theorem agg22 : aggT Try.prog 22 = some false := by unfold aggT; rw [Try.underlying22]; rfl
@[simp] theorem siz22 : szT Try.prog 22 = some 1 := by unfold szT; rw [show Try.prog.info? 22 = some Try.t22 from Try.type22]; rfl
@[simp ↓] theorem ty22 {q : Bool → Nat → Prop} : goTy Try.prog 22 q = q false 1 := by simp only [goTy, agg22, siz22]
@[simp ↓] theorem sz22 {q : Nat → Prop} : goSz Try.prog 22 q = q 1 := by simp only [goSz, siz22]
theorem zer22 : zero? Try.prog 22 = some (Go.Value.slice none 0 0) := by unfold zero?; rw [show Try.prog.info? 22 = some Try.t22 from Try.type22]; rfl
@[simp ↓] theorem z22 {q : List Value → Prop} : goZ Try.prog 22 q = q [(Go.Value.slice none 0 0)] := by simp [goZ, zer22, Value.cells]
@[simp] theorem und22 : Try.prog.underlying 22 = some (Go.TypeDesc.slice 64) := opq Try.underlying22
@[simp ↓] theorem un22 {q : TypeDesc → Prop} : goUnd Try.prog 22 q = q (Go.TypeDesc.slice 64) := by simp only [goUnd, und22]
theorem slt22 : SlT Try.prog 22 64 6 96 := ⟨Try.underlying22, ⟨Try.t64, _, Try.type64, rfl, rfl, rfl, by simp, rfl⟩, by decide⟩
@[simp ↓] theorem sl22 {q : TypeId → Nat → List Value → Prop} : goSl Try.prog 22 q = q 64 6 [Go.Value.string { data := #[] }, Go.Value.int Go.IntKind.i64 0, Go.Value.int Go.IntKind.i64 0,
      Go.Value.string { data := #[] }, Go.Value.slice none 0 0, Go.Value.slice none 0 0] := by simp [goSl, und22, show zero? Try.prog 64 = some
  (Go.Value.agg
    #[Go.Value.string { data := #[] }, Go.Value.int Go.IntKind.i64 0, Go.Value.int Go.IntKind.i64 0,
      Go.Value.string { data := #[] }, Go.Value.slice none 0 0, Go.Value.slice none 0 0]) from by unfold zero?; rw [show Try.prog.info? 64 = some Try.t64 from Try.type64]; rfl, show szT Try.prog 64 = some 6 from by unfold szT; rw [show Try.prog.info? 64 = some Try.t64 from Try.type64]; rfl, Value.cells]
theorem agg23 : aggT Try.prog 23 = some true := by unfold aggT; rw [Try.underlying23]; rfl
@[simp] theorem siz23 : szT Try.prog 23 = some 1 := by unfold szT; rw [show Try.prog.info? 23 = some Try.t23 from Try.type23]; rfl
@[simp ↓] theorem ty23 {q : Bool → Nat → Prop} : goTy Try.prog 23 q = q true 1 := by simp only [goTy, agg23, siz23]
@[simp ↓] theorem sz23 {q : Nat → Prop} : goSz Try.prog 23 q = q 1 := by simp only [goSz, siz23]
theorem zer23 : zero? Try.prog 23 = some (Go.Value.agg #[Go.Value.slice none 0 0]) := by unfold zero?; rw [show Try.prog.info? 23 = some Try.t23 from Try.type23]; rfl
@[simp ↓] theorem z23 {q : List Value → Prop} : goZ Try.prog 23 q = q [Go.Value.slice none 0 0] := by simp [goZ, zer23, Value.cells]
@[simp] theorem und23 : Try.prog.underlying 23 = some (Go.TypeDesc.struct
  #[{ name := "Deeds", type := 22, offset := 0, embedded := false, tag := "", pkgPath := "", byteOffset := 0 }]) := opq Try.underlying23
@[simp ↓] theorem fld23_0 {q : Nat → TypeId → Prop} : goFld Try.prog 23 0 q = q 0 22 := by simp only [goFld, und23]; rfl
@[simp ↓] theorem bld23 {q : List Value → List (Nat × Nat) → Prop} : goBld Try.prog 23 q = q [Go.Value.slice none 0 0] [(0, 1)] := by simp [goBld, und23, zer23, placesL, Value.cells]
theorem agg24 : aggT Try.prog 24 = some true := by unfold aggT; rw [Try.underlying24]; rfl
@[simp] theorem siz24 : szT Try.prog 24 = some 1 := by unfold szT; rw [show Try.prog.info? 24 = some Try.t24 from Try.type24]; rfl
@[simp ↓] theorem ty24 {q : Bool → Nat → Prop} : goTy Try.prog 24 q = q true 1 := by simp only [goTy, agg24, siz24]
@[simp ↓] theorem sz24 {q : Nat → Prop} : goSz Try.prog 24 q = q 1 := by simp only [goSz, siz24]
theorem zer24 : zero? Try.prog 24 = some (Go.Value.agg #[Go.Value.slice none 0 0]) := by unfold zero?; rw [show Try.prog.info? 24 = some Try.t24 from Try.type24]; rfl
@[simp ↓] theorem z24 {q : List Value → Prop} : goZ Try.prog 24 q = q [Go.Value.slice none 0 0] := by simp [goZ, zer24, Value.cells]
@[simp] theorem und24 : Try.prog.underlying 24 = some (Go.TypeDesc.struct
  #[{ name := "Deeds", type := 22, offset := 0, embedded := false, tag := "", pkgPath := "", byteOffset := 0 }]) := opq Try.underlying24
@[simp ↓] theorem fld24_0 {q : Nat → TypeId → Prop} : goFld Try.prog 24 0 q = q 0 22 := by simp only [goFld, und24]; rfl
@[simp ↓] theorem bld24 {q : List Value → List (Nat × Nat) → Prop} : goBld Try.prog 24 q = q [Go.Value.slice none 0 0] [(0, 1)] := by simp [goBld, und24, zer24, placesL, Value.cells]
theorem agg25 : aggT Try.prog 25 = some false := by unfold aggT; rw [Try.underlying25]; rfl
@[simp] theorem siz25 : szT Try.prog 25 = some 1 := by unfold szT; rw [show Try.prog.info? 25 = some Try.t25 from Try.type25]; rfl
@[simp ↓] theorem ty25 {q : Bool → Nat → Prop} : goTy Try.prog 25 q = q false 1 := by simp only [goTy, agg25, siz25]
@[simp ↓] theorem sz25 {q : Nat → Prop} : goSz Try.prog 25 q = q 1 := by simp only [goSz, siz25]
theorem zer25 : zero? Try.prog 25 = some Go.Value.nilFunc := by unfold zero?; rw [show Try.prog.info? 25 = some Try.t25 from Try.type25]; rfl
@[simp ↓] theorem z25 {q : List Value → Prop} : goZ Try.prog 25 q = q [Go.Value.nilFunc] := by simp [goZ, zer25, Value.cells]
theorem agg26 : aggT Try.prog 26 = some false := by unfold aggT; rw [Try.underlying26]; rfl
@[simp] theorem siz26 : szT Try.prog 26 = some 1 := by unfold szT; rw [show Try.prog.info? 26 = some Try.t26 from Try.type26]; rfl
@[simp ↓] theorem ty26 {q : Bool → Nat → Prop} : goTy Try.prog 26 q = q false 1 := by simp only [goTy, agg26, siz26]
@[simp ↓] theorem sz26 {q : Nat → Prop} : goSz Try.prog 26 q = q 1 := by simp only [goSz, siz26]
theorem zer26 : zero? Try.prog 26 = some (Go.Value.slice none 0 0) := by unfold zero?; rw [show Try.prog.info? 26 = some Try.t26 from Try.type26]; rfl
@[simp ↓] theorem z26 {q : List Value → Prop} : goZ Try.prog 26 q = q [(Go.Value.slice none 0 0)] := by simp [goZ, zer26, Value.cells]
@[simp] theorem und26 : Try.prog.underlying 26 = some (Go.TypeDesc.slice 9) := opq Try.underlying26
@[simp ↓] theorem un26 {q : TypeDesc → Prop} : goUnd Try.prog 26 q = q (Go.TypeDesc.slice 9) := by simp only [goUnd, und26]
theorem slt26 : SlT Try.prog 26 9 1 16 := ⟨Try.underlying26, ⟨Try.t9, _, Try.type9, rfl, rfl, rfl, by simp, rfl⟩, by decide⟩
@[simp ↓] theorem sl26 {q : TypeId → Nat → List Value → Prop} : goSl Try.prog 26 q = q 9 1 [(Go.Value.string { data := #[] })] := by simp [goSl, und26, show zero? Try.prog 9 = some (Go.Value.string { data := #[] }) from by unfold zero?; rw [show Try.prog.info? 9 = some Try.t9 from Try.type9]; rfl, show szT Try.prog 9 = some 1 from by unfold szT; rw [show Try.prog.info? 9 = some Try.t9 from Try.type9]; rfl, Value.cells]
theorem agg27 : aggT Try.prog 27 = some false := by unfold aggT; rw [Try.underlying27]; rfl
@[simp] theorem siz27 : szT Try.prog 27 = some 1 := by unfold szT; rw [show Try.prog.info? 27 = some Try.t27 from Try.type27]; rfl
@[simp ↓] theorem ty27 {q : Bool → Nat → Prop} : goTy Try.prog 27 q = q false 1 := by simp only [goTy, agg27, siz27]
@[simp ↓] theorem sz27 {q : Nat → Prop} : goSz Try.prog 27 q = q 1 := by simp only [goSz, siz27]
theorem zer27 : zero? Try.prog 27 = some Go.Value.nilFunc := by unfold zero?; rw [show Try.prog.info? 27 = some Try.t27 from Try.type27]; rfl
@[simp ↓] theorem z27 {q : List Value → Prop} : goZ Try.prog 27 q = q [Go.Value.nilFunc] := by simp [goZ, zer27, Value.cells]
theorem agg28 : aggT Try.prog 28 = some false := by unfold aggT; rw [Try.underlying28]; rfl
@[simp] theorem siz28 : szT Try.prog 28 = some 1 := by unfold szT; rw [show Try.prog.info? 28 = some Try.t28 from Try.type28]; rfl
@[simp ↓] theorem ty28 {q : Bool → Nat → Prop} : goTy Try.prog 28 q = q false 1 := by simp only [goTy, agg28, siz28]
@[simp ↓] theorem sz28 {q : Nat → Prop} : goSz Try.prog 28 q = q 1 := by simp only [goSz, siz28]
theorem zer28 : zero? Try.prog 28 = some (Go.Value.slice none 0 0) := by unfold zero?; rw [show Try.prog.info? 28 = some Try.t28 from Try.type28]; rfl
@[simp ↓] theorem z28 {q : List Value → Prop} : goZ Try.prog 28 q = q [(Go.Value.slice none 0 0)] := by simp [goZ, zer28, Value.cells]
@[simp] theorem und28 : Try.prog.underlying 28 = some (Go.TypeDesc.slice 47) := opq Try.underlying28
@[simp ↓] theorem un28 {q : TypeDesc → Prop} : goUnd Try.prog 28 q = q (Go.TypeDesc.slice 47) := by simp only [goUnd, und28]
theorem slt28 : SlT Try.prog 28 47 6 96 := ⟨Try.underlying28, ⟨Try.t47, _, Try.type47, rfl, rfl, rfl, by simp, rfl⟩, by decide⟩
@[simp ↓] theorem sl28 {q : TypeId → Nat → List Value → Prop} : goSl Try.prog 28 q = q 47 6 [Go.Value.string { data := #[] }, Go.Value.int Go.IntKind.i64 0, Go.Value.int Go.IntKind.i64 0,
      Go.Value.string { data := #[] }, Go.Value.slice none 0 0, Go.Value.slice none 0 0] := by simp [goSl, und28, show zero? Try.prog 47 = some
  (Go.Value.agg
    #[Go.Value.string { data := #[] }, Go.Value.int Go.IntKind.i64 0, Go.Value.int Go.IntKind.i64 0,
      Go.Value.string { data := #[] }, Go.Value.slice none 0 0, Go.Value.slice none 0 0]) from by unfold zero?; rw [show Try.prog.info? 47 = some Try.t47 from Try.type47]; rfl, show szT Try.prog 47 = some 6 from by unfold szT; rw [show Try.prog.info? 47 = some Try.t47 from Try.type47]; rfl, Value.cells]
theorem agg29 : aggT Try.prog 29 = some true := by unfold aggT; rw [Try.underlying29]; rfl
@[simp] theorem siz29 : szT Try.prog 29 = some 1 := by unfold szT; rw [show Try.prog.info? 29 = some Try.t29 from Try.type29]; rfl
@[simp ↓] theorem ty29 {q : Bool → Nat → Prop} : goTy Try.prog 29 q = q true 1 := by simp only [goTy, agg29, siz29]
@[simp ↓] theorem sz29 {q : Nat → Prop} : goSz Try.prog 29 q = q 1 := by simp only [goSz, siz29]
theorem zer29 : zero? Try.prog 29 = some (Go.Value.agg #[Go.Value.slice none 0 0]) := by unfold zero?; rw [show Try.prog.info? 29 = some Try.t29 from Try.type29]; rfl
@[simp ↓] theorem z29 {q : List Value → Prop} : goZ Try.prog 29 q = q [Go.Value.slice none 0 0] := by simp [goZ, zer29, Value.cells]
@[simp] theorem und29 : Try.prog.underlying 29 = some (Go.TypeDesc.struct
  #[{ name := "Deeds", type := 28, offset := 0, embedded := false, tag := "", pkgPath := "", byteOffset := 0 }]) := opq Try.underlying29
@[simp ↓] theorem fld29_0 {q : Nat → TypeId → Prop} : goFld Try.prog 29 0 q = q 0 28 := by simp only [goFld, und29]; rfl
@[simp ↓] theorem bld29 {q : List Value → List (Nat × Nat) → Prop} : goBld Try.prog 29 q = q [Go.Value.slice none 0 0] [(0, 1)] := by simp [goBld, und29, zer29, placesL, Value.cells]
theorem agg30 : aggT Try.prog 30 = some true := by unfold aggT; rw [Try.underlying30]; rfl
@[simp] theorem siz30 : szT Try.prog 30 = some 1 := by unfold szT; rw [show Try.prog.info? 30 = some Try.t30 from Try.type30]; rfl
@[simp ↓] theorem ty30 {q : Bool → Nat → Prop} : goTy Try.prog 30 q = q true 1 := by simp only [goTy, agg30, siz30]
@[simp ↓] theorem sz30 {q : Nat → Prop} : goSz Try.prog 30 q = q 1 := by simp only [goSz, siz30]
theorem zer30 : zero? Try.prog 30 = some (Go.Value.agg #[Go.Value.slice none 0 0]) := by unfold zero?; rw [show Try.prog.info? 30 = some Try.t30 from Try.type30]; rfl
@[simp ↓] theorem z30 {q : List Value → Prop} : goZ Try.prog 30 q = q [Go.Value.slice none 0 0] := by simp [goZ, zer30, Value.cells]
@[simp] theorem und30 : Try.prog.underlying 30 = some (Go.TypeDesc.struct
  #[{ name := "Deeds", type := 28, offset := 0, embedded := false, tag := "", pkgPath := "", byteOffset := 0 }]) := opq Try.underlying30
@[simp ↓] theorem fld30_0 {q : Nat → TypeId → Prop} : goFld Try.prog 30 0 q = q 0 28 := by simp only [goFld, und30]; rfl
@[simp ↓] theorem bld30 {q : List Value → List (Nat × Nat) → Prop} : goBld Try.prog 30 q = q [Go.Value.slice none 0 0] [(0, 1)] := by simp [goBld, und30, zer30, placesL, Value.cells]
theorem agg31 : aggT Try.prog 31 = some false := by unfold aggT; rw [Try.underlying31]; rfl
@[simp] theorem siz31 : szT Try.prog 31 = some 1 := by unfold szT; rw [show Try.prog.info? 31 = some Try.t31 from Try.type31]; rfl
@[simp ↓] theorem ty31 {q : Bool → Nat → Prop} : goTy Try.prog 31 q = q false 1 := by simp only [goTy, agg31, siz31]
@[simp ↓] theorem sz31 {q : Nat → Prop} : goSz Try.prog 31 q = q 1 := by simp only [goSz, siz31]
theorem zer31 : zero? Try.prog 31 = some Go.Value.nilFunc := by unfold zero?; rw [show Try.prog.info? 31 = some Try.t31 from Try.type31]; rfl
@[simp ↓] theorem z31 {q : List Value → Prop} : goZ Try.prog 31 q = q [Go.Value.nilFunc] := by simp [goZ, zer31, Value.cells]
theorem agg32 : aggT Try.prog 32 = some false := by unfold aggT; rw [Try.underlying32]; rfl
@[simp] theorem siz32 : szT Try.prog 32 = some 1 := by unfold szT; rw [show Try.prog.info? 32 = some Try.t32 from Try.type32]; rfl
@[simp ↓] theorem ty32 {q : Bool → Nat → Prop} : goTy Try.prog 32 q = q false 1 := by simp only [goTy, agg32, siz32]
@[simp ↓] theorem sz32 {q : Nat → Prop} : goSz Try.prog 32 q = q 1 := by simp only [goSz, siz32]
theorem zer32 : zero? Try.prog 32 = some Go.Value.nilFunc := by unfold zero?; rw [show Try.prog.info? 32 = some Try.t32 from Try.type32]; rfl
@[simp ↓] theorem z32 {q : List Value → Prop} : goZ Try.prog 32 q = q [Go.Value.nilFunc] := by simp [goZ, zer32, Value.cells]
theorem agg33 : aggT Try.prog 33 = some false := by unfold aggT; rw [Try.underlying33]; rfl
@[simp] theorem siz33 : szT Try.prog 33 = some 1 := by unfold szT; rw [show Try.prog.info? 33 = some Try.t33 from Try.type33]; rfl
@[simp ↓] theorem ty33 {q : Bool → Nat → Prop} : goTy Try.prog 33 q = q false 1 := by simp only [goTy, agg33, siz33]
@[simp ↓] theorem sz33 {q : Nat → Prop} : goSz Try.prog 33 q = q 1 := by simp only [goSz, siz33]
theorem zer33 : zero? Try.prog 33 = some Go.Value.nilFunc := by unfold zero?; rw [show Try.prog.info? 33 = some Try.t33 from Try.type33]; rfl
@[simp ↓] theorem z33 {q : List Value → Prop} : goZ Try.prog 33 q = q [Go.Value.nilFunc] := by simp [goZ, zer33, Value.cells]
theorem agg34 : aggT Try.prog 34 = some false := by unfold aggT; rw [Try.underlying34]; rfl
@[simp] theorem siz34 : szT Try.prog 34 = some 1 := by unfold szT; rw [show Try.prog.info? 34 = some Try.t34 from Try.type34]; rfl
@[simp ↓] theorem ty34 {q : Bool → Nat → Prop} : goTy Try.prog 34 q = q false 1 := by simp only [goTy, agg34, siz34]
@[simp ↓] theorem sz34 {q : Nat → Prop} : goSz Try.prog 34 q = q 1 := by simp only [goSz, siz34]
theorem zer34 : zero? Try.prog 34 = some Go.Value.nilFunc := by unfold zero?; rw [show Try.prog.info? 34 = some Try.t34 from Try.type34]; rfl
@[simp ↓] theorem z34 {q : List Value → Prop} : goZ Try.prog 34 q = q [Go.Value.nilFunc] := by simp [goZ, zer34, Value.cells]
theorem agg35 : aggT Try.prog 35 = some false := by unfold aggT; rw [Try.underlying35]; rfl
@[simp] theorem siz35 : szT Try.prog 35 = some 1 := by unfold szT; rw [show Try.prog.info? 35 = some Try.t35 from Try.type35]; rfl
@[simp ↓] theorem ty35 {q : Bool → Nat → Prop} : goTy Try.prog 35 q = q false 1 := by simp only [goTy, agg35, siz35]
@[simp ↓] theorem sz35 {q : Nat → Prop} : goSz Try.prog 35 q = q 1 := by simp only [goSz, siz35]
theorem zer35 : zero? Try.prog 35 = some Go.Value.nilFunc := by unfold zero?; rw [show Try.prog.info? 35 = some Try.t35 from Try.type35]; rfl
@[simp ↓] theorem z35 {q : List Value → Prop} : goZ Try.prog 35 q = q [Go.Value.nilFunc] := by simp [goZ, zer35, Value.cells]
theorem agg36 : aggT Try.prog 36 = some false := by unfold aggT; rw [Try.underlying36]; rfl
@[simp] theorem siz36 : szT Try.prog 36 = some 1 := by unfold szT; rw [show Try.prog.info? 36 = some Try.t36 from Try.type36]; rfl
@[simp ↓] theorem ty36 {q : Bool → Nat → Prop} : goTy Try.prog 36 q = q false 1 := by simp only [goTy, agg36, siz36]
@[simp ↓] theorem sz36 {q : Nat → Prop} : goSz Try.prog 36 q = q 1 := by simp only [goSz, siz36]
theorem zer36 : zero? Try.prog 36 = some Go.Value.nilFunc := by unfold zero?; rw [show Try.prog.info? 36 = some Try.t36 from Try.type36]; rfl
@[simp ↓] theorem z36 {q : List Value → Prop} : goZ Try.prog 36 q = q [Go.Value.nilFunc] := by simp [goZ, zer36, Value.cells]
theorem agg37 : aggT Try.prog 37 = some false := by unfold aggT; rw [Try.underlying37]; rfl
@[simp] theorem siz37 : szT Try.prog 37 = some 1 := by unfold szT; rw [show Try.prog.info? 37 = some Try.t37 from Try.type37]; rfl
@[simp ↓] theorem ty37 {q : Bool → Nat → Prop} : goTy Try.prog 37 q = q false 1 := by simp only [goTy, agg37, siz37]
@[simp ↓] theorem sz37 {q : Nat → Prop} : goSz Try.prog 37 q = q 1 := by simp only [goSz, siz37]
theorem zer37 : zero? Try.prog 37 = some Go.Value.nilFunc := by unfold zero?; rw [show Try.prog.info? 37 = some Try.t37 from Try.type37]; rfl
@[simp ↓] theorem z37 {q : List Value → Prop} : goZ Try.prog 37 q = q [Go.Value.nilFunc] := by simp [goZ, zer37, Value.cells]
theorem agg38 : aggT Try.prog 38 = some false := by unfold aggT; rw [Try.underlying38]; rfl
@[simp] theorem siz38 : szT Try.prog 38 = some 1 := by unfold szT; rw [show Try.prog.info? 38 = some Try.t38 from Try.type38]; rfl
@[simp ↓] theorem ty38 {q : Bool → Nat → Prop} : goTy Try.prog 38 q = q false 1 := by simp only [goTy, agg38, siz38]
@[simp ↓] theorem sz38 {q : Nat → Prop} : goSz Try.prog 38 q = q 1 := by simp only [goSz, siz38]
theorem zer38 : zero? Try.prog 38 = some Go.Value.nilFunc := by unfold zero?; rw [show Try.prog.info? 38 = some Try.t38 from Try.type38]; rfl
@[simp ↓] theorem z38 {q : List Value → Prop} : goZ Try.prog 38 q = q [Go.Value.nilFunc] := by simp [goZ, zer38, Value.cells]
theorem agg39 : aggT Try.prog 39 = some false := by unfold aggT; rw [Try.underlying39]; rfl
@[simp] theorem siz39 : szT Try.prog 39 = some 1 := by unfold szT; rw [show Try.prog.info? 39 = some Try.t39 from Try.type39]; rfl
@[simp ↓] theorem ty39 {q : Bool → Nat → Prop} : goTy Try.prog 39 q = q false 1 := by simp only [goTy, agg39, siz39]
@[simp ↓] theorem sz39 {q : Nat → Prop} : goSz Try.prog 39 q = q 1 := by simp only [goSz, siz39]
theorem zer39 : zero? Try.prog 39 = some Go.Value.nilFunc := by unfold zero?; rw [show Try.prog.info? 39 = some Try.t39 from Try.type39]; rfl
@[simp ↓] theorem z39 {q : List Value → Prop} : goZ Try.prog 39 q = q [Go.Value.nilFunc] := by simp [goZ, zer39, Value.cells]
theorem agg40 : aggT Try.prog 40 = some false := by unfold aggT; rw [Try.underlying40]; rfl
@[simp] theorem siz40 : szT Try.prog 40 = some 1 := by unfold szT; rw [show Try.prog.info? 40 = some Try.t40 from Try.type40]; rfl
@[simp ↓] theorem ty40 {q : Bool → Nat → Prop} : goTy Try.prog 40 q = q false 1 := by simp only [goTy, agg40, siz40]
@[simp ↓] theorem sz40 {q : Nat → Prop} : goSz Try.prog 40 q = q 1 := by simp only [goSz, siz40]
theorem zer40 : zero? Try.prog 40 = some Go.Value.nilFunc := by unfold zero?; rw [show Try.prog.info? 40 = some Try.t40 from Try.type40]; rfl
@[simp ↓] theorem z40 {q : List Value → Prop} : goZ Try.prog 40 q = q [Go.Value.nilFunc] := by simp [goZ, zer40, Value.cells]
theorem agg41 : aggT Try.prog 41 = some false := by unfold aggT; rw [Try.underlying41]; rfl
@[simp] theorem siz41 : szT Try.prog 41 = some 1 := by unfold szT; rw [show Try.prog.info? 41 = some Try.t41 from Try.type41]; rfl
@[simp ↓] theorem ty41 {q : Bool → Nat → Prop} : goTy Try.prog 41 q = q false 1 := by simp only [goTy, agg41, siz41]
@[simp ↓] theorem sz41 {q : Nat → Prop} : goSz Try.prog 41 q = q 1 := by simp only [goSz, siz41]
theorem zer41 : zero? Try.prog 41 = some Go.Value.nilFunc := by unfold zero?; rw [show Try.prog.info? 41 = some Try.t41 from Try.type41]; rfl
@[simp ↓] theorem z41 {q : List Value → Prop} : goZ Try.prog 41 q = q [Go.Value.nilFunc] := by simp [goZ, zer41, Value.cells]
theorem agg42 : aggT Try.prog 42 = some false := by unfold aggT; rw [Try.underlying42]; rfl
@[simp] theorem siz42 : szT Try.prog 42 = some 1 := by unfold szT; rw [show Try.prog.info? 42 = some Try.t42 from Try.type42]; rfl
@[simp ↓] theorem ty42 {q : Bool → Nat → Prop} : goTy Try.prog 42 q = q false 1 := by simp only [goTy, agg42, siz42]
@[simp ↓] theorem sz42 {q : Nat → Prop} : goSz Try.prog 42 q = q 1 := by simp only [goSz, siz42]
theorem zer42 : zero? Try.prog 42 = some (Go.Value.slice none 0 0) := by unfold zero?; rw [show Try.prog.info? 42 = some Try.t42 from Try.type42]; rfl
@[simp ↓] theorem z42 {q : List Value → Prop} : goZ Try.prog 42 q = q [(Go.Value.slice none 0 0)] := by simp [goZ, zer42, Value.cells]
@[simp] theorem und42 : Try.prog.underlying 42 = some (Go.TypeDesc.slice 93) := opq Try.underlying42
@[simp ↓] theorem un42 {q : TypeDesc → Prop} : goUnd Try.prog 42 q = q (Go.TypeDesc.slice 93) := by simp only [goUnd, und42]
theorem slt42 : SlT Try.prog 42 93 3 32 := ⟨Try.underlying42, ⟨Try.t93, _, Try.type93, rfl, rfl, rfl, by simp, rfl⟩, by decide⟩
@[simp ↓] theorem sl42 {q : TypeId → Nat → List Value → Prop} : goSl Try.prog 42 q = q 93 3 [Go.Value.int Go.IntKind.i64 0, Go.Value.string { data := #[] }, Go.Value.int Go.IntKind.i64 0] := by simp [goSl, und42, show zero? Try.prog 93 = some (Go.Value.agg #[Go.Value.int Go.IntKind.i64 0, Go.Value.string { data := #[] }, Go.Value.int Go.IntKind.i64 0]) from by unfold zero?; rw [show Try.prog.info? 93 = some Try.t93 from Try.type93]; rfl, show szT Try.prog 93 = some 3 from by unfold szT; rw [show Try.prog.info? 93 = some Try.t93 from Try.type93]; rfl, Value.cells]
theorem agg43 : aggT Try.prog 43 = some true := by unfold aggT; rw [Try.underlying43]; rfl
@[simp] theorem siz43 : szT Try.prog 43 = some 1 := by unfold szT; rw [show Try.prog.info? 43 = some Try.t43 from Try.type43]; rfl
@[simp ↓] theorem ty43 {q : Bool → Nat → Prop} : goTy Try.prog 43 q = q true 1 := by simp only [goTy, agg43, siz43]
@[simp ↓] theorem sz43 {q : Nat → Prop} : goSz Try.prog 43 q = q 1 := by simp only [goSz, siz43]
theorem zer43 : zero? Try.prog 43 = some (Go.Value.agg #[Go.Value.slice none 0 0]) := by unfold zero?; rw [show Try.prog.info? 43 = some Try.t43 from Try.type43]; rfl
@[simp ↓] theorem z43 {q : List Value → Prop} : goZ Try.prog 43 q = q [Go.Value.slice none 0 0] := by simp [goZ, zer43, Value.cells]
@[simp] theorem und43 : Try.prog.underlying 43 = some (Go.TypeDesc.struct
  #[{ name := "Code", type := 42, offset := 0, embedded := false, tag := "", pkgPath := "", byteOffset := 0 }]) := opq Try.underlying43
@[simp ↓] theorem fld43_0 {q : Nat → TypeId → Prop} : goFld Try.prog 43 0 q = q 0 42 := by simp only [goFld, und43]; rfl
@[simp ↓] theorem bld43 {q : List Value → List (Nat × Nat) → Prop} : goBld Try.prog 43 q = q [Go.Value.slice none 0 0] [(0, 1)] := by simp [goBld, und43, zer43, placesL, Value.cells]
theorem agg44 : aggT Try.prog 44 = some true := by unfold aggT; rw [Try.underlying44]; rfl
@[simp] theorem siz44 : szT Try.prog 44 = some 1 := by unfold szT; rw [show Try.prog.info? 44 = some Try.t44 from Try.type44]; rfl
@[simp ↓] theorem ty44 {q : Bool → Nat → Prop} : goTy Try.prog 44 q = q true 1 := by simp only [goTy, agg44, siz44]
@[simp ↓] theorem sz44 {q : Nat → Prop} : goSz Try.prog 44 q = q 1 := by simp only [goSz, siz44]
theorem zer44 : zero? Try.prog 44 = some (Go.Value.agg #[Go.Value.slice none 0 0]) := by unfold zero?; rw [show Try.prog.info? 44 = some Try.t44 from Try.type44]; rfl
@[simp ↓] theorem z44 {q : List Value → Prop} : goZ Try.prog 44 q = q [Go.Value.slice none 0 0] := by simp [goZ, zer44, Value.cells]
@[simp] theorem und44 : Try.prog.underlying 44 = some (Go.TypeDesc.struct
  #[{ name := "Code", type := 42, offset := 0, embedded := false, tag := "", pkgPath := "", byteOffset := 0 }]) := opq Try.underlying44
@[simp ↓] theorem fld44_0 {q : Nat → TypeId → Prop} : goFld Try.prog 44 0 q = q 0 42 := by simp only [goFld, und44]; rfl
@[simp ↓] theorem bld44 {q : List Value → List (Nat × Nat) → Prop} : goBld Try.prog 44 q = q [Go.Value.slice none 0 0] [(0, 1)] := by simp [goBld, und44, zer44, placesL, Value.cells]
theorem agg45 : aggT Try.prog 45 = some false := by unfold aggT; rw [Try.underlying45]; rfl
@[simp] theorem siz45 : szT Try.prog 45 = some 1 := by unfold szT; rw [show Try.prog.info? 45 = some Try.t45 from Try.type45]; rfl
@[simp ↓] theorem ty45 {q : Bool → Nat → Prop} : goTy Try.prog 45 q = q false 1 := by simp only [goTy, agg45, siz45]
@[simp ↓] theorem sz45 {q : Nat → Prop} : goSz Try.prog 45 q = q 1 := by simp only [goSz, siz45]
theorem zer45 : zero? Try.prog 45 = some (Go.Value.slice none 0 0) := by unfold zero?; rw [show Try.prog.info? 45 = some Try.t45 from Try.type45]; rfl
@[simp ↓] theorem z45 {q : List Value → Prop} : goZ Try.prog 45 q = q [(Go.Value.slice none 0 0)] := by simp [goZ, zer45, Value.cells]
@[simp] theorem und45 : Try.prog.underlying 45 = some (Go.TypeDesc.slice 49) := opq Try.underlying45
@[simp ↓] theorem un45 {q : TypeDesc → Prop} : goUnd Try.prog 45 q = q (Go.TypeDesc.slice 49) := by simp only [goUnd, und45]
theorem slt45 : SlT Try.prog 45 49 4 32 := ⟨Try.underlying45, ⟨Try.t49, _, Try.type49, rfl, rfl, rfl, by simp, rfl⟩, by decide⟩
@[simp ↓] theorem sl45 {q : TypeId → Nat → List Value → Prop} : goSl Try.prog 45 q = q 49 4 [Go.Value.string { data := #[] }, Go.Value.bool false, Go.Value.bool false, Go.Value.int Go.IntKind.i64 0] := by simp [goSl, und45, show zero? Try.prog 49 = some
  (Go.Value.agg
    #[Go.Value.string { data := #[] }, Go.Value.bool false, Go.Value.bool false, Go.Value.int Go.IntKind.i64 0]) from by unfold zero?; rw [show Try.prog.info? 49 = some Try.t49 from Try.type49]; rfl, show szT Try.prog 49 = some 4 from by unfold szT; rw [show Try.prog.info? 49 = some Try.t49 from Try.type49]; rfl, Value.cells]
theorem agg46 : aggT Try.prog 46 = some true := by unfold aggT; rw [Try.underlying46]; rfl
@[simp] theorem siz46 : szT Try.prog 46 = some 6 := by unfold szT; rw [show Try.prog.info? 46 = some Try.t46 from Try.type46]; rfl
@[simp ↓] theorem ty46 {q : Bool → Nat → Prop} : goTy Try.prog 46 q = q true 6 := by simp only [goTy, agg46, siz46]
@[simp ↓] theorem sz46 {q : Nat → Prop} : goSz Try.prog 46 q = q 6 := by simp only [goSz, siz46]
theorem zer46 : zero? Try.prog 46 = some
  (Go.Value.agg
    #[Go.Value.string { data := #[] }, Go.Value.int Go.IntKind.i64 0, Go.Value.int Go.IntKind.i64 0,
      Go.Value.string { data := #[] }, Go.Value.slice none 0 0, Go.Value.slice none 0 0]) := by unfold zero?; rw [show Try.prog.info? 46 = some Try.t46 from Try.type46]; rfl
@[simp ↓] theorem z46 {q : List Value → Prop} : goZ Try.prog 46 q = q [Go.Value.string { data := #[] }, Go.Value.int Go.IntKind.i64 0, Go.Value.int Go.IntKind.i64 0,
      Go.Value.string { data := #[] }, Go.Value.slice none 0 0, Go.Value.slice none 0 0] := by simp [goZ, zer46, Value.cells]
@[simp] theorem und46 : Try.prog.underlying 46 = some (Go.TypeDesc.struct
  #[{ name := "Name", type := 9, offset := 0, embedded := false, tag := "", pkgPath := "", byteOffset := 0 },
    { name := "Kind", type := 3, offset := 1, embedded := false, tag := "", pkgPath := "", byteOffset := 16 },
    { name := "Code", type := 3, offset := 2, embedded := false, tag := "", pkgPath := "", byteOffset := 24 },
    { name := "Text", type := 9, offset := 3, embedded := false, tag := "", pkgPath := "", byteOffset := 32 },
    { name := "Action", type := 44, offset := 4, embedded := false, tag := "", pkgPath := "", byteOffset := 48 },
    { name := "Links", type := 45, offset := 5, embedded := false, tag := "", pkgPath := "", byteOffset := 72 }]) := opq Try.underlying46
@[simp ↓] theorem fld46_0 {q : Nat → TypeId → Prop} : goFld Try.prog 46 0 q = q 0 9 := by simp only [goFld, und46]; rfl
@[simp ↓] theorem fld46_1 {q : Nat → TypeId → Prop} : goFld Try.prog 46 1 q = q 1 3 := by simp only [goFld, und46]; rfl
@[simp ↓] theorem fld46_2 {q : Nat → TypeId → Prop} : goFld Try.prog 46 2 q = q 2 3 := by simp only [goFld, und46]; rfl
@[simp ↓] theorem fld46_3 {q : Nat → TypeId → Prop} : goFld Try.prog 46 3 q = q 3 9 := by simp only [goFld, und46]; rfl
@[simp ↓] theorem fld46_4 {q : Nat → TypeId → Prop} : goFld Try.prog 46 4 q = q 4 44 := by simp only [goFld, und46]; rfl
@[simp ↓] theorem fld46_5 {q : Nat → TypeId → Prop} : goFld Try.prog 46 5 q = q 5 45 := by simp only [goFld, und46]; rfl
@[simp ↓] theorem bld46 {q : List Value → List (Nat × Nat) → Prop} : goBld Try.prog 46 q = q [Go.Value.string { data := #[] }, Go.Value.int Go.IntKind.i64 0, Go.Value.int Go.IntKind.i64 0,
      Go.Value.string { data := #[] }, Go.Value.slice none 0 0, Go.Value.slice none 0 0] [(0, 1), (1, 1), (2, 1), (3, 1), (4, 1), (5, 1)] := by simp [goBld, und46, zer46, placesL, Value.cells]
theorem agg47 : aggT Try.prog 47 = some true := by unfold aggT; rw [Try.underlying47]; rfl
@[simp] theorem siz47 : szT Try.prog 47 = some 6 := by unfold szT; rw [show Try.prog.info? 47 = some Try.t47 from Try.type47]; rfl
@[simp ↓] theorem ty47 {q : Bool → Nat → Prop} : goTy Try.prog 47 q = q true 6 := by simp only [goTy, agg47, siz47]
@[simp ↓] theorem sz47 {q : Nat → Prop} : goSz Try.prog 47 q = q 6 := by simp only [goSz, siz47]
theorem zer47 : zero? Try.prog 47 = some
  (Go.Value.agg
    #[Go.Value.string { data := #[] }, Go.Value.int Go.IntKind.i64 0, Go.Value.int Go.IntKind.i64 0,
      Go.Value.string { data := #[] }, Go.Value.slice none 0 0, Go.Value.slice none 0 0]) := by unfold zero?; rw [show Try.prog.info? 47 = some Try.t47 from Try.type47]; rfl
@[simp ↓] theorem z47 {q : List Value → Prop} : goZ Try.prog 47 q = q [Go.Value.string { data := #[] }, Go.Value.int Go.IntKind.i64 0, Go.Value.int Go.IntKind.i64 0,
      Go.Value.string { data := #[] }, Go.Value.slice none 0 0, Go.Value.slice none 0 0] := by simp [goZ, zer47, Value.cells]
@[simp] theorem und47 : Try.prog.underlying 47 = some (Go.TypeDesc.struct
  #[{ name := "Name", type := 9, offset := 0, embedded := false, tag := "", pkgPath := "", byteOffset := 0 },
    { name := "Kind", type := 3, offset := 1, embedded := false, tag := "", pkgPath := "", byteOffset := 16 },
    { name := "Code", type := 3, offset := 2, embedded := false, tag := "", pkgPath := "", byteOffset := 24 },
    { name := "Text", type := 9, offset := 3, embedded := false, tag := "", pkgPath := "", byteOffset := 32 },
    { name := "Action", type := 44, offset := 4, embedded := false, tag := "", pkgPath := "", byteOffset := 48 },
    { name := "Links", type := 45, offset := 5, embedded := false, tag := "", pkgPath := "", byteOffset := 72 }]) := opq Try.underlying47
@[simp ↓] theorem fld47_0 {q : Nat → TypeId → Prop} : goFld Try.prog 47 0 q = q 0 9 := by simp only [goFld, und47]; rfl
@[simp ↓] theorem fld47_1 {q : Nat → TypeId → Prop} : goFld Try.prog 47 1 q = q 1 3 := by simp only [goFld, und47]; rfl
@[simp ↓] theorem fld47_2 {q : Nat → TypeId → Prop} : goFld Try.prog 47 2 q = q 2 3 := by simp only [goFld, und47]; rfl
@[simp ↓] theorem fld47_3 {q : Nat → TypeId → Prop} : goFld Try.prog 47 3 q = q 3 9 := by simp only [goFld, und47]; rfl
@[simp ↓] theorem fld47_4 {q : Nat → TypeId → Prop} : goFld Try.prog 47 4 q = q 4 44 := by simp only [goFld, und47]; rfl
@[simp ↓] theorem fld47_5 {q : Nat → TypeId → Prop} : goFld Try.prog 47 5 q = q 5 45 := by simp only [goFld, und47]; rfl
@[simp ↓] theorem bld47 {q : List Value → List (Nat × Nat) → Prop} : goBld Try.prog 47 q = q [Go.Value.string { data := #[] }, Go.Value.int Go.IntKind.i64 0, Go.Value.int Go.IntKind.i64 0,
      Go.Value.string { data := #[] }, Go.Value.slice none 0 0, Go.Value.slice none 0 0] [(0, 1), (1, 1), (2, 1), (3, 1), (4, 1), (5, 1)] := by simp [goBld, und47, zer47, placesL, Value.cells]
theorem agg48 : aggT Try.prog 48 = some true := by unfold aggT; rw [Try.underlying48]; rfl
@[simp] theorem siz48 : szT Try.prog 48 = some 4 := by unfold szT; rw [show Try.prog.info? 48 = some Try.t48 from Try.type48]; rfl
@[simp ↓] theorem ty48 {q : Bool → Nat → Prop} : goTy Try.prog 48 q = q true 4 := by simp only [goTy, agg48, siz48]
@[simp ↓] theorem sz48 {q : Nat → Prop} : goSz Try.prog 48 q = q 4 := by simp only [goSz, siz48]
theorem zer48 : zero? Try.prog 48 = some
  (Go.Value.agg
    #[Go.Value.string { data := #[] }, Go.Value.bool false, Go.Value.bool false, Go.Value.int Go.IntKind.i64 0]) := by unfold zero?; rw [show Try.prog.info? 48 = some Try.t48 from Try.type48]; rfl
@[simp ↓] theorem z48 {q : List Value → Prop} : goZ Try.prog 48 q = q [Go.Value.string { data := #[] }, Go.Value.bool false, Go.Value.bool false, Go.Value.int Go.IntKind.i64 0] := by simp [goZ, zer48, Value.cells]
@[simp] theorem und48 : Try.prog.underlying 48 = some (Go.TypeDesc.struct
  #[{ name := "Name", type := 9, offset := 0, embedded := false, tag := "", pkgPath := "", byteOffset := 0 },
    { name := "Ask", type := 4, offset := 1, embedded := false, tag := "", pkgPath := "", byteOffset := 16 },
    { name := "Has", type := 4, offset := 2, embedded := false, tag := "", pkgPath := "", byteOffset := 17 },
    { name := "At", type := 3, offset := 3, embedded := false, tag := "", pkgPath := "", byteOffset := 24 }]) := opq Try.underlying48
@[simp ↓] theorem fld48_0 {q : Nat → TypeId → Prop} : goFld Try.prog 48 0 q = q 0 9 := by simp only [goFld, und48]; rfl
@[simp ↓] theorem fld48_1 {q : Nat → TypeId → Prop} : goFld Try.prog 48 1 q = q 1 4 := by simp only [goFld, und48]; rfl
@[simp ↓] theorem fld48_2 {q : Nat → TypeId → Prop} : goFld Try.prog 48 2 q = q 2 4 := by simp only [goFld, und48]; rfl
@[simp ↓] theorem fld48_3 {q : Nat → TypeId → Prop} : goFld Try.prog 48 3 q = q 3 3 := by simp only [goFld, und48]; rfl
@[simp ↓] theorem bld48 {q : List Value → List (Nat × Nat) → Prop} : goBld Try.prog 48 q = q [Go.Value.string { data := #[] }, Go.Value.bool false, Go.Value.bool false, Go.Value.int Go.IntKind.i64 0] [(0, 1), (1, 1), (2, 1), (3, 1)] := by simp [goBld, und48, zer48, placesL, Value.cells]
theorem agg49 : aggT Try.prog 49 = some true := by unfold aggT; rw [Try.underlying49]; rfl
@[simp] theorem siz49 : szT Try.prog 49 = some 4 := by unfold szT; rw [show Try.prog.info? 49 = some Try.t49 from Try.type49]; rfl
@[simp ↓] theorem ty49 {q : Bool → Nat → Prop} : goTy Try.prog 49 q = q true 4 := by simp only [goTy, agg49, siz49]
@[simp ↓] theorem sz49 {q : Nat → Prop} : goSz Try.prog 49 q = q 4 := by simp only [goSz, siz49]
theorem zer49 : zero? Try.prog 49 = some
  (Go.Value.agg
    #[Go.Value.string { data := #[] }, Go.Value.bool false, Go.Value.bool false, Go.Value.int Go.IntKind.i64 0]) := by unfold zero?; rw [show Try.prog.info? 49 = some Try.t49 from Try.type49]; rfl
@[simp ↓] theorem z49 {q : List Value → Prop} : goZ Try.prog 49 q = q [Go.Value.string { data := #[] }, Go.Value.bool false, Go.Value.bool false, Go.Value.int Go.IntKind.i64 0] := by simp [goZ, zer49, Value.cells]
@[simp] theorem und49 : Try.prog.underlying 49 = some (Go.TypeDesc.struct
  #[{ name := "Name", type := 9, offset := 0, embedded := false, tag := "", pkgPath := "", byteOffset := 0 },
    { name := "Ask", type := 4, offset := 1, embedded := false, tag := "", pkgPath := "", byteOffset := 16 },
    { name := "Has", type := 4, offset := 2, embedded := false, tag := "", pkgPath := "", byteOffset := 17 },
    { name := "At", type := 3, offset := 3, embedded := false, tag := "", pkgPath := "", byteOffset := 24 }]) := opq Try.underlying49
@[simp ↓] theorem fld49_0 {q : Nat → TypeId → Prop} : goFld Try.prog 49 0 q = q 0 9 := by simp only [goFld, und49]; rfl
@[simp ↓] theorem fld49_1 {q : Nat → TypeId → Prop} : goFld Try.prog 49 1 q = q 1 4 := by simp only [goFld, und49]; rfl
@[simp ↓] theorem fld49_2 {q : Nat → TypeId → Prop} : goFld Try.prog 49 2 q = q 2 4 := by simp only [goFld, und49]; rfl
@[simp ↓] theorem fld49_3 {q : Nat → TypeId → Prop} : goFld Try.prog 49 3 q = q 3 3 := by simp only [goFld, und49]; rfl
@[simp ↓] theorem bld49 {q : List Value → List (Nat × Nat) → Prop} : goBld Try.prog 49 q = q [Go.Value.string { data := #[] }, Go.Value.bool false, Go.Value.bool false, Go.Value.int Go.IntKind.i64 0] [(0, 1), (1, 1), (2, 1), (3, 1)] := by simp [goBld, und49, zer49, placesL, Value.cells]
theorem agg50 : aggT Try.prog 50 = some false := by unfold aggT; rw [Try.underlying50]; rfl
@[simp] theorem siz50 : szT Try.prog 50 = some 1 := by unfold szT; rw [show Try.prog.info? 50 = some Try.t50 from Try.type50]; rfl
@[simp ↓] theorem ty50 {q : Bool → Nat → Prop} : goTy Try.prog 50 q = q false 1 := by simp only [goTy, agg50, siz50]
@[simp ↓] theorem sz50 {q : Nat → Prop} : goSz Try.prog 50 q = q 1 := by simp only [goSz, siz50]
theorem zer50 : zero? Try.prog 50 = some Go.Value.nilFunc := by unfold zero?; rw [show Try.prog.info? 50 = some Try.t50 from Try.type50]; rfl
@[simp ↓] theorem z50 {q : List Value → Prop} : goZ Try.prog 50 q = q [Go.Value.nilFunc] := by simp [goZ, zer50, Value.cells]
theorem agg51 : aggT Try.prog 51 = some false := by unfold aggT; rw [Try.underlying51]; rfl
@[simp] theorem siz51 : szT Try.prog 51 = some 1 := by unfold szT; rw [show Try.prog.info? 51 = some Try.t51 from Try.type51]; rfl
@[simp ↓] theorem ty51 {q : Bool → Nat → Prop} : goTy Try.prog 51 q = q false 1 := by simp only [goTy, agg51, siz51]
@[simp ↓] theorem sz51 {q : Nat → Prop} : goSz Try.prog 51 q = q 1 := by simp only [goSz, siz51]
theorem zer51 : zero? Try.prog 51 = some Go.Value.nilFunc := by unfold zero?; rw [show Try.prog.info? 51 = some Try.t51 from Try.type51]; rfl
@[simp ↓] theorem z51 {q : List Value → Prop} : goZ Try.prog 51 q = q [Go.Value.nilFunc] := by simp [goZ, zer51, Value.cells]
theorem agg52 : aggT Try.prog 52 = some false := by unfold aggT; rw [Try.underlying52]; rfl
@[simp] theorem siz52 : szT Try.prog 52 = some 1 := by unfold szT; rw [show Try.prog.info? 52 = some Try.t52 from Try.type52]; rfl
@[simp ↓] theorem ty52 {q : Bool → Nat → Prop} : goTy Try.prog 52 q = q false 1 := by simp only [goTy, agg52, siz52]
@[simp ↓] theorem sz52 {q : Nat → Prop} : goSz Try.prog 52 q = q 1 := by simp only [goSz, siz52]
theorem zer52 : zero? Try.prog 52 = some (Go.Value.map none) := by unfold zero?; rw [show Try.prog.info? 52 = some Try.t52 from Try.type52]; rfl
@[simp ↓] theorem z52 {q : List Value → Prop} : goZ Try.prog 52 q = q [(Go.Value.map none)] := by simp [goZ, zer52, Value.cells]
@[simp] theorem und52 : Try.prog.underlying 52 = some (Go.TypeDesc.map 9 4) := opq Try.underlying52
@[simp ↓] theorem un52 {q : TypeDesc → Prop} : goUnd Try.prog 52 q = q (Go.TypeDesc.map 9 4) := by simp only [goUnd, und52]
theorem agg53 : aggT Try.prog 53 = some false := by unfold aggT; rw [Try.underlying53]; rfl
@[simp] theorem siz53 : szT Try.prog 53 = some 1 := by unfold szT; rw [show Try.prog.info? 53 = some Try.t53 from Try.type53]; rfl
@[simp ↓] theorem ty53 {q : Bool → Nat → Prop} : goTy Try.prog 53 q = q false 1 := by simp only [goTy, agg53, siz53]
@[simp ↓] theorem sz53 {q : Nat → Prop} : goSz Try.prog 53 q = q 1 := by simp only [goSz, siz53]
theorem zer53 : zero? Try.prog 53 = some Go.Value.nilFunc := by unfold zero?; rw [show Try.prog.info? 53 = some Try.t53 from Try.type53]; rfl
@[simp ↓] theorem z53 {q : List Value → Prop} : goZ Try.prog 53 q = q [Go.Value.nilFunc] := by simp [goZ, zer53, Value.cells]
theorem agg54 : aggT Try.prog 54 = some false := by unfold aggT; rw [Try.underlying54]; rfl
@[simp] theorem siz54 : szT Try.prog 54 = some 1 := by unfold szT; rw [show Try.prog.info? 54 = some Try.t54 from Try.type54]; rfl
@[simp ↓] theorem ty54 {q : Bool → Nat → Prop} : goTy Try.prog 54 q = q false 1 := by simp only [goTy, agg54, siz54]
@[simp ↓] theorem sz54 {q : Nat → Prop} : goSz Try.prog 54 q = q 1 := by simp only [goSz, siz54]
theorem zer54 : zero? Try.prog 54 = some Go.Value.nilFunc := by unfold zero?; rw [show Try.prog.info? 54 = some Try.t54 from Try.type54]; rfl
@[simp ↓] theorem z54 {q : List Value → Prop} : goZ Try.prog 54 q = q [Go.Value.nilFunc] := by simp [goZ, zer54, Value.cells]
theorem agg55 : aggT Try.prog 55 = some false := by unfold aggT; rw [Try.underlying55]; rfl
@[simp] theorem siz55 : szT Try.prog 55 = some 1 := by unfold szT; rw [show Try.prog.info? 55 = some Try.t55 from Try.type55]; rfl
@[simp ↓] theorem ty55 {q : Bool → Nat → Prop} : goTy Try.prog 55 q = q false 1 := by simp only [goTy, agg55, siz55]
@[simp ↓] theorem sz55 {q : Nat → Prop} : goSz Try.prog 55 q = q 1 := by simp only [goSz, siz55]
theorem zer55 : zero? Try.prog 55 = some Go.Value.nilFunc := by unfold zero?; rw [show Try.prog.info? 55 = some Try.t55 from Try.type55]; rfl
@[simp ↓] theorem z55 {q : List Value → Prop} : goZ Try.prog 55 q = q [Go.Value.nilFunc] := by simp [goZ, zer55, Value.cells]
theorem agg56 : aggT Try.prog 56 = some false := by unfold aggT; rw [Try.underlying56]; rfl
@[simp] theorem siz56 : szT Try.prog 56 = some 1 := by unfold szT; rw [show Try.prog.info? 56 = some Try.t56 from Try.type56]; rfl
@[simp ↓] theorem ty56 {q : Bool → Nat → Prop} : goTy Try.prog 56 q = q false 1 := by simp only [goTy, agg56, siz56]
@[simp ↓] theorem sz56 {q : Nat → Prop} : goSz Try.prog 56 q = q 1 := by simp only [goSz, siz56]
theorem zer56 : zero? Try.prog 56 = some Go.Value.nilFunc := by unfold zero?; rw [show Try.prog.info? 56 = some Try.t56 from Try.type56]; rfl
@[simp ↓] theorem z56 {q : List Value → Prop} : goZ Try.prog 56 q = q [Go.Value.nilFunc] := by simp [goZ, zer56, Value.cells]
theorem agg57 : aggT Try.prog 57 = some false := by unfold aggT; rw [Try.underlying57]; rfl
@[simp] theorem siz57 : szT Try.prog 57 = some 1 := by unfold szT; rw [show Try.prog.info? 57 = some Try.t57 from Try.type57]; rfl
@[simp ↓] theorem ty57 {q : Bool → Nat → Prop} : goTy Try.prog 57 q = q false 1 := by simp only [goTy, agg57, siz57]
@[simp ↓] theorem sz57 {q : Nat → Prop} : goSz Try.prog 57 q = q 1 := by simp only [goSz, siz57]
theorem zer57 : zero? Try.prog 57 = some (Go.Value.slice none 0 0) := by unfold zero?; rw [show Try.prog.info? 57 = some Try.t57 from Try.type57]; rfl
@[simp ↓] theorem z57 {q : List Value → Prop} : goZ Try.prog 57 q = q [(Go.Value.slice none 0 0)] := by simp [goZ, zer57, Value.cells]
@[simp] theorem und57 : Try.prog.underlying 57 = some (Go.TypeDesc.slice 4) := opq Try.underlying57
@[simp ↓] theorem un57 {q : TypeDesc → Prop} : goUnd Try.prog 57 q = q (Go.TypeDesc.slice 4) := by simp only [goUnd, und57]
theorem slt57 : SlT Try.prog 57 4 1 1 := ⟨Try.underlying57, ⟨Try.t4, _, Try.type4, rfl, rfl, rfl, by simp, rfl⟩, by decide⟩
@[simp ↓] theorem sl57 {q : TypeId → Nat → List Value → Prop} : goSl Try.prog 57 q = q 4 1 [(Go.Value.bool false)] := by simp [goSl, und57, show zero? Try.prog 4 = some (Go.Value.bool false) from by unfold zero?; rw [show Try.prog.info? 4 = some Try.t4 from Try.type4]; rfl, show szT Try.prog 4 = some 1 from by unfold szT; rw [show Try.prog.info? 4 = some Try.t4 from Try.type4]; rfl, Value.cells]
theorem agg58 : aggT Try.prog 58 = some false := by unfold aggT; rw [Try.underlying58]; rfl
@[simp] theorem siz58 : szT Try.prog 58 = some 1 := by unfold szT; rw [show Try.prog.info? 58 = some Try.t58 from Try.type58]; rfl
@[simp ↓] theorem ty58 {q : Bool → Nat → Prop} : goTy Try.prog 58 q = q false 1 := by simp only [goTy, agg58, siz58]
@[simp ↓] theorem sz58 {q : Nat → Prop} : goSz Try.prog 58 q = q 1 := by simp only [goSz, siz58]
theorem zer58 : zero? Try.prog 58 = some Go.Value.nilFunc := by unfold zero?; rw [show Try.prog.info? 58 = some Try.t58 from Try.type58]; rfl
@[simp ↓] theorem z58 {q : List Value → Prop} : goZ Try.prog 58 q = q [Go.Value.nilFunc] := by simp [goZ, zer58, Value.cells]
theorem agg59 : aggT Try.prog 59 = some false := by unfold aggT; rw [Try.underlying59]; rfl
@[simp] theorem siz59 : szT Try.prog 59 = some 1 := by unfold szT; rw [show Try.prog.info? 59 = some Try.t59 from Try.type59]; rfl
@[simp ↓] theorem ty59 {q : Bool → Nat → Prop} : goTy Try.prog 59 q = q false 1 := by simp only [goTy, agg59, siz59]
@[simp ↓] theorem sz59 {q : Nat → Prop} : goSz Try.prog 59 q = q 1 := by simp only [goSz, siz59]
theorem zer59 : zero? Try.prog 59 = some (Go.Value.slice none 0 0) := by unfold zero?; rw [show Try.prog.info? 59 = some Try.t59 from Try.type59]; rfl
@[simp ↓] theorem z59 {q : List Value → Prop} : goZ Try.prog 59 q = q [(Go.Value.slice none 0 0)] := by simp [goZ, zer59, Value.cells]
@[simp] theorem und59 : Try.prog.underlying 59 = some (Go.TypeDesc.slice 119) := opq Try.underlying59
@[simp ↓] theorem un59 {q : TypeDesc → Prop} : goUnd Try.prog 59 q = q (Go.TypeDesc.slice 119) := by simp only [goUnd, und59]
theorem slt59 : SlT Try.prog 59 119 3 32 := ⟨Try.underlying59, ⟨Try.t119, _, Try.type119, rfl, rfl, rfl, by simp, rfl⟩, by decide⟩
@[simp ↓] theorem sl59 {q : TypeId → Nat → List Value → Prop} : goSl Try.prog 59 q = q 119 3 [Go.Value.int Go.IntKind.i64 0, Go.Value.string { data := #[] }, Go.Value.int Go.IntKind.i64 0] := by simp [goSl, und59, show zero? Try.prog 119 = some (Go.Value.agg #[Go.Value.int Go.IntKind.i64 0, Go.Value.string { data := #[] }, Go.Value.int Go.IntKind.i64 0]) from by unfold zero?; rw [show Try.prog.info? 119 = some Try.t119 from Try.type119]; rfl, show szT Try.prog 119 = some 3 from by unfold szT; rw [show Try.prog.info? 119 = some Try.t119 from Try.type119]; rfl, Value.cells]
theorem agg60 : aggT Try.prog 60 = some true := by unfold aggT; rw [Try.underlying60]; rfl
@[simp] theorem siz60 : szT Try.prog 60 = some 1 := by unfold szT; rw [show Try.prog.info? 60 = some Try.t60 from Try.type60]; rfl
@[simp ↓] theorem ty60 {q : Bool → Nat → Prop} : goTy Try.prog 60 q = q true 1 := by simp only [goTy, agg60, siz60]
@[simp ↓] theorem sz60 {q : Nat → Prop} : goSz Try.prog 60 q = q 1 := by simp only [goSz, siz60]
theorem zer60 : zero? Try.prog 60 = some (Go.Value.agg #[Go.Value.slice none 0 0]) := by unfold zero?; rw [show Try.prog.info? 60 = some Try.t60 from Try.type60]; rfl
@[simp ↓] theorem z60 {q : List Value → Prop} : goZ Try.prog 60 q = q [Go.Value.slice none 0 0] := by simp [goZ, zer60, Value.cells]
@[simp] theorem und60 : Try.prog.underlying 60 = some (Go.TypeDesc.struct
  #[{ name := "Code", type := 59, offset := 0, embedded := false, tag := "", pkgPath := "", byteOffset := 0 }]) := opq Try.underlying60
@[simp ↓] theorem fld60_0 {q : Nat → TypeId → Prop} : goFld Try.prog 60 0 q = q 0 59 := by simp only [goFld, und60]; rfl
@[simp ↓] theorem bld60 {q : List Value → List (Nat × Nat) → Prop} : goBld Try.prog 60 q = q [Go.Value.slice none 0 0] [(0, 1)] := by simp [goBld, und60, zer60, placesL, Value.cells]
theorem agg61 : aggT Try.prog 61 = some true := by unfold aggT; rw [Try.underlying61]; rfl
@[simp] theorem siz61 : szT Try.prog 61 = some 1 := by unfold szT; rw [show Try.prog.info? 61 = some Try.t61 from Try.type61]; rfl
@[simp ↓] theorem ty61 {q : Bool → Nat → Prop} : goTy Try.prog 61 q = q true 1 := by simp only [goTy, agg61, siz61]
@[simp ↓] theorem sz61 {q : Nat → Prop} : goSz Try.prog 61 q = q 1 := by simp only [goSz, siz61]
theorem zer61 : zero? Try.prog 61 = some (Go.Value.agg #[Go.Value.slice none 0 0]) := by unfold zero?; rw [show Try.prog.info? 61 = some Try.t61 from Try.type61]; rfl
@[simp ↓] theorem z61 {q : List Value → Prop} : goZ Try.prog 61 q = q [Go.Value.slice none 0 0] := by simp [goZ, zer61, Value.cells]
@[simp] theorem und61 : Try.prog.underlying 61 = some (Go.TypeDesc.struct
  #[{ name := "Code", type := 59, offset := 0, embedded := false, tag := "", pkgPath := "", byteOffset := 0 }]) := opq Try.underlying61
@[simp ↓] theorem fld61_0 {q : Nat → TypeId → Prop} : goFld Try.prog 61 0 q = q 0 59 := by simp only [goFld, und61]; rfl
@[simp ↓] theorem bld61 {q : List Value → List (Nat × Nat) → Prop} : goBld Try.prog 61 q = q [Go.Value.slice none 0 0] [(0, 1)] := by simp [goBld, und61, zer61, placesL, Value.cells]
theorem agg62 : aggT Try.prog 62 = some false := by unfold aggT; rw [Try.underlying62]; rfl
@[simp] theorem siz62 : szT Try.prog 62 = some 1 := by unfold szT; rw [show Try.prog.info? 62 = some Try.t62 from Try.type62]; rfl
@[simp ↓] theorem ty62 {q : Bool → Nat → Prop} : goTy Try.prog 62 q = q false 1 := by simp only [goTy, agg62, siz62]
@[simp ↓] theorem sz62 {q : Nat → Prop} : goSz Try.prog 62 q = q 1 := by simp only [goSz, siz62]
theorem zer62 : zero? Try.prog 62 = some (Go.Value.slice none 0 0) := by unfold zero?; rw [show Try.prog.info? 62 = some Try.t62 from Try.type62]; rfl
@[simp ↓] theorem z62 {q : List Value → Prop} : goZ Try.prog 62 q = q [(Go.Value.slice none 0 0)] := by simp [goZ, zer62, Value.cells]
@[simp] theorem und62 : Try.prog.underlying 62 = some (Go.TypeDesc.slice 96) := opq Try.underlying62
@[simp ↓] theorem un62 {q : TypeDesc → Prop} : goUnd Try.prog 62 q = q (Go.TypeDesc.slice 96) := by simp only [goUnd, und62]
theorem slt62 : SlT Try.prog 62 96 4 32 := ⟨Try.underlying62, ⟨Try.t96, _, Try.type96, rfl, rfl, rfl, by simp, rfl⟩, by decide⟩
@[simp ↓] theorem sl62 {q : TypeId → Nat → List Value → Prop} : goSl Try.prog 62 q = q 96 4 [Go.Value.string { data := #[] }, Go.Value.bool false, Go.Value.bool false, Go.Value.int Go.IntKind.i64 0] := by simp [goSl, und62, show zero? Try.prog 96 = some
  (Go.Value.agg
    #[Go.Value.string { data := #[] }, Go.Value.bool false, Go.Value.bool false, Go.Value.int Go.IntKind.i64 0]) from by unfold zero?; rw [show Try.prog.info? 96 = some Try.t96 from Try.type96]; rfl, show szT Try.prog 96 = some 4 from by unfold szT; rw [show Try.prog.info? 96 = some Try.t96 from Try.type96]; rfl, Value.cells]
theorem agg63 : aggT Try.prog 63 = some true := by unfold aggT; rw [Try.underlying63]; rfl
@[simp] theorem siz63 : szT Try.prog 63 = some 6 := by unfold szT; rw [show Try.prog.info? 63 = some Try.t63 from Try.type63]; rfl
@[simp ↓] theorem ty63 {q : Bool → Nat → Prop} : goTy Try.prog 63 q = q true 6 := by simp only [goTy, agg63, siz63]
@[simp ↓] theorem sz63 {q : Nat → Prop} : goSz Try.prog 63 q = q 6 := by simp only [goSz, siz63]
theorem zer63 : zero? Try.prog 63 = some
  (Go.Value.agg
    #[Go.Value.string { data := #[] }, Go.Value.int Go.IntKind.i64 0, Go.Value.int Go.IntKind.i64 0,
      Go.Value.string { data := #[] }, Go.Value.slice none 0 0, Go.Value.slice none 0 0]) := by unfold zero?; rw [show Try.prog.info? 63 = some Try.t63 from Try.type63]; rfl
@[simp ↓] theorem z63 {q : List Value → Prop} : goZ Try.prog 63 q = q [Go.Value.string { data := #[] }, Go.Value.int Go.IntKind.i64 0, Go.Value.int Go.IntKind.i64 0,
      Go.Value.string { data := #[] }, Go.Value.slice none 0 0, Go.Value.slice none 0 0] := by simp [goZ, zer63, Value.cells]
@[simp] theorem und63 : Try.prog.underlying 63 = some (Go.TypeDesc.struct
  #[{ name := "Name", type := 9, offset := 0, embedded := false, tag := "", pkgPath := "", byteOffset := 0 },
    { name := "Kind", type := 3, offset := 1, embedded := false, tag := "", pkgPath := "", byteOffset := 16 },
    { name := "Code", type := 3, offset := 2, embedded := false, tag := "", pkgPath := "", byteOffset := 24 },
    { name := "Text", type := 9, offset := 3, embedded := false, tag := "", pkgPath := "", byteOffset := 32 },
    { name := "Action", type := 61, offset := 4, embedded := false, tag := "", pkgPath := "", byteOffset := 48 },
    { name := "Links", type := 62, offset := 5, embedded := false, tag := "", pkgPath := "", byteOffset := 72 }]) := opq Try.underlying63
@[simp ↓] theorem fld63_0 {q : Nat → TypeId → Prop} : goFld Try.prog 63 0 q = q 0 9 := by simp only [goFld, und63]; rfl
@[simp ↓] theorem fld63_1 {q : Nat → TypeId → Prop} : goFld Try.prog 63 1 q = q 1 3 := by simp only [goFld, und63]; rfl
@[simp ↓] theorem fld63_2 {q : Nat → TypeId → Prop} : goFld Try.prog 63 2 q = q 2 3 := by simp only [goFld, und63]; rfl
@[simp ↓] theorem fld63_3 {q : Nat → TypeId → Prop} : goFld Try.prog 63 3 q = q 3 9 := by simp only [goFld, und63]; rfl
@[simp ↓] theorem fld63_4 {q : Nat → TypeId → Prop} : goFld Try.prog 63 4 q = q 4 61 := by simp only [goFld, und63]; rfl
@[simp ↓] theorem fld63_5 {q : Nat → TypeId → Prop} : goFld Try.prog 63 5 q = q 5 62 := by simp only [goFld, und63]; rfl
@[simp ↓] theorem bld63 {q : List Value → List (Nat × Nat) → Prop} : goBld Try.prog 63 q = q [Go.Value.string { data := #[] }, Go.Value.int Go.IntKind.i64 0, Go.Value.int Go.IntKind.i64 0,
      Go.Value.string { data := #[] }, Go.Value.slice none 0 0, Go.Value.slice none 0 0] [(0, 1), (1, 1), (2, 1), (3, 1), (4, 1), (5, 1)] := by simp [goBld, und63, zer63, placesL, Value.cells]
theorem agg64 : aggT Try.prog 64 = some true := by unfold aggT; rw [Try.underlying64]; rfl
@[simp] theorem siz64 : szT Try.prog 64 = some 6 := by unfold szT; rw [show Try.prog.info? 64 = some Try.t64 from Try.type64]; rfl
@[simp ↓] theorem ty64 {q : Bool → Nat → Prop} : goTy Try.prog 64 q = q true 6 := by simp only [goTy, agg64, siz64]
@[simp ↓] theorem sz64 {q : Nat → Prop} : goSz Try.prog 64 q = q 6 := by simp only [goSz, siz64]
theorem zer64 : zero? Try.prog 64 = some
  (Go.Value.agg
    #[Go.Value.string { data := #[] }, Go.Value.int Go.IntKind.i64 0, Go.Value.int Go.IntKind.i64 0,
      Go.Value.string { data := #[] }, Go.Value.slice none 0 0, Go.Value.slice none 0 0]) := by unfold zero?; rw [show Try.prog.info? 64 = some Try.t64 from Try.type64]; rfl
@[simp ↓] theorem z64 {q : List Value → Prop} : goZ Try.prog 64 q = q [Go.Value.string { data := #[] }, Go.Value.int Go.IntKind.i64 0, Go.Value.int Go.IntKind.i64 0,
      Go.Value.string { data := #[] }, Go.Value.slice none 0 0, Go.Value.slice none 0 0] := by simp [goZ, zer64, Value.cells]
@[simp] theorem und64 : Try.prog.underlying 64 = some (Go.TypeDesc.struct
  #[{ name := "Name", type := 9, offset := 0, embedded := false, tag := "", pkgPath := "", byteOffset := 0 },
    { name := "Kind", type := 3, offset := 1, embedded := false, tag := "", pkgPath := "", byteOffset := 16 },
    { name := "Code", type := 3, offset := 2, embedded := false, tag := "", pkgPath := "", byteOffset := 24 },
    { name := "Text", type := 9, offset := 3, embedded := false, tag := "", pkgPath := "", byteOffset := 32 },
    { name := "Action", type := 61, offset := 4, embedded := false, tag := "", pkgPath := "", byteOffset := 48 },
    { name := "Links", type := 62, offset := 5, embedded := false, tag := "", pkgPath := "", byteOffset := 72 }]) := opq Try.underlying64
@[simp ↓] theorem fld64_0 {q : Nat → TypeId → Prop} : goFld Try.prog 64 0 q = q 0 9 := by simp only [goFld, und64]; rfl
@[simp ↓] theorem fld64_1 {q : Nat → TypeId → Prop} : goFld Try.prog 64 1 q = q 1 3 := by simp only [goFld, und64]; rfl
@[simp ↓] theorem fld64_2 {q : Nat → TypeId → Prop} : goFld Try.prog 64 2 q = q 2 3 := by simp only [goFld, und64]; rfl
@[simp ↓] theorem fld64_3 {q : Nat → TypeId → Prop} : goFld Try.prog 64 3 q = q 3 9 := by simp only [goFld, und64]; rfl
@[simp ↓] theorem fld64_4 {q : Nat → TypeId → Prop} : goFld Try.prog 64 4 q = q 4 61 := by simp only [goFld, und64]; rfl
@[simp ↓] theorem fld64_5 {q : Nat → TypeId → Prop} : goFld Try.prog 64 5 q = q 5 62 := by simp only [goFld, und64]; rfl
@[simp ↓] theorem bld64 {q : List Value → List (Nat × Nat) → Prop} : goBld Try.prog 64 q = q [Go.Value.string { data := #[] }, Go.Value.int Go.IntKind.i64 0, Go.Value.int Go.IntKind.i64 0,
      Go.Value.string { data := #[] }, Go.Value.slice none 0 0, Go.Value.slice none 0 0] [(0, 1), (1, 1), (2, 1), (3, 1), (4, 1), (5, 1)] := by simp [goBld, und64, zer64, placesL, Value.cells]
theorem agg66 : aggT Try.prog 66 = some false := by unfold aggT; rw [Try.underlying66]; rfl
@[simp] theorem siz66 : szT Try.prog 66 = some 1 := by unfold szT; rw [show Try.prog.info? 66 = some Try.t66 from Try.type66]; rfl
@[simp ↓] theorem ty66 {q : Bool → Nat → Prop} : goTy Try.prog 66 q = q false 1 := by simp only [goTy, agg66, siz66]
@[simp ↓] theorem sz66 {q : Nat → Prop} : goSz Try.prog 66 q = q 1 := by simp only [goSz, siz66]
theorem zer66 : zero? Try.prog 66 = some Go.Value.nilFunc := by unfold zero?; rw [show Try.prog.info? 66 = some Try.t66 from Try.type66]; rfl
@[simp ↓] theorem z66 {q : List Value → Prop} : goZ Try.prog 66 q = q [Go.Value.nilFunc] := by simp [goZ, zer66, Value.cells]
theorem agg67 : aggT Try.prog 67 = some false := by unfold aggT; rw [Try.underlying67]; rfl
@[simp] theorem siz67 : szT Try.prog 67 = some 1 := by unfold szT; rw [show Try.prog.info? 67 = some Try.t67 from Try.type67]; rfl
@[simp ↓] theorem ty67 {q : Bool → Nat → Prop} : goTy Try.prog 67 q = q false 1 := by simp only [goTy, agg67, siz67]
@[simp ↓] theorem sz67 {q : Nat → Prop} : goSz Try.prog 67 q = q 1 := by simp only [goSz, siz67]
theorem zer67 : zero? Try.prog 67 = some Go.Value.nilFunc := by unfold zero?; rw [show Try.prog.info? 67 = some Try.t67 from Try.type67]; rfl
@[simp ↓] theorem z67 {q : List Value → Prop} : goZ Try.prog 67 q = q [Go.Value.nilFunc] := by simp [goZ, zer67, Value.cells]
theorem agg68 : aggT Try.prog 68 = some false := by unfold aggT; rw [Try.underlying68]; rfl
@[simp] theorem siz68 : szT Try.prog 68 = some 1 := by unfold szT; rw [show Try.prog.info? 68 = some Try.t68 from Try.type68]; rfl
@[simp ↓] theorem ty68 {q : Bool → Nat → Prop} : goTy Try.prog 68 q = q false 1 := by simp only [goTy, agg68, siz68]
@[simp ↓] theorem sz68 {q : Nat → Prop} : goSz Try.prog 68 q = q 1 := by simp only [goSz, siz68]
theorem zer68 : zero? Try.prog 68 = some Go.Value.nilFunc := by unfold zero?; rw [show Try.prog.info? 68 = some Try.t68 from Try.type68]; rfl
@[simp ↓] theorem z68 {q : List Value → Prop} : goZ Try.prog 68 q = q [Go.Value.nilFunc] := by simp [goZ, zer68, Value.cells]
theorem agg69 : aggT Try.prog 69 = some false := by unfold aggT; rw [Try.underlying69]; rfl
@[simp] theorem siz69 : szT Try.prog 69 = some 1 := by unfold szT; rw [show Try.prog.info? 69 = some Try.t69 from Try.type69]; rfl
@[simp ↓] theorem ty69 {q : Bool → Nat → Prop} : goTy Try.prog 69 q = q false 1 := by simp only [goTy, agg69, siz69]
@[simp ↓] theorem sz69 {q : Nat → Prop} : goSz Try.prog 69 q = q 1 := by simp only [goSz, siz69]
theorem zer69 : zero? Try.prog 69 = some Go.Value.nilFunc := by unfold zero?; rw [show Try.prog.info? 69 = some Try.t69 from Try.type69]; rfl
@[simp ↓] theorem z69 {q : List Value → Prop} : goZ Try.prog 69 q = q [Go.Value.nilFunc] := by simp [goZ, zer69, Value.cells]
theorem agg70 : aggT Try.prog 70 = some false := by unfold aggT; rw [Try.underlying70]; rfl
@[simp] theorem siz70 : szT Try.prog 70 = some 1 := by unfold szT; rw [show Try.prog.info? 70 = some Try.t70 from Try.type70]; rfl
@[simp ↓] theorem ty70 {q : Bool → Nat → Prop} : goTy Try.prog 70 q = q false 1 := by simp only [goTy, agg70, siz70]
@[simp ↓] theorem sz70 {q : Nat → Prop} : goSz Try.prog 70 q = q 1 := by simp only [goSz, siz70]
theorem zer70 : zero? Try.prog 70 = some Go.Value.nilFunc := by unfold zero?; rw [show Try.prog.info? 70 = some Try.t70 from Try.type70]; rfl
@[simp ↓] theorem z70 {q : List Value → Prop} : goZ Try.prog 70 q = q [Go.Value.nilFunc] := by simp [goZ, zer70, Value.cells]
theorem agg71 : aggT Try.prog 71 = some false := by unfold aggT; rw [Try.underlying71]; rfl
@[simp] theorem siz71 : szT Try.prog 71 = some 1 := by unfold szT; rw [show Try.prog.info? 71 = some Try.t71 from Try.type71]; rfl
@[simp ↓] theorem ty71 {q : Bool → Nat → Prop} : goTy Try.prog 71 q = q false 1 := by simp only [goTy, agg71, siz71]
@[simp ↓] theorem sz71 {q : Nat → Prop} : goSz Try.prog 71 q = q 1 := by simp only [goSz, siz71]
theorem zer71 : zero? Try.prog 71 = some Go.Value.nilFunc := by unfold zero?; rw [show Try.prog.info? 71 = some Try.t71 from Try.type71]; rfl
@[simp ↓] theorem z71 {q : List Value → Prop} : goZ Try.prog 71 q = q [Go.Value.nilFunc] := by simp [goZ, zer71, Value.cells]
theorem agg72 : aggT Try.prog 72 = some false := by unfold aggT; rw [Try.underlying72]; rfl
@[simp] theorem siz72 : szT Try.prog 72 = some 1 := by unfold szT; rw [show Try.prog.info? 72 = some Try.t72 from Try.type72]; rfl
@[simp ↓] theorem ty72 {q : Bool → Nat → Prop} : goTy Try.prog 72 q = q false 1 := by simp only [goTy, agg72, siz72]
@[simp ↓] theorem sz72 {q : Nat → Prop} : goSz Try.prog 72 q = q 1 := by simp only [goSz, siz72]
theorem zer72 : zero? Try.prog 72 = some (Go.Value.slice none 0 0) := by unfold zero?; rw [show Try.prog.info? 72 = some Try.t72 from Try.type72]; rfl
@[simp ↓] theorem z72 {q : List Value → Prop} : goZ Try.prog 72 q = q [(Go.Value.slice none 0 0)] := by simp [goZ, zer72, Value.cells]
@[simp] theorem und72 : Try.prog.underlying 72 = some (Go.TypeDesc.slice 5) := opq Try.underlying72
@[simp ↓] theorem un72 {q : TypeDesc → Prop} : goUnd Try.prog 72 q = q (Go.TypeDesc.slice 5) := by simp only [goUnd, und72]
theorem slt72 : SlT Try.prog 72 5 1 1 := ⟨Try.underlying72, ⟨Try.t5, _, Try.type5, rfl, rfl, rfl, by simp, rfl⟩, by decide⟩
@[simp ↓] theorem sl72 {q : TypeId → Nat → List Value → Prop} : goSl Try.prog 72 q = q 5 1 [(Go.Value.int Go.IntKind.u8 0)] := by simp [goSl, und72, show zero? Try.prog 5 = some (Go.Value.int Go.IntKind.u8 0) from by unfold zero?; rw [show Try.prog.info? 5 = some Try.t5 from Try.type5]; rfl, show szT Try.prog 5 = some 1 from by unfold szT; rw [show Try.prog.info? 5 = some Try.t5 from Try.type5]; rfl, Value.cells]
theorem agg73 : aggT Try.prog 73 = some false := by unfold aggT; rw [Try.underlying73]; rfl
@[simp] theorem siz73 : szT Try.prog 73 = some 1 := by unfold szT; rw [show Try.prog.info? 73 = some Try.t73 from Try.type73]; rfl
@[simp ↓] theorem ty73 {q : Bool → Nat → Prop} : goTy Try.prog 73 q = q false 1 := by simp only [goTy, agg73, siz73]
@[simp ↓] theorem sz73 {q : Nat → Prop} : goSz Try.prog 73 q = q 1 := by simp only [goSz, siz73]
theorem zer73 : zero? Try.prog 73 = some Go.Value.nilFunc := by unfold zero?; rw [show Try.prog.info? 73 = some Try.t73 from Try.type73]; rfl
@[simp ↓] theorem z73 {q : List Value → Prop} : goZ Try.prog 73 q = q [Go.Value.nilFunc] := by simp [goZ, zer73, Value.cells]
theorem agg74 : aggT Try.prog 74 = some false := by unfold aggT; rw [Try.underlying74]; rfl
@[simp] theorem siz74 : szT Try.prog 74 = some 1 := by unfold szT; rw [show Try.prog.info? 74 = some Try.t74 from Try.type74]; rfl
@[simp ↓] theorem ty74 {q : Bool → Nat → Prop} : goTy Try.prog 74 q = q false 1 := by simp only [goTy, agg74, siz74]
@[simp ↓] theorem sz74 {q : Nat → Prop} : goSz Try.prog 74 q = q 1 := by simp only [goSz, siz74]
theorem zer74 : zero? Try.prog 74 = some Go.Value.nilFunc := by unfold zero?; rw [show Try.prog.info? 74 = some Try.t74 from Try.type74]; rfl
@[simp ↓] theorem z74 {q : List Value → Prop} : goZ Try.prog 74 q = q [Go.Value.nilFunc] := by simp [goZ, zer74, Value.cells]
theorem agg75 : aggT Try.prog 75 = some false := by unfold aggT; rw [Try.underlying75]; rfl
@[simp] theorem siz75 : szT Try.prog 75 = some 1 := by unfold szT; rw [show Try.prog.info? 75 = some Try.t75 from Try.type75]; rfl
@[simp ↓] theorem ty75 {q : Bool → Nat → Prop} : goTy Try.prog 75 q = q false 1 := by simp only [goTy, agg75, siz75]
@[simp ↓] theorem sz75 {q : Nat → Prop} : goSz Try.prog 75 q = q 1 := by simp only [goSz, siz75]
theorem zer75 : zero? Try.prog 75 = some Go.Value.nilFunc := by unfold zero?; rw [show Try.prog.info? 75 = some Try.t75 from Try.type75]; rfl
@[simp ↓] theorem z75 {q : List Value → Prop} : goZ Try.prog 75 q = q [Go.Value.nilFunc] := by simp [goZ, zer75, Value.cells]
theorem agg76 : aggT Try.prog 76 = some false := by unfold aggT; rw [Try.underlying76]; rfl
@[simp] theorem siz76 : szT Try.prog 76 = some 1 := by unfold szT; rw [show Try.prog.info? 76 = some Try.t76 from Try.type76]; rfl
@[simp ↓] theorem ty76 {q : Bool → Nat → Prop} : goTy Try.prog 76 q = q false 1 := by simp only [goTy, agg76, siz76]
@[simp ↓] theorem sz76 {q : Nat → Prop} : goSz Try.prog 76 q = q 1 := by simp only [goSz, siz76]
theorem zer76 : zero? Try.prog 76 = some (Go.Value.pointer none) := by unfold zero?; rw [show Try.prog.info? 76 = some Try.t76 from Try.type76]; rfl
@[simp ↓] theorem z76 {q : List Value → Prop} : goZ Try.prog 76 q = q [(Go.Value.pointer none)] := by simp [goZ, zer76, Value.cells]
@[simp] theorem und76 : Try.prog.underlying 76 = some (Go.TypeDesc.pointer 80) := opq Try.underlying76
@[simp ↓] theorem un76 {q : TypeDesc → Prop} : goUnd Try.prog 76 q = q (Go.TypeDesc.pointer 80) := by simp only [goUnd, und76]
theorem agg77 : aggT Try.prog 77 = some false := by unfold aggT; rw [Try.underlying77]; rfl
@[simp] theorem siz77 : szT Try.prog 77 = some 1 := by unfold szT; rw [show Try.prog.info? 77 = some Try.t77 from Try.type77]; rfl
@[simp ↓] theorem ty77 {q : Bool → Nat → Prop} : goTy Try.prog 77 q = q false 1 := by simp only [goTy, agg77, siz77]
@[simp ↓] theorem sz77 {q : Nat → Prop} : goSz Try.prog 77 q = q 1 := by simp only [goSz, siz77]
theorem zer77 : zero? Try.prog 77 = some Go.Value.nilFunc := by unfold zero?; rw [show Try.prog.info? 77 = some Try.t77 from Try.type77]; rfl
@[simp ↓] theorem z77 {q : List Value → Prop} : goZ Try.prog 77 q = q [Go.Value.nilFunc] := by simp [goZ, zer77, Value.cells]
theorem agg78 : aggT Try.prog 78 = some false := by unfold aggT; rw [Try.underlying78]; rfl
@[simp] theorem siz78 : szT Try.prog 78 = some 1 := by unfold szT; rw [show Try.prog.info? 78 = some Try.t78 from Try.type78]; rfl
@[simp ↓] theorem ty78 {q : Bool → Nat → Prop} : goTy Try.prog 78 q = q false 1 := by simp only [goTy, agg78, siz78]
@[simp ↓] theorem sz78 {q : Nat → Prop} : goSz Try.prog 78 q = q 1 := by simp only [goSz, siz78]
theorem zer78 : zero? Try.prog 78 = some (Go.Value.slice none 0 0) := by unfold zero?; rw [show Try.prog.info? 78 = some Try.t78 from Try.type78]; rfl
@[simp ↓] theorem z78 {q : List Value → Prop} : goZ Try.prog 78 q = q [(Go.Value.slice none 0 0)] := by simp [goZ, zer78, Value.cells]
@[simp] theorem und78 : Try.prog.underlying 78 = some (Go.TypeDesc.slice 3) := opq Try.underlying78
@[simp ↓] theorem un78 {q : TypeDesc → Prop} : goUnd Try.prog 78 q = q (Go.TypeDesc.slice 3) := by simp only [goUnd, und78]
theorem slt78 : SlT Try.prog 78 3 1 8 := ⟨Try.underlying78, ⟨Try.t3, _, Try.type3, rfl, rfl, rfl, by simp, rfl⟩, by decide⟩
@[simp ↓] theorem sl78 {q : TypeId → Nat → List Value → Prop} : goSl Try.prog 78 q = q 3 1 [(Go.Value.int Go.IntKind.i64 0)] := by simp [goSl, und78, show zero? Try.prog 3 = some (Go.Value.int Go.IntKind.i64 0) from by unfold zero?; rw [show Try.prog.info? 3 = some Try.t3 from Try.type3]; rfl, show szT Try.prog 3 = some 1 from by unfold szT; rw [show Try.prog.info? 3 = some Try.t3 from Try.type3]; rfl, Value.cells]
theorem agg79 : aggT Try.prog 79 = some true := by unfold aggT; rw [Try.underlying79]; rfl
@[simp] theorem siz79 : szT Try.prog 79 = some 4 := by unfold szT; rw [show Try.prog.info? 79 = some Try.t79 from Try.type79]; rfl
@[simp ↓] theorem ty79 {q : Bool → Nat → Prop} : goTy Try.prog 79 q = q true 4 := by simp only [goTy, agg79, siz79]
@[simp ↓] theorem sz79 {q : Nat → Prop} : goSz Try.prog 79 q = q 4 := by simp only [goSz, siz79]
theorem zer79 : zero? Try.prog 79 = some
  (Go.Value.agg
    #[Go.Value.slice none 0 0, Go.Value.slice none 0 0, Go.Value.slice none 0 0, Go.Value.int Go.IntKind.i64 0]) := by unfold zero?; rw [show Try.prog.info? 79 = some Try.t79 from Try.type79]; rfl
@[simp ↓] theorem z79 {q : List Value → Prop} : goZ Try.prog 79 q = q [Go.Value.slice none 0 0, Go.Value.slice none 0 0, Go.Value.slice none 0 0, Go.Value.int Go.IntKind.i64 0] := by simp [goZ, zer79, Value.cells]
@[simp] theorem und79 : Try.prog.underlying 79 = some (Go.TypeDesc.struct
  #[{ name := "a", type := 30, offset := 0, embedded := false, tag := "", pkgPath := "loop.example/kilndeed/spec",
      byteOffset := 0 },
    { name := "listed", type := 57, offset := 1, embedded := false, tag := "", pkgPath := "loop.example/kilndeed/spec",
      byteOffset := 24 },
    { name := "order", type := 78, offset := 2, embedded := false, tag := "", pkgPath := "loop.example/kilndeed/spec",
      byteOffset := 48 },
    { name := "deep", type := 3, offset := 3, embedded := false, tag := "", pkgPath := "loop.example/kilndeed/spec",
      byteOffset := 72 }]) := opq Try.underlying79
@[simp ↓] theorem fld79_0 {q : Nat → TypeId → Prop} : goFld Try.prog 79 0 q = q 0 30 := by simp only [goFld, und79]; rfl
@[simp ↓] theorem fld79_1 {q : Nat → TypeId → Prop} : goFld Try.prog 79 1 q = q 1 57 := by simp only [goFld, und79]; rfl
@[simp ↓] theorem fld79_2 {q : Nat → TypeId → Prop} : goFld Try.prog 79 2 q = q 2 78 := by simp only [goFld, und79]; rfl
@[simp ↓] theorem fld79_3 {q : Nat → TypeId → Prop} : goFld Try.prog 79 3 q = q 3 3 := by simp only [goFld, und79]; rfl
@[simp ↓] theorem bld79 {q : List Value → List (Nat × Nat) → Prop} : goBld Try.prog 79 q = q [Go.Value.slice none 0 0, Go.Value.slice none 0 0, Go.Value.slice none 0 0, Go.Value.int Go.IntKind.i64 0] [(0, 1), (1, 1), (2, 1), (3, 1)] := by simp [goBld, und79, zer79, placesL, Value.cells]
theorem agg80 : aggT Try.prog 80 = some true := by unfold aggT; rw [Try.underlying80]; rfl
@[simp] theorem siz80 : szT Try.prog 80 = some 4 := by unfold szT; rw [show Try.prog.info? 80 = some Try.t80 from Try.type80]; rfl
@[simp ↓] theorem ty80 {q : Bool → Nat → Prop} : goTy Try.prog 80 q = q true 4 := by simp only [goTy, agg80, siz80]
@[simp ↓] theorem sz80 {q : Nat → Prop} : goSz Try.prog 80 q = q 4 := by simp only [goSz, siz80]
theorem zer80 : zero? Try.prog 80 = some
  (Go.Value.agg
    #[Go.Value.slice none 0 0, Go.Value.slice none 0 0, Go.Value.slice none 0 0, Go.Value.int Go.IntKind.i64 0]) := by unfold zero?; rw [show Try.prog.info? 80 = some Try.t80 from Try.type80]; rfl
@[simp ↓] theorem z80 {q : List Value → Prop} : goZ Try.prog 80 q = q [Go.Value.slice none 0 0, Go.Value.slice none 0 0, Go.Value.slice none 0 0, Go.Value.int Go.IntKind.i64 0] := by simp [goZ, zer80, Value.cells]
@[simp] theorem und80 : Try.prog.underlying 80 = some (Go.TypeDesc.struct
  #[{ name := "a", type := 30, offset := 0, embedded := false, tag := "", pkgPath := "loop.example/kilndeed/spec",
      byteOffset := 0 },
    { name := "listed", type := 57, offset := 1, embedded := false, tag := "", pkgPath := "loop.example/kilndeed/spec",
      byteOffset := 24 },
    { name := "order", type := 78, offset := 2, embedded := false, tag := "", pkgPath := "loop.example/kilndeed/spec",
      byteOffset := 48 },
    { name := "deep", type := 3, offset := 3, embedded := false, tag := "", pkgPath := "loop.example/kilndeed/spec",
      byteOffset := 72 }]) := opq Try.underlying80
@[simp ↓] theorem fld80_0 {q : Nat → TypeId → Prop} : goFld Try.prog 80 0 q = q 0 30 := by simp only [goFld, und80]; rfl
@[simp ↓] theorem fld80_1 {q : Nat → TypeId → Prop} : goFld Try.prog 80 1 q = q 1 57 := by simp only [goFld, und80]; rfl
@[simp ↓] theorem fld80_2 {q : Nat → TypeId → Prop} : goFld Try.prog 80 2 q = q 2 78 := by simp only [goFld, und80]; rfl
@[simp ↓] theorem fld80_3 {q : Nat → TypeId → Prop} : goFld Try.prog 80 3 q = q 3 3 := by simp only [goFld, und80]; rfl
@[simp ↓] theorem bld80 {q : List Value → List (Nat × Nat) → Prop} : goBld Try.prog 80 q = q [Go.Value.slice none 0 0, Go.Value.slice none 0 0, Go.Value.slice none 0 0, Go.Value.int Go.IntKind.i64 0] [(0, 1), (1, 1), (2, 1), (3, 1)] := by simp [goBld, und80, zer80, placesL, Value.cells]
theorem agg81 : aggT Try.prog 81 = some false := by unfold aggT; rw [Try.underlying81]; rfl
@[simp] theorem siz81 : szT Try.prog 81 = some 1 := by unfold szT; rw [show Try.prog.info? 81 = some Try.t81 from Try.type81]; rfl
@[simp ↓] theorem ty81 {q : Bool → Nat → Prop} : goTy Try.prog 81 q = q false 1 := by simp only [goTy, agg81, siz81]
@[simp ↓] theorem sz81 {q : Nat → Prop} : goSz Try.prog 81 q = q 1 := by simp only [goSz, siz81]
theorem zer81 : zero? Try.prog 81 = some Go.Value.nilFunc := by unfold zero?; rw [show Try.prog.info? 81 = some Try.t81 from Try.type81]; rfl
@[simp ↓] theorem z81 {q : List Value → Prop} : goZ Try.prog 81 q = q [Go.Value.nilFunc] := by simp [goZ, zer81, Value.cells]
theorem agg82 : aggT Try.prog 82 = some false := by unfold aggT; rw [Try.underlying82]; rfl
@[simp] theorem siz82 : szT Try.prog 82 = some 1 := by unfold szT; rw [show Try.prog.info? 82 = some Try.t82 from Try.type82]; rfl
@[simp ↓] theorem ty82 {q : Bool → Nat → Prop} : goTy Try.prog 82 q = q false 1 := by simp only [goTy, agg82, siz82]
@[simp ↓] theorem sz82 {q : Nat → Prop} : goSz Try.prog 82 q = q 1 := by simp only [goSz, siz82]
theorem zer82 : zero? Try.prog 82 = some Go.Value.nilFunc := by unfold zero?; rw [show Try.prog.info? 82 = some Try.t82 from Try.type82]; rfl
@[simp ↓] theorem z82 {q : List Value → Prop} : goZ Try.prog 82 q = q [Go.Value.nilFunc] := by simp [goZ, zer82, Value.cells]
theorem agg83 : aggT Try.prog 83 = some false := by unfold aggT; rw [Try.underlying83]; rfl
@[simp] theorem siz83 : szT Try.prog 83 = some 1 := by unfold szT; rw [show Try.prog.info? 83 = some Try.t83 from Try.type83]; rfl
@[simp ↓] theorem ty83 {q : Bool → Nat → Prop} : goTy Try.prog 83 q = q false 1 := by simp only [goTy, agg83, siz83]
@[simp ↓] theorem sz83 {q : Nat → Prop} : goSz Try.prog 83 q = q 1 := by simp only [goSz, siz83]
theorem zer83 : zero? Try.prog 83 = some Go.Value.nilFunc := by unfold zero?; rw [show Try.prog.info? 83 = some Try.t83 from Try.type83]; rfl
@[simp ↓] theorem z83 {q : List Value → Prop} : goZ Try.prog 83 q = q [Go.Value.nilFunc] := by simp [goZ, zer83, Value.cells]
theorem agg84 : aggT Try.prog 84 = some false := by unfold aggT; rw [Try.underlying84]; rfl
@[simp] theorem siz84 : szT Try.prog 84 = some 1 := by unfold szT; rw [show Try.prog.info? 84 = some Try.t84 from Try.type84]; rfl
@[simp ↓] theorem ty84 {q : Bool → Nat → Prop} : goTy Try.prog 84 q = q false 1 := by simp only [goTy, agg84, siz84]
@[simp ↓] theorem sz84 {q : Nat → Prop} : goSz Try.prog 84 q = q 1 := by simp only [goSz, siz84]
theorem zer84 : zero? Try.prog 84 = some (Go.Value.map none) := by unfold zero?; rw [show Try.prog.info? 84 = some Try.t84 from Try.type84]; rfl
@[simp ↓] theorem z84 {q : List Value → Prop} : goZ Try.prog 84 q = q [(Go.Value.map none)] := by simp [goZ, zer84, Value.cells]
@[simp] theorem und84 : Try.prog.underlying 84 = some (Go.TypeDesc.map 3 3) := opq Try.underlying84
@[simp ↓] theorem un84 {q : TypeDesc → Prop} : goUnd Try.prog 84 q = q (Go.TypeDesc.map 3 3) := by simp only [goUnd, und84]
theorem agg86 : aggT Try.prog 86 = some false := by unfold aggT; rw [Try.underlying86]; rfl
@[simp] theorem siz86 : szT Try.prog 86 = some 1 := by unfold szT; rw [show Try.prog.info? 86 = some Try.t86 from Try.type86]; rfl
@[simp ↓] theorem ty86 {q : Bool → Nat → Prop} : goTy Try.prog 86 q = q false 1 := by simp only [goTy, agg86, siz86]
@[simp ↓] theorem sz86 {q : Nat → Prop} : goSz Try.prog 86 q = q 1 := by simp only [goSz, siz86]
theorem zer86 : zero? Try.prog 86 = some Go.Value.nilFunc := by unfold zero?; rw [show Try.prog.info? 86 = some Try.t86 from Try.type86]; rfl
@[simp ↓] theorem z86 {q : List Value → Prop} : goZ Try.prog 86 q = q [Go.Value.nilFunc] := by simp [goZ, zer86, Value.cells]
theorem agg87 : aggT Try.prog 87 = some false := by unfold aggT; rw [Try.underlying87]; rfl
@[simp] theorem siz87 : szT Try.prog 87 = some 1 := by unfold szT; rw [show Try.prog.info? 87 = some Try.t87 from Try.type87]; rfl
@[simp ↓] theorem ty87 {q : Bool → Nat → Prop} : goTy Try.prog 87 q = q false 1 := by simp only [goTy, agg87, siz87]
@[simp ↓] theorem sz87 {q : Nat → Prop} : goSz Try.prog 87 q = q 1 := by simp only [goSz, siz87]
theorem zer87 : zero? Try.prog 87 = some Go.Value.nilFunc := by unfold zero?; rw [show Try.prog.info? 87 = some Try.t87 from Try.type87]; rfl
@[simp ↓] theorem z87 {q : List Value → Prop} : goZ Try.prog 87 q = q [Go.Value.nilFunc] := by simp [goZ, zer87, Value.cells]
theorem agg88 : aggT Try.prog 88 = some false := by unfold aggT; rw [Try.underlying88]; rfl
@[simp] theorem siz88 : szT Try.prog 88 = some 1 := by unfold szT; rw [show Try.prog.info? 88 = some Try.t88 from Try.type88]; rfl
@[simp ↓] theorem ty88 {q : Bool → Nat → Prop} : goTy Try.prog 88 q = q false 1 := by simp only [goTy, agg88, siz88]
@[simp ↓] theorem sz88 {q : Nat → Prop} : goSz Try.prog 88 q = q 1 := by simp only [goSz, siz88]
theorem zer88 : zero? Try.prog 88 = some Go.Value.nilFunc := by unfold zero?; rw [show Try.prog.info? 88 = some Try.t88 from Try.type88]; rfl
@[simp ↓] theorem z88 {q : List Value → Prop} : goZ Try.prog 88 q = q [Go.Value.nilFunc] := by simp [goZ, zer88, Value.cells]
theorem agg89 : aggT Try.prog 89 = some false := by unfold aggT; rw [Try.underlying89]; rfl
@[simp] theorem siz89 : szT Try.prog 89 = some 1 := by unfold szT; rw [show Try.prog.info? 89 = some Try.t89 from Try.type89]; rfl
@[simp ↓] theorem ty89 {q : Bool → Nat → Prop} : goTy Try.prog 89 q = q false 1 := by simp only [goTy, agg89, siz89]
@[simp ↓] theorem sz89 {q : Nat → Prop} : goSz Try.prog 89 q = q 1 := by simp only [goSz, siz89]
theorem zer89 : zero? Try.prog 89 = some (Go.Value.int Go.IntKind.u64 0) := by unfold zero?; rw [show Try.prog.info? 89 = some Try.t89 from Try.type89]; rfl
@[simp ↓] theorem z89 {q : List Value → Prop} : goZ Try.prog 89 q = q [(Go.Value.int Go.IntKind.u64 0)] := by simp [goZ, zer89, Value.cells]
@[simp] theorem und89 : Try.prog.underlying 89 = some (Go.TypeDesc.int Go.IntKind.u64) := opq Try.underlying89
@[simp ↓] theorem un89 {q : TypeDesc → Prop} : goUnd Try.prog 89 q = q (Go.TypeDesc.int Go.IntKind.u64) := by simp only [goUnd, und89]
theorem agg90 : aggT Try.prog 90 = some false := by unfold aggT; rw [Try.underlying90]; rfl
@[simp] theorem siz90 : szT Try.prog 90 = some 1 := by unfold szT; rw [show Try.prog.info? 90 = some Try.t90 from Try.type90]; rfl
@[simp ↓] theorem ty90 {q : Bool → Nat → Prop} : goTy Try.prog 90 q = q false 1 := by simp only [goTy, agg90, siz90]
@[simp ↓] theorem sz90 {q : Nat → Prop} : goSz Try.prog 90 q = q 1 := by simp only [goSz, siz90]
theorem zer90 : zero? Try.prog 90 = some Go.Value.nilFunc := by unfold zero?; rw [show Try.prog.info? 90 = some Try.t90 from Try.type90]; rfl
@[simp ↓] theorem z90 {q : List Value → Prop} : goZ Try.prog 90 q = q [Go.Value.nilFunc] := by simp [goZ, zer90, Value.cells]
theorem agg91 : aggT Try.prog 91 = some false := by unfold aggT; rw [Try.underlying91]; rfl
@[simp] theorem siz91 : szT Try.prog 91 = some 1 := by unfold szT; rw [show Try.prog.info? 91 = some Try.t91 from Try.type91]; rfl
@[simp ↓] theorem ty91 {q : Bool → Nat → Prop} : goTy Try.prog 91 q = q false 1 := by simp only [goTy, agg91, siz91]
@[simp ↓] theorem sz91 {q : Nat → Prop} : goSz Try.prog 91 q = q 1 := by simp only [goSz, siz91]
theorem zer91 : zero? Try.prog 91 = some Go.Value.nilFunc := by unfold zero?; rw [show Try.prog.info? 91 = some Try.t91 from Try.type91]; rfl
@[simp ↓] theorem z91 {q : List Value → Prop} : goZ Try.prog 91 q = q [Go.Value.nilFunc] := by simp [goZ, zer91, Value.cells]
theorem agg92 : aggT Try.prog 92 = some true := by unfold aggT; rw [Try.underlying92]; rfl
@[simp] theorem siz92 : szT Try.prog 92 = some 3 := by unfold szT; rw [show Try.prog.info? 92 = some Try.t92 from Try.type92]; rfl
@[simp ↓] theorem ty92 {q : Bool → Nat → Prop} : goTy Try.prog 92 q = q true 3 := by simp only [goTy, agg92, siz92]
@[simp ↓] theorem sz92 {q : Nat → Prop} : goSz Try.prog 92 q = q 3 := by simp only [goSz, siz92]
theorem zer92 : zero? Try.prog 92 = some (Go.Value.agg #[Go.Value.int Go.IntKind.i64 0, Go.Value.string { data := #[] }, Go.Value.int Go.IntKind.i64 0]) := by unfold zero?; rw [show Try.prog.info? 92 = some Try.t92 from Try.type92]; rfl
@[simp ↓] theorem z92 {q : List Value → Prop} : goZ Try.prog 92 q = q [Go.Value.int Go.IntKind.i64 0, Go.Value.string { data := #[] }, Go.Value.int Go.IntKind.i64 0] := by simp [goZ, zer92, Value.cells]
@[simp] theorem und92 : Try.prog.underlying 92 = some (Go.TypeDesc.struct
  #[{ name := "Op", type := 3, offset := 0, embedded := false, tag := "", pkgPath := "", byteOffset := 0 },
    { name := "Text", type := 9, offset := 1, embedded := false, tag := "", pkgPath := "", byteOffset := 8 },
    { name := "N", type := 3, offset := 2, embedded := false, tag := "", pkgPath := "", byteOffset := 24 }]) := opq Try.underlying92
@[simp ↓] theorem fld92_0 {q : Nat → TypeId → Prop} : goFld Try.prog 92 0 q = q 0 3 := by simp only [goFld, und92]; rfl
@[simp ↓] theorem fld92_1 {q : Nat → TypeId → Prop} : goFld Try.prog 92 1 q = q 1 9 := by simp only [goFld, und92]; rfl
@[simp ↓] theorem fld92_2 {q : Nat → TypeId → Prop} : goFld Try.prog 92 2 q = q 2 3 := by simp only [goFld, und92]; rfl
@[simp ↓] theorem bld92 {q : List Value → List (Nat × Nat) → Prop} : goBld Try.prog 92 q = q [Go.Value.int Go.IntKind.i64 0, Go.Value.string { data := #[] }, Go.Value.int Go.IntKind.i64 0] [(0, 1), (1, 1), (2, 1)] := by simp [goBld, und92, zer92, placesL, Value.cells]
theorem agg93 : aggT Try.prog 93 = some true := by unfold aggT; rw [Try.underlying93]; rfl
@[simp] theorem siz93 : szT Try.prog 93 = some 3 := by unfold szT; rw [show Try.prog.info? 93 = some Try.t93 from Try.type93]; rfl
@[simp ↓] theorem ty93 {q : Bool → Nat → Prop} : goTy Try.prog 93 q = q true 3 := by simp only [goTy, agg93, siz93]
@[simp ↓] theorem sz93 {q : Nat → Prop} : goSz Try.prog 93 q = q 3 := by simp only [goSz, siz93]
theorem zer93 : zero? Try.prog 93 = some (Go.Value.agg #[Go.Value.int Go.IntKind.i64 0, Go.Value.string { data := #[] }, Go.Value.int Go.IntKind.i64 0]) := by unfold zero?; rw [show Try.prog.info? 93 = some Try.t93 from Try.type93]; rfl
@[simp ↓] theorem z93 {q : List Value → Prop} : goZ Try.prog 93 q = q [Go.Value.int Go.IntKind.i64 0, Go.Value.string { data := #[] }, Go.Value.int Go.IntKind.i64 0] := by simp [goZ, zer93, Value.cells]
@[simp] theorem und93 : Try.prog.underlying 93 = some (Go.TypeDesc.struct
  #[{ name := "Op", type := 3, offset := 0, embedded := false, tag := "", pkgPath := "", byteOffset := 0 },
    { name := "Text", type := 9, offset := 1, embedded := false, tag := "", pkgPath := "", byteOffset := 8 },
    { name := "N", type := 3, offset := 2, embedded := false, tag := "", pkgPath := "", byteOffset := 24 }]) := opq Try.underlying93
@[simp ↓] theorem fld93_0 {q : Nat → TypeId → Prop} : goFld Try.prog 93 0 q = q 0 3 := by simp only [goFld, und93]; rfl
@[simp ↓] theorem fld93_1 {q : Nat → TypeId → Prop} : goFld Try.prog 93 1 q = q 1 9 := by simp only [goFld, und93]; rfl
@[simp ↓] theorem fld93_2 {q : Nat → TypeId → Prop} : goFld Try.prog 93 2 q = q 2 3 := by simp only [goFld, und93]; rfl
@[simp ↓] theorem bld93 {q : List Value → List (Nat × Nat) → Prop} : goBld Try.prog 93 q = q [Go.Value.int Go.IntKind.i64 0, Go.Value.string { data := #[] }, Go.Value.int Go.IntKind.i64 0] [(0, 1), (1, 1), (2, 1)] := by simp [goBld, und93, zer93, placesL, Value.cells]
theorem agg94 : aggT Try.prog 94 = some false := by unfold aggT; rw [Try.underlying94]; rfl
@[simp] theorem siz94 : szT Try.prog 94 = some 1 := by unfold szT; rw [show Try.prog.info? 94 = some Try.t94 from Try.type94]; rfl
@[simp ↓] theorem ty94 {q : Bool → Nat → Prop} : goTy Try.prog 94 q = q false 1 := by simp only [goTy, agg94, siz94]
@[simp ↓] theorem sz94 {q : Nat → Prop} : goSz Try.prog 94 q = q 1 := by simp only [goSz, siz94]
theorem zer94 : zero? Try.prog 94 = some Go.Value.nilFunc := by unfold zero?; rw [show Try.prog.info? 94 = some Try.t94 from Try.type94]; rfl
@[simp ↓] theorem z94 {q : List Value → Prop} : goZ Try.prog 94 q = q [Go.Value.nilFunc] := by simp [goZ, zer94, Value.cells]
theorem agg95 : aggT Try.prog 95 = some false := by unfold aggT; rw [Try.underlying95]; rfl
@[simp] theorem siz95 : szT Try.prog 95 = some 1 := by unfold szT; rw [show Try.prog.info? 95 = some Try.t95 from Try.type95]; rfl
@[simp ↓] theorem ty95 {q : Bool → Nat → Prop} : goTy Try.prog 95 q = q false 1 := by simp only [goTy, agg95, siz95]
@[simp ↓] theorem sz95 {q : Nat → Prop} : goSz Try.prog 95 q = q 1 := by simp only [goSz, siz95]
theorem zer95 : zero? Try.prog 95 = some Go.Value.nilFunc := by unfold zero?; rw [show Try.prog.info? 95 = some Try.t95 from Try.type95]; rfl
@[simp ↓] theorem z95 {q : List Value → Prop} : goZ Try.prog 95 q = q [Go.Value.nilFunc] := by simp [goZ, zer95, Value.cells]
theorem agg96 : aggT Try.prog 96 = some true := by unfold aggT; rw [Try.underlying96]; rfl
@[simp] theorem siz96 : szT Try.prog 96 = some 4 := by unfold szT; rw [show Try.prog.info? 96 = some Try.t96 from Try.type96]; rfl
@[simp ↓] theorem ty96 {q : Bool → Nat → Prop} : goTy Try.prog 96 q = q true 4 := by simp only [goTy, agg96, siz96]
@[simp ↓] theorem sz96 {q : Nat → Prop} : goSz Try.prog 96 q = q 4 := by simp only [goSz, siz96]
theorem zer96 : zero? Try.prog 96 = some
  (Go.Value.agg
    #[Go.Value.string { data := #[] }, Go.Value.bool false, Go.Value.bool false, Go.Value.int Go.IntKind.i64 0]) := by unfold zero?; rw [show Try.prog.info? 96 = some Try.t96 from Try.type96]; rfl
@[simp ↓] theorem z96 {q : List Value → Prop} : goZ Try.prog 96 q = q [Go.Value.string { data := #[] }, Go.Value.bool false, Go.Value.bool false, Go.Value.int Go.IntKind.i64 0] := by simp [goZ, zer96, Value.cells]
@[simp] theorem und96 : Try.prog.underlying 96 = some (Go.TypeDesc.struct
  #[{ name := "Name", type := 9, offset := 0, embedded := false, tag := "", pkgPath := "", byteOffset := 0 },
    { name := "Ask", type := 4, offset := 1, embedded := false, tag := "", pkgPath := "", byteOffset := 16 },
    { name := "Has", type := 4, offset := 2, embedded := false, tag := "", pkgPath := "", byteOffset := 17 },
    { name := "At", type := 3, offset := 3, embedded := false, tag := "", pkgPath := "", byteOffset := 24 }]) := opq Try.underlying96
@[simp ↓] theorem fld96_0 {q : Nat → TypeId → Prop} : goFld Try.prog 96 0 q = q 0 9 := by simp only [goFld, und96]; rfl
@[simp ↓] theorem fld96_1 {q : Nat → TypeId → Prop} : goFld Try.prog 96 1 q = q 1 4 := by simp only [goFld, und96]; rfl
@[simp ↓] theorem fld96_2 {q : Nat → TypeId → Prop} : goFld Try.prog 96 2 q = q 2 4 := by simp only [goFld, und96]; rfl
@[simp ↓] theorem fld96_3 {q : Nat → TypeId → Prop} : goFld Try.prog 96 3 q = q 3 3 := by simp only [goFld, und96]; rfl
@[simp ↓] theorem bld96 {q : List Value → List (Nat × Nat) → Prop} : goBld Try.prog 96 q = q [Go.Value.string { data := #[] }, Go.Value.bool false, Go.Value.bool false, Go.Value.int Go.IntKind.i64 0] [(0, 1), (1, 1), (2, 1), (3, 1)] := by simp [goBld, und96, zer96, placesL, Value.cells]
theorem agg97 : aggT Try.prog 97 = some false := by unfold aggT; rw [Try.underlying97]; rfl
@[simp] theorem siz97 : szT Try.prog 97 = some 1 := by unfold szT; rw [show Try.prog.info? 97 = some Try.t97 from Try.type97]; rfl
@[simp ↓] theorem ty97 {q : Bool → Nat → Prop} : goTy Try.prog 97 q = q false 1 := by simp only [goTy, agg97, siz97]
@[simp ↓] theorem sz97 {q : Nat → Prop} : goSz Try.prog 97 q = q 1 := by simp only [goSz, siz97]
theorem zer97 : zero? Try.prog 97 = some Go.Value.nilFunc := by unfold zero?; rw [show Try.prog.info? 97 = some Try.t97 from Try.type97]; rfl
@[simp ↓] theorem z97 {q : List Value → Prop} : goZ Try.prog 97 q = q [Go.Value.nilFunc] := by simp [goZ, zer97, Value.cells]
theorem agg98 : aggT Try.prog 98 = some false := by unfold aggT; rw [Try.underlying98]; rfl
@[simp] theorem siz98 : szT Try.prog 98 = some 1 := by unfold szT; rw [show Try.prog.info? 98 = some Try.t98 from Try.type98]; rfl
@[simp ↓] theorem ty98 {q : Bool → Nat → Prop} : goTy Try.prog 98 q = q false 1 := by simp only [goTy, agg98, siz98]
@[simp ↓] theorem sz98 {q : Nat → Prop} : goSz Try.prog 98 q = q 1 := by simp only [goSz, siz98]
theorem zer98 : zero? Try.prog 98 = some Go.Value.nilFunc := by unfold zero?; rw [show Try.prog.info? 98 = some Try.t98 from Try.type98]; rfl
@[simp ↓] theorem z98 {q : List Value → Prop} : goZ Try.prog 98 q = q [Go.Value.nilFunc] := by simp [goZ, zer98, Value.cells]
theorem agg99 : aggT Try.prog 99 = some false := by unfold aggT; rw [Try.underlying99]; rfl
@[simp] theorem siz99 : szT Try.prog 99 = some 1 := by unfold szT; rw [show Try.prog.info? 99 = some Try.t99 from Try.type99]; rfl
@[simp ↓] theorem ty99 {q : Bool → Nat → Prop} : goTy Try.prog 99 q = q false 1 := by simp only [goTy, agg99, siz99]
@[simp ↓] theorem sz99 {q : Nat → Prop} : goSz Try.prog 99 q = q 1 := by simp only [goSz, siz99]
theorem zer99 : zero? Try.prog 99 = some Go.Value.nilFunc := by unfold zero?; rw [show Try.prog.info? 99 = some Try.t99 from Try.type99]; rfl
@[simp ↓] theorem z99 {q : List Value → Prop} : goZ Try.prog 99 q = q [Go.Value.nilFunc] := by simp [goZ, zer99, Value.cells]
theorem agg100 : aggT Try.prog 100 = some false := by unfold aggT; rw [Try.underlying100]; rfl
@[simp] theorem siz100 : szT Try.prog 100 = some 1 := by unfold szT; rw [show Try.prog.info? 100 = some Try.t100 from Try.type100]; rfl
@[simp ↓] theorem ty100 {q : Bool → Nat → Prop} : goTy Try.prog 100 q = q false 1 := by simp only [goTy, agg100, siz100]
@[simp ↓] theorem sz100 {q : Nat → Prop} : goSz Try.prog 100 q = q 1 := by simp only [goSz, siz100]
theorem zer100 : zero? Try.prog 100 = some Go.Value.nilFunc := by unfold zero?; rw [show Try.prog.info? 100 = some Try.t100 from Try.type100]; rfl
@[simp ↓] theorem z100 {q : List Value → Prop} : goZ Try.prog 100 q = q [Go.Value.nilFunc] := by simp [goZ, zer100, Value.cells]
theorem agg101 : aggT Try.prog 101 = some false := by unfold aggT; rw [Try.underlying101]; rfl
@[simp] theorem siz101 : szT Try.prog 101 = some 1 := by unfold szT; rw [show Try.prog.info? 101 = some Try.t101 from Try.type101]; rfl
@[simp ↓] theorem ty101 {q : Bool → Nat → Prop} : goTy Try.prog 101 q = q false 1 := by simp only [goTy, agg101, siz101]
@[simp ↓] theorem sz101 {q : Nat → Prop} : goSz Try.prog 101 q = q 1 := by simp only [goSz, siz101]
theorem zer101 : zero? Try.prog 101 = some Go.Value.nilFunc := by unfold zero?; rw [show Try.prog.info? 101 = some Try.t101 from Try.type101]; rfl
@[simp ↓] theorem z101 {q : List Value → Prop} : goZ Try.prog 101 q = q [Go.Value.nilFunc] := by simp [goZ, zer101, Value.cells]
theorem agg102 : aggT Try.prog 102 = some false := by unfold aggT; rw [Try.underlying102]; rfl
@[simp] theorem siz102 : szT Try.prog 102 = some 1 := by unfold szT; rw [show Try.prog.info? 102 = some Try.t102 from Try.type102]; rfl
@[simp ↓] theorem ty102 {q : Bool → Nat → Prop} : goTy Try.prog 102 q = q false 1 := by simp only [goTy, agg102, siz102]
@[simp ↓] theorem sz102 {q : Nat → Prop} : goSz Try.prog 102 q = q 1 := by simp only [goSz, siz102]
theorem zer102 : zero? Try.prog 102 = some Go.Value.nilFunc := by unfold zero?; rw [show Try.prog.info? 102 = some Try.t102 from Try.type102]; rfl
@[simp ↓] theorem z102 {q : List Value → Prop} : goZ Try.prog 102 q = q [Go.Value.nilFunc] := by simp [goZ, zer102, Value.cells]
theorem agg104 : aggT Try.prog 104 = some false := by unfold aggT; rw [Try.underlying104]; rfl
@[simp] theorem siz104 : szT Try.prog 104 = some 1 := by unfold szT; rw [show Try.prog.info? 104 = some Try.t104 from Try.type104]; rfl
@[simp ↓] theorem ty104 {q : Bool → Nat → Prop} : goTy Try.prog 104 q = q false 1 := by simp only [goTy, agg104, siz104]
@[simp ↓] theorem sz104 {q : Nat → Prop} : goSz Try.prog 104 q = q 1 := by simp only [goSz, siz104]
theorem zer104 : zero? Try.prog 104 = some Go.Value.nilFunc := by unfold zero?; rw [show Try.prog.info? 104 = some Try.t104 from Try.type104]; rfl
@[simp ↓] theorem z104 {q : List Value → Prop} : goZ Try.prog 104 q = q [Go.Value.nilFunc] := by simp [goZ, zer104, Value.cells]
theorem agg105 : aggT Try.prog 105 = some false := by unfold aggT; rw [Try.underlying105]; rfl
@[simp] theorem siz105 : szT Try.prog 105 = some 1 := by unfold szT; rw [show Try.prog.info? 105 = some Try.t105 from Try.type105]; rfl
@[simp ↓] theorem ty105 {q : Bool → Nat → Prop} : goTy Try.prog 105 q = q false 1 := by simp only [goTy, agg105, siz105]
@[simp ↓] theorem sz105 {q : Nat → Prop} : goSz Try.prog 105 q = q 1 := by simp only [goSz, siz105]
theorem zer105 : zero? Try.prog 105 = some (Go.Value.int Go.IntKind.i64 0) := by unfold zero?; rw [show Try.prog.info? 105 = some Try.t105 from Try.type105]; rfl
@[simp ↓] theorem z105 {q : List Value → Prop} : goZ Try.prog 105 q = q [(Go.Value.int Go.IntKind.i64 0)] := by simp [goZ, zer105, Value.cells]
@[simp] theorem und105 : Try.prog.underlying 105 = some (Go.TypeDesc.int Go.IntKind.i64) := opq Try.underlying105
@[simp ↓] theorem un105 {q : TypeDesc → Prop} : goUnd Try.prog 105 q = q (Go.TypeDesc.int Go.IntKind.i64) := by simp only [goUnd, und105]
theorem agg107 : aggT Try.prog 107 = some false := by unfold aggT; rw [Try.underlying107]; rfl
@[simp] theorem siz107 : szT Try.prog 107 = some 1 := by unfold szT; rw [show Try.prog.info? 107 = some Try.t107 from Try.type107]; rfl
@[simp ↓] theorem ty107 {q : Bool → Nat → Prop} : goTy Try.prog 107 q = q false 1 := by simp only [goTy, agg107, siz107]
@[simp ↓] theorem sz107 {q : Nat → Prop} : goSz Try.prog 107 q = q 1 := by simp only [goSz, siz107]
theorem zer107 : zero? Try.prog 107 = some Go.Value.nilFunc := by unfold zero?; rw [show Try.prog.info? 107 = some Try.t107 from Try.type107]; rfl
@[simp ↓] theorem z107 {q : List Value → Prop} : goZ Try.prog 107 q = q [Go.Value.nilFunc] := by simp [goZ, zer107, Value.cells]
theorem agg108 : aggT Try.prog 108 = some false := by unfold aggT; rw [Try.underlying108]; rfl
@[simp] theorem siz108 : szT Try.prog 108 = some 1 := by unfold szT; rw [show Try.prog.info? 108 = some Try.t108 from Try.type108]; rfl
@[simp ↓] theorem ty108 {q : Bool → Nat → Prop} : goTy Try.prog 108 q = q false 1 := by simp only [goTy, agg108, siz108]
@[simp ↓] theorem sz108 {q : Nat → Prop} : goSz Try.prog 108 q = q 1 := by simp only [goSz, siz108]
theorem zer108 : zero? Try.prog 108 = some Go.Value.nilFunc := by unfold zero?; rw [show Try.prog.info? 108 = some Try.t108 from Try.type108]; rfl
@[simp ↓] theorem z108 {q : List Value → Prop} : goZ Try.prog 108 q = q [Go.Value.nilFunc] := by simp [goZ, zer108, Value.cells]
theorem agg109 : aggT Try.prog 109 = some false := by unfold aggT; rw [Try.underlying109]; rfl
@[simp] theorem siz109 : szT Try.prog 109 = some 1 := by unfold szT; rw [show Try.prog.info? 109 = some Try.t109 from Try.type109]; rfl
@[simp ↓] theorem ty109 {q : Bool → Nat → Prop} : goTy Try.prog 109 q = q false 1 := by simp only [goTy, agg109, siz109]
@[simp ↓] theorem sz109 {q : Nat → Prop} : goSz Try.prog 109 q = q 1 := by simp only [goSz, siz109]
theorem zer109 : zero? Try.prog 109 = some Go.Value.nilFunc := by unfold zero?; rw [show Try.prog.info? 109 = some Try.t109 from Try.type109]; rfl
@[simp ↓] theorem z109 {q : List Value → Prop} : goZ Try.prog 109 q = q [Go.Value.nilFunc] := by simp [goZ, zer109, Value.cells]
theorem agg110 : aggT Try.prog 110 = some false := by unfold aggT; rw [Try.underlying110]; rfl
@[simp] theorem siz110 : szT Try.prog 110 = some 1 := by unfold szT; rw [show Try.prog.info? 110 = some Try.t110 from Try.type110]; rfl
@[simp ↓] theorem ty110 {q : Bool → Nat → Prop} : goTy Try.prog 110 q = q false 1 := by simp only [goTy, agg110, siz110]
@[simp ↓] theorem sz110 {q : Nat → Prop} : goSz Try.prog 110 q = q 1 := by simp only [goSz, siz110]
theorem zer110 : zero? Try.prog 110 = some Go.Value.nilFunc := by unfold zero?; rw [show Try.prog.info? 110 = some Try.t110 from Try.type110]; rfl
@[simp ↓] theorem z110 {q : List Value → Prop} : goZ Try.prog 110 q = q [Go.Value.nilFunc] := by simp [goZ, zer110, Value.cells]
theorem agg111 : aggT Try.prog 111 = some false := by unfold aggT; rw [Try.underlying111]; rfl
@[simp] theorem siz111 : szT Try.prog 111 = some 1 := by unfold szT; rw [show Try.prog.info? 111 = some Try.t111 from Try.type111]; rfl
@[simp ↓] theorem ty111 {q : Bool → Nat → Prop} : goTy Try.prog 111 q = q false 1 := by simp only [goTy, agg111, siz111]
@[simp ↓] theorem sz111 {q : Nat → Prop} : goSz Try.prog 111 q = q 1 := by simp only [goSz, siz111]
theorem zer111 : zero? Try.prog 111 = some Go.Value.nilFunc := by unfold zero?; rw [show Try.prog.info? 111 = some Try.t111 from Try.type111]; rfl
@[simp ↓] theorem z111 {q : List Value → Prop} : goZ Try.prog 111 q = q [Go.Value.nilFunc] := by simp [goZ, zer111, Value.cells]
theorem agg112 : aggT Try.prog 112 = some false := by unfold aggT; rw [Try.underlying112]; rfl
@[simp] theorem siz112 : szT Try.prog 112 = some 1 := by unfold szT; rw [show Try.prog.info? 112 = some Try.t112 from Try.type112]; rfl
@[simp ↓] theorem ty112 {q : Bool → Nat → Prop} : goTy Try.prog 112 q = q false 1 := by simp only [goTy, agg112, siz112]
@[simp ↓] theorem sz112 {q : Nat → Prop} : goSz Try.prog 112 q = q 1 := by simp only [goSz, siz112]
theorem zer112 : zero? Try.prog 112 = some Go.Value.nilFunc := by unfold zero?; rw [show Try.prog.info? 112 = some Try.t112 from Try.type112]; rfl
@[simp ↓] theorem z112 {q : List Value → Prop} : goZ Try.prog 112 q = q [Go.Value.nilFunc] := by simp [goZ, zer112, Value.cells]
theorem agg113 : aggT Try.prog 113 = some false := by unfold aggT; rw [Try.underlying113]; rfl
@[simp] theorem siz113 : szT Try.prog 113 = some 1 := by unfold szT; rw [show Try.prog.info? 113 = some Try.t113 from Try.type113]; rfl
@[simp ↓] theorem ty113 {q : Bool → Nat → Prop} : goTy Try.prog 113 q = q false 1 := by simp only [goTy, agg113, siz113]
@[simp ↓] theorem sz113 {q : Nat → Prop} : goSz Try.prog 113 q = q 1 := by simp only [goSz, siz113]
theorem zer113 : zero? Try.prog 113 = some (Go.Value.int Go.IntKind.u32 0) := by unfold zero?; rw [show Try.prog.info? 113 = some Try.t113 from Try.type113]; rfl
@[simp ↓] theorem z113 {q : List Value → Prop} : goZ Try.prog 113 q = q [(Go.Value.int Go.IntKind.u32 0)] := by simp [goZ, zer113, Value.cells]
@[simp] theorem und113 : Try.prog.underlying 113 = some (Go.TypeDesc.int Go.IntKind.u32) := opq Try.underlying113
@[simp ↓] theorem un113 {q : TypeDesc → Prop} : goUnd Try.prog 113 q = q (Go.TypeDesc.int Go.IntKind.u32) := by simp only [goUnd, und113]
theorem agg114 : aggT Try.prog 114 = some false := by unfold aggT; rw [Try.underlying114]; rfl
@[simp] theorem siz114 : szT Try.prog 114 = some 1 := by unfold szT; rw [show Try.prog.info? 114 = some Try.t114 from Try.type114]; rfl
@[simp ↓] theorem ty114 {q : Bool → Nat → Prop} : goTy Try.prog 114 q = q false 1 := by simp only [goTy, agg114, siz114]
@[simp ↓] theorem sz114 {q : Nat → Prop} : goSz Try.prog 114 q = q 1 := by simp only [goSz, siz114]
theorem zer114 : zero? Try.prog 114 = some Go.Value.nilFunc := by unfold zero?; rw [show Try.prog.info? 114 = some Try.t114 from Try.type114]; rfl
@[simp ↓] theorem z114 {q : List Value → Prop} : goZ Try.prog 114 q = q [Go.Value.nilFunc] := by simp [goZ, zer114, Value.cells]
theorem agg115 : aggT Try.prog 115 = some false := by unfold aggT; rw [Try.underlying115]; rfl
@[simp] theorem siz115 : szT Try.prog 115 = some 1 := by unfold szT; rw [show Try.prog.info? 115 = some Try.t115 from Try.type115]; rfl
@[simp ↓] theorem ty115 {q : Bool → Nat → Prop} : goTy Try.prog 115 q = q false 1 := by simp only [goTy, agg115, siz115]
@[simp ↓] theorem sz115 {q : Nat → Prop} : goSz Try.prog 115 q = q 1 := by simp only [goSz, siz115]
theorem zer115 : zero? Try.prog 115 = some (Go.Value.int Go.IntKind.u64 0) := by unfold zero?; rw [show Try.prog.info? 115 = some Try.t115 from Try.type115]; rfl
@[simp ↓] theorem z115 {q : List Value → Prop} : goZ Try.prog 115 q = q [(Go.Value.int Go.IntKind.u64 0)] := by simp [goZ, zer115, Value.cells]
@[simp] theorem und115 : Try.prog.underlying 115 = some (Go.TypeDesc.int Go.IntKind.u64) := opq Try.underlying115
@[simp ↓] theorem un115 {q : TypeDesc → Prop} : goUnd Try.prog 115 q = q (Go.TypeDesc.int Go.IntKind.u64) := by simp only [goUnd, und115]
theorem agg116 : aggT Try.prog 116 = some false := by unfold aggT; rw [Try.underlying116]; rfl
@[simp] theorem siz116 : szT Try.prog 116 = some 1 := by unfold szT; rw [show Try.prog.info? 116 = some Try.t116 from Try.type116]; rfl
@[simp ↓] theorem ty116 {q : Bool → Nat → Prop} : goTy Try.prog 116 q = q false 1 := by simp only [goTy, agg116, siz116]
@[simp ↓] theorem sz116 {q : Nat → Prop} : goSz Try.prog 116 q = q 1 := by simp only [goSz, siz116]
theorem zer116 : zero? Try.prog 116 = some Go.Value.nilFunc := by unfold zero?; rw [show Try.prog.info? 116 = some Try.t116 from Try.type116]; rfl
@[simp ↓] theorem z116 {q : List Value → Prop} : goZ Try.prog 116 q = q [Go.Value.nilFunc] := by simp [goZ, zer116, Value.cells]
theorem agg117 : aggT Try.prog 117 = some false := by unfold aggT; rw [Try.underlying117]; rfl
@[simp] theorem siz117 : szT Try.prog 117 = some 1 := by unfold szT; rw [show Try.prog.info? 117 = some Try.t117 from Try.type117]; rfl
@[simp ↓] theorem ty117 {q : Bool → Nat → Prop} : goTy Try.prog 117 q = q false 1 := by simp only [goTy, agg117, siz117]
@[simp ↓] theorem sz117 {q : Nat → Prop} : goSz Try.prog 117 q = q 1 := by simp only [goSz, siz117]
theorem zer117 : zero? Try.prog 117 = some Go.Value.nilFunc := by unfold zero?; rw [show Try.prog.info? 117 = some Try.t117 from Try.type117]; rfl
@[simp ↓] theorem z117 {q : List Value → Prop} : goZ Try.prog 117 q = q [Go.Value.nilFunc] := by simp [goZ, zer117, Value.cells]
theorem agg118 : aggT Try.prog 118 = some false := by unfold aggT; rw [Try.underlying118]; rfl
@[simp] theorem siz118 : szT Try.prog 118 = some 1 := by unfold szT; rw [show Try.prog.info? 118 = some Try.t118 from Try.type118]; rfl
@[simp ↓] theorem ty118 {q : Bool → Nat → Prop} : goTy Try.prog 118 q = q false 1 := by simp only [goTy, agg118, siz118]
@[simp ↓] theorem sz118 {q : Nat → Prop} : goSz Try.prog 118 q = q 1 := by simp only [goSz, siz118]
theorem zer118 : zero? Try.prog 118 = some Go.Value.nilFunc := by unfold zero?; rw [show Try.prog.info? 118 = some Try.t118 from Try.type118]; rfl
@[simp ↓] theorem z118 {q : List Value → Prop} : goZ Try.prog 118 q = q [Go.Value.nilFunc] := by simp [goZ, zer118, Value.cells]
theorem agg119 : aggT Try.prog 119 = some true := by unfold aggT; rw [Try.underlying119]; rfl
@[simp] theorem siz119 : szT Try.prog 119 = some 3 := by unfold szT; rw [show Try.prog.info? 119 = some Try.t119 from Try.type119]; rfl
@[simp ↓] theorem ty119 {q : Bool → Nat → Prop} : goTy Try.prog 119 q = q true 3 := by simp only [goTy, agg119, siz119]
@[simp ↓] theorem sz119 {q : Nat → Prop} : goSz Try.prog 119 q = q 3 := by simp only [goSz, siz119]
theorem zer119 : zero? Try.prog 119 = some (Go.Value.agg #[Go.Value.int Go.IntKind.i64 0, Go.Value.string { data := #[] }, Go.Value.int Go.IntKind.i64 0]) := by unfold zero?; rw [show Try.prog.info? 119 = some Try.t119 from Try.type119]; rfl
@[simp ↓] theorem z119 {q : List Value → Prop} : goZ Try.prog 119 q = q [Go.Value.int Go.IntKind.i64 0, Go.Value.string { data := #[] }, Go.Value.int Go.IntKind.i64 0] := by simp [goZ, zer119, Value.cells]
@[simp] theorem und119 : Try.prog.underlying 119 = some (Go.TypeDesc.struct
  #[{ name := "Op", type := 3, offset := 0, embedded := false, tag := "", pkgPath := "", byteOffset := 0 },
    { name := "Text", type := 9, offset := 1, embedded := false, tag := "", pkgPath := "", byteOffset := 8 },
    { name := "N", type := 3, offset := 2, embedded := false, tag := "", pkgPath := "", byteOffset := 24 }]) := opq Try.underlying119
@[simp ↓] theorem fld119_0 {q : Nat → TypeId → Prop} : goFld Try.prog 119 0 q = q 0 3 := by simp only [goFld, und119]; rfl
@[simp ↓] theorem fld119_1 {q : Nat → TypeId → Prop} : goFld Try.prog 119 1 q = q 1 9 := by simp only [goFld, und119]; rfl
@[simp ↓] theorem fld119_2 {q : Nat → TypeId → Prop} : goFld Try.prog 119 2 q = q 2 3 := by simp only [goFld, und119]; rfl
@[simp ↓] theorem bld119 {q : List Value → List (Nat × Nat) → Prop} : goBld Try.prog 119 q = q [Go.Value.int Go.IntKind.i64 0, Go.Value.string { data := #[] }, Go.Value.int Go.IntKind.i64 0] [(0, 1), (1, 1), (2, 1)] := by simp [goBld, und119, zer119, placesL, Value.cells]
theorem agg120 : aggT Try.prog 120 = some false := by unfold aggT; rw [Try.underlying120]; rfl
@[simp] theorem siz120 : szT Try.prog 120 = some 1 := by unfold szT; rw [show Try.prog.info? 120 = some Try.t120 from Try.type120]; rfl
@[simp ↓] theorem ty120 {q : Bool → Nat → Prop} : goTy Try.prog 120 q = q false 1 := by simp only [goTy, agg120, siz120]
@[simp ↓] theorem sz120 {q : Nat → Prop} : goSz Try.prog 120 q = q 1 := by simp only [goSz, siz120]
theorem zer120 : zero? Try.prog 120 = some Go.Value.nilFunc := by unfold zero?; rw [show Try.prog.info? 120 = some Try.t120 from Try.type120]; rfl
@[simp ↓] theorem z120 {q : List Value → Prop} : goZ Try.prog 120 q = q [Go.Value.nilFunc] := by simp [goZ, zer120, Value.cells]
theorem agg121 : aggT Try.prog 121 = some false := by unfold aggT; rw [Try.underlying121]; rfl
@[simp] theorem siz121 : szT Try.prog 121 = some 1 := by unfold szT; rw [show Try.prog.info? 121 = some Try.t121 from Try.type121]; rfl
@[simp ↓] theorem ty121 {q : Bool → Nat → Prop} : goTy Try.prog 121 q = q false 1 := by simp only [goTy, agg121, siz121]
@[simp ↓] theorem sz121 {q : Nat → Prop} : goSz Try.prog 121 q = q 1 := by simp only [goSz, siz121]
theorem zer121 : zero? Try.prog 121 = some (Go.Value.int Go.IntKind.u64 0) := by unfold zero?; rw [show Try.prog.info? 121 = some Try.t121 from Try.type121]; rfl
@[simp ↓] theorem z121 {q : List Value → Prop} : goZ Try.prog 121 q = q [(Go.Value.int Go.IntKind.u64 0)] := by simp [goZ, zer121, Value.cells]
@[simp] theorem und121 : Try.prog.underlying 121 = some (Go.TypeDesc.int Go.IntKind.u64) := opq Try.underlying121
@[simp ↓] theorem un121 {q : TypeDesc → Prop} : goUnd Try.prog 121 q = q (Go.TypeDesc.int Go.IntKind.u64) := by simp only [goUnd, und121]
theorem agg122 : aggT Try.prog 122 = some false := by unfold aggT; rw [Try.underlying122]; rfl
@[simp] theorem siz122 : szT Try.prog 122 = some 1 := by unfold szT; rw [show Try.prog.info? 122 = some Try.t122 from Try.type122]; rfl
@[simp ↓] theorem ty122 {q : Bool → Nat → Prop} : goTy Try.prog 122 q = q false 1 := by simp only [goTy, agg122, siz122]
@[simp ↓] theorem sz122 {q : Nat → Prop} : goSz Try.prog 122 q = q 1 := by simp only [goSz, siz122]
theorem zer122 : zero? Try.prog 122 = some Go.Value.nilFunc := by unfold zero?; rw [show Try.prog.info? 122 = some Try.t122 from Try.type122]; rfl
@[simp ↓] theorem z122 {q : List Value → Prop} : goZ Try.prog 122 q = q [Go.Value.nilFunc] := by simp [goZ, zer122, Value.cells]
theorem agg123 : aggT Try.prog 123 = some false := by unfold aggT; rw [Try.underlying123]; rfl
@[simp] theorem siz123 : szT Try.prog 123 = some 1 := by unfold szT; rw [show Try.prog.info? 123 = some Try.t123 from Try.type123]; rfl
@[simp ↓] theorem ty123 {q : Bool → Nat → Prop} : goTy Try.prog 123 q = q false 1 := by simp only [goTy, agg123, siz123]
@[simp ↓] theorem sz123 {q : Nat → Prop} : goSz Try.prog 123 q = q 1 := by simp only [goSz, siz123]
theorem zer123 : zero? Try.prog 123 = some Go.Value.nilFunc := by unfold zero?; rw [show Try.prog.info? 123 = some Try.t123 from Try.type123]; rfl
@[simp ↓] theorem z123 {q : List Value → Prop} : goZ Try.prog 123 q = q [Go.Value.nilFunc] := by simp [goZ, zer123, Value.cells]
theorem agg124 : aggT Try.prog 124 = some false := by unfold aggT; rw [Try.underlying124]; rfl
@[simp] theorem siz124 : szT Try.prog 124 = some 1 := by unfold szT; rw [show Try.prog.info? 124 = some Try.t124 from Try.type124]; rfl
@[simp ↓] theorem ty124 {q : Bool → Nat → Prop} : goTy Try.prog 124 q = q false 1 := by simp only [goTy, agg124, siz124]
@[simp ↓] theorem sz124 {q : Nat → Prop} : goSz Try.prog 124 q = q 1 := by simp only [goSz, siz124]
theorem zer124 : zero? Try.prog 124 = some Go.Value.nilFunc := by unfold zero?; rw [show Try.prog.info? 124 = some Try.t124 from Try.type124]; rfl
@[simp ↓] theorem z124 {q : List Value → Prop} : goZ Try.prog 124 q = q [Go.Value.nilFunc] := by simp [goZ, zer124, Value.cells]
theorem agg125 : aggT Try.prog 125 = some false := by unfold aggT; rw [Try.underlying125]; rfl
@[simp] theorem siz125 : szT Try.prog 125 = some 1 := by unfold szT; rw [show Try.prog.info? 125 = some Try.t125 from Try.type125]; rfl
@[simp ↓] theorem ty125 {q : Bool → Nat → Prop} : goTy Try.prog 125 q = q false 1 := by simp only [goTy, agg125, siz125]
@[simp ↓] theorem sz125 {q : Nat → Prop} : goSz Try.prog 125 q = q 1 := by simp only [goSz, siz125]
theorem zer125 : zero? Try.prog 125 = some (Go.Value.pointer none) := by unfold zero?; rw [show Try.prog.info? 125 = some Try.t125 from Try.type125]; rfl
@[simp ↓] theorem z125 {q : List Value → Prop} : goZ Try.prog 125 q = q [(Go.Value.pointer none)] := by simp [goZ, zer125, Value.cells]
@[simp] theorem und125 : Try.prog.underlying 125 = some (Go.TypeDesc.pointer 3) := opq Try.underlying125
@[simp ↓] theorem un125 {q : TypeDesc → Prop} : goUnd Try.prog 125 q = q (Go.TypeDesc.pointer 3) := by simp only [goUnd, und125]
theorem agg126 : aggT Try.prog 126 = some false := by unfold aggT; rw [Try.underlying126]; rfl
@[simp] theorem siz126 : szT Try.prog 126 = some 1 := by unfold szT; rw [show Try.prog.info? 126 = some Try.t126 from Try.type126]; rfl
@[simp ↓] theorem ty126 {q : Bool → Nat → Prop} : goTy Try.prog 126 q = q false 1 := by simp only [goTy, agg126, siz126]
@[simp ↓] theorem sz126 {q : Nat → Prop} : goSz Try.prog 126 q = q 1 := by simp only [goSz, siz126]
theorem zer126 : zero? Try.prog 126 = some Go.Value.nilFunc := by unfold zero?; rw [show Try.prog.info? 126 = some Try.t126 from Try.type126]; rfl
@[simp ↓] theorem z126 {q : List Value → Prop} : goZ Try.prog 126 q = q [Go.Value.nilFunc] := by simp [goZ, zer126, Value.cells]
theorem agg127 : aggT Try.prog 127 = some false := by unfold aggT; rw [Try.underlying127]; rfl
@[simp] theorem siz127 : szT Try.prog 127 = some 1 := by unfold szT; rw [show Try.prog.info? 127 = some Try.t127 from Try.type127]; rfl
@[simp ↓] theorem ty127 {q : Bool → Nat → Prop} : goTy Try.prog 127 q = q false 1 := by simp only [goTy, agg127, siz127]
@[simp ↓] theorem sz127 {q : Nat → Prop} : goSz Try.prog 127 q = q 1 := by simp only [goSz, siz127]
theorem zer127 : zero? Try.prog 127 = some Go.Value.nilFunc := by unfold zero?; rw [show Try.prog.info? 127 = some Try.t127 from Try.type127]; rfl
@[simp ↓] theorem z127 {q : List Value → Prop} : goZ Try.prog 127 q = q [Go.Value.nilFunc] := by simp [goZ, zer127, Value.cells]
theorem agg128 : aggT Try.prog 128 = some false := by unfold aggT; rw [Try.underlying128]; rfl
@[simp] theorem siz128 : szT Try.prog 128 = some 1 := by unfold szT; rw [show Try.prog.info? 128 = some Try.t128 from Try.type128]; rfl
@[simp ↓] theorem ty128 {q : Bool → Nat → Prop} : goTy Try.prog 128 q = q false 1 := by simp only [goTy, agg128, siz128]
@[simp ↓] theorem sz128 {q : Nat → Prop} : goSz Try.prog 128 q = q 1 := by simp only [goSz, siz128]
theorem zer128 : zero? Try.prog 128 = some Go.Value.nilFunc := by unfold zero?; rw [show Try.prog.info? 128 = some Try.t128 from Try.type128]; rfl
@[simp ↓] theorem z128 {q : List Value → Prop} : goZ Try.prog 128 q = q [Go.Value.nilFunc] := by simp [goZ, zer128, Value.cells]
theorem agg129 : aggT Try.prog 129 = some false := by unfold aggT; rw [Try.underlying129]; rfl
@[simp] theorem siz129 : szT Try.prog 129 = some 1 := by unfold szT; rw [show Try.prog.info? 129 = some Try.t129 from Try.type129]; rfl
@[simp ↓] theorem ty129 {q : Bool → Nat → Prop} : goTy Try.prog 129 q = q false 1 := by simp only [goTy, agg129, siz129]
@[simp ↓] theorem sz129 {q : Nat → Prop} : goSz Try.prog 129 q = q 1 := by simp only [goSz, siz129]
theorem zer129 : zero? Try.prog 129 = some Go.Value.nilFunc := by unfold zero?; rw [show Try.prog.info? 129 = some Try.t129 from Try.type129]; rfl
@[simp ↓] theorem z129 {q : List Value → Prop} : goZ Try.prog 129 q = q [Go.Value.nilFunc] := by simp [goZ, zer129, Value.cells]
theorem agg130 : aggT Try.prog 130 = some false := by unfold aggT; rw [Try.underlying130]; rfl
@[simp] theorem siz130 : szT Try.prog 130 = some 1 := by unfold szT; rw [show Try.prog.info? 130 = some Try.t130 from Try.type130]; rfl
@[simp ↓] theorem ty130 {q : Bool → Nat → Prop} : goTy Try.prog 130 q = q false 1 := by simp only [goTy, agg130, siz130]
@[simp ↓] theorem sz130 {q : Nat → Prop} : goSz Try.prog 130 q = q 1 := by simp only [goSz, siz130]
theorem zer130 : zero? Try.prog 130 = some (Go.Value.pointer none) := by unfold zero?; rw [show Try.prog.info? 130 = some Try.t130 from Try.type130]; rfl
@[simp ↓] theorem z130 {q : List Value → Prop} : goZ Try.prog 130 q = q [(Go.Value.pointer none)] := by simp [goZ, zer130, Value.cells]
@[simp] theorem und130 : Try.prog.underlying 130 = some (Go.TypeDesc.pointer 121) := opq Try.underlying130
@[simp ↓] theorem un130 {q : TypeDesc → Prop} : goUnd Try.prog 130 q = q (Go.TypeDesc.pointer 121) := by simp only [goUnd, und130]
theorem agg131 : aggT Try.prog 131 = some false := by unfold aggT; rw [Try.underlying131]; rfl
@[simp] theorem siz131 : szT Try.prog 131 = some 1 := by unfold szT; rw [show Try.prog.info? 131 = some Try.t131 from Try.type131]; rfl
@[simp ↓] theorem ty131 {q : Bool → Nat → Prop} : goTy Try.prog 131 q = q false 1 := by simp only [goTy, agg131, siz131]
@[simp ↓] theorem sz131 {q : Nat → Prop} : goSz Try.prog 131 q = q 1 := by simp only [goSz, siz131]
theorem zer131 : zero? Try.prog 131 = some Go.Value.nilFunc := by unfold zero?; rw [show Try.prog.info? 131 = some Try.t131 from Try.type131]; rfl
@[simp ↓] theorem z131 {q : List Value → Prop} : goZ Try.prog 131 q = q [Go.Value.nilFunc] := by simp [goZ, zer131, Value.cells]
theorem agg133 : aggT Try.prog 133 = some false := by unfold aggT; rw [Try.underlying133]; rfl
@[simp] theorem siz133 : szT Try.prog 133 = some 1 := by unfold szT; rw [show Try.prog.info? 133 = some Try.t133 from Try.type133]; rfl
@[simp ↓] theorem ty133 {q : Bool → Nat → Prop} : goTy Try.prog 133 q = q false 1 := by simp only [goTy, agg133, siz133]
@[simp ↓] theorem sz133 {q : Nat → Prop} : goSz Try.prog 133 q = q 1 := by simp only [goSz, siz133]
theorem zer133 : zero? Try.prog 133 = some Go.Value.nilFunc := by unfold zero?; rw [show Try.prog.info? 133 = some Try.t133 from Try.type133]; rfl
@[simp ↓] theorem z133 {q : List Value → Prop} : goZ Try.prog 133 q = q [Go.Value.nilFunc] := by simp [goZ, zer133, Value.cells]
theorem agg134 : aggT Try.prog 134 = some false := by unfold aggT; rw [Try.underlying134]; rfl
@[simp] theorem siz134 : szT Try.prog 134 = some 1 := by unfold szT; rw [show Try.prog.info? 134 = some Try.t134 from Try.type134]; rfl
@[simp ↓] theorem ty134 {q : Bool → Nat → Prop} : goTy Try.prog 134 q = q false 1 := by simp only [goTy, agg134, siz134]
@[simp ↓] theorem sz134 {q : Nat → Prop} : goSz Try.prog 134 q = q 1 := by simp only [goSz, siz134]
theorem zer134 : zero? Try.prog 134 = some Go.Value.nilFunc := by unfold zero?; rw [show Try.prog.info? 134 = some Try.t134 from Try.type134]; rfl
@[simp ↓] theorem z134 {q : List Value → Prop} : goZ Try.prog 134 q = q [Go.Value.nilFunc] := by simp [goZ, zer134, Value.cells]
theorem agg135 : aggT Try.prog 135 = some true := by unfold aggT; rw [Try.underlying135]; rfl
@[simp] theorem siz135 : szT Try.prog 135 = some 4 := by unfold szT; rw [show Try.prog.info? 135 = some Try.t135 from Try.type135]; rfl
@[simp ↓] theorem ty135 {q : Bool → Nat → Prop} : goTy Try.prog 135 q = q true 4 := by simp only [goTy, agg135, siz135]
@[simp ↓] theorem sz135 {q : Nat → Prop} : goSz Try.prog 135 q = q 4 := by simp only [goSz, siz135]
theorem zer135 : zero? Try.prog 135 = some
  (Go.Value.agg #[Go.Value.pointer none, Go.Value.pointer none, Go.Value.pointer none, Go.Value.string { data := #[] }]) := by unfold zero?; rw [show Try.prog.info? 135 = some Try.t135 from Try.type135]; rfl
@[simp ↓] theorem z135 {q : List Value → Prop} : goZ Try.prog 135 q = q [Go.Value.pointer none, Go.Value.pointer none, Go.Value.pointer none, Go.Value.string { data := #[] }] := by simp [goZ, zer135, Value.cells]
@[simp] theorem und135 : Try.prog.underlying 135 = some (Go.TypeDesc.struct
  #[{ name := "_interface", type := 17, offset := 0, embedded := false, tag := "", pkgPath := "runtime",
      byteOffset := 0 },
    { name := "concrete", type := 17, offset := 1, embedded := false, tag := "", pkgPath := "runtime",
      byteOffset := 8 },
    { name := "asserted", type := 17, offset := 2, embedded := false, tag := "", pkgPath := "runtime",
      byteOffset := 16 },
    { name := "missingMethod", type := 9, offset := 3, embedded := false, tag := "", pkgPath := "runtime",
      byteOffset := 24 }]) := opq Try.underlying135
@[simp ↓] theorem fld135_0 {q : Nat → TypeId → Prop} : goFld Try.prog 135 0 q = q 0 17 := by simp only [goFld, und135]; rfl
@[simp ↓] theorem fld135_1 {q : Nat → TypeId → Prop} : goFld Try.prog 135 1 q = q 1 17 := by simp only [goFld, und135]; rfl
@[simp ↓] theorem fld135_2 {q : Nat → TypeId → Prop} : goFld Try.prog 135 2 q = q 2 17 := by simp only [goFld, und135]; rfl
@[simp ↓] theorem fld135_3 {q : Nat → TypeId → Prop} : goFld Try.prog 135 3 q = q 3 9 := by simp only [goFld, und135]; rfl
@[simp ↓] theorem bld135 {q : List Value → List (Nat × Nat) → Prop} : goBld Try.prog 135 q = q [Go.Value.pointer none, Go.Value.pointer none, Go.Value.pointer none, Go.Value.string { data := #[] }] [(0, 1), (1, 1), (2, 1), (3, 1)] := by simp [goBld, und135, zer135, placesL, Value.cells]
theorem agg136 : aggT Try.prog 136 = some true := by unfold aggT; rw [Try.underlying136]; rfl
@[simp] theorem siz136 : szT Try.prog 136 = some 4 := by unfold szT; rw [show Try.prog.info? 136 = some Try.t136 from Try.type136]; rfl
@[simp ↓] theorem ty136 {q : Bool → Nat → Prop} : goTy Try.prog 136 q = q true 4 := by simp only [goTy, agg136, siz136]
@[simp ↓] theorem sz136 {q : Nat → Prop} : goSz Try.prog 136 q = q 4 := by simp only [goSz, siz136]
theorem zer136 : zero? Try.prog 136 = some
  (Go.Value.agg #[Go.Value.pointer none, Go.Value.pointer none, Go.Value.pointer none, Go.Value.string { data := #[] }]) := by unfold zero?; rw [show Try.prog.info? 136 = some Try.t136 from Try.type136]; rfl
@[simp ↓] theorem z136 {q : List Value → Prop} : goZ Try.prog 136 q = q [Go.Value.pointer none, Go.Value.pointer none, Go.Value.pointer none, Go.Value.string { data := #[] }] := by simp [goZ, zer136, Value.cells]
@[simp] theorem und136 : Try.prog.underlying 136 = some (Go.TypeDesc.struct
  #[{ name := "_interface", type := 17, offset := 0, embedded := false, tag := "", pkgPath := "runtime",
      byteOffset := 0 },
    { name := "concrete", type := 17, offset := 1, embedded := false, tag := "", pkgPath := "runtime",
      byteOffset := 8 },
    { name := "asserted", type := 17, offset := 2, embedded := false, tag := "", pkgPath := "runtime",
      byteOffset := 16 },
    { name := "missingMethod", type := 9, offset := 3, embedded := false, tag := "", pkgPath := "runtime",
      byteOffset := 24 }]) := opq Try.underlying136
@[simp ↓] theorem fld136_0 {q : Nat → TypeId → Prop} : goFld Try.prog 136 0 q = q 0 17 := by simp only [goFld, und136]; rfl
@[simp ↓] theorem fld136_1 {q : Nat → TypeId → Prop} : goFld Try.prog 136 1 q = q 1 17 := by simp only [goFld, und136]; rfl
@[simp ↓] theorem fld136_2 {q : Nat → TypeId → Prop} : goFld Try.prog 136 2 q = q 2 17 := by simp only [goFld, und136]; rfl
@[simp ↓] theorem fld136_3 {q : Nat → TypeId → Prop} : goFld Try.prog 136 3 q = q 3 9 := by simp only [goFld, und136]; rfl
@[simp ↓] theorem bld136 {q : List Value → List (Nat × Nat) → Prop} : goBld Try.prog 136 q = q [Go.Value.pointer none, Go.Value.pointer none, Go.Value.pointer none, Go.Value.string { data := #[] }] [(0, 1), (1, 1), (2, 1), (3, 1)] := by simp [goBld, und136, zer136, placesL, Value.cells]
theorem agg137 : aggT Try.prog 137 = some true := by unfold aggT; rw [Try.underlying137]; rfl
@[simp] theorem siz137 : szT Try.prog 137 = some 0 := by unfold szT; rw [show Try.prog.info? 137 = some Try.t137 from Try.type137]; rfl
@[simp ↓] theorem ty137 {q : Bool → Nat → Prop} : goTy Try.prog 137 q = q true 0 := by simp only [goTy, agg137, siz137]
@[simp ↓] theorem sz137 {q : Nat → Prop} : goSz Try.prog 137 q = q 0 := by simp only [goSz, siz137]
theorem zer137 : zero? Try.prog 137 = some (Go.Value.agg #[]) := by unfold zero?; rw [show Try.prog.info? 137 = some Try.t137 from Try.type137]; rfl
@[simp ↓] theorem z137 {q : List Value → Prop} : goZ Try.prog 137 q = q [] := by simp [goZ, zer137, Value.cells]
@[simp] theorem und137 : Try.prog.underlying 137 = some (Go.TypeDesc.array 0 16) := opq Try.underlying137
@[simp ↓] theorem un137 {q : TypeDesc → Prop} : goUnd Try.prog 137 q = q (Go.TypeDesc.array 0 16) := by simp only [goUnd, und137]
theorem agg138 : aggT Try.prog 138 = some true := by unfold aggT; rw [Try.underlying138]; rfl
@[simp] theorem siz138 : szT Try.prog 138 = some 0 := by unfold szT; rw [show Try.prog.info? 138 = some Try.t138 from Try.type138]; rfl
@[simp ↓] theorem ty138 {q : Bool → Nat → Prop} : goTy Try.prog 138 q = q true 0 := by simp only [goTy, agg138, siz138]
@[simp ↓] theorem sz138 {q : Nat → Prop} : goSz Try.prog 138 q = q 0 := by simp only [goSz, siz138]
theorem zer138 : zero? Try.prog 138 = some (Go.Value.agg #[]) := by unfold zero?; rw [show Try.prog.info? 138 = some Try.t138 from Try.type138]; rfl
@[simp ↓] theorem z138 {q : List Value → Prop} : goZ Try.prog 138 q = q [] := by simp [goZ, zer138, Value.cells]
@[simp] theorem und138 : Try.prog.underlying 138 = some (Go.TypeDesc.struct
  #[{ name := "_", type := 137, offset := 0, embedded := false, tag := "", pkgPath := "runtime", byteOffset := 0 }]) := opq Try.underlying138
@[simp ↓] theorem fld138_0 {q : Nat → TypeId → Prop} : goFld Try.prog 138 0 q = q 0 137 := by simp only [goFld, und138]; rfl
@[simp ↓] theorem bld138 {q : List Value → List (Nat × Nat) → Prop} : goBld Try.prog 138 q = q [] [(0, 0)] := by simp [goBld, und138, zer138, placesL, Value.cells]
theorem agg139 : aggT Try.prog 139 = some true := by unfold aggT; rw [Try.underlying139]; rfl
@[simp] theorem siz139 : szT Try.prog 139 = some 0 := by unfold szT; rw [show Try.prog.info? 139 = some Try.t139 from Try.type139]; rfl
@[simp ↓] theorem ty139 {q : Bool → Nat → Prop} : goTy Try.prog 139 q = q true 0 := by simp only [goTy, agg139, siz139]
@[simp ↓] theorem sz139 {q : Nat → Prop} : goSz Try.prog 139 q = q 0 := by simp only [goSz, siz139]
theorem zer139 : zero? Try.prog 139 = some (Go.Value.agg #[]) := by unfold zero?; rw [show Try.prog.info? 139 = some Try.t139 from Try.type139]; rfl
@[simp ↓] theorem z139 {q : List Value → Prop} : goZ Try.prog 139 q = q [] := by simp [goZ, zer139, Value.cells]
@[simp] theorem und139 : Try.prog.underlying 139 = some (Go.TypeDesc.struct
  #[{ name := "_", type := 137, offset := 0, embedded := false, tag := "", pkgPath := "runtime", byteOffset := 0 }]) := opq Try.underlying139
@[simp ↓] theorem fld139_0 {q : Nat → TypeId → Prop} : goFld Try.prog 139 0 q = q 0 137 := by simp only [goFld, und139]; rfl
@[simp ↓] theorem bld139 {q : List Value → List (Nat × Nat) → Prop} : goBld Try.prog 139 q = q [] [(0, 0)] := by simp [goBld, und139, zer139, placesL, Value.cells]
theorem agg140 : aggT Try.prog 140 = some false := by unfold aggT; rw [Try.underlying140]; rfl
@[simp] theorem siz140 : szT Try.prog 140 = some 1 := by unfold szT; rw [show Try.prog.info? 140 = some Try.t140 from Try.type140]; rfl
@[simp ↓] theorem ty140 {q : Bool → Nat → Prop} : goTy Try.prog 140 q = q false 1 := by simp only [goTy, agg140, siz140]
@[simp ↓] theorem sz140 {q : Nat → Prop} : goSz Try.prog 140 q = q 1 := by simp only [goSz, siz140]
theorem zer140 : zero? Try.prog 140 = some Go.Value.nilFunc := by unfold zero?; rw [show Try.prog.info? 140 = some Try.t140 from Try.type140]; rfl
@[simp ↓] theorem z140 {q : List Value → Prop} : goZ Try.prog 140 q = q [Go.Value.nilFunc] := by simp [goZ, zer140, Value.cells]
theorem agg141 : aggT Try.prog 141 = some false := by unfold aggT; rw [Try.underlying141]; rfl
@[simp] theorem siz141 : szT Try.prog 141 = some 1 := by unfold szT; rw [show Try.prog.info? 141 = some Try.t141 from Try.type141]; rfl
@[simp ↓] theorem ty141 {q : Bool → Nat → Prop} : goTy Try.prog 141 q = q false 1 := by simp only [goTy, agg141, siz141]
@[simp ↓] theorem sz141 {q : Nat → Prop} : goSz Try.prog 141 q = q 1 := by simp only [goSz, siz141]
theorem zer141 : zero? Try.prog 141 = some (Go.Value.int Go.IntKind.u8 0) := by unfold zero?; rw [show Try.prog.info? 141 = some Try.t141 from Try.type141]; rfl
@[simp ↓] theorem z141 {q : List Value → Prop} : goZ Try.prog 141 q = q [(Go.Value.int Go.IntKind.u8 0)] := by simp [goZ, zer141, Value.cells]
@[simp] theorem und141 : Try.prog.underlying 141 = some (Go.TypeDesc.int Go.IntKind.u8) := opq Try.underlying141
@[simp ↓] theorem un141 {q : TypeDesc → Prop} : goUnd Try.prog 141 q = q (Go.TypeDesc.int Go.IntKind.u8) := by simp only [goUnd, und141]
theorem agg142 : aggT Try.prog 142 = some false := by unfold aggT; rw [Try.underlying142]; rfl
@[simp] theorem siz142 : szT Try.prog 142 = some 1 := by unfold szT; rw [show Try.prog.info? 142 = some Try.t142 from Try.type142]; rfl
@[simp ↓] theorem ty142 {q : Bool → Nat → Prop} : goTy Try.prog 142 q = q false 1 := by simp only [goTy, agg142, siz142]
@[simp ↓] theorem sz142 {q : Nat → Prop} : goSz Try.prog 142 q = q 1 := by simp only [goSz, siz142]
theorem zer142 : zero? Try.prog 142 = some (Go.Value.int Go.IntKind.u8 0) := by unfold zero?; rw [show Try.prog.info? 142 = some Try.t142 from Try.type142]; rfl
@[simp ↓] theorem z142 {q : List Value → Prop} : goZ Try.prog 142 q = q [(Go.Value.int Go.IntKind.u8 0)] := by simp [goZ, zer142, Value.cells]
@[simp] theorem und142 : Try.prog.underlying 142 = some (Go.TypeDesc.int Go.IntKind.u8) := opq Try.underlying142
@[simp ↓] theorem un142 {q : TypeDesc → Prop} : goUnd Try.prog 142 q = q (Go.TypeDesc.int Go.IntKind.u8) := by simp only [goUnd, und142]
theorem agg143 : aggT Try.prog 143 = some false := by unfold aggT; rw [Try.underlying143]; rfl
@[simp] theorem siz143 : szT Try.prog 143 = some 1 := by unfold szT; rw [show Try.prog.info? 143 = some Try.t143 from Try.type143]; rfl
@[simp ↓] theorem ty143 {q : Bool → Nat → Prop} : goTy Try.prog 143 q = q false 1 := by simp only [goTy, agg143, siz143]
@[simp ↓] theorem sz143 {q : Nat → Prop} : goSz Try.prog 143 q = q 1 := by simp only [goSz, siz143]
theorem zer143 : zero? Try.prog 143 = some Go.Value.nilFunc := by unfold zero?; rw [show Try.prog.info? 143 = some Try.t143 from Try.type143]; rfl
@[simp ↓] theorem z143 {q : List Value → Prop} : goZ Try.prog 143 q = q [Go.Value.nilFunc] := by simp [goZ, zer143, Value.cells]
theorem agg144 : aggT Try.prog 144 = some false := by unfold aggT; rw [Try.underlying144]; rfl
@[simp] theorem siz144 : szT Try.prog 144 = some 1 := by unfold szT; rw [show Try.prog.info? 144 = some Try.t144 from Try.type144]; rfl
@[simp ↓] theorem ty144 {q : Bool → Nat → Prop} : goTy Try.prog 144 q = q false 1 := by simp only [goTy, agg144, siz144]
@[simp ↓] theorem sz144 {q : Nat → Prop} : goSz Try.prog 144 q = q 1 := by simp only [goSz, siz144]
theorem zer144 : zero? Try.prog 144 = some (Go.Value.pointer none) := by unfold zero?; rw [show Try.prog.info? 144 = some Try.t144 from Try.type144]; rfl
@[simp ↓] theorem z144 {q : List Value → Prop} : goZ Try.prog 144 q = q [(Go.Value.pointer none)] := by simp [goZ, zer144, Value.cells]
@[simp] theorem und144 : Try.prog.underlying 144 = some (Go.TypeDesc.pointer 5) := opq Try.underlying144
@[simp ↓] theorem un144 {q : TypeDesc → Prop} : goUnd Try.prog 144 q = q (Go.TypeDesc.pointer 5) := by simp only [goUnd, und144]
theorem agg145 : aggT Try.prog 145 = some false := by unfold aggT; rw [Try.underlying145]; rfl
@[simp] theorem siz145 : szT Try.prog 145 = some 1 := by unfold szT; rw [show Try.prog.info? 145 = some Try.t145 from Try.type145]; rfl
@[simp ↓] theorem ty145 {q : Bool → Nat → Prop} : goTy Try.prog 145 q = q false 1 := by simp only [goTy, agg145, siz145]
@[simp ↓] theorem sz145 {q : Nat → Prop} : goSz Try.prog 145 q = q 1 := by simp only [goSz, siz145]
theorem zer145 : zero? Try.prog 145 = some (Go.Value.int Go.IntKind.i32 0) := by unfold zero?; rw [show Try.prog.info? 145 = some Try.t145 from Try.type145]; rfl
@[simp ↓] theorem z145 {q : List Value → Prop} : goZ Try.prog 145 q = q [(Go.Value.int Go.IntKind.i32 0)] := by simp [goZ, zer145, Value.cells]
@[simp] theorem und145 : Try.prog.underlying 145 = some (Go.TypeDesc.int Go.IntKind.i32) := opq Try.underlying145
@[simp ↓] theorem un145 {q : TypeDesc → Prop} : goUnd Try.prog 145 q = q (Go.TypeDesc.int Go.IntKind.i32) := by simp only [goUnd, und145]
theorem agg146 : aggT Try.prog 146 = some false := by unfold aggT; rw [Try.underlying146]; rfl
@[simp] theorem siz146 : szT Try.prog 146 = some 1 := by unfold szT; rw [show Try.prog.info? 146 = some Try.t146 from Try.type146]; rfl
@[simp ↓] theorem ty146 {q : Bool → Nat → Prop} : goTy Try.prog 146 q = q false 1 := by simp only [goTy, agg146, siz146]
@[simp ↓] theorem sz146 {q : Nat → Prop} : goSz Try.prog 146 q = q 1 := by simp only [goSz, siz146]
theorem zer146 : zero? Try.prog 146 = some (Go.Value.int Go.IntKind.i32 0) := by unfold zero?; rw [show Try.prog.info? 146 = some Try.t146 from Try.type146]; rfl
@[simp ↓] theorem z146 {q : List Value → Prop} : goZ Try.prog 146 q = q [(Go.Value.int Go.IntKind.i32 0)] := by simp [goZ, zer146, Value.cells]
@[simp] theorem und146 : Try.prog.underlying 146 = some (Go.TypeDesc.int Go.IntKind.i32) := opq Try.underlying146
@[simp ↓] theorem un146 {q : TypeDesc → Prop} : goUnd Try.prog 146 q = q (Go.TypeDesc.int Go.IntKind.i32) := by simp only [goUnd, und146]
theorem agg147 : aggT Try.prog 147 = some true := by unfold aggT; rw [Try.underlying147]; rfl
@[simp] theorem siz147 : szT Try.prog 147 = some 11 := by unfold szT; rw [show Try.prog.info? 147 = some Try.t147 from Try.type147]; rfl
@[simp ↓] theorem ty147 {q : Bool → Nat → Prop} : goTy Try.prog 147 q = q true 11 := by simp only [goTy, agg147, siz147]
@[simp ↓] theorem sz147 {q : Nat → Prop} : goSz Try.prog 147 q = q 11 := by simp only [goSz, siz147]
theorem zer147 : zero? Try.prog 147 = some
  (Go.Value.agg
    #[Go.Value.int Go.IntKind.u64 0, Go.Value.int Go.IntKind.u64 0, Go.Value.int Go.IntKind.u32 0,
      Go.Value.int Go.IntKind.u8 0, Go.Value.int Go.IntKind.u8 0, Go.Value.int Go.IntKind.u8 0,
      Go.Value.int Go.IntKind.u8 0, Go.Value.nilFunc, Go.Value.pointer none, Go.Value.int Go.IntKind.i32 0,
      Go.Value.int Go.IntKind.i32 0]) := by unfold zero?; rw [show Try.prog.info? 147 = some Try.t147 from Try.type147]; rfl
@[simp ↓] theorem z147 {q : List Value → Prop} : goZ Try.prog 147 q = q [Go.Value.int Go.IntKind.u64 0, Go.Value.int Go.IntKind.u64 0, Go.Value.int Go.IntKind.u32 0,
      Go.Value.int Go.IntKind.u8 0, Go.Value.int Go.IntKind.u8 0, Go.Value.int Go.IntKind.u8 0,
      Go.Value.int Go.IntKind.u8 0, Go.Value.nilFunc, Go.Value.pointer none, Go.Value.int Go.IntKind.i32 0,
      Go.Value.int Go.IntKind.i32 0] := by simp [goZ, zer147, Value.cells]
@[simp] theorem und147 : Try.prog.underlying 147 = some (Go.TypeDesc.struct
  #[{ name := "Size_", type := 12, offset := 0, embedded := false, tag := "", pkgPath := "", byteOffset := 0 },
    { name := "PtrBytes", type := 12, offset := 1, embedded := false, tag := "", pkgPath := "", byteOffset := 8 },
    { name := "Hash", type := 113, offset := 2, embedded := false, tag := "", pkgPath := "", byteOffset := 16 },
    { name := "TFlag", type := 141, offset := 3, embedded := false, tag := "", pkgPath := "", byteOffset := 20 },
    { name := "Align_", type := 5, offset := 4, embedded := false, tag := "", pkgPath := "", byteOffset := 21 },
    { name := "FieldAlign_", type := 5, offset := 5, embedded := false, tag := "", pkgPath := "", byteOffset := 22 },
    { name := "Kind_", type := 142, offset := 6, embedded := false, tag := "", pkgPath := "", byteOffset := 23 },
    { name := "Equal", type := 143, offset := 7, embedded := false, tag := "", pkgPath := "", byteOffset := 24 },
    { name := "GCData", type := 144, offset := 8, embedded := false, tag := "", pkgPath := "", byteOffset := 32 },
    { name := "Str", type := 145, offset := 9, embedded := false, tag := "", pkgPath := "", byteOffset := 40 },
    { name := "PtrToThis", type := 146, offset := 10, embedded := false, tag := "", pkgPath := "", byteOffset := 44 }]) := opq Try.underlying147
@[simp ↓] theorem fld147_0 {q : Nat → TypeId → Prop} : goFld Try.prog 147 0 q = q 0 12 := by simp only [goFld, und147]; rfl
@[simp ↓] theorem fld147_1 {q : Nat → TypeId → Prop} : goFld Try.prog 147 1 q = q 1 12 := by simp only [goFld, und147]; rfl
@[simp ↓] theorem fld147_2 {q : Nat → TypeId → Prop} : goFld Try.prog 147 2 q = q 2 113 := by simp only [goFld, und147]; rfl
@[simp ↓] theorem fld147_3 {q : Nat → TypeId → Prop} : goFld Try.prog 147 3 q = q 3 141 := by simp only [goFld, und147]; rfl
@[simp ↓] theorem fld147_4 {q : Nat → TypeId → Prop} : goFld Try.prog 147 4 q = q 4 5 := by simp only [goFld, und147]; rfl
@[simp ↓] theorem fld147_5 {q : Nat → TypeId → Prop} : goFld Try.prog 147 5 q = q 5 5 := by simp only [goFld, und147]; rfl
@[simp ↓] theorem fld147_6 {q : Nat → TypeId → Prop} : goFld Try.prog 147 6 q = q 6 142 := by simp only [goFld, und147]; rfl
@[simp ↓] theorem fld147_7 {q : Nat → TypeId → Prop} : goFld Try.prog 147 7 q = q 7 143 := by simp only [goFld, und147]; rfl
@[simp ↓] theorem fld147_8 {q : Nat → TypeId → Prop} : goFld Try.prog 147 8 q = q 8 144 := by simp only [goFld, und147]; rfl
@[simp ↓] theorem fld147_9 {q : Nat → TypeId → Prop} : goFld Try.prog 147 9 q = q 9 145 := by simp only [goFld, und147]; rfl
@[simp ↓] theorem fld147_10 {q : Nat → TypeId → Prop} : goFld Try.prog 147 10 q = q 10 146 := by simp only [goFld, und147]; rfl
@[simp ↓] theorem bld147 {q : List Value → List (Nat × Nat) → Prop} : goBld Try.prog 147 q = q [Go.Value.int Go.IntKind.u64 0, Go.Value.int Go.IntKind.u64 0, Go.Value.int Go.IntKind.u32 0,
      Go.Value.int Go.IntKind.u8 0, Go.Value.int Go.IntKind.u8 0, Go.Value.int Go.IntKind.u8 0,
      Go.Value.int Go.IntKind.u8 0, Go.Value.nilFunc, Go.Value.pointer none, Go.Value.int Go.IntKind.i32 0,
      Go.Value.int Go.IntKind.i32 0] [(0, 1), (1, 1), (2, 1), (3, 1), (4, 1), (5, 1), (6, 1), (7, 1), (8, 1), (9, 1), (10, 1)] := by simp [goBld, und147, zer147, placesL, Value.cells]
theorem agg148 : aggT Try.prog 148 = some true := by unfold aggT; rw [Try.underlying148]; rfl
@[simp] theorem siz148 : szT Try.prog 148 = some 11 := by unfold szT; rw [show Try.prog.info? 148 = some Try.t148 from Try.type148]; rfl
@[simp ↓] theorem ty148 {q : Bool → Nat → Prop} : goTy Try.prog 148 q = q true 11 := by simp only [goTy, agg148, siz148]
@[simp ↓] theorem sz148 {q : Nat → Prop} : goSz Try.prog 148 q = q 11 := by simp only [goSz, siz148]
theorem zer148 : zero? Try.prog 148 = some
  (Go.Value.agg
    #[Go.Value.int Go.IntKind.u64 0, Go.Value.int Go.IntKind.u64 0, Go.Value.int Go.IntKind.u32 0,
      Go.Value.int Go.IntKind.u8 0, Go.Value.int Go.IntKind.u8 0, Go.Value.int Go.IntKind.u8 0,
      Go.Value.int Go.IntKind.u8 0, Go.Value.nilFunc, Go.Value.pointer none, Go.Value.int Go.IntKind.i32 0,
      Go.Value.int Go.IntKind.i32 0]) := by unfold zero?; rw [show Try.prog.info? 148 = some Try.t148 from Try.type148]; rfl
@[simp ↓] theorem z148 {q : List Value → Prop} : goZ Try.prog 148 q = q [Go.Value.int Go.IntKind.u64 0, Go.Value.int Go.IntKind.u64 0, Go.Value.int Go.IntKind.u32 0,
      Go.Value.int Go.IntKind.u8 0, Go.Value.int Go.IntKind.u8 0, Go.Value.int Go.IntKind.u8 0,
      Go.Value.int Go.IntKind.u8 0, Go.Value.nilFunc, Go.Value.pointer none, Go.Value.int Go.IntKind.i32 0,
      Go.Value.int Go.IntKind.i32 0] := by simp [goZ, zer148, Value.cells]
@[simp] theorem und148 : Try.prog.underlying 148 = some (Go.TypeDesc.struct
  #[{ name := "Size_", type := 12, offset := 0, embedded := false, tag := "", pkgPath := "", byteOffset := 0 },
    { name := "PtrBytes", type := 12, offset := 1, embedded := false, tag := "", pkgPath := "", byteOffset := 8 },
    { name := "Hash", type := 113, offset := 2, embedded := false, tag := "", pkgPath := "", byteOffset := 16 },
    { name := "TFlag", type := 141, offset := 3, embedded := false, tag := "", pkgPath := "", byteOffset := 20 },
    { name := "Align_", type := 5, offset := 4, embedded := false, tag := "", pkgPath := "", byteOffset := 21 },
    { name := "FieldAlign_", type := 5, offset := 5, embedded := false, tag := "", pkgPath := "", byteOffset := 22 },
    { name := "Kind_", type := 142, offset := 6, embedded := false, tag := "", pkgPath := "", byteOffset := 23 },
    { name := "Equal", type := 143, offset := 7, embedded := false, tag := "", pkgPath := "", byteOffset := 24 },
    { name := "GCData", type := 144, offset := 8, embedded := false, tag := "", pkgPath := "", byteOffset := 32 },
    { name := "Str", type := 145, offset := 9, embedded := false, tag := "", pkgPath := "", byteOffset := 40 },
    { name := "PtrToThis", type := 146, offset := 10, embedded := false, tag := "", pkgPath := "", byteOffset := 44 }]) := opq Try.underlying148
@[simp ↓] theorem fld148_0 {q : Nat → TypeId → Prop} : goFld Try.prog 148 0 q = q 0 12 := by simp only [goFld, und148]; rfl
@[simp ↓] theorem fld148_1 {q : Nat → TypeId → Prop} : goFld Try.prog 148 1 q = q 1 12 := by simp only [goFld, und148]; rfl
@[simp ↓] theorem fld148_2 {q : Nat → TypeId → Prop} : goFld Try.prog 148 2 q = q 2 113 := by simp only [goFld, und148]; rfl
@[simp ↓] theorem fld148_3 {q : Nat → TypeId → Prop} : goFld Try.prog 148 3 q = q 3 141 := by simp only [goFld, und148]; rfl
@[simp ↓] theorem fld148_4 {q : Nat → TypeId → Prop} : goFld Try.prog 148 4 q = q 4 5 := by simp only [goFld, und148]; rfl
@[simp ↓] theorem fld148_5 {q : Nat → TypeId → Prop} : goFld Try.prog 148 5 q = q 5 5 := by simp only [goFld, und148]; rfl
@[simp ↓] theorem fld148_6 {q : Nat → TypeId → Prop} : goFld Try.prog 148 6 q = q 6 142 := by simp only [goFld, und148]; rfl
@[simp ↓] theorem fld148_7 {q : Nat → TypeId → Prop} : goFld Try.prog 148 7 q = q 7 143 := by simp only [goFld, und148]; rfl
@[simp ↓] theorem fld148_8 {q : Nat → TypeId → Prop} : goFld Try.prog 148 8 q = q 8 144 := by simp only [goFld, und148]; rfl
@[simp ↓] theorem fld148_9 {q : Nat → TypeId → Prop} : goFld Try.prog 148 9 q = q 9 145 := by simp only [goFld, und148]; rfl
@[simp ↓] theorem fld148_10 {q : Nat → TypeId → Prop} : goFld Try.prog 148 10 q = q 10 146 := by simp only [goFld, und148]; rfl
@[simp ↓] theorem bld148 {q : List Value → List (Nat × Nat) → Prop} : goBld Try.prog 148 q = q [Go.Value.int Go.IntKind.u64 0, Go.Value.int Go.IntKind.u64 0, Go.Value.int Go.IntKind.u32 0,
      Go.Value.int Go.IntKind.u8 0, Go.Value.int Go.IntKind.u8 0, Go.Value.int Go.IntKind.u8 0,
      Go.Value.int Go.IntKind.u8 0, Go.Value.nilFunc, Go.Value.pointer none, Go.Value.int Go.IntKind.i32 0,
      Go.Value.int Go.IntKind.i32 0] [(0, 1), (1, 1), (2, 1), (3, 1), (4, 1), (5, 1), (6, 1), (7, 1), (8, 1), (9, 1), (10, 1)] := by simp [goBld, und148, zer148, placesL, Value.cells]
theorem agg149 : aggT Try.prog 149 = some false := by unfold aggT; rw [Try.underlying149]; rfl
@[simp] theorem siz149 : szT Try.prog 149 = some 1 := by unfold szT; rw [show Try.prog.info? 149 = some Try.t149 from Try.type149]; rfl
@[simp ↓] theorem ty149 {q : Bool → Nat → Prop} : goTy Try.prog 149 q = q false 1 := by simp only [goTy, agg149, siz149]
@[simp ↓] theorem sz149 {q : Nat → Prop} : goSz Try.prog 149 q = q 1 := by simp only [goSz, siz149]
theorem zer149 : zero? Try.prog 149 = some Go.Value.nilFunc := by unfold zero?; rw [show Try.prog.info? 149 = some Try.t149 from Try.type149]; rfl
@[simp ↓] theorem z149 {q : List Value → Prop} : goZ Try.prog 149 q = q [Go.Value.nilFunc] := by simp [goZ, zer149, Value.cells]
theorem agg150 : aggT Try.prog 150 = some false := by unfold aggT; rw [Try.underlying150]; rfl
@[simp] theorem siz150 : szT Try.prog 150 = some 1 := by unfold szT; rw [show Try.prog.info? 150 = some Try.t150 from Try.type150]; rfl
@[simp ↓] theorem ty150 {q : Bool → Nat → Prop} : goTy Try.prog 150 q = q false 1 := by simp only [goTy, agg150, siz150]
@[simp ↓] theorem sz150 {q : Nat → Prop} : goSz Try.prog 150 q = q 1 := by simp only [goSz, siz150]
theorem zer150 : zero? Try.prog 150 = some Go.Value.nilFunc := by unfold zero?; rw [show Try.prog.info? 150 = some Try.t150 from Try.type150]; rfl
@[simp ↓] theorem z150 {q : List Value → Prop} : goZ Try.prog 150 q = q [Go.Value.nilFunc] := by simp [goZ, zer150, Value.cells]
theorem agg151 : aggT Try.prog 151 = some false := by unfold aggT; rw [Try.underlying151]; rfl
@[simp] theorem siz151 : szT Try.prog 151 = some 1 := by unfold szT; rw [show Try.prog.info? 151 = some Try.t151 from Try.type151]; rfl
@[simp ↓] theorem ty151 {q : Bool → Nat → Prop} : goTy Try.prog 151 q = q false 1 := by simp only [goTy, agg151, siz151]
@[simp ↓] theorem sz151 {q : Nat → Prop} : goSz Try.prog 151 q = q 1 := by simp only [goSz, siz151]
theorem zer151 : zero? Try.prog 151 = some (Go.Value.pointer none) := by unfold zero?; rw [show Try.prog.info? 151 = some Try.t151 from Try.type151]; rfl
@[simp ↓] theorem z151 {q : List Value → Prop} : goZ Try.prog 151 q = q [(Go.Value.pointer none)] := by simp [goZ, zer151, Value.cells]
@[simp] theorem und151 : Try.prog.underlying 151 = some (Go.TypeDesc.unsafePointer) := opq Try.underlying151
@[simp ↓] theorem un151 {q : TypeDesc → Prop} : goUnd Try.prog 151 q = q (Go.TypeDesc.unsafePointer) := by simp only [goUnd, und151]
theorem agg152 : aggT Try.prog 152 = some true := by unfold aggT; rw [Try.underlying152]; rfl
@[simp] theorem siz152 : szT Try.prog 152 = some 3 := by unfold szT; rw [show Try.prog.info? 152 = some Try.t152 from Try.type152]; rfl
@[simp ↓] theorem ty152 {q : Bool → Nat → Prop} : goTy Try.prog 152 q = q true 3 := by simp only [goTy, agg152, siz152]
@[simp ↓] theorem sz152 {q : Nat → Prop} : goSz Try.prog 152 q = q 3 := by simp only [goSz, siz152]
theorem zer152 : zero? Try.prog 152 = some (Go.Value.agg #[Go.Value.bool false, Go.Value.int Go.IntKind.i64 0, Go.Value.string { data := #[] }]) := by unfold zero?; rw [show Try.prog.info? 152 = some Try.t152 from Try.type152]; rfl
@[simp ↓] theorem z152 {q : List Value → Prop} : goZ Try.prog 152 q = q [Go.Value.bool false, Go.Value.int Go.IntKind.i64 0, Go.Value.string { data := #[] }] := by simp [goZ, zer152, Value.cells]
@[simp] theorem und152 : Try.prog.underlying 152 = some (Go.TypeDesc.struct
  #[{ name := "Has", type := 4, offset := 0, embedded := false, tag := "", pkgPath := "", byteOffset := 0 },
    { name := "Code", type := 3, offset := 1, embedded := false, tag := "", pkgPath := "", byteOffset := 8 },
    { name := "Text", type := 9, offset := 2, embedded := false, tag := "", pkgPath := "", byteOffset := 16 }]) := opq Try.underlying152
@[simp ↓] theorem fld152_0 {q : Nat → TypeId → Prop} : goFld Try.prog 152 0 q = q 0 4 := by simp only [goFld, und152]; rfl
@[simp ↓] theorem fld152_1 {q : Nat → TypeId → Prop} : goFld Try.prog 152 1 q = q 1 3 := by simp only [goFld, und152]; rfl
@[simp ↓] theorem fld152_2 {q : Nat → TypeId → Prop} : goFld Try.prog 152 2 q = q 2 9 := by simp only [goFld, und152]; rfl
@[simp ↓] theorem bld152 {q : List Value → List (Nat × Nat) → Prop} : goBld Try.prog 152 q = q [Go.Value.bool false, Go.Value.int Go.IntKind.i64 0, Go.Value.string { data := #[] }] [(0, 1), (1, 1), (2, 1)] := by simp [goBld, und152, zer152, placesL, Value.cells]
theorem agg153 : aggT Try.prog 153 = some true := by unfold aggT; rw [Try.underlying153]; rfl
@[simp] theorem siz153 : szT Try.prog 153 = some 3 := by unfold szT; rw [show Try.prog.info? 153 = some Try.t153 from Try.type153]; rfl
@[simp ↓] theorem ty153 {q : Bool → Nat → Prop} : goTy Try.prog 153 q = q true 3 := by simp only [goTy, agg153, siz153]
@[simp ↓] theorem sz153 {q : Nat → Prop} : goSz Try.prog 153 q = q 3 := by simp only [goSz, siz153]
theorem zer153 : zero? Try.prog 153 = some (Go.Value.agg #[Go.Value.bool false, Go.Value.int Go.IntKind.i64 0, Go.Value.string { data := #[] }]) := by unfold zero?; rw [show Try.prog.info? 153 = some Try.t153 from Try.type153]; rfl
@[simp ↓] theorem z153 {q : List Value → Prop} : goZ Try.prog 153 q = q [Go.Value.bool false, Go.Value.int Go.IntKind.i64 0, Go.Value.string { data := #[] }] := by simp [goZ, zer153, Value.cells]
@[simp] theorem und153 : Try.prog.underlying 153 = some (Go.TypeDesc.struct
  #[{ name := "Has", type := 4, offset := 0, embedded := false, tag := "", pkgPath := "", byteOffset := 0 },
    { name := "Code", type := 3, offset := 1, embedded := false, tag := "", pkgPath := "", byteOffset := 8 },
    { name := "Text", type := 9, offset := 2, embedded := false, tag := "", pkgPath := "", byteOffset := 16 }]) := opq Try.underlying153
@[simp ↓] theorem fld153_0 {q : Nat → TypeId → Prop} : goFld Try.prog 153 0 q = q 0 4 := by simp only [goFld, und153]; rfl
@[simp ↓] theorem fld153_1 {q : Nat → TypeId → Prop} : goFld Try.prog 153 1 q = q 1 3 := by simp only [goFld, und153]; rfl
@[simp ↓] theorem fld153_2 {q : Nat → TypeId → Prop} : goFld Try.prog 153 2 q = q 2 9 := by simp only [goFld, und153]; rfl
@[simp ↓] theorem bld153 {q : List Value → List (Nat × Nat) → Prop} : goBld Try.prog 153 q = q [Go.Value.bool false, Go.Value.int Go.IntKind.i64 0, Go.Value.string { data := #[] }] [(0, 1), (1, 1), (2, 1)] := by simp [goBld, und153, zer153, placesL, Value.cells]
end Go.Proofs.Ytehhjbomdohgoab
