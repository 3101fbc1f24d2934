/- Facts about the seat's types, for the abstract machine. No condition. -/
import Derived.Test.YtehhjbomdohgoaaProg
import Derived.Test.YtehhjbomdohgoaaAm20
namespace Go.Proofs.Ytehhjbomdohgoaa
open Go Go.Am Go.Proofs
set_option linter.unusedSimpArgs false
set_option maxRecDepth 100000
theorem agg1 : aggT Try.prog 1 = some false := by unfold aggT; rw [Try.underlying1]; rfl
@[simp] theorem siz1 : szT Try.prog 1 = some 1 := by unfold szT; rw [show Try.prog.info? 1 = some Try.t1 from Try.type1]; rfl
@[simp ↓] theorem ty1 {q : Bool → Nat → Prop} : goTy Try.prog 1 q = q false 1 := by simp only [goTy, agg1, siz1]
@[simp ↓] theorem sz1 {q : Nat → Prop} : goSz Try.prog 1 q = q 1 := by simp only [goSz, siz1]
theorem zer1 : zero? Try.prog 1 = some Go.Value.nilFunc := by unfold zero?; rw [show Try.prog.info? 1 = some Try.t1 from Try.type1]; rfl
@[simp ↓] theorem z1 {q : List Value → Prop} : goZ Try.prog 1 q = q [Go.Value.nilFunc] := by simp [goZ, zer1, Value.cells]
theorem agg2 : aggT Try.prog 2 = some false := by unfold aggT; rw [Try.underlying2]; rfl
@[simp] theorem siz2 : szT Try.prog 2 = some 1 := by unfold szT; rw [show Try.prog.info? 2 = some Try.t2 from Try.type2]; rfl
@[simp ↓] theorem ty2 {q : Bool → Nat → Prop} : goTy Try.prog 2 q = q false 1 := by simp only [goTy, agg2, siz2]
@[simp ↓] theorem sz2 {q : Nat → Prop} : goSz Try.prog 2 q = q 1 := by simp only [goSz, siz2]
theorem zer2 : zero? Try.prog 2 = some (Go.Value.int Go.IntKind.i64 0) := by unfold zero?; rw [show Try.prog.info? 2 = some Try.t2 from Try.type2]; rfl
@[simp ↓] theorem z2 {q : List Value → Prop} : goZ Try.prog 2 q = q [(Go.Value.int Go.IntKind.i64 0)] := by simp [goZ, zer2, Value.cells]
@[simp] theorem und2 : Try.prog.underlying 2 = some (Go.TypeDesc.int Go.IntKind.i64) := opq Try.underlying2
@[simp ↓] theorem un2 {q : TypeDesc → Prop} : goUnd Try.prog 2 q = q (Go.TypeDesc.int Go.IntKind.i64) := by simp only [goUnd, und2]
theorem agg3 : aggT Try.prog 3 = some false := by unfold aggT; rw [Try.underlying3]; rfl
@[simp] theorem siz3 : szT Try.prog 3 = some 1 := by unfold szT; rw [show Try.prog.info? 3 = some Try.t3 from Try.type3]; rfl
@[simp ↓] theorem ty3 {q : Bool → Nat → Prop} : goTy Try.prog 3 q = q false 1 := by simp only [goTy, agg3, siz3]
@[simp ↓] theorem sz3 {q : Nat → Prop} : goSz Try.prog 3 q = q 1 := by simp only [goSz, siz3]
theorem zer3 : zero? Try.prog 3 = some (Go.Value.int Go.IntKind.i64 0) := by unfold zero?; rw [show Try.prog.info? 3 = some Try.t3 from Try.type3]; rfl
@[simp ↓] theorem z3 {q : List Value → Prop} : goZ Try.prog 3 q = q [(Go.Value.int Go.IntKind.i64 0)] := by simp [goZ, zer3, Value.cells]
@[simp] theorem und3 : Try.prog.underlying 3 = some (Go.TypeDesc.int Go.IntKind.i64) := opq Try.underlying3
@[simp ↓] theorem un3 {q : TypeDesc → Prop} : goUnd Try.prog 3 q = q (Go.TypeDesc.int Go.IntKind.i64) := by simp only [goUnd, und3]
theorem agg4 : aggT Try.prog 4 = some false := by unfold aggT; rw [Try.underlying4]; rfl
@[simp] theorem siz4 : szT Try.prog 4 = some 1 := by unfold szT; rw [show Try.prog.info? 4 = some Try.t4 from Try.type4]; rfl
@[simp ↓] theorem ty4 {q : Bool → Nat → Prop} : goTy Try.prog 4 q = q false 1 := by simp only [goTy, agg4, siz4]
@[simp ↓] theorem sz4 {q : Nat → Prop} : goSz Try.prog 4 q = q 1 := by simp only [goSz, siz4]
theorem zer4 : zero? Try.prog 4 = some (Go.Value.bool false) := by unfold zero?; rw [show Try.prog.info? 4 = some Try.t4 from Try.type4]; rfl
@[simp ↓] theorem z4 {q : List Value → Prop} : goZ Try.prog 4 q = q [(Go.Value.bool false)] := by simp [goZ, zer4, Value.cells]
@[simp] theorem und4 : Try.prog.underlying 4 = some (Go.TypeDesc.bool) := opq Try.underlying4
@[simp ↓] theorem un4 {q : TypeDesc → Prop} : goUnd Try.prog 4 q = q (Go.TypeDesc.bool) := by simp only [goUnd, und4]
theorem agg5 : aggT Try.prog 5 = some false := by unfold aggT; rw [Try.underlying5]; rfl
@[simp] theorem siz5 : szT Try.prog 5 = some 1 := by unfold szT; rw [show Try.prog.info? 5 = some Try.t5 from Try.type5]; rfl
@[simp ↓] theorem ty5 {q : Bool → Nat → Prop} : goTy Try.prog 5 q = q false 1 := by simp only [goTy, agg5, siz5]
@[simp ↓] theorem sz5 {q : Nat → Prop} : goSz Try.prog 5 q = q 1 := by simp only [goSz, siz5]
theorem zer5 : zero? Try.prog 5 = some (Go.Value.int Go.IntKind.u8 0) := by unfold zero?; rw [show Try.prog.info? 5 = some Try.t5 from Try.type5]; rfl
@[simp ↓] theorem z5 {q : List Value → Prop} : goZ Try.prog 5 q = q [(Go.Value.int Go.IntKind.u8 0)] := by simp [goZ, zer5, Value.cells]
@[simp] theorem und5 : Try.prog.underlying 5 = some (Go.TypeDesc.int Go.IntKind.u8) := opq Try.underlying5
@[simp ↓] theorem un5 {q : TypeDesc → Prop} : goUnd Try.prog 5 q = q (Go.TypeDesc.int Go.IntKind.u8) := by simp only [goUnd, und5]
theorem agg6 : aggT Try.prog 6 = some false := by unfold aggT; rw [Try.underlying6]; rfl
@[simp] theorem siz6 : szT Try.prog 6 = some 1 := by unfold szT; rw [show Try.prog.info? 6 = some Try.t6 from Try.type6]; rfl
@[simp ↓] theorem ty6 {q : Bool → Nat → Prop} : goTy Try.prog 6 q = q false 1 := by simp only [goTy, agg6, siz6]
@[simp ↓] theorem sz6 {q : Nat → Prop} : goSz Try.prog 6 q = q 1 := by simp only [goSz, siz6]
theorem zer6 : zero? Try.prog 6 = some (Go.Value.int Go.IntKind.u8 0) := by unfold zero?; rw [show Try.prog.info? 6 = some Try.t6 from Try.type6]; rfl
@[simp ↓] theorem z6 {q : List Value → Prop} : goZ Try.prog 6 q = q [(Go.Value.int Go.IntKind.u8 0)] := by simp [goZ, zer6, Value.cells]
@[simp] theorem und6 : Try.prog.underlying 6 = some (Go.TypeDesc.int Go.IntKind.u8) := opq Try.underlying6
@[simp ↓] theorem un6 {q : TypeDesc → Prop} : goUnd Try.prog 6 q = q (Go.TypeDesc.int Go.IntKind.u8) := by simp only [goUnd, und6]
theorem agg7 : aggT Try.prog 7 = some true := by unfold aggT; rw [Try.underlying7]; rfl
@[simp] theorem siz7 : szT Try.prog 7 = some 4 := by unfold szT; rw [show Try.prog.info? 7 = some Try.t7 from Try.type7]; rfl
@[simp ↓] theorem ty7 {q : Bool → Nat → Prop} : goTy Try.prog 7 q = q true 4 := by simp only [goTy, agg7, siz7]
@[simp ↓] theorem sz7 {q : Nat → Prop} : goSz Try.prog 7 q = q 4 := by simp only [goSz, siz7]
theorem zer7 : zero? Try.prog 7 = some
  (Go.Value.agg
    #[Go.Value.int Go.IntKind.i64 0, Go.Value.int Go.IntKind.i64 0, Go.Value.bool false, Go.Value.int Go.IntKind.u8 0]) := by unfold zero?; rw [show Try.prog.info? 7 = some Try.t7 from Try.type7]; rfl
@[simp ↓] theorem z7 {q : List Value → Prop} : goZ Try.prog 7 q = q [Go.Value.int Go.IntKind.i64 0, Go.Value.int Go.IntKind.i64 0, Go.Value.bool false, Go.Value.int Go.IntKind.u8 0] := by simp [goZ, zer7, Value.cells]
@[simp] theorem und7 : Try.prog.underlying 7 = some (Go.TypeDesc.struct
  #[{ name := "x", type := 2, offset := 0, embedded := false, tag := "", pkgPath := "runtime", byteOffset := 0 },
    { name := "y", type := 3, offset := 1, embedded := false, tag := "", pkgPath := "runtime", byteOffset := 8 },
    { name := "signed", type := 4, offset := 2, embedded := false, tag := "", pkgPath := "runtime", byteOffset := 16 },
    { name := "code", type := 6, offset := 3, embedded := false, tag := "", pkgPath := "runtime", byteOffset := 17 }]) := opq Try.underlying7
@[simp ↓] theorem fld7_0 {q : Nat → TypeId → Prop} : goFld Try.prog 7 0 q = q 0 2 := by simp only [goFld, und7]; rfl
@[simp ↓] theorem fld7_1 {q : Nat → TypeId → Prop} : goFld Try.prog 7 1 q = q 1 3 := by simp only [goFld, und7]; rfl
@[simp ↓] theorem fld7_2 {q : Nat → TypeId → Prop} : goFld Try.prog 7 2 q = q 2 4 := by simp only [goFld, und7]; rfl
@[simp ↓] theorem fld7_3 {q : Nat → TypeId → Prop} : goFld Try.prog 7 3 q = q 3 6 := by simp only [goFld, und7]; rfl
@[simp ↓] theorem bld7 {q : List Value → List (Nat × Nat) → Prop} : goBld Try.prog 7 q = q [Go.Value.int Go.IntKind.i64 0, Go.Value.int Go.IntKind.i64 0, Go.Value.bool false, Go.Value.int Go.IntKind.u8 0] [(0, 1), (1, 1), (2, 1), (3, 1)] := by simp [goBld, und7, zer7, placesL, Value.cells]
theorem agg8 : aggT Try.prog 8 = some true := by unfold aggT; rw [Try.underlying8]; rfl
@[simp] theorem siz8 : szT Try.prog 8 = some 4 := by unfold szT; rw [show Try.prog.info? 8 = some Try.t8 from Try.type8]; rfl
@[simp ↓] theorem ty8 {q : Bool → Nat → Prop} : goTy Try.prog 8 q = q true 4 := by simp only [goTy, agg8, siz8]
@[simp ↓] theorem sz8 {q : Nat → Prop} : goSz Try.prog 8 q = q 4 := by simp only [goSz, siz8]
theorem zer8 : zero? Try.prog 8 = some
  (Go.Value.agg
    #[Go.Value.int Go.IntKind.i64 0, Go.Value.int Go.IntKind.i64 0, Go.Value.bool false, Go.Value.int Go.IntKind.u8 0]) := by unfold zero?; rw [show Try.prog.info? 8 = some Try.t8 from Try.type8]; rfl
@[simp ↓] theorem z8 {q : List Value → Prop} : goZ Try.prog 8 q = q [Go.Value.int Go.IntKind.i64 0, Go.Value.int Go.IntKind.i64 0, Go.Value.bool false, Go.Value.int Go.IntKind.u8 0] := by simp [goZ, zer8, Value.cells]
@[simp] theorem und8 : Try.prog.underlying 8 = some (Go.TypeDesc.struct
  #[{ name := "x", type := 2, offset := 0, embedded := false, tag := "", pkgPath := "runtime", byteOffset := 0 },
    { name := "y", type := 3, offset := 1, embedded := false, tag := "", pkgPath := "runtime", byteOffset := 8 },
    { name := "signed", type := 4, offset := 2, embedded := false, tag := "", pkgPath := "runtime", byteOffset := 16 },
    { name := "code", type := 6, offset := 3, embedded := false, tag := "", pkgPath := "runtime", byteOffset := 17 }]) := opq Try.underlying8
@[simp ↓] theorem fld8_0 {q : Nat → TypeId → Prop} : goFld Try.prog 8 0 q = q 0 2 := by simp only [goFld, und8]; rfl
@[simp ↓] theorem fld8_1 {q : Nat → TypeId → Prop} : goFld Try.prog 8 1 q = q 1 3 := by simp only [goFld, und8]; rfl
@[simp ↓] theorem fld8_2 {q : Nat → TypeId → Prop} : goFld Try.prog 8 2 q = q 2 4 := by simp only [goFld, und8]; rfl
@[simp ↓] theorem fld8_3 {q : Nat → TypeId → Prop} : goFld Try.prog 8 3 q = q 3 6 := by simp only [goFld, und8]; rfl
@[simp ↓] theorem bld8 {q : List Value → List (Nat × Nat) → Prop} : goBld Try.prog 8 q = q [Go.Value.int Go.IntKind.i64 0, Go.Value.int Go.IntKind.i64 0, Go.Value.bool false, Go.Value.int Go.IntKind.u8 0] [(0, 1), (1, 1), (2, 1), (3, 1)] := by simp [goBld, und8, zer8, placesL, Value.cells]
theorem agg9 : aggT Try.prog 9 = some false := by unfold aggT; rw [Try.underlying9]; rfl
@[simp] theorem siz9 : szT Try.prog 9 = some 1 := by unfold szT; rw [show Try.prog.info? 9 = some Try.t9 from Try.type9]; rfl
@[simp ↓] theorem ty9 {q : Bool → Nat → Prop} : goTy Try.prog 9 q = q false 1 := by simp only [goTy, agg9, siz9]
@[simp ↓] theorem sz9 {q : Nat → Prop} : goSz Try.prog 9 q = q 1 := by simp only [goSz, siz9]
theorem zer9 : zero? Try.prog 9 = some (Go.Value.string { data := #[] }) := by unfold zero?; rw [show Try.prog.info? 9 = some Try.t9 from Try.type9]; rfl
@[simp ↓] theorem z9 {q : List Value → Prop} : goZ Try.prog 9 q = q [(Go.Value.string { data := #[] })] := by simp [goZ, zer9, Value.cells]
@[simp] theorem und9 : Try.prog.underlying 9 = some (Go.TypeDesc.string) := opq Try.underlying9
@[simp ↓] theorem un9 {q : TypeDesc → Prop} : goUnd Try.prog 9 q = q (Go.TypeDesc.string) := by simp only [goUnd, und9]
theorem agg10 : aggT Try.prog 10 = some false := by unfold aggT; rw [Try.underlying10]; rfl
@[simp] theorem siz10 : szT Try.prog 10 = some 1 := by unfold szT; rw [show Try.prog.info? 10 = some Try.t10 from Try.type10]; rfl
@[simp ↓] theorem ty10 {q : Bool → Nat → Prop} : goTy Try.prog 10 q = q false 1 := by simp only [goTy, agg10, siz10]
@[simp ↓] theorem sz10 {q : Nat → Prop} : goSz Try.prog 10 q = q 1 := by simp only [goSz, siz10]
theorem zer10 : zero? Try.prog 10 = some (Go.Value.string { data := #[] }) := by unfold zero?; rw [show Try.prog.info? 10 = some Try.t10 from Try.type10]; rfl
@[simp ↓] theorem z10 {q : List Value → Prop} : goZ Try.prog 10 q = q [(Go.Value.string { data := #[] })] := by simp [goZ, zer10, Value.cells]
@[simp] theorem und10 : Try.prog.underlying 10 = some (Go.TypeDesc.string) := opq Try.underlying10
@[simp ↓] theorem un10 {q : TypeDesc → Prop} : goUnd Try.prog 10 q = q (Go.TypeDesc.string) := by simp only [goUnd, und10]
theorem agg11 : aggT Try.prog 11 = some false := by unfold aggT; rw [Try.underlying11]; rfl
@[simp] theorem siz11 : szT Try.prog 11 = some 1 := by unfold szT; rw [show Try.prog.info? 11 = some Try.t11 from Try.type11]; rfl
@[simp ↓] theorem ty11 {q : Bool → Nat → Prop} : goTy Try.prog 11 q = q false 1 := by simp only [goTy, agg11, siz11]
@[simp ↓] theorem sz11 {q : Nat → Prop} : goSz Try.prog 11 q = q 1 := by simp only [goSz, siz11]
theorem zer11 : zero? Try.prog 11 = some (Go.Value.string { data := #[] }) := by unfold zero?; rw [show Try.prog.info? 11 = some Try.t11 from Try.type11]; rfl
@[simp ↓] theorem z11 {q : List Value → Prop} : goZ Try.prog 11 q = q [(Go.Value.string { data := #[] })] := by simp [goZ, zer11, Value.cells]
@[simp] theorem und11 : Try.prog.underlying 11 = some (Go.TypeDesc.string) := opq Try.underlying11
@[simp ↓] theorem un11 {q : TypeDesc → Prop} : goUnd Try.prog 11 q = q (Go.TypeDesc.string) := by simp only [goUnd, und11]
theorem agg12 : aggT Try.prog 12 = some false := by unfold aggT; rw [Try.underlying12]; rfl
@[simp] theorem siz12 : szT Try.prog 12 = some 1 := by unfold szT; rw [show Try.prog.info? 12 = some Try.t12 from Try.type12]; rfl
@[simp ↓] theorem ty12 {q : Bool → Nat → Prop} : goTy Try.prog 12 q = q false 1 := by simp only [goTy, agg12, siz12]
@[simp ↓] theorem sz12 {q : Nat → Prop} : goSz Try.prog 12 q = q 1 := by simp only [goSz, siz12]
theorem zer12 : zero? Try.prog 12 = some (Go.Value.int Go.IntKind.u64 0) := by unfold zero?; rw [show Try.prog.info? 12 = some Try.t12 from Try.type12]; rfl
@[simp ↓] theorem z12 {q : List Value → Prop} : goZ Try.prog 12 q = q [(Go.Value.int Go.IntKind.u64 0)] := by simp [goZ, zer12, Value.cells]
@[simp] theorem und12 : Try.prog.underlying 12 = some (Go.TypeDesc.int Go.IntKind.u64) := opq Try.underlying12
@[simp ↓] theorem un12 {q : TypeDesc → Prop} : goUnd Try.prog 12 q = q (Go.TypeDesc.int Go.IntKind.u64) := by simp only [goUnd, und12]
theorem agg13 : aggT Try.prog 13 = some true := by unfold aggT; rw [Try.underlying13]; rfl
@[simp] theorem siz13 : szT Try.prog 13 = some 2 := by unfold szT; rw [show Try.prog.info? 13 = some Try.t13 from Try.type13]; rfl
@[simp ↓] theorem ty13 {q : Bool → Nat → Prop} : goTy Try.prog 13 q = q true 2 := by simp only [goTy, agg13, siz13]
@[simp ↓] theorem sz13 {q : Nat → Prop} : goSz Try.prog 13 q = q 2 := by simp only [goSz, siz13]
theorem zer13 : zero? Try.prog 13 = some (Go.Value.agg #[Go.Value.string { data := #[] }, Go.Value.int Go.IntKind.u64 0]) := by unfold zero?; rw [show Try.prog.info? 13 = some Try.t13 from Try.type13]; rfl
@[simp ↓] theorem z13 {q : List Value → Prop} : goZ Try.prog 13 q = q [Go.Value.string { data := #[] }, Go.Value.int Go.IntKind.u64 0] := by simp [goZ, zer13, Value.cells]
@[simp] theorem und13 : Try.prog.underlying 13 = some (Go.TypeDesc.struct
  #[{ name := "msg", type := 9, offset := 0, embedded := false, tag := "", pkgPath := "runtime", byteOffset := 0 },
    { name := "addr", type := 12, offset := 1, embedded := false, tag := "", pkgPath := "runtime", byteOffset := 16 }]) := opq Try.underlying13
@[simp ↓] theorem fld13_0 {q : Nat → TypeId → Prop} : goFld Try.prog 13 0 q = q 0 9 := by simp only [goFld, und13]; rfl
@[simp ↓] theorem fld13_1 {q : Nat → TypeId → Prop} : goFld Try.prog 13 1 q = q 1 12 := by simp only [goFld, und13]; rfl
@[simp ↓] theorem bld13 {q : List Value → List (Nat × Nat) → Prop} : goBld Try.prog 13 q = q [Go.Value.string { data := #[] }, Go.Value.int Go.IntKind.u64 0] [(0, 1), (1, 1)] := by simp [goBld, und13, zer13, placesL, Value.cells]
theorem agg14 : aggT Try.prog 14 = some true := by unfold aggT; rw [Try.underlying14]; rfl
@[simp] theorem siz14 : szT Try.prog 14 = some 2 := by unfold szT; rw [show Try.prog.info? 14 = some Try.t14 from Try.type14]; rfl
@[simp ↓] theorem ty14 {q : Bool → Nat → Prop} : goTy Try.prog 14 q = q true 2 := by simp only [goTy, agg14, siz14]
@[simp ↓] theorem sz14 {q : Nat → Prop} : goSz Try.prog 14 q = q 2 := by simp only [goSz, siz14]
theorem zer14 : zero? Try.prog 14 = some (Go.Value.agg #[Go.Value.string { data := #[] }, Go.Value.int Go.IntKind.u64 0]) := by unfold zero?; rw [show Try.prog.info? 14 = some Try.t14 from Try.type14]; rfl
@[simp ↓] theorem z14 {q : List Value → Prop} : goZ Try.prog 14 q = q [Go.Value.string { data := #[] }, Go.Value.int Go.IntKind.u64 0] := by simp [goZ, zer14, Value.cells]
@[simp] theorem und14 : Try.prog.underlying 14 = some (Go.TypeDesc.struct
  #[{ name := "msg", type := 9, offset := 0, embedded := false, tag := "", pkgPath := "runtime", byteOffset := 0 },
    { name := "addr", type := 12, offset := 1, embedded := false, tag := "", pkgPath := "runtime", byteOffset := 16 }]) := opq Try.underlying14
@[simp ↓] theorem fld14_0 {q : Nat → TypeId → Prop} : goFld Try.prog 14 0 q = q 0 9 := by simp only [goFld, und14]; rfl
@[simp ↓] theorem fld14_1 {q : Nat → TypeId → Prop} : goFld Try.prog 14 1 q = q 1 12 := by simp only [goFld, und14]; rfl
@[simp ↓] theorem bld14 {q : List Value → List (Nat × Nat) → Prop} : goBld Try.prog 14 q = q [Go.Value.string { data := #[] }, Go.Value.int Go.IntKind.u64 0] [(0, 1), (1, 1)] := by simp [goBld, und14, zer14, placesL, Value.cells]
theorem agg15 : aggT Try.prog 15 = some false := by unfold aggT; rw [Try.underlying15]; rfl
@[simp] theorem siz15 : szT Try.prog 15 = some 1 := by unfold szT; rw [show Try.prog.info? 15 = some Try.t15 from Try.type15]; rfl
@[simp ↓] theorem ty15 {q : Bool → Nat → Prop} : goTy Try.prog 15 q = q false 1 := by simp only [goTy, agg15, siz15]
@[simp ↓] theorem sz15 {q : Nat → Prop} : goSz Try.prog 15 q = q 1 := by simp only [goSz, siz15]
theorem zer15 : zero? Try.prog 15 = some (Go.Value.pointer none) := by unfold zero?; rw [show Try.prog.info? 15 = some Try.t15 from Try.type15]; rfl
@[simp ↓] theorem z15 {q : List Value → Prop} : goZ Try.prog 15 q = q [(Go.Value.pointer none)] := by simp [goZ, zer15, Value.cells]
@[simp] theorem und15 : Try.prog.underlying 15 = some (Go.TypeDesc.pointer 203) := opq Try.underlying15
@[simp ↓] theorem un15 {q : TypeDesc → Prop} : goUnd Try.prog 15 q = q (Go.TypeDesc.pointer 203) := by simp only [goUnd, und15]
theorem agg16 : aggT Try.prog 16 = some false := by unfold aggT; rw [Try.underlying16]; rfl
@[simp] theorem siz16 : szT Try.prog 16 = some 1 := by unfold szT; rw [show Try.prog.info? 16 = some Try.t16 from Try.type16]; rfl
@[simp ↓] theorem ty16 {q : Bool → Nat → Prop} : goTy Try.prog 16 q = q false 1 := by simp only [goTy, agg16, siz16]
@[simp ↓] theorem sz16 {q : Nat → Prop} : goSz Try.prog 16 q = q 1 := by simp only [goSz, siz16]
theorem zer16 : zero? Try.prog 16 = some (Go.Value.pointer none) := by unfold zero?; rw [show Try.prog.info? 16 = some Try.t16 from Try.type16]; rfl
@[simp ↓] theorem z16 {q : List Value → Prop} : goZ Try.prog 16 q = q [(Go.Value.pointer none)] := by simp [goZ, zer16, Value.cells]
@[simp] theorem und16 : Try.prog.underlying 16 = some (Go.TypeDesc.pointer 206) := opq Try.underlying16
@[simp ↓] theorem un16 {q : TypeDesc → Prop} : goUnd Try.prog 16 q = q (Go.TypeDesc.pointer 206) := by simp only [goUnd, und16]
theorem agg17 : aggT Try.prog 17 = some false := by unfold aggT; rw [Try.underlying17]; rfl
@[simp] theorem siz17 : szT Try.prog 17 = some 1 := by unfold szT; rw [show Try.prog.info? 17 = some Try.t17 from Try.type17]; rfl
@[simp ↓] theorem ty17 {q : Bool → Nat → Prop} : goTy Try.prog 17 q = q false 1 := by simp only [goTy, agg17, siz17]
@[simp ↓] theorem sz17 {q : Nat → Prop} : goSz Try.prog 17 q = q 1 := by simp only [goSz, siz17]
theorem zer17 : zero? Try.prog 17 = some (Go.Value.pointer none) := by unfold zero?; rw [show Try.prog.info? 17 = some Try.t17 from Try.type17]; rfl
@[simp ↓] theorem z17 {q : List Value → Prop} : goZ Try.prog 17 q = q [(Go.Value.pointer none)] := by simp [goZ, zer17, Value.cells]
@[simp] theorem und17 : Try.prog.underlying 17 = some (Go.TypeDesc.pointer 215) := opq Try.underlying17
@[simp ↓] theorem un17 {q : TypeDesc → Prop} : goUnd Try.prog 17 q = q (Go.TypeDesc.pointer 215) := by simp only [goUnd, und17]
theorem agg18 : aggT Try.prog 18 = some true := by unfold aggT; rw [Try.underlying18]; rfl
@[simp] theorem siz18 : szT Try.prog 18 = some 1 := by unfold szT; rw [show Try.prog.info? 18 = some Try.t18 from Try.type18]; rfl
@[simp ↓] theorem ty18 {q : Bool → Nat → Prop} : goTy Try.prog 18 q = q true 1 := by simp only [goTy, agg18, siz18]
@[simp ↓] theorem sz18 {q : Nat → Prop} : goSz Try.prog 18 q = q 1 := by simp only [goSz, siz18]
theorem zer18 : zero? Try.prog 18 = some (Go.Value.agg #[Go.Value.pointer none]) := by unfold zero?; rw [show Try.prog.info? 18 = some Try.t18 from Try.type18]; rfl
@[simp ↓] theorem z18 {q : List Value → Prop} : goZ Try.prog 18 q = q [Go.Value.pointer none] := by simp [goZ, zer18, Value.cells]
@[simp] theorem und18 : Try.prog.underlying 18 = some (Go.TypeDesc.struct
  #[{ name := "typ", type := 17, offset := 0, embedded := false, tag := "", pkgPath := "internal/runtime/maps",
      byteOffset := 0 }]) := opq Try.underlying18
@[simp ↓] theorem fld18_0 {q : Nat → TypeId → Prop} : goFld Try.prog 18 0 q = q 0 17 := by simp only [goFld, und18]; rfl
@[simp ↓] theorem bld18 {q : List Value → List (Nat × Nat) → Prop} : goBld Try.prog 18 q = q [Go.Value.pointer none] [(0, 1)] := by simp [goBld, und18, zer18, placesL, Value.cells]
theorem agg19 : aggT Try.prog 19 = some true := by unfold aggT; rw [Try.underlying19]; rfl
@[simp] theorem siz19 : szT Try.prog 19 = some 1 := by unfold szT; rw [show Try.prog.info? 19 = some Try.t19 from Try.type19]; rfl
@[simp ↓] theorem ty19 {q : Bool → Nat → Prop} : goTy Try.prog 19 q = q true 1 := by simp only [goTy, agg19, siz19]
@[simp ↓] theorem sz19 {q : Nat → Prop} : goSz Try.prog 19 q = q 1 := by simp only [goSz, siz19]
theorem zer19 : zero? Try.prog 19 = some (Go.Value.agg #[Go.Value.pointer none]) := by unfold zero?; rw [show Try.prog.info? 19 = some Try.t19 from Try.type19]; rfl
@[simp ↓] theorem z19 {q : List Value → Prop} : goZ Try.prog 19 q = q [Go.Value.pointer none] := by simp [goZ, zer19, Value.cells]
@[simp] theorem und19 : Try.prog.underlying 19 = some (Go.TypeDesc.struct
  #[{ name := "typ", type := 17, offset := 0, embedded := false, tag := "", pkgPath := "internal/runtime/maps",
      byteOffset := 0 }]) := opq Try.underlying19
@[simp ↓] theorem fld19_0 {q : Nat → TypeId → Prop} : goFld Try.prog 19 0 q = q 0 17 := by simp only [goFld, und19]; rfl
@[simp ↓] theorem bld19 {q : List Value → List (Nat × Nat) → Prop} : goBld Try.prog 19 q = q [Go.Value.pointer none] [(0, 1)] := by simp [goBld, und19, zer19, placesL, Value.cells]
theorem agg21 : aggT Try.prog 21 = some false := by unfold aggT; rw [Try.underlying21]; rfl
@[simp] theorem siz21 : szT Try.prog 21 = some 1 := by unfold szT; rw [show Try.prog.info? 21 = some Try.t21 from Try.type21]; rfl
@[simp ↓] theorem ty21 {q : Bool → Nat → Prop} : goTy Try.prog 21 q = q false 1 := by simp only [goTy, agg21, siz21]
@[simp ↓] theorem sz21 {q : Nat → Prop} : goSz Try.prog 21 q = q 1 := by simp only [goSz, siz21]
theorem zer21 : zero? Try.prog 21 = some (Go.Value.int Go.IntKind.i32 0) := by unfold zero?; rw [show Try.prog.info? 21 = some Try.t21 from Try.type21]; rfl
@[simp ↓] theorem z21 {q : List Value → Prop} : goZ Try.prog 21 q = q [(Go.Value.int Go.IntKind.i32 0)] := by simp [goZ, zer21, Value.cells]
@[simp] theorem und21 : Try.prog.underlying 21 = some (Go.TypeDesc.int Go.IntKind.i32) := opq Try.underlying21
@[simp ↓] theorem un21 {q : TypeDesc → Prop} : goUnd Try.prog 21 q = q (Go.TypeDesc.int Go.IntKind.i32) := by simp only [goUnd, und21]
theorem agg22 : aggT Try.prog 22 = some false := by unfold aggT; rw [Try.underlying22]; rfl
@[simp] theorem siz22 : szT Try.prog 22 = some 1 := by unfold szT; rw [show Try.prog.info? 22 = some Try.t22 from Try.type22]; rfl
@[simp ↓] theorem ty22 {q : Bool → Nat → Prop} : goTy Try.prog 22 q = q false 1 := by simp only [goTy, agg22, siz22]
@[simp ↓] theorem sz22 {q : Nat → Prop} : goSz Try.prog 22 q = q 1 := by simp only [goSz, siz22]
theorem zer22 : zero? Try.prog 22 = some (Go.Value.slice none 0 0) := by unfold zero?; rw [show Try.prog.info? 22 = some Try.t22 from Try.type22]; rfl
@[simp ↓] theorem z22 {q : List Value → Prop} : goZ Try.prog 22 q = q [(Go.Value.slice none 0 0)] := by simp [goZ, zer22, Value.cells]
@[simp] theorem und22 : Try.prog.underlying 22 = some (Go.TypeDesc.slice 133) := opq Try.underlying22
@[simp ↓] theorem un22 {q : TypeDesc → Prop} : goUnd Try.prog 22 q = q (Go.TypeDesc.slice 133) := by simp only [goUnd, und22]
theorem slt22 : SlT Try.prog 22 133 2 32 := ⟨Try.underlying22, ⟨Try.t133, _, Try.type133, rfl, rfl, rfl, by simp, rfl⟩, by decide⟩
@[simp ↓] theorem sl22 {q : TypeId → Nat → List Value → Prop} : goSl Try.prog 22 q = q 133 2 [Go.Value.string { data := #[] }, Go.Value.string { data := #[] }] := by simp [goSl, und22, show zero? Try.prog 133 = some (Go.Value.agg #[Go.Value.string { data := #[] }, Go.Value.string { data := #[] }]) from by unfold zero?; rw [show Try.prog.info? 133 = some Try.t133 from Try.type133]; rfl, show szT Try.prog 133 = some 2 from by unfold szT; rw [show Try.prog.info? 133 = some Try.t133 from Try.type133]; rfl, Value.cells]
theorem agg23 : aggT Try.prog 23 = some false := by unfold aggT; rw [Try.underlying23]; rfl
@[simp] theorem siz23 : szT Try.prog 23 = some 1 := by unfold szT; rw [show Try.prog.info? 23 = some Try.t23 from Try.type23]; rfl
@[simp ↓] theorem ty23 {q : Bool → Nat → Prop} : goTy Try.prog 23 q = q false 1 := by simp only [goTy, agg23, siz23]
@[simp ↓] theorem sz23 {q : Nat → Prop} : goSz Try.prog 23 q = q 1 := by simp only [goSz, siz23]
theorem zer23 : zero? Try.prog 23 = some (Go.Value.slice none 0 0) := by unfold zero?; rw [show Try.prog.info? 23 = some Try.t23 from Try.type23]; rfl
@[simp ↓] theorem z23 {q : List Value → Prop} : goZ Try.prog 23 q = q [(Go.Value.slice none 0 0)] := by simp [goZ, zer23, Value.cells]
@[simp] theorem und23 : Try.prog.underlying 23 = some (Go.TypeDesc.slice 136) := opq Try.underlying23
@[simp ↓] theorem un23 {q : TypeDesc → Prop} : goUnd Try.prog 23 q = q (Go.TypeDesc.slice 136) := by simp only [goUnd, und23]
theorem slt23 : SlT Try.prog 23 136 2 40 := ⟨Try.underlying23, ⟨Try.t136, _, Try.type136, rfl, rfl, rfl, by simp, rfl⟩, by decide⟩
@[simp ↓] theorem sl23 {q : TypeId → Nat → List Value → Prop} : goSl Try.prog 23 q = q 136 2 [Go.Value.string { data := #[] }, Go.Value.slice none 0 0] := by simp [goSl, und23, show zero? Try.prog 136 = some (Go.Value.agg #[Go.Value.string { data := #[] }, Go.Value.slice none 0 0]) from by unfold zero?; rw [show Try.prog.info? 136 = some Try.t136 from Try.type136]; rfl, show szT Try.prog 136 = some 2 from by unfold szT; rw [show Try.prog.info? 136 = some Try.t136 from Try.type136]; rfl, Value.cells]
theorem agg24 : aggT Try.prog 24 = some true := by unfold aggT; rw [Try.underlying24]; rfl
@[simp] theorem siz24 : szT Try.prog 24 = some 2 := by unfold szT; rw [show Try.prog.info? 24 = some Try.t24 from Try.type24]; rfl
@[simp ↓] theorem ty24 {q : Bool → Nat → Prop} : goTy Try.prog 24 q = q true 2 := by simp only [goTy, agg24, siz24]
@[simp ↓] theorem sz24 {q : Nat → Prop} : goSz Try.prog 24 q = q 2 := by simp only [goSz, siz24]
theorem zer24 : zero? Try.prog 24 = some (Go.Value.agg #[Go.Value.slice none 0 0, Go.Value.slice none 0 0]) := by unfold zero?; rw [show Try.prog.info? 24 = some Try.t24 from Try.type24]; rfl
@[simp ↓] theorem z24 {q : List Value → Prop} : goZ Try.prog 24 q = q [Go.Value.slice none 0 0, Go.Value.slice none 0 0] := by simp [goZ, zer24, Value.cells]
@[simp] theorem und24 : Try.prog.underlying 24 = some (Go.TypeDesc.struct
  #[{ name := "Sources", type := 22, offset := 0, embedded := false, tag := "", pkgPath := "", byteOffset := 0 },
    { name := "Targets", type := 23, offset := 1, embedded := false, tag := "", pkgPath := "", byteOffset := 24 }]) := opq Try.underlying24
@[simp ↓] theorem fld24_0 {q : Nat → TypeId → Prop} : goFld Try.prog 24 0 q = q 0 22 := by simp only [goFld, und24]; rfl
@[simp ↓] theorem fld24_1 {q : Nat → TypeId → Prop} : goFld Try.prog 24 1 q = q 1 23 := by simp only [goFld, und24]; rfl
@[simp ↓] theorem bld24 {q : List Value → List (Nat × Nat) → Prop} : goBld Try.prog 24 q = q [Go.Value.slice none 0 0, Go.Value.slice none 0 0] [(0, 1), (1, 1)] := by simp [goBld, und24, zer24, placesL, Value.cells]
theorem agg25 : aggT Try.prog 25 = some true := by unfold aggT; rw [Try.underlying25]; rfl
@[simp] theorem siz25 : szT Try.prog 25 = some 2 := by unfold szT; rw [show Try.prog.info? 25 = some Try.t25 from Try.type25]; rfl
@[simp ↓] theorem ty25 {q : Bool → Nat → Prop} : goTy Try.prog 25 q = q true 2 := by simp only [goTy, agg25, siz25]
@[simp ↓] theorem sz25 {q : Nat → Prop} : goSz Try.prog 25 q = q 2 := by simp only [goSz, siz25]
theorem zer25 : zero? Try.prog 25 = some (Go.Value.agg #[Go.Value.slice none 0 0, Go.Value.slice none 0 0]) := by unfold zero?; rw [show Try.prog.info? 25 = some Try.t25 from Try.type25]; rfl
@[simp ↓] theorem z25 {q : List Value → Prop} : goZ Try.prog 25 q = q [Go.Value.slice none 0 0, Go.Value.slice none 0 0] := by simp [goZ, zer25, Value.cells]
@[simp] theorem und25 : Try.prog.underlying 25 = some (Go.TypeDesc.struct
  #[{ name := "Sources", type := 22, offset := 0, embedded := false, tag := "", pkgPath := "", byteOffset := 0 },
    { name := "Targets", type := 23, offset := 1, embedded := false, tag := "", pkgPath := "", byteOffset := 24 }]) := opq Try.underlying25
@[simp ↓] theorem fld25_0 {q : Nat → TypeId → Prop} : goFld Try.prog 25 0 q = q 0 22 := by simp only [goFld, und25]; rfl
@[simp ↓] theorem fld25_1 {q : Nat → TypeId → Prop} : goFld Try.prog 25 1 q = q 1 23 := by simp only [goFld, und25]; rfl
@[simp ↓] theorem bld25 {q : List Value → List (Nat × Nat) → Prop} : goBld Try.prog 25 q = q [Go.Value.slice none 0 0, Go.Value.slice none 0 0] [(0, 1), (1, 1)] := by simp [goBld, und25, zer25, placesL, Value.cells]
theorem agg26 : aggT Try.prog 26 = some false := by unfold aggT; rw [Try.underlying26]; rfl
@[simp] theorem siz26 : szT Try.prog 26 = some 1 := by unfold szT; rw [show Try.prog.info? 26 = some Try.t26 from Try.type26]; rfl
@[simp ↓] theorem ty26 {q : Bool → Nat → Prop} : goTy Try.prog 26 q = q false 1 := by simp only [goTy, agg26, siz26]
@[simp ↓] theorem sz26 {q : Nat → Prop} : goSz Try.prog 26 q = q 1 := by simp only [goSz, siz26]
theorem zer26 : zero? Try.prog 26 = some Go.Value.nilFunc := by unfold zero?; rw [show Try.prog.info? 26 = some Try.t26 from Try.type26]; rfl
@[simp ↓] theorem z26 {q : List Value → Prop} : goZ Try.prog 26 q = q [Go.Value.nilFunc] := by simp [goZ, zer26, Value.cells]
theorem agg27 : aggT Try.prog 27 = some false := by unfold aggT; rw [Try.underlying27]; rfl
@[simp] theorem siz27 : szT Try.prog 27 = some 1 := by unfold szT; rw [show Try.prog.info? 27 = some Try.t27 from Try.type27]; rfl
@[simp ↓] theorem ty27 {q : Bool → Nat → Prop} : goTy Try.prog 27 q = q false 1 := by simp only [goTy, agg27, siz27]
@[simp ↓] theorem sz27 {q : Nat → Prop} : goSz Try.prog 27 q = q 1 := by simp only [goSz, siz27]
theorem zer27 : zero? Try.prog 27 = some Go.Value.nilFunc := by unfold zero?; rw [show Try.prog.info? 27 = some Try.t27 from Try.type27]; rfl
@[simp ↓] theorem z27 {q : List Value → Prop} : goZ Try.prog 27 q = q [Go.Value.nilFunc] := by simp [goZ, zer27, Value.cells]
theorem agg28 : aggT Try.prog 28 = some false := by unfold aggT; rw [Try.underlying28]; rfl
@[simp] theorem siz28 : szT Try.prog 28 = some 1 := by unfold szT; rw [show Try.prog.info? 28 = some Try.t28 from Try.type28]; rfl
@[simp ↓] theorem ty28 {q : Bool → Nat → Prop} : goTy Try.prog 28 q = q false 1 := by simp only [goTy, agg28, siz28]
@[simp ↓] theorem sz28 {q : Nat → Prop} : goSz Try.prog 28 q = q 1 := by simp only [goSz, siz28]
theorem zer28 : zero? Try.prog 28 = some (Go.Value.slice none 0 0) := by unfold zero?; rw [show Try.prog.info? 28 = some Try.t28 from Try.type28]; rfl
@[simp ↓] theorem z28 {q : List Value → Prop} : goZ Try.prog 28 q = q [(Go.Value.slice none 0 0)] := by simp [goZ, zer28, Value.cells]
@[simp] theorem und28 : Try.prog.underlying 28 = some (Go.TypeDesc.slice 76) := opq Try.underlying28
@[simp ↓] theorem un28 {q : TypeDesc → Prop} : goUnd Try.prog 28 q = q (Go.TypeDesc.slice 76) := by simp only [goUnd, und28]
theorem slt28 : SlT Try.prog 28 76 2 32 := ⟨Try.underlying28, ⟨Try.t76, _, Try.type76, rfl, rfl, rfl, by simp, rfl⟩, by decide⟩
@[simp ↓] theorem sl28 {q : TypeId → Nat → List Value → Prop} : goSl Try.prog 28 q = q 76 2 [Go.Value.string { data := #[] }, Go.Value.string { data := #[] }] := by simp [goSl, und28, show zero? Try.prog 76 = some (Go.Value.agg #[Go.Value.string { data := #[] }, Go.Value.string { data := #[] }]) from by unfold zero?; rw [show Try.prog.info? 76 = some Try.t76 from Try.type76]; rfl, show szT Try.prog 76 = some 2 from by unfold szT; rw [show Try.prog.info? 76 = some Try.t76 from Try.type76]; rfl, Value.cells]
theorem agg29 : aggT Try.prog 29 = some false := by unfold aggT; rw [Try.underlying29]; rfl
@[simp] theorem siz29 : szT Try.prog 29 = some 1 := by unfold szT; rw [show Try.prog.info? 29 = some Try.t29 from Try.type29]; rfl
@[simp ↓] theorem ty29 {q : Bool → Nat → Prop} : goTy Try.prog 29 q = q false 1 := by simp only [goTy, agg29, siz29]
@[simp ↓] theorem sz29 {q : Nat → Prop} : goSz Try.prog 29 q = q 1 := by simp only [goSz, siz29]
theorem zer29 : zero? Try.prog 29 = some (Go.Value.slice none 0 0) := by unfold zero?; rw [show Try.prog.info? 29 = some Try.t29 from Try.type29]; rfl
@[simp ↓] theorem z29 {q : List Value → Prop} : goZ Try.prog 29 q = q [(Go.Value.slice none 0 0)] := by simp [goZ, zer29, Value.cells]
@[simp] theorem und29 : Try.prog.underlying 29 = some (Go.TypeDesc.slice 78) := opq Try.underlying29
@[simp ↓] theorem un29 {q : TypeDesc → Prop} : goUnd Try.prog 29 q = q (Go.TypeDesc.slice 78) := by simp only [goUnd, und29]
theorem slt29 : SlT Try.prog 29 78 2 40 := ⟨Try.underlying29, ⟨Try.t78, _, Try.type78, rfl, rfl, rfl, by simp, rfl⟩, by decide⟩
@[simp ↓] theorem sl29 {q : TypeId → Nat → List Value → Prop} : goSl Try.prog 29 q = q 78 2 [Go.Value.string { data := #[] }, Go.Value.slice none 0 0] := by simp [goSl, und29, show zero? Try.prog 78 = some (Go.Value.agg #[Go.Value.string { data := #[] }, Go.Value.slice none 0 0]) from by unfold zero?; rw [show Try.prog.info? 78 = some Try.t78 from Try.type78]; rfl, show szT Try.prog 78 = some 2 from by unfold szT; rw [show Try.prog.info? 78 = some Try.t78 from Try.type78]; rfl, Value.cells]
theorem agg30 : aggT Try.prog 30 = some true := by unfold aggT; rw [Try.underlying30]; rfl
@[simp] theorem siz30 : szT Try.prog 30 = some 2 := by unfold szT; rw [show Try.prog.info? 30 = some Try.t30 from Try.type30]; rfl
@[simp ↓] theorem ty30 {q : Bool → Nat → Prop} : goTy Try.prog 30 q = q true 2 := by simp only [goTy, agg30, siz30]
@[simp ↓] theorem sz30 {q : Nat → Prop} : goSz Try.prog 30 q = q 2 := by simp only [goSz, siz30]
theorem zer30 : zero? Try.prog 30 = some (Go.Value.agg #[Go.Value.slice none 0 0, Go.Value.slice none 0 0]) := by unfold zero?; rw [show Try.prog.info? 30 = some Try.t30 from Try.type30]; rfl
@[simp ↓] theorem z30 {q : List Value → Prop} : goZ Try.prog 30 q = q [Go.Value.slice none 0 0, Go.Value.slice none 0 0] := by simp [goZ, zer30, Value.cells]
@[simp] theorem und30 : Try.prog.underlying 30 = some (Go.TypeDesc.struct
  #[{ name := "Sources", type := 28, offset := 0, embedded := false, tag := "", pkgPath := "", byteOffset := 0 },
    { name := "Targets", type := 29, offset := 1, embedded := false, tag := "", pkgPath := "", byteOffset := 24 }]) := opq Try.underlying30
@[simp ↓] theorem fld30_0 {q : Nat → TypeId → Prop} : goFld Try.prog 30 0 q = q 0 28 := by simp only [goFld, und30]; rfl
@[simp ↓] theorem fld30_1 {q : Nat → TypeId → Prop} : goFld Try.prog 30 1 q = q 1 29 := by simp only [goFld, und30]; rfl
@[simp ↓] theorem bld30 {q : List Value → List (Nat × Nat) → Prop} : goBld Try.prog 30 q = q [Go.Value.slice none 0 0, Go.Value.slice none 0 0] [(0, 1), (1, 1)] := by simp [goBld, und30, zer30, placesL, Value.cells]
theorem agg31 : aggT Try.prog 31 = some true := by unfold aggT; rw [Try.underlying31]; rfl
@[simp] theorem siz31 : szT Try.prog 31 = some 2 := by unfold szT; rw [show Try.prog.info? 31 = some Try.t31 from Try.type31]; rfl
@[simp ↓] theorem ty31 {q : Bool → Nat → Prop} : goTy Try.prog 31 q = q true 2 := by simp only [goTy, agg31, siz31]
@[simp ↓] theorem sz31 {q : Nat → Prop} : goSz Try.prog 31 q = q 2 := by simp only [goSz, siz31]
theorem zer31 : zero? Try.prog 31 = some (Go.Value.agg #[Go.Value.slice none 0 0, Go.Value.slice none 0 0]) := by unfold zero?; rw [show Try.prog.info? 31 = some Try.t31 from Try.type31]; rfl
@[simp ↓] theorem z31 {q : List Value → Prop} : goZ Try.prog 31 q = q [Go.Value.slice none 0 0, Go.Value.slice none 0 0] := by simp [goZ, zer31, Value.cells]
@[simp] theorem und31 : Try.prog.underlying 31 = some (Go.TypeDesc.struct
  #[{ name := "Sources", type := 28, offset := 0, embedded := false, tag := "", pkgPath := "", byteOffset := 0 },
    { name := "Targets", type := 29, offset := 1, embedded := false, tag := "", pkgPath := "", byteOffset := 24 }]) := opq Try.underlying31
@[simp ↓] theorem fld31_0 {q : Nat → TypeId → Prop} : goFld Try.prog 31 0 q = q 0 28 := by simp only [goFld, und31]; rfl
@[simp ↓] theorem fld31_1 {q : Nat → TypeId → Prop} : goFld Try.prog 31 1 q = q 1 29 := by simp only [goFld, und31]; rfl
@[simp ↓] theorem bld31 {q : List Value → List (Nat × Nat) → Prop} : goBld Try.prog 31 q = q [Go.Value.slice none 0 0, Go.Value.slice none 0 0] [(0, 1), (1, 1)] := by simp [goBld, und31, zer31, placesL, Value.cells]
theorem agg32 : aggT Try.prog 32 = some false := by unfold aggT; rw [Try.underlying32]; rfl
@[simp] theorem siz32 : szT Try.prog 32 = some 1 := by unfold szT; rw [show Try.prog.info? 32 = some Try.t32 from Try.type32]; rfl
@[simp ↓] theorem ty32 {q : Bool → Nat → Prop} : goTy Try.prog 32 q = q false 1 := by simp only [goTy, agg32, siz32]
@[simp ↓] theorem sz32 {q : Nat → Prop} : goSz Try.prog 32 q = q 1 := by simp only [goSz, siz32]
theorem zer32 : zero? Try.prog 32 = some Go.Value.nilFunc := by unfold zero?; rw [show Try.prog.info? 32 = some Try.t32 from Try.type32]; rfl
@[simp ↓] theorem z32 {q : List Value → Prop} : goZ Try.prog 32 q = q [Go.Value.nilFunc] := by simp [goZ, zer32, Value.cells]
theorem agg33 : aggT Try.prog 33 = some false := by unfold aggT; rw [Try.underlying33]; rfl
@[simp] theorem siz33 : szT Try.prog 33 = some 1 := by unfold szT; rw [show Try.prog.info? 33 = some Try.t33 from Try.type33]; rfl
@[simp ↓] theorem ty33 {q : Bool → Nat → Prop} : goTy Try.prog 33 q = q false 1 := by simp only [goTy, agg33, siz33]
@[simp ↓] theorem sz33 {q : Nat → Prop} : goSz Try.prog 33 q = q 1 := by simp only [goSz, siz33]
theorem zer33 : zero? Try.prog 33 = some Go.Value.nilFunc := by unfold zero?; rw [show Try.prog.info? 33 = some Try.t33 from Try.type33]; rfl
@[simp ↓] theorem z33 {q : List Value → Prop} : goZ Try.prog 33 q = q [Go.Value.nilFunc] := by simp [goZ, zer33, Value.cells]
theorem agg34 : aggT Try.prog 34 = some false := by unfold aggT; rw [Try.underlying34]; rfl
@[simp] theorem siz34 : szT Try.prog 34 = some 1 := by unfold szT; rw [show Try.prog.info? 34 = some Try.t34 from Try.type34]; rfl
@[simp ↓] theorem ty34 {q : Bool → Nat → Prop} : goTy Try.prog 34 q = q false 1 := by simp only [goTy, agg34, siz34]
@[simp ↓] theorem sz34 {q : Nat → Prop} : goSz Try.prog 34 q = q 1 := by simp only [goSz, siz34]
theorem zer34 : zero? Try.prog 34 = some Go.Value.nilFunc := by unfold zero?; rw [show Try.prog.info? 34 = some Try.t34 from Try.type34]; rfl
@[simp ↓] theorem z34 {q : List Value → Prop} : goZ Try.prog 34 q = q [Go.Value.nilFunc] := by simp [goZ, zer34, Value.cells]
theorem agg35 : aggT Try.prog 35 = some false := by unfold aggT; rw [Try.underlying35]; rfl
@[simp] theorem siz35 : szT Try.prog 35 = some 1 := by unfold szT; rw [show Try.prog.info? 35 = some Try.t35 from Try.type35]; rfl
@[simp ↓] theorem ty35 {q : Bool → Nat → Prop} : goTy Try.prog 35 q = q false 1 := by simp only [goTy, agg35, siz35]
@[simp ↓] theorem sz35 {q : Nat → Prop} : goSz Try.prog 35 q = q 1 := by simp only [goSz, siz35]
theorem zer35 : zero? Try.prog 35 = some (Go.Value.slice none 0 0) := by unfold zero?; rw [show Try.prog.info? 35 = some Try.t35 from Try.type35]; rfl
@[simp ↓] theorem z35 {q : List Value → Prop} : goZ Try.prog 35 q = q [(Go.Value.slice none 0 0)] := by simp [goZ, zer35, Value.cells]
@[simp] theorem und35 : Try.prog.underlying 35 = some (Go.TypeDesc.slice 150) := opq Try.underlying35
@[simp ↓] theorem un35 {q : TypeDesc → Prop} : goUnd Try.prog 35 q = q (Go.TypeDesc.slice 150) := by simp only [goUnd, und35]
theorem slt35 : SlT Try.prog 35 150 6 96 := ⟨Try.underlying35, ⟨Try.t150, _, Try.type150, rfl, rfl, rfl, by simp, rfl⟩, by decide⟩
@[simp ↓] theorem sl35 {q : TypeId → Nat → List Value → Prop} : goSl Try.prog 35 q = q 150 6 [Go.Value.string { data := #[] }, Go.Value.int Go.IntKind.i64 0, Go.Value.int Go.IntKind.i64 0,
      Go.Value.string { data := #[] }, Go.Value.slice none 0 0, Go.Value.slice none 0 0] := by simp [goSl, und35, show zero? Try.prog 150 = some
  (Go.Value.agg
    #[Go.Value.string { data := #[] }, Go.Value.int Go.IntKind.i64 0, Go.Value.int Go.IntKind.i64 0,
      Go.Value.string { data := #[] }, Go.Value.slice none 0 0, Go.Value.slice none 0 0]) from by unfold zero?; rw [show Try.prog.info? 150 = some Try.t150 from Try.type150]; rfl, show szT Try.prog 150 = some 6 from by unfold szT; rw [show Try.prog.info? 150 = some Try.t150 from Try.type150]; rfl, Value.cells]
theorem agg36 : aggT Try.prog 36 = some true := by unfold aggT; rw [Try.underlying36]; rfl
@[simp] theorem siz36 : szT Try.prog 36 = some 1 := by unfold szT; rw [show Try.prog.info? 36 = some Try.t36 from Try.type36]; rfl
@[simp ↓] theorem ty36 {q : Bool → Nat → Prop} : goTy Try.prog 36 q = q true 1 := by simp only [goTy, agg36, siz36]
@[simp ↓] theorem sz36 {q : Nat → Prop} : goSz Try.prog 36 q = q 1 := by simp only [goSz, siz36]
theorem zer36 : zero? Try.prog 36 = some (Go.Value.agg #[Go.Value.slice none 0 0]) := by unfold zero?; rw [show Try.prog.info? 36 = some Try.t36 from Try.type36]; rfl
@[simp ↓] theorem z36 {q : List Value → Prop} : goZ Try.prog 36 q = q [Go.Value.slice none 0 0] := by simp [goZ, zer36, Value.cells]
@[simp] theorem und36 : Try.prog.underlying 36 = some (Go.TypeDesc.struct
  #[{ name := "Deeds", type := 35, offset := 0, embedded := false, tag := "", pkgPath := "", byteOffset := 0 }]) := opq Try.underlying36
@[simp ↓] theorem fld36_0 {q : Nat → TypeId → Prop} : goFld Try.prog 36 0 q = q 0 35 := by simp only [goFld, und36]; rfl
@[simp ↓] theorem bld36 {q : List Value → List (Nat × Nat) → Prop} : goBld Try.prog 36 q = q [Go.Value.slice none 0 0] [(0, 1)] := by simp [goBld, und36, zer36, placesL, Value.cells]
theorem agg37 : aggT Try.prog 37 = some true := by unfold aggT; rw [Try.underlying37]; rfl
@[simp] theorem siz37 : szT Try.prog 37 = some 1 := by unfold szT; rw [show Try.prog.info? 37 = some Try.t37 from Try.type37]; rfl
@[simp ↓] theorem ty37 {q : Bool → Nat → Prop} : goTy Try.prog 37 q = q true 1 := by simp only [goTy, agg37, siz37]
@[simp ↓] theorem sz37 {q : Nat → Prop} : goSz Try.prog 37 q = q 1 := by simp only [goSz, siz37]
theorem zer37 : zero? Try.prog 37 = some (Go.Value.agg #[Go.Value.slice none 0 0]) := by unfold zero?; rw [show Try.prog.info? 37 = some Try.t37 from Try.type37]; rfl
@[simp ↓] theorem z37 {q : List Value → Prop} : goZ Try.prog 37 q = q [Go.Value.slice none 0 0] := by simp [goZ, zer37, Value.cells]
@[simp] theorem und37 : Try.prog.underlying 37 = some (Go.TypeDesc.struct
  #[{ name := "Deeds", type := 35, offset := 0, embedded := false, tag := "", pkgPath := "", byteOffset := 0 }]) := opq Try.underlying37
@[simp ↓] theorem fld37_0 {q : Nat → TypeId → Prop} : goFld Try.prog 37 0 q = q 0 35 := by simp only [goFld, und37]; rfl
@[simp ↓] theorem bld37 {q : List Value → List (Nat × Nat) → Prop} : goBld Try.prog 37 q = q [Go.Value.slice none 0 0] [(0, 1)] := by simp [goBld, und37, zer37, placesL, Value.cells]
theorem agg38 : aggT Try.prog 38 = some false := by unfold aggT; rw [Try.underlying38]; rfl
@[simp] theorem siz38 : szT Try.prog 38 = some 1 := by unfold szT; rw [show Try.prog.info? 38 = some Try.t38 from Try.type38]; rfl
@[simp ↓] theorem ty38 {q : Bool → Nat → Prop} : goTy Try.prog 38 q = q false 1 := by simp only [goTy, agg38, siz38]
@[simp ↓] theorem sz38 {q : Nat → Prop} : goSz Try.prog 38 q = q 1 := by simp only [goSz, siz38]
theorem zer38 : zero? Try.prog 38 = some Go.Value.nilFunc := by unfold zero?; rw [show Try.prog.info? 38 = some Try.t38 from Try.type38]; rfl
@[simp ↓] theorem z38 {q : List Value → Prop} : goZ Try.prog 38 q = q [Go.Value.nilFunc] := by simp [goZ, zer38, Value.cells]
theorem agg40 : aggT Try.prog 40 = some false := by unfold aggT; rw [Try.underlying40]; rfl
@[simp] theorem siz40 : szT Try.prog 40 = some 1 := by unfold szT; rw [show Try.prog.info? 40 = some Try.t40 from Try.type40]; rfl
@[simp ↓] theorem ty40 {q : Bool → Nat → Prop} : goTy Try.prog 40 q = q false 1 := by simp only [goTy, agg40, siz40]
@[simp ↓] theorem sz40 {q : Nat → Prop} : goSz Try.prog 40 q = q 1 := by simp only [goSz, siz40]
theorem zer40 : zero? Try.prog 40 = some Go.Value.nilFunc := by unfold zero?; rw [show Try.prog.info? 40 = some Try.t40 from Try.type40]; rfl
@[simp ↓] theorem z40 {q : List Value → Prop} : goZ Try.prog 40 q = q [Go.Value.nilFunc] := by simp [goZ, zer40, Value.cells]
theorem agg41 : aggT Try.prog 41 = some false := by unfold aggT; rw [Try.underlying41]; rfl
@[simp] theorem siz41 : szT Try.prog 41 = some 1 := by unfold szT; rw [show Try.prog.info? 41 = some Try.t41 from Try.type41]; rfl
@[simp ↓] theorem ty41 {q : Bool → Nat → Prop} : goTy Try.prog 41 q = q false 1 := by simp only [goTy, agg41, siz41]
@[simp ↓] theorem sz41 {q : Nat → Prop} : goSz Try.prog 41 q = q 1 := by simp only [goSz, siz41]
theorem zer41 : zero? Try.prog 41 = some (Go.Value.slice none 0 0) := by unfold zero?; rw [show Try.prog.info? 41 = some Try.t41 from Try.type41]; rfl
@[simp ↓] theorem z41 {q : List Value → Prop} : goZ Try.prog 41 q = q [(Go.Value.slice none 0 0)] := by simp [goZ, zer41, Value.cells]
@[simp] theorem und41 : Try.prog.underlying 41 = some (Go.TypeDesc.slice 91) := opq Try.underlying41
@[simp ↓] theorem un41 {q : TypeDesc → Prop} : goUnd Try.prog 41 q = q (Go.TypeDesc.slice 91) := by simp only [goUnd, und41]
theorem slt41 : SlT Try.prog 41 91 6 96 := ⟨Try.underlying41, ⟨Try.t91, _, Try.type91, rfl, rfl, rfl, by simp, rfl⟩, by decide⟩
@[simp ↓] theorem sl41 {q : TypeId → Nat → List Value → Prop} : goSl Try.prog 41 q = q 91 6 [Go.Value.string { data := #[] }, Go.Value.int Go.IntKind.i64 0, Go.Value.int Go.IntKind.i64 0,
      Go.Value.string { data := #[] }, Go.Value.slice none 0 0, Go.Value.slice none 0 0] := by simp [goSl, und41, show zero? Try.prog 91 = some
  (Go.Value.agg
    #[Go.Value.string { data := #[] }, Go.Value.int Go.IntKind.i64 0, Go.Value.int Go.IntKind.i64 0,
      Go.Value.string { data := #[] }, Go.Value.slice none 0 0, Go.Value.slice none 0 0]) from by unfold zero?; rw [show Try.prog.info? 91 = some Try.t91 from Try.type91]; rfl, show szT Try.prog 91 = some 6 from by unfold szT; rw [show Try.prog.info? 91 = some Try.t91 from Try.type91]; rfl, Value.cells]
theorem agg42 : aggT Try.prog 42 = some true := by unfold aggT; rw [Try.underlying42]; rfl
@[simp] theorem siz42 : szT Try.prog 42 = some 1 := by unfold szT; rw [show Try.prog.info? 42 = some Try.t42 from Try.type42]; rfl
@[simp ↓] theorem ty42 {q : Bool → Nat → Prop} : goTy Try.prog 42 q = q true 1 := by simp only [goTy, agg42, siz42]
@[simp ↓] theorem sz42 {q : Nat → Prop} : goSz Try.prog 42 q = q 1 := by simp only [goSz, siz42]
theorem zer42 : zero? Try.prog 42 = some (Go.Value.agg #[Go.Value.slice none 0 0]) := by unfold zero?; rw [show Try.prog.info? 42 = some Try.t42 from Try.type42]; rfl
@[simp ↓] theorem z42 {q : List Value → Prop} : goZ Try.prog 42 q = q [Go.Value.slice none 0 0] := by simp [goZ, zer42, Value.cells]
@[simp] theorem und42 : Try.prog.underlying 42 = some (Go.TypeDesc.struct
  #[{ name := "Deeds", type := 41, offset := 0, embedded := false, tag := "", pkgPath := "", byteOffset := 0 }]) := opq Try.underlying42
@[simp ↓] theorem fld42_0 {q : Nat → TypeId → Prop} : goFld Try.prog 42 0 q = q 0 41 := by simp only [goFld, und42]; rfl
@[simp ↓] theorem bld42 {q : List Value → List (Nat × Nat) → Prop} : goBld Try.prog 42 q = q [Go.Value.slice none 0 0] [(0, 1)] := by simp [goBld, und42, zer42, placesL, Value.cells]
theorem agg43 : aggT Try.prog 43 = some true := by unfold aggT; rw [Try.underlying43]; rfl
@[simp] theorem siz43 : szT Try.prog 43 = some 1 := by unfold szT; rw [show Try.prog.info? 43 = some Try.t43 from Try.type43]; rfl
@[simp ↓] theorem ty43 {q : Bool → Nat → Prop} : goTy Try.prog 43 q = q true 1 := by simp only [goTy, agg43, siz43]
@[simp ↓] theorem sz43 {q : Nat → Prop} : goSz Try.prog 43 q = q 1 := by simp only [goSz, siz43]
theorem zer43 : zero? Try.prog 43 = some (Go.Value.agg #[Go.Value.slice none 0 0]) := by unfold zero?; rw [show Try.prog.info? 43 = some Try.t43 from Try.type43]; rfl
@[simp ↓] theorem z43 {q : List Value → Prop} : goZ Try.prog 43 q = q [Go.Value.slice none 0 0] := by simp [goZ, zer43, Value.cells]
@[simp] theorem und43 : Try.prog.underlying 43 = some (Go.TypeDesc.struct
  #[{ name := "Deeds", type := 41, offset := 0, embedded := false, tag := "", pkgPath := "", byteOffset := 0 }]) := opq Try.underlying43
@[simp ↓] theorem fld43_0 {q : Nat → TypeId → Prop} : goFld Try.prog 43 0 q = q 0 41 := by simp only [goFld, und43]; rfl
@[simp ↓] theorem bld43 {q : List Value → List (Nat × Nat) → Prop} : goBld Try.prog 43 q = q [Go.Value.slice none 0 0] [(0, 1)] := by simp [goBld, und43, zer43, placesL, Value.cells]
theorem agg44 : aggT Try.prog 44 = some false := by unfold aggT; rw [Try.underlying44]; rfl
@[simp] theorem siz44 : szT Try.prog 44 = some 1 := by unfold szT; rw [show Try.prog.info? 44 = some Try.t44 from Try.type44]; rfl
@[simp ↓] theorem ty44 {q : Bool → Nat → Prop} : goTy Try.prog 44 q = q false 1 := by simp only [goTy, agg44, siz44]
@[simp ↓] theorem sz44 {q : Nat → Prop} : goSz Try.prog 44 q = q 1 := by simp only [goSz, siz44]
theorem zer44 : zero? Try.prog 44 = some Go.Value.nilFunc := by unfold zero?; rw [show Try.prog.info? 44 = some Try.t44 from Try.type44]; rfl
@[simp ↓] theorem z44 {q : List Value → Prop} : goZ Try.prog 44 q = q [Go.Value.nilFunc] := by simp [goZ, zer44, Value.cells]
theorem agg45 : aggT Try.prog 45 = some false := by unfold aggT; rw [Try.underlying45]; rfl
@[simp] theorem siz45 : szT Try.prog 45 = some 1 := by unfold szT; rw [show Try.prog.info? 45 = some Try.t45 from Try.type45]; rfl
@[simp ↓] theorem ty45 {q : Bool → Nat → Prop} : goTy Try.prog 45 q = q false 1 := by simp only [goTy, agg45, siz45]
@[simp ↓] theorem sz45 {q : Nat → Prop} : goSz Try.prog 45 q = q 1 := by simp only [goSz, siz45]
theorem zer45 : zero? Try.prog 45 = some Go.Value.nilFunc := by unfold zero?; rw [show Try.prog.info? 45 = some Try.t45 from Try.type45]; rfl
@[simp ↓] theorem z45 {q : List Value → Prop} : goZ Try.prog 45 q = q [Go.Value.nilFunc] := by simp [goZ, zer45, Value.cells]
theorem agg46 : aggT Try.prog 46 = some false := by unfold aggT; rw [Try.underlying46]; rfl
@[simp] theorem siz46 : szT Try.prog 46 = some 1 := by unfold szT; rw [show Try.prog.info? 46 = some Try.t46 from Try.type46]; rfl
@[simp ↓] theorem ty46 {q : Bool → Nat → Prop} : goTy Try.prog 46 q = q false 1 := by simp only [goTy, agg46, siz46]
@[simp ↓] theorem sz46 {q : Nat → Prop} : goSz Try.prog 46 q = q 1 := by simp only [goSz, siz46]
theorem zer46 : zero? Try.prog 46 = some Go.Value.nilFunc := by unfold zero?; rw [show Try.prog.info? 46 = some Try.t46 from Try.type46]; rfl
@[simp ↓] theorem z46 {q : List Value → Prop} : goZ Try.prog 46 q = q [Go.Value.nilFunc] := by simp [goZ, zer46, Value.cells]
theorem agg48 : aggT Try.prog 48 = some false := by unfold aggT; rw [Try.underlying48]; rfl
@[simp] theorem siz48 : szT Try.prog 48 = some 1 := by unfold szT; rw [show Try.prog.info? 48 = some Try.t48 from Try.type48]; rfl
@[simp ↓] theorem ty48 {q : Bool → Nat → Prop} : goTy Try.prog 48 q = q false 1 := by simp only [goTy, agg48, siz48]
@[simp ↓] theorem sz48 {q : Nat → Prop} : goSz Try.prog 48 q = q 1 := by simp only [goSz, siz48]
theorem zer48 : zero? Try.prog 48 = some Go.Value.nilFunc := by unfold zero?; rw [show Try.prog.info? 48 = some Try.t48 from Try.type48]; rfl
@[simp ↓] theorem z48 {q : List Value → Prop} : goZ Try.prog 48 q = q [Go.Value.nilFunc] := by simp [goZ, zer48, Value.cells]
theorem agg49 : aggT Try.prog 49 = some false := by unfold aggT; rw [Try.underlying49]; rfl
@[simp] theorem siz49 : szT Try.prog 49 = some 1 := by unfold szT; rw [show Try.prog.info? 49 = some Try.t49 from Try.type49]; rfl
@[simp ↓] theorem ty49 {q : Bool → Nat → Prop} : goTy Try.prog 49 q = q false 1 := by simp only [goTy, agg49, siz49]
@[simp ↓] theorem sz49 {q : Nat → Prop} : goSz Try.prog 49 q = q 1 := by simp only [goSz, siz49]
theorem zer49 : zero? Try.prog 49 = some Go.Value.nilFunc := by unfold zero?; rw [show Try.prog.info? 49 = some Try.t49 from Try.type49]; rfl
@[simp ↓] theorem z49 {q : List Value → Prop} : goZ Try.prog 49 q = q [Go.Value.nilFunc] := by simp [goZ, zer49, Value.cells]
theorem agg50 : aggT Try.prog 50 = some false := by unfold aggT; rw [Try.underlying50]; rfl
@[simp] theorem siz50 : szT Try.prog 50 = some 1 := by unfold szT; rw [show Try.prog.info? 50 = some Try.t50 from Try.type50]; rfl
@[simp ↓] theorem ty50 {q : Bool → Nat → Prop} : goTy Try.prog 50 q = q false 1 := by simp only [goTy, agg50, siz50]
@[simp ↓] theorem sz50 {q : Nat → Prop} : goSz Try.prog 50 q = q 1 := by simp only [goSz, siz50]
theorem zer50 : zero? Try.prog 50 = some Go.Value.nilFunc := by unfold zero?; rw [show Try.prog.info? 50 = some Try.t50 from Try.type50]; rfl
@[simp ↓] theorem z50 {q : List Value → Prop} : goZ Try.prog 50 q = q [Go.Value.nilFunc] := by simp [goZ, zer50, Value.cells]
theorem agg51 : aggT Try.prog 51 = some false := by unfold aggT; rw [Try.underlying51]; rfl
@[simp] theorem siz51 : szT Try.prog 51 = some 1 := by unfold szT; rw [show Try.prog.info? 51 = some Try.t51 from Try.type51]; rfl
@[simp ↓] theorem ty51 {q : Bool → Nat → Prop} : goTy Try.prog 51 q = q false 1 := by simp only [goTy, agg51, siz51]
@[simp ↓] theorem sz51 {q : Nat → Prop} : goSz Try.prog 51 q = q 1 := by simp only [goSz, siz51]
theorem zer51 : zero? Try.prog 51 = some Go.Value.nilFunc := by unfold zero?; rw [show Try.prog.info? 51 = some Try.t51 from Try.type51]; rfl
@[simp ↓] theorem z51 {q : List Value → Prop} : goZ Try.prog 51 q = q [Go.Value.nilFunc] := by simp [goZ, zer51, Value.cells]
theorem agg52 : aggT Try.prog 52 = some false := by unfold aggT; rw [Try.underlying52]; rfl
@[simp] theorem siz52 : szT Try.prog 52 = some 1 := by unfold szT; rw [show Try.prog.info? 52 = some Try.t52 from Try.type52]; rfl
@[simp ↓] theorem ty52 {q : Bool → Nat → Prop} : goTy Try.prog 52 q = q false 1 := by simp only [goTy, agg52, siz52]
@[simp ↓] theorem sz52 {q : Nat → Prop} : goSz Try.prog 52 q = q 1 := by simp only [goSz, siz52]
theorem zer52 : zero? Try.prog 52 = some Go.Value.nilFunc := by unfold zero?; rw [show Try.prog.info? 52 = some Try.t52 from Try.type52]; rfl
@[simp ↓] theorem z52 {q : List Value → Prop} : goZ Try.prog 52 q = q [Go.Value.nilFunc] := by simp [goZ, zer52, Value.cells]
theorem agg53 : aggT Try.prog 53 = some false := by unfold aggT; rw [Try.underlying53]; rfl
@[simp] theorem siz53 : szT Try.prog 53 = some 1 := by unfold szT; rw [show Try.prog.info? 53 = some Try.t53 from Try.type53]; rfl
@[simp ↓] theorem ty53 {q : Bool → Nat → Prop} : goTy Try.prog 53 q = q false 1 := by simp only [goTy, agg53, siz53]
@[simp ↓] theorem sz53 {q : Nat → Prop} : goSz Try.prog 53 q = q 1 := by simp only [goSz, siz53]
theorem zer53 : zero? Try.prog 53 = some Go.Value.nilFunc := by unfold zero?; rw [show Try.prog.info? 53 = some Try.t53 from Try.type53]; rfl
@[simp ↓] theorem z53 {q : List Value → Prop} : goZ Try.prog 53 q = q [Go.Value.nilFunc] := by simp [goZ, zer53, Value.cells]
theorem agg54 : aggT Try.prog 54 = some false := by unfold aggT; rw [Try.underlying54]; rfl
@[simp] theorem siz54 : szT Try.prog 54 = some 1 := by unfold szT; rw [show Try.prog.info? 54 = some Try.t54 from Try.type54]; rfl
@[simp ↓] theorem ty54 {q : Bool → Nat → Prop} : goTy Try.prog 54 q = q false 1 := by simp only [goTy, agg54, siz54]
@[simp ↓] theorem sz54 {q : Nat → Prop} : goSz Try.prog 54 q = q 1 := by simp only [goSz, siz54]
theorem zer54 : zero? Try.prog 54 = some Go.Value.nilFunc := by unfold zero?; rw [show Try.prog.info? 54 = some Try.t54 from Try.type54]; rfl
@[simp ↓] theorem z54 {q : List Value → Prop} : goZ Try.prog 54 q = q [Go.Value.nilFunc] := by simp [goZ, zer54, Value.cells]
theorem agg55 : aggT Try.prog 55 = some false := by unfold aggT; rw [Try.underlying55]; rfl
@[simp] theorem siz55 : szT Try.prog 55 = some 1 := by unfold szT; rw [show Try.prog.info? 55 = some Try.t55 from Try.type55]; rfl
@[simp ↓] theorem ty55 {q : Bool → Nat → Prop} : goTy Try.prog 55 q = q false 1 := by simp only [goTy, agg55, siz55]
@[simp ↓] theorem sz55 {q : Nat → Prop} : goSz Try.prog 55 q = q 1 := by simp only [goSz, siz55]
theorem zer55 : zero? Try.prog 55 = some Go.Value.nilFunc := by unfold zero?; rw [show Try.prog.info? 55 = some Try.t55 from Try.type55]; rfl
@[simp ↓] theorem z55 {q : List Value → Prop} : goZ Try.prog 55 q = q [Go.Value.nilFunc] := by simp [goZ, zer55, Value.cells]
theorem agg56 : aggT Try.prog 56 = some false := by unfold aggT; rw [Try.underlying56]; rfl
@[simp] theorem siz56 : szT Try.prog 56 = some 1 := by unfold szT; rw [show Try.prog.info? 56 = some Try.t56 from Try.type56]; rfl
@[simp ↓] theorem ty56 {q : Bool → Nat → Prop} : goTy Try.prog 56 q = q false 1 := by simp only [goTy, agg56, siz56]
@[simp ↓] theorem sz56 {q : Nat → Prop} : goSz Try.prog 56 q = q 1 := by simp only [goSz, siz56]
theorem zer56 : zero? Try.prog 56 = some (Go.Value.slice none 0 0) := by unfold zero?; rw [show Try.prog.info? 56 = some Try.t56 from Try.type56]; rfl
@[simp ↓] theorem z56 {q : List Value → Prop} : goZ Try.prog 56 q = q [(Go.Value.slice none 0 0)] := by simp [goZ, zer56, Value.cells]
@[simp] theorem und56 : Try.prog.underlying 56 = some (Go.TypeDesc.slice 160) := opq Try.underlying56
@[simp ↓] theorem un56 {q : TypeDesc → Prop} : goUnd Try.prog 56 q = q (Go.TypeDesc.slice 160) := by simp only [goUnd, und56]
theorem slt56 : SlT Try.prog 56 160 3 32 := ⟨Try.underlying56, ⟨Try.t160, _, Try.type160, rfl, rfl, rfl, by simp, rfl⟩, by decide⟩
@[simp ↓] theorem sl56 {q : TypeId → Nat → List Value → Prop} : goSl Try.prog 56 q = q 160 3 [Go.Value.int Go.IntKind.i64 0, Go.Value.string { data := #[] }, Go.Value.int Go.IntKind.i64 0] := by simp [goSl, und56, show zero? Try.prog 160 = some (Go.Value.agg #[Go.Value.int Go.IntKind.i64 0, Go.Value.string { data := #[] }, Go.Value.int Go.IntKind.i64 0]) from by unfold zero?; rw [show Try.prog.info? 160 = some Try.t160 from Try.type160]; rfl, show szT Try.prog 160 = some 3 from by unfold szT; rw [show Try.prog.info? 160 = some Try.t160 from Try.type160]; rfl, Value.cells]
theorem agg57 : aggT Try.prog 57 = some true := by unfold aggT; rw [Try.underlying57]; rfl
@[simp] theorem siz57 : szT Try.prog 57 = some 1 := by unfold szT; rw [show Try.prog.info? 57 = some Try.t57 from Try.type57]; rfl
@[simp ↓] theorem ty57 {q : Bool → Nat → Prop} : goTy Try.prog 57 q = q true 1 := by simp only [goTy, agg57, siz57]
@[simp ↓] theorem sz57 {q : Nat → Prop} : goSz Try.prog 57 q = q 1 := by simp only [goSz, siz57]
theorem zer57 : zero? Try.prog 57 = some (Go.Value.agg #[Go.Value.slice none 0 0]) := by unfold zero?; rw [show Try.prog.info? 57 = some Try.t57 from Try.type57]; rfl
@[simp ↓] theorem z57 {q : List Value → Prop} : goZ Try.prog 57 q = q [Go.Value.slice none 0 0] := by simp [goZ, zer57, Value.cells]
@[simp] theorem und57 : Try.prog.underlying 57 = some (Go.TypeDesc.struct
  #[{ name := "Code", type := 56, offset := 0, embedded := false, tag := "", pkgPath := "", byteOffset := 0 }]) := opq Try.underlying57
@[simp ↓] theorem fld57_0 {q : Nat → TypeId → Prop} : goFld Try.prog 57 0 q = q 0 56 := by simp only [goFld, und57]; rfl
@[simp ↓] theorem bld57 {q : List Value → List (Nat × Nat) → Prop} : goBld Try.prog 57 q = q [Go.Value.slice none 0 0] [(0, 1)] := by simp [goBld, und57, zer57, placesL, Value.cells]
theorem agg58 : aggT Try.prog 58 = some true := by unfold aggT; rw [Try.underlying58]; rfl
@[simp] theorem siz58 : szT Try.prog 58 = some 1 := by unfold szT; rw [show Try.prog.info? 58 = some Try.t58 from Try.type58]; rfl
@[simp ↓] theorem ty58 {q : Bool → Nat → Prop} : goTy Try.prog 58 q = q true 1 := by simp only [goTy, agg58, siz58]
@[simp ↓] theorem sz58 {q : Nat → Prop} : goSz Try.prog 58 q = q 1 := by simp only [goSz, siz58]
theorem zer58 : zero? Try.prog 58 = some (Go.Value.agg #[Go.Value.slice none 0 0]) := by unfold zero?; rw [show Try.prog.info? 58 = some Try.t58 from Try.type58]; rfl
@[simp ↓] theorem z58 {q : List Value → Prop} : goZ Try.prog 58 q = q [Go.Value.slice none 0 0] := by simp [goZ, zer58, Value.cells]
@[simp] theorem und58 : Try.prog.underlying 58 = some (Go.TypeDesc.struct
  #[{ name := "Code", type := 56, offset := 0, embedded := false, tag := "", pkgPath := "", byteOffset := 0 }]) := opq Try.underlying58
@[simp ↓] theorem fld58_0 {q : Nat → TypeId → Prop} : goFld Try.prog 58 0 q = q 0 56 := by simp only [goFld, und58]; rfl
@[simp ↓] theorem bld58 {q : List Value → List (Nat × Nat) → Prop} : goBld Try.prog 58 q = q [Go.Value.slice none 0 0] [(0, 1)] := by simp [goBld, und58, zer58, placesL, Value.cells]
theorem agg59 : aggT Try.prog 59 = some false := by unfold aggT; rw [Try.underlying59]; rfl
@[simp] theorem siz59 : szT Try.prog 59 = some 1 := by unfold szT; rw [show Try.prog.info? 59 = some Try.t59 from Try.type59]; rfl
@[simp ↓] theorem ty59 {q : Bool → Nat → Prop} : goTy Try.prog 59 q = q false 1 := by simp only [goTy, agg59, siz59]
@[simp ↓] theorem sz59 {q : Nat → Prop} : goSz Try.prog 59 q = q 1 := by simp only [goSz, siz59]
theorem zer59 : zero? Try.prog 59 = some Go.Value.nilFunc := by unfold zero?; rw [show Try.prog.info? 59 = some Try.t59 from Try.type59]; rfl
@[simp ↓] theorem z59 {q : List Value → Prop} : goZ Try.prog 59 q = q [Go.Value.nilFunc] := by simp [goZ, zer59, Value.cells]
theorem agg60 : aggT Try.prog 60 = some false := by unfold aggT; rw [Try.underlying60]; rfl
@[simp] theorem siz60 : szT Try.prog 60 = some 1 := by unfold szT; rw [show Try.prog.info? 60 = some Try.t60 from Try.type60]; rfl
@[simp ↓] theorem ty60 {q : Bool → Nat → Prop} : goTy Try.prog 60 q = q false 1 := by simp only [goTy, agg60, siz60]
@[simp ↓] theorem sz60 {q : Nat → Prop} : goSz Try.prog 60 q = q 1 := by simp only [goSz, siz60]
theorem zer60 : zero? Try.prog 60 = some Go.Value.nilFunc := by unfold zero?; rw [show Try.prog.info? 60 = some Try.t60 from Try.type60]; rfl
@[simp ↓] theorem z60 {q : List Value → Prop} : goZ Try.prog 60 q = q [Go.Value.nilFunc] := by simp [goZ, zer60, Value.cells]
theorem agg61 : aggT Try.prog 61 = some false := by unfold aggT; rw [Try.underlying61]; rfl
@[simp] theorem siz61 : szT Try.prog 61 = some 1 := by unfold szT; rw [show Try.prog.info? 61 = some Try.t61 from Try.type61]; rfl
@[simp ↓] theorem ty61 {q : Bool → Nat → Prop} : goTy Try.prog 61 q = q false 1 := by simp only [goTy, agg61, siz61]
@[simp ↓] theorem sz61 {q : Nat → Prop} : goSz Try.prog 61 q = q 1 := by simp only [goSz, siz61]
theorem zer61 : zero? Try.prog 61 = some (Go.Value.slice none 0 0) := by unfold zero?; rw [show Try.prog.info? 61 = some Try.t61 from Try.type61]; rfl
@[simp ↓] theorem z61 {q : List Value → Prop} : goZ Try.prog 61 q = q [(Go.Value.slice none 0 0)] := by simp [goZ, zer61, Value.cells]
@[simp] theorem und61 : Try.prog.underlying 61 = some (Go.TypeDesc.slice 139) := opq Try.underlying61
@[simp ↓] theorem un61 {q : TypeDesc → Prop} : goUnd Try.prog 61 q = q (Go.TypeDesc.slice 139) := by simp only [goUnd, und61]
theorem slt61 : SlT Try.prog 61 139 3 32 := ⟨Try.underlying61, ⟨Try.t139, _, Try.type139, rfl, rfl, rfl, by simp, rfl⟩, by decide⟩
@[simp ↓] theorem sl61 {q : TypeId → Nat → List Value → Prop} : goSl Try.prog 61 q = q 139 3 [Go.Value.int Go.IntKind.i64 0, Go.Value.string { data := #[] }, Go.Value.int Go.IntKind.i64 0] := by simp [goSl, und61, show zero? Try.prog 139 = some (Go.Value.agg #[Go.Value.int Go.IntKind.i64 0, Go.Value.string { data := #[] }, Go.Value.int Go.IntKind.i64 0]) from by unfold zero?; rw [show Try.prog.info? 139 = some Try.t139 from Try.type139]; rfl, show szT Try.prog 139 = some 3 from by unfold szT; rw [show Try.prog.info? 139 = some Try.t139 from Try.type139]; rfl, Value.cells]
theorem agg62 : aggT Try.prog 62 = some true := by unfold aggT; rw [Try.underlying62]; rfl
@[simp] theorem siz62 : szT Try.prog 62 = some 1 := by unfold szT; rw [show Try.prog.info? 62 = some Try.t62 from Try.type62]; rfl
@[simp ↓] theorem ty62 {q : Bool → Nat → Prop} : goTy Try.prog 62 q = q true 1 := by simp only [goTy, agg62, siz62]
@[simp ↓] theorem sz62 {q : Nat → Prop} : goSz Try.prog 62 q = q 1 := by simp only [goSz, siz62]
theorem zer62 : zero? Try.prog 62 = some (Go.Value.agg #[Go.Value.slice none 0 0]) := by unfold zero?; rw [show Try.prog.info? 62 = some Try.t62 from Try.type62]; rfl
@[simp ↓] theorem z62 {q : List Value → Prop} : goZ Try.prog 62 q = q [Go.Value.slice none 0 0] := by simp [goZ, zer62, Value.cells]
@[simp] theorem und62 : Try.prog.underlying 62 = some (Go.TypeDesc.struct
  #[{ name := "Code", type := 61, offset := 0, embedded := false, tag := "", pkgPath := "", byteOffset := 0 }]) := opq Try.underlying62
@[simp ↓] theorem fld62_0 {q : Nat → TypeId → Prop} : goFld Try.prog 62 0 q = q 0 61 := by simp only [goFld, und62]; rfl
@[simp ↓] theorem bld62 {q : List Value → List (Nat × Nat) → Prop} : goBld Try.prog 62 q = q [Go.Value.slice none 0 0] [(0, 1)] := by simp [goBld, und62, zer62, placesL, Value.cells]
theorem agg63 : aggT Try.prog 63 = some true := by unfold aggT; rw [Try.underlying63]; rfl
@[simp] theorem siz63 : szT Try.prog 63 = some 1 := by unfold szT; rw [show Try.prog.info? 63 = some Try.t63 from Try.type63]; rfl
@[simp ↓] theorem ty63 {q : Bool → Nat → Prop} : goTy Try.prog 63 q = q true 1 := by simp only [goTy, agg63, siz63]
@[simp ↓] theorem sz63 {q : Nat → Prop} : goSz Try.prog 63 q = q 1 := by simp only [goSz, siz63]
theorem zer63 : zero? Try.prog 63 = some (Go.Value.agg #[Go.Value.slice none 0 0]) := by unfold zero?; rw [show Try.prog.info? 63 = some Try.t63 from Try.type63]; rfl
@[simp ↓] theorem z63 {q : List Value → Prop} : goZ Try.prog 63 q = q [Go.Value.slice none 0 0] := by simp [goZ, zer63, Value.cells]
@[simp] theorem und63 : Try.prog.underlying 63 = some (Go.TypeDesc.struct
  #[{ name := "Code", type := 61, offset := 0, embedded := false, tag := "", pkgPath := "", byteOffset := 0 }]) := opq Try.underlying63
@[simp ↓] theorem fld63_0 {q : Nat → TypeId → Prop} : goFld Try.prog 63 0 q = q 0 61 := by simp only [goFld, und63]; rfl
@[simp ↓] theorem bld63 {q : List Value → List (Nat × Nat) → Prop} : goBld Try.prog 63 q = q [Go.Value.slice none 0 0] [(0, 1)] := by simp [goBld, und63, zer63, placesL, Value.cells]
theorem agg64 : aggT Try.prog 64 = some false := by unfold aggT; rw [Try.underlying64]; rfl
@[simp] theorem siz64 : szT Try.prog 64 = some 1 := by unfold szT; rw [show Try.prog.info? 64 = some Try.t64 from Try.type64]; rfl
@[simp ↓] theorem ty64 {q : Bool → Nat → Prop} : goTy Try.prog 64 q = q false 1 := by simp only [goTy, agg64, siz64]
@[simp ↓] theorem sz64 {q : Nat → Prop} : goSz Try.prog 64 q = q 1 := by simp only [goSz, siz64]
theorem zer64 : zero? Try.prog 64 = some Go.Value.nilFunc := by unfold zero?; rw [show Try.prog.info? 64 = some Try.t64 from Try.type64]; rfl
@[simp ↓] theorem z64 {q : List Value → Prop} : goZ Try.prog 64 q = q [Go.Value.nilFunc] := by simp [goZ, zer64, Value.cells]
theorem agg65 : aggT Try.prog 65 = some false := by unfold aggT; rw [Try.underlying65]; rfl
@[simp] theorem siz65 : szT Try.prog 65 = some 1 := by unfold szT; rw [show Try.prog.info? 65 = some Try.t65 from Try.type65]; rfl
@[simp ↓] theorem ty65 {q : Bool → Nat → Prop} : goTy Try.prog 65 q = q false 1 := by simp only [goTy, agg65, siz65]
@[simp ↓] theorem sz65 {q : Nat → Prop} : goSz Try.prog 65 q = q 1 := by simp only [goSz, siz65]
theorem zer65 : zero? Try.prog 65 = some Go.Value.nilFunc := by unfold zero?; rw [show Try.prog.info? 65 = some Try.t65 from Try.type65]; rfl
@[simp ↓] theorem z65 {q : List Value → Prop} : goZ Try.prog 65 q = q [Go.Value.nilFunc] := by simp [goZ, zer65, Value.cells]
theorem agg66 : aggT Try.prog 66 = some false := by unfold aggT; rw [Try.underlying66]; rfl
@[simp] theorem siz66 : szT Try.prog 66 = some 1 := by unfold szT; rw [show Try.prog.info? 66 = some Try.t66 from Try.type66]; rfl
@[simp ↓] theorem ty66 {q : Bool → Nat → Prop} : goTy Try.prog 66 q = q false 1 := by simp only [goTy, agg66, siz66]
@[simp ↓] theorem sz66 {q : Nat → Prop} : goSz Try.prog 66 q = q 1 := by simp only [goSz, siz66]
theorem zer66 : zero? Try.prog 66 = some Go.Value.nilFunc := by unfold zero?; rw [show Try.prog.info? 66 = some Try.t66 from Try.type66]; rfl
@[simp ↓] theorem z66 {q : List Value → Prop} : goZ Try.prog 66 q = q [Go.Value.nilFunc] := by simp [goZ, zer66, Value.cells]
theorem agg67 : aggT Try.prog 67 = some false := by unfold aggT; rw [Try.underlying67]; rfl
@[simp] theorem siz67 : szT Try.prog 67 = some 1 := by unfold szT; rw [show Try.prog.info? 67 = some Try.t67 from Try.type67]; rfl
@[simp ↓] theorem ty67 {q : Bool → Nat → Prop} : goTy Try.prog 67 q = q false 1 := by simp only [goTy, agg67, siz67]
@[simp ↓] theorem sz67 {q : Nat → Prop} : goSz Try.prog 67 q = q 1 := by simp only [goSz, siz67]
theorem zer67 : zero? Try.prog 67 = some Go.Value.nilFunc := by unfold zero?; rw [show Try.prog.info? 67 = some Try.t67 from Try.type67]; rfl
@[simp ↓] theorem z67 {q : List Value → Prop} : goZ Try.prog 67 q = q [Go.Value.nilFunc] := by simp [goZ, zer67, Value.cells]
theorem agg68 : aggT Try.prog 68 = some false := by unfold aggT; rw [Try.underlying68]; rfl
@[simp] theorem siz68 : szT Try.prog 68 = some 1 := by unfold szT; rw [show Try.prog.info? 68 = some Try.t68 from Try.type68]; rfl
@[simp ↓] theorem ty68 {q : Bool → Nat → Prop} : goTy Try.prog 68 q = q false 1 := by simp only [goTy, agg68, siz68]
@[simp ↓] theorem sz68 {q : Nat → Prop} : goSz Try.prog 68 q = q 1 := by simp only [goSz, siz68]
theorem zer68 : zero? Try.prog 68 = some (Go.Value.slice none 0 0) := by unfold zero?; rw [show Try.prog.info? 68 = some Try.t68 from Try.type68]; rfl
@[simp ↓] theorem z68 {q : List Value → Prop} : goZ Try.prog 68 q = q [(Go.Value.slice none 0 0)] := by simp [goZ, zer68, Value.cells]
@[simp] theorem und68 : Try.prog.underlying 68 = some (Go.TypeDesc.slice 9) := opq Try.underlying68
@[simp ↓] theorem un68 {q : TypeDesc → Prop} : goUnd Try.prog 68 q = q (Go.TypeDesc.slice 9) := by simp only [goUnd, und68]
theorem slt68 : SlT Try.prog 68 9 1 16 := ⟨Try.underlying68, ⟨Try.t9, _, Try.type9, rfl, rfl, rfl, by simp, rfl⟩, by decide⟩
@[simp ↓] theorem sl68 {q : TypeId → Nat → List Value → Prop} : goSl Try.prog 68 q = q 9 1 [(Go.Value.string { data := #[] })] := by simp [goSl, und68, show zero? Try.prog 9 = some (Go.Value.string { data := #[] }) from by unfold zero?; rw [show Try.prog.info? 9 = some Try.t9 from Try.type9]; rfl, show szT Try.prog 9 = some 1 from by unfold szT; rw [show Try.prog.info? 9 = some Try.t9 from Try.type9]; rfl, Value.cells]
theorem agg69 : aggT Try.prog 69 = some false := by unfold aggT; rw [Try.underlying69]; rfl
@[simp] theorem siz69 : szT Try.prog 69 = some 1 := by unfold szT; rw [show Try.prog.info? 69 = some Try.t69 from Try.type69]; rfl
@[simp ↓] theorem ty69 {q : Bool → Nat → Prop} : goTy Try.prog 69 q = q false 1 := by simp only [goTy, agg69, siz69]
@[simp ↓] theorem sz69 {q : Nat → Prop} : goSz Try.prog 69 q = q 1 := by simp only [goSz, siz69]
theorem zer69 : zero? Try.prog 69 = some Go.Value.nilFunc := by unfold zero?; rw [show Try.prog.info? 69 = some Try.t69 from Try.type69]; rfl
@[simp ↓] theorem z69 {q : List Value → Prop} : goZ Try.prog 69 q = q [Go.Value.nilFunc] := by simp [goZ, zer69, Value.cells]
theorem agg70 : aggT Try.prog 70 = some false := by unfold aggT; rw [Try.underlying70]; rfl
@[simp] theorem siz70 : szT Try.prog 70 = some 1 := by unfold szT; rw [show Try.prog.info? 70 = some Try.t70 from Try.type70]; rfl
@[simp ↓] theorem ty70 {q : Bool → Nat → Prop} : goTy Try.prog 70 q = q false 1 := by simp only [goTy, agg70, siz70]
@[simp ↓] theorem sz70 {q : Nat → Prop} : goSz Try.prog 70 q = q 1 := by simp only [goSz, siz70]
theorem zer70 : zero? Try.prog 70 = some Go.Value.nilFunc := by unfold zero?; rw [show Try.prog.info? 70 = some Try.t70 from Try.type70]; rfl
@[simp ↓] theorem z70 {q : List Value → Prop} : goZ Try.prog 70 q = q [Go.Value.nilFunc] := by simp [goZ, zer70, Value.cells]
theorem agg71 : aggT Try.prog 71 = some false := by unfold aggT; rw [Try.underlying71]; rfl
@[simp] theorem siz71 : szT Try.prog 71 = some 1 := by unfold szT; rw [show Try.prog.info? 71 = some Try.t71 from Try.type71]; rfl
@[simp ↓] theorem ty71 {q : Bool → Nat → Prop} : goTy Try.prog 71 q = q false 1 := by simp only [goTy, agg71, siz71]
@[simp ↓] theorem sz71 {q : Nat → Prop} : goSz Try.prog 71 q = q 1 := by simp only [goSz, siz71]
theorem zer71 : zero? Try.prog 71 = some Go.Value.nilFunc := by unfold zero?; rw [show Try.prog.info? 71 = some Try.t71 from Try.type71]; rfl
@[simp ↓] theorem z71 {q : List Value → Prop} : goZ Try.prog 71 q = q [Go.Value.nilFunc] := by simp [goZ, zer71, Value.cells]
theorem agg72 : aggT Try.prog 72 = some false := by unfold aggT; rw [Try.underlying72]; rfl
@[simp] theorem siz72 : szT Try.prog 72 = some 1 := by unfold szT; rw [show Try.prog.info? 72 = some Try.t72 from Try.type72]; rfl
@[simp ↓] theorem ty72 {q : Bool → Nat → Prop} : goTy Try.prog 72 q = q false 1 := by simp only [goTy, agg72, siz72]
@[simp ↓] theorem sz72 {q : Nat → Prop} : goSz Try.prog 72 q = q 1 := by simp only [goSz, siz72]
theorem zer72 : zero? Try.prog 72 = some Go.Value.nilFunc := by unfold zero?; rw [show Try.prog.info? 72 = some Try.t72 from Try.type72]; rfl
@[simp ↓] theorem z72 {q : List Value → Prop} : goZ Try.prog 72 q = q [Go.Value.nilFunc] := by simp [goZ, zer72, Value.cells]
theorem agg73 : aggT Try.prog 73 = some false := by unfold aggT; rw [Try.underlying73]; rfl
@[simp] theorem siz73 : szT Try.prog 73 = some 1 := by unfold szT; rw [show Try.prog.info? 73 = some Try.t73 from Try.type73]; rfl
@[simp ↓] theorem ty73 {q : Bool → Nat → Prop} : goTy Try.prog 73 q = q false 1 := by simp only [goTy, agg73, siz73]
@[simp ↓] theorem sz73 {q : Nat → Prop} : goSz Try.prog 73 q = q 1 := by simp only [goSz, siz73]
theorem zer73 : zero? Try.prog 73 = some Go.Value.nilFunc := by unfold zero?; rw [show Try.prog.info? 73 = some Try.t73 from Try.type73]; rfl
@[simp ↓] theorem z73 {q : List Value → Prop} : goZ Try.prog 73 q = q [Go.Value.nilFunc] := by simp [goZ, zer73, Value.cells]
theorem agg74 : aggT Try.prog 74 = some false := by unfold aggT; rw [Try.underlying74]; rfl
@[simp] theorem siz74 : szT Try.prog 74 = some 1 := by unfold szT; rw [show Try.prog.info? 74 = some Try.t74 from Try.type74]; rfl
@[simp ↓] theorem ty74 {q : Bool → Nat → Prop} : goTy Try.prog 74 q = q false 1 := by simp only [goTy, agg74, siz74]
@[simp ↓] theorem sz74 {q : Nat → Prop} : goSz Try.prog 74 q = q 1 := by simp only [goSz, siz74]
theorem zer74 : zero? Try.prog 74 = some Go.Value.nilFunc := by unfold zero?; rw [show Try.prog.info? 74 = some Try.t74 from Try.type74]; rfl
@[simp ↓] theorem z74 {q : List Value → Prop} : goZ Try.prog 74 q = q [Go.Value.nilFunc] := by simp [goZ, zer74, Value.cells]
theorem agg75 : aggT Try.prog 75 = some true := by unfold aggT; rw [Try.underlying75]; rfl
@[simp] theorem siz75 : szT Try.prog 75 = some 2 := by unfold szT; rw [show Try.prog.info? 75 = some Try.t75 from Try.type75]; rfl
@[simp ↓] theorem ty75 {q : Bool → Nat → Prop} : goTy Try.prog 75 q = q true 2 := by simp only [goTy, agg75, siz75]
@[simp ↓] theorem sz75 {q : Nat → Prop} : goSz Try.prog 75 q = q 2 := by simp only [goSz, siz75]
theorem zer75 : zero? Try.prog 75 = some (Go.Value.agg #[Go.Value.string { data := #[] }, Go.Value.string { data := #[] }]) := by unfold zero?; rw [show Try.prog.info? 75 = some Try.t75 from Try.type75]; rfl
@[simp ↓] theorem z75 {q : List Value → Prop} : goZ Try.prog 75 q = q [Go.Value.string { data := #[] }, Go.Value.string { data := #[] }] := by simp [goZ, zer75, Value.cells]
@[simp] theorem und75 : Try.prog.underlying 75 = some (Go.TypeDesc.struct
  #[{ name := "Name", type := 9, offset := 0, embedded := false, tag := "", pkgPath := "", byteOffset := 0 },
    { name := "Text", type := 9, offset := 1, embedded := false, tag := "", pkgPath := "", byteOffset := 16 }]) := opq Try.underlying75
@[simp ↓] theorem fld75_0 {q : Nat → TypeId → Prop} : goFld Try.prog 75 0 q = q 0 9 := by simp only [goFld, und75]; rfl
@[simp ↓] theorem fld75_1 {q : Nat → TypeId → Prop} : goFld Try.prog 75 1 q = q 1 9 := by simp only [goFld, und75]; rfl
@[simp ↓] theorem bld75 {q : List Value → List (Nat × Nat) → Prop} : goBld Try.prog 75 q = q [Go.Value.string { data := #[] }, Go.Value.string { data := #[] }] [(0, 1), (1, 1)] := by simp [goBld, und75, zer75, placesL, Value.cells]
theorem agg76 : aggT Try.prog 76 = some true := by unfold aggT; rw [Try.underlying76]; rfl
@[simp] theorem siz76 : szT Try.prog 76 = some 2 := by unfold szT; rw [show Try.prog.info? 76 = some Try.t76 from Try.type76]; rfl
@[simp ↓] theorem ty76 {q : Bool → Nat → Prop} : goTy Try.prog 76 q = q true 2 := by simp only [goTy, agg76, siz76]
@[simp ↓] theorem sz76 {q : Nat → Prop} : goSz Try.prog 76 q = q 2 := by simp only [goSz, siz76]
theorem zer76 : zero? Try.prog 76 = some (Go.Value.agg #[Go.Value.string { data := #[] }, Go.Value.string { data := #[] }]) := by unfold zero?; rw [show Try.prog.info? 76 = some Try.t76 from Try.type76]; rfl
@[simp ↓] theorem z76 {q : List Value → Prop} : goZ Try.prog 76 q = q [Go.Value.string { data := #[] }, Go.Value.string { data := #[] }] := by simp [goZ, zer76, Value.cells]
@[simp] theorem und76 : Try.prog.underlying 76 = some (Go.TypeDesc.struct
  #[{ name := "Name", type := 9, offset := 0, embedded := false, tag := "", pkgPath := "", byteOffset := 0 },
    { name := "Text", type := 9, offset := 1, embedded := false, tag := "", pkgPath := "", byteOffset := 16 }]) := opq Try.underlying76
@[simp ↓] theorem fld76_0 {q : Nat → TypeId → Prop} : goFld Try.prog 76 0 q = q 0 9 := by simp only [goFld, und76]; rfl
@[simp ↓] theorem fld76_1 {q : Nat → TypeId → Prop} : goFld Try.prog 76 1 q = q 1 9 := by simp only [goFld, und76]; rfl
@[simp ↓] theorem bld76 {q : List Value → List (Nat × Nat) → Prop} : goBld Try.prog 76 q = q [Go.Value.string { data := #[] }, Go.Value.string { data := #[] }] [(0, 1), (1, 1)] := by simp [goBld, und76, zer76, placesL, Value.cells]
theorem agg77 : aggT Try.prog 77 = some true := by unfold aggT; rw [Try.underlying77]; rfl
@[simp] theorem siz77 : szT Try.prog 77 = some 2 := by unfold szT; rw [show Try.prog.info? 77 = some Try.t77 from Try.type77]; rfl
@[simp ↓] theorem ty77 {q : Bool → Nat → Prop} : goTy Try.prog 77 q = q true 2 := by simp only [goTy, agg77, siz77]
@[simp ↓] theorem sz77 {q : Nat → Prop} : goSz Try.prog 77 q = q 2 := by simp only [goSz, siz77]
theorem zer77 : zero? Try.prog 77 = some (Go.Value.agg #[Go.Value.string { data := #[] }, Go.Value.slice none 0 0]) := by unfold zero?; rw [show Try.prog.info? 77 = some Try.t77 from Try.type77]; rfl
@[simp ↓] theorem z77 {q : List Value → Prop} : goZ Try.prog 77 q = q [Go.Value.string { data := #[] }, Go.Value.slice none 0 0] := by simp [goZ, zer77, Value.cells]
@[simp] theorem und77 : Try.prog.underlying 77 = some (Go.TypeDesc.struct
  #[{ name := "Name", type := 9, offset := 0, embedded := false, tag := "", pkgPath := "", byteOffset := 0 },
    { name := "Action", type := 63, offset := 1, embedded := false, tag := "", pkgPath := "", byteOffset := 16 }]) := opq Try.underlying77
@[simp ↓] theorem fld77_0 {q : Nat → TypeId → Prop} : goFld Try.prog 77 0 q = q 0 9 := by simp only [goFld, und77]; rfl
@[simp ↓] theorem fld77_1 {q : Nat → TypeId → Prop} : goFld Try.prog 77 1 q = q 1 63 := by simp only [goFld, und77]; rfl
@[simp ↓] theorem bld77 {q : List Value → List (Nat × Nat) → Prop} : goBld Try.prog 77 q = q [Go.Value.string { data := #[] }, Go.Value.slice none 0 0] [(0, 1), (1, 1)] := by simp [goBld, und77, zer77, placesL, Value.cells]
theorem agg78 : aggT Try.prog 78 = some true := by unfold aggT; rw [Try.underlying78]; rfl
@[simp] theorem siz78 : szT Try.prog 78 = some 2 := by unfold szT; rw [show Try.prog.info? 78 = some Try.t78 from Try.type78]; rfl
@[simp ↓] theorem ty78 {q : Bool → Nat → Prop} : goTy Try.prog 78 q = q true 2 := by simp only [goTy, agg78, siz78]
@[simp ↓] theorem sz78 {q : Nat → Prop} : goSz Try.prog 78 q = q 2 := by simp only [goSz, siz78]
theorem zer78 : zero? Try.prog 78 = some (Go.Value.agg #[Go.Value.string { data := #[] }, Go.Value.slice none 0 0]) := by unfold zero?; rw [show Try.prog.info? 78 = some Try.t78 from Try.type78]; rfl
@[simp ↓] theorem z78 {q : List Value → Prop} : goZ Try.prog 78 q = q [Go.Value.string { data := #[] }, Go.Value.slice none 0 0] := by simp [goZ, zer78, Value.cells]
@[simp] theorem und78 : Try.prog.underlying 78 = some (Go.TypeDesc.struct
  #[{ name := "Name", type := 9, offset := 0, embedded := false, tag := "", pkgPath := "", byteOffset := 0 },
    { name := "Action", type := 63, offset := 1, embedded := false, tag := "", pkgPath := "", byteOffset := 16 }]) := opq Try.underlying78
@[simp ↓] theorem fld78_0 {q : Nat → TypeId → Prop} : goFld Try.prog 78 0 q = q 0 9 := by simp only [goFld, und78]; rfl
@[simp ↓] theorem fld78_1 {q : Nat → TypeId → Prop} : goFld Try.prog 78 1 q = q 1 63 := by simp only [goFld, und78]; rfl
@[simp ↓] theorem bld78 {q : List Value → List (Nat × Nat) → Prop} : goBld Try.prog 78 q = q [Go.Value.string { data := #[] }, Go.Value.slice none 0 0] [(0, 1), (1, 1)] := by simp [goBld, und78, zer78, placesL, Value.cells]
theorem agg79 : aggT Try.prog 79 = some false := by unfold aggT; rw [Try.underlying79]; rfl
@[simp] theorem siz79 : szT Try.prog 79 = some 1 := by unfold szT; rw [show Try.prog.info? 79 = some Try.t79 from Try.type79]; rfl
@[simp ↓] theorem ty79 {q : Bool → Nat → Prop} : goTy Try.prog 79 q = q false 1 := by simp only [goTy, agg79, siz79]
@[simp ↓] theorem sz79 {q : Nat → Prop} : goSz Try.prog 79 q = q 1 := by simp only [goSz, siz79]
theorem zer79 : zero? Try.prog 79 = some Go.Value.nilFunc := by unfold zero?; rw [show Try.prog.info? 79 = some Try.t79 from Try.type79]; rfl
@[simp ↓] theorem z79 {q : List Value → Prop} : goZ Try.prog 79 q = q [Go.Value.nilFunc] := by simp [goZ, zer79, Value.cells]
theorem agg80 : aggT Try.prog 80 = some false := by unfold aggT; rw [Try.underlying80]; rfl
@[simp] theorem siz80 : szT Try.prog 80 = some 1 := by unfold szT; rw [show Try.prog.info? 80 = some Try.t80 from Try.type80]; rfl
@[simp ↓] theorem ty80 {q : Bool → Nat → Prop} : goTy Try.prog 80 q = q false 1 := by simp only [goTy, agg80, siz80]
@[simp ↓] theorem sz80 {q : Nat → Prop} : goSz Try.prog 80 q = q 1 := by simp only [goSz, siz80]
theorem zer80 : zero? Try.prog 80 = some Go.Value.nilFunc := by unfold zero?; rw [show Try.prog.info? 80 = some Try.t80 from Try.type80]; rfl
@[simp ↓] theorem z80 {q : List Value → Prop} : goZ Try.prog 80 q = q [Go.Value.nilFunc] := by simp [goZ, zer80, Value.cells]
theorem agg81 : aggT Try.prog 81 = some false := by unfold aggT; rw [Try.underlying81]; rfl
@[simp] theorem siz81 : szT Try.prog 81 = some 1 := by unfold szT; rw [show Try.prog.info? 81 = some Try.t81 from Try.type81]; rfl
@[simp ↓] theorem ty81 {q : Bool → Nat → Prop} : goTy Try.prog 81 q = q false 1 := by simp only [goTy, agg81, siz81]
@[simp ↓] theorem sz81 {q : Nat → Prop} : goSz Try.prog 81 q = q 1 := by simp only [goSz, siz81]
theorem zer81 : zero? Try.prog 81 = some Go.Value.nilFunc := by unfold zero?; rw [show Try.prog.info? 81 = some Try.t81 from Try.type81]; rfl
@[simp ↓] theorem z81 {q : List Value → Prop} : goZ Try.prog 81 q = q [Go.Value.nilFunc] := by simp [goZ, zer81, Value.cells]
theorem agg82 : aggT Try.prog 82 = some false := by unfold aggT; rw [Try.underlying82]; rfl
@[simp] theorem siz82 : szT Try.prog 82 = some 1 := by unfold szT; rw [show Try.prog.info? 82 = some Try.t82 from Try.type82]; rfl
@[simp ↓] theorem ty82 {q : Bool → Nat → Prop} : goTy Try.prog 82 q = q false 1 := by simp only [goTy, agg82, siz82]
@[simp ↓] theorem sz82 {q : Nat → Prop} : goSz Try.prog 82 q = q 1 := by simp only [goSz, siz82]
theorem zer82 : zero? Try.prog 82 = some Go.Value.nilFunc := by unfold zero?; rw [show Try.prog.info? 82 = some Try.t82 from Try.type82]; rfl
@[simp ↓] theorem z82 {q : List Value → Prop} : goZ Try.prog 82 q = q [Go.Value.nilFunc] := by simp [goZ, zer82, Value.cells]
theorem agg84 : aggT Try.prog 84 = some false := by unfold aggT; rw [Try.underlying84]; rfl
@[simp] theorem siz84 : szT Try.prog 84 = some 1 := by unfold szT; rw [show Try.prog.info? 84 = some Try.t84 from Try.type84]; rfl
@[simp ↓] theorem ty84 {q : Bool → Nat → Prop} : goTy Try.prog 84 q = q false 1 := by simp only [goTy, agg84, siz84]
@[simp ↓] theorem sz84 {q : Nat → Prop} : goSz Try.prog 84 q = q 1 := by simp only [goSz, siz84]
theorem zer84 : zero? Try.prog 84 = some Go.Value.nilFunc := by unfold zero?; rw [show Try.prog.info? 84 = some Try.t84 from Try.type84]; rfl
@[simp ↓] theorem z84 {q : List Value → Prop} : goZ Try.prog 84 q = q [Go.Value.nilFunc] := by simp [goZ, zer84, Value.cells]
theorem agg85 : aggT Try.prog 85 = some false := by unfold aggT; rw [Try.underlying85]; rfl
@[simp] theorem siz85 : szT Try.prog 85 = some 1 := by unfold szT; rw [show Try.prog.info? 85 = some Try.t85 from Try.type85]; rfl
@[simp ↓] theorem ty85 {q : Bool → Nat → Prop} : goTy Try.prog 85 q = q false 1 := by simp only [goTy, agg85, siz85]
@[simp ↓] theorem sz85 {q : Nat → Prop} : goSz Try.prog 85 q = q 1 := by simp only [goSz, siz85]
theorem zer85 : zero? Try.prog 85 = some Go.Value.nilFunc := by unfold zero?; rw [show Try.prog.info? 85 = some Try.t85 from Try.type85]; rfl
@[simp ↓] theorem z85 {q : List Value → Prop} : goZ Try.prog 85 q = q [Go.Value.nilFunc] := by simp [goZ, zer85, Value.cells]
theorem agg86 : aggT Try.prog 86 = some false := by unfold aggT; rw [Try.underlying86]; rfl
@[simp] theorem siz86 : szT Try.prog 86 = some 1 := by unfold szT; rw [show Try.prog.info? 86 = some Try.t86 from Try.type86]; rfl
@[simp ↓] theorem ty86 {q : Bool → Nat → Prop} : goTy Try.prog 86 q = q false 1 := by simp only [goTy, agg86, siz86]
@[simp ↓] theorem sz86 {q : Nat → Prop} : goSz Try.prog 86 q = q 1 := by simp only [goSz, siz86]
theorem zer86 : zero? Try.prog 86 = some Go.Value.nilFunc := by unfold zero?; rw [show Try.prog.info? 86 = some Try.t86 from Try.type86]; rfl
@[simp ↓] theorem z86 {q : List Value → Prop} : goZ Try.prog 86 q = q [Go.Value.nilFunc] := by simp [goZ, zer86, Value.cells]
theorem agg87 : aggT Try.prog 87 = some false := by unfold aggT; rw [Try.underlying87]; rfl
@[simp] theorem siz87 : szT Try.prog 87 = some 1 := by unfold szT; rw [show Try.prog.info? 87 = some Try.t87 from Try.type87]; rfl
@[simp ↓] theorem ty87 {q : Bool → Nat → Prop} : goTy Try.prog 87 q = q false 1 := by simp only [goTy, agg87, siz87]
@[simp ↓] theorem sz87 {q : Nat → Prop} : goSz Try.prog 87 q = q 1 := by simp only [goSz, siz87]
theorem zer87 : zero? Try.prog 87 = some Go.Value.nilFunc := by unfold zero?; rw [show Try.prog.info? 87 = some Try.t87 from Try.type87]; rfl
@[simp ↓] theorem z87 {q : List Value → Prop} : goZ Try.prog 87 q = q [Go.Value.nilFunc] := by simp [goZ, zer87, Value.cells]
theorem agg88 : aggT Try.prog 88 = some false := by unfold aggT; rw [Try.underlying88]; rfl
@[simp] theorem siz88 : szT Try.prog 88 = some 1 := by unfold szT; rw [show Try.prog.info? 88 = some Try.t88 from Try.type88]; rfl
@[simp ↓] theorem ty88 {q : Bool → Nat → Prop} : goTy Try.prog 88 q = q false 1 := by simp only [goTy, agg88, siz88]
@[simp ↓] theorem sz88 {q : Nat → Prop} : goSz Try.prog 88 q = q 1 := by simp only [goSz, siz88]
theorem zer88 : zero? Try.prog 88 = some Go.Value.nilFunc := by unfold zero?; rw [show Try.prog.info? 88 = some Try.t88 from Try.type88]; rfl
@[simp ↓] theorem z88 {q : List Value → Prop} : goZ Try.prog 88 q = q [Go.Value.nilFunc] := by simp [goZ, zer88, Value.cells]
theorem agg89 : aggT Try.prog 89 = some false := by unfold aggT; rw [Try.underlying89]; rfl
@[simp] theorem siz89 : szT Try.prog 89 = some 1 := by unfold szT; rw [show Try.prog.info? 89 = some Try.t89 from Try.type89]; rfl
@[simp ↓] theorem ty89 {q : Bool → Nat → Prop} : goTy Try.prog 89 q = q false 1 := by simp only [goTy, agg89, siz89]
@[simp ↓] theorem sz89 {q : Nat → Prop} : goSz Try.prog 89 q = q 1 := by simp only [goSz, siz89]
theorem zer89 : zero? Try.prog 89 = some (Go.Value.slice none 0 0) := by unfold zero?; rw [show Try.prog.info? 89 = some Try.t89 from Try.type89]; rfl
@[simp ↓] theorem z89 {q : List Value → Prop} : goZ Try.prog 89 q = q [(Go.Value.slice none 0 0)] := by simp [goZ, zer89, Value.cells]
@[simp] theorem und89 : Try.prog.underlying 89 = some (Go.TypeDesc.slice 114) := opq Try.underlying89
@[simp ↓] theorem un89 {q : TypeDesc → Prop} : goUnd Try.prog 89 q = q (Go.TypeDesc.slice 114) := by simp only [goUnd, und89]
theorem slt89 : SlT Try.prog 89 114 4 32 := ⟨Try.underlying89, ⟨Try.t114, _, Try.type114, rfl, rfl, rfl, by simp, rfl⟩, by decide⟩
@[simp ↓] theorem sl89 {q : TypeId → Nat → List Value → Prop} : goSl Try.prog 89 q = q 114 4 [Go.Value.string { data := #[] }, Go.Value.bool false, Go.Value.bool false, Go.Value.int Go.IntKind.i64 0] := by simp [goSl, und89, show zero? Try.prog 114 = some
  (Go.Value.agg
    #[Go.Value.string { data := #[] }, Go.Value.bool false, Go.Value.bool false, Go.Value.int Go.IntKind.i64 0]) from by unfold zero?; rw [show Try.prog.info? 114 = some Try.t114 from Try.type114]; rfl, show szT Try.prog 114 = some 4 from by unfold szT; rw [show Try.prog.info? 114 = some Try.t114 from Try.type114]; rfl, Value.cells]
theorem agg90 : aggT Try.prog 90 = some true := by unfold aggT; rw [Try.underlying90]; rfl
@[simp] theorem siz90 : szT Try.prog 90 = some 6 := by unfold szT; rw [show Try.prog.info? 90 = some Try.t90 from Try.type90]; rfl
@[simp ↓] theorem ty90 {q : Bool → Nat → Prop} : goTy Try.prog 90 q = q true 6 := by simp only [goTy, agg90, siz90]
@[simp ↓] theorem sz90 {q : Nat → Prop} : goSz Try.prog 90 q = q 6 := by simp only [goSz, siz90]
theorem zer90 : zero? Try.prog 90 = some
  (Go.Value.agg
    #[Go.Value.string { data := #[] }, Go.Value.int Go.IntKind.i64 0, Go.Value.int Go.IntKind.i64 0,
      Go.Value.string { data := #[] }, Go.Value.slice none 0 0, Go.Value.slice none 0 0]) := by unfold zero?; rw [show Try.prog.info? 90 = some Try.t90 from Try.type90]; rfl
@[simp ↓] theorem z90 {q : List Value → Prop} : goZ Try.prog 90 q = q [Go.Value.string { data := #[] }, Go.Value.int Go.IntKind.i64 0, Go.Value.int Go.IntKind.i64 0,
      Go.Value.string { data := #[] }, Go.Value.slice none 0 0, Go.Value.slice none 0 0] := by simp [goZ, zer90, Value.cells]
@[simp] theorem und90 : Try.prog.underlying 90 = some (Go.TypeDesc.struct
  #[{ name := "Name", type := 9, offset := 0, embedded := false, tag := "", pkgPath := "", byteOffset := 0 },
    { name := "Kind", type := 3, offset := 1, embedded := false, tag := "", pkgPath := "", byteOffset := 16 },
    { name := "Code", type := 3, offset := 2, embedded := false, tag := "", pkgPath := "", byteOffset := 24 },
    { name := "Text", type := 9, offset := 3, embedded := false, tag := "", pkgPath := "", byteOffset := 32 },
    { name := "Action", type := 63, offset := 4, embedded := false, tag := "", pkgPath := "", byteOffset := 48 },
    { name := "Links", type := 89, offset := 5, embedded := false, tag := "", pkgPath := "", byteOffset := 72 }]) := opq Try.underlying90
@[simp ↓] theorem fld90_0 {q : Nat → TypeId → Prop} : goFld Try.prog 90 0 q = q 0 9 := by simp only [goFld, und90]; rfl
@[simp ↓] theorem fld90_1 {q : Nat → TypeId → Prop} : goFld Try.prog 90 1 q = q 1 3 := by simp only [goFld, und90]; rfl
@[simp ↓] theorem fld90_2 {q : Nat → TypeId → Prop} : goFld Try.prog 90 2 q = q 2 3 := by simp only [goFld, und90]; rfl
@[simp ↓] theorem fld90_3 {q : Nat → TypeId → Prop} : goFld Try.prog 90 3 q = q 3 9 := by simp only [goFld, und90]; rfl
@[simp ↓] theorem fld90_4 {q : Nat → TypeId → Prop} : goFld Try.prog 90 4 q = q 4 63 := by simp only [goFld, und90]; rfl
@[simp ↓] theorem fld90_5 {q : Nat → TypeId → Prop} : goFld Try.prog 90 5 q = q 5 89 := by simp only [goFld, und90]; rfl
@[simp ↓] theorem bld90 {q : List Value → List (Nat × Nat) → Prop} : goBld Try.prog 90 q = q [Go.Value.string { data := #[] }, Go.Value.int Go.IntKind.i64 0, Go.Value.int Go.IntKind.i64 0,
      Go.Value.string { data := #[] }, Go.Value.slice none 0 0, Go.Value.slice none 0 0] [(0, 1), (1, 1), (2, 1), (3, 1), (4, 1), (5, 1)] := by simp [goBld, und90, zer90, placesL, Value.cells]
theorem agg91 : aggT Try.prog 91 = some true := by unfold aggT; rw [Try.underlying91]; rfl
@[simp] theorem siz91 : szT Try.prog 91 = some 6 := by unfold szT; rw [show Try.prog.info? 91 = some Try.t91 from Try.type91]; rfl
@[simp ↓] theorem ty91 {q : Bool → Nat → Prop} : goTy Try.prog 91 q = q true 6 := by simp only [goTy, agg91, siz91]
@[simp ↓] theorem sz91 {q : Nat → Prop} : goSz Try.prog 91 q = q 6 := by simp only [goSz, siz91]
theorem zer91 : zero? Try.prog 91 = some
  (Go.Value.agg
    #[Go.Value.string { data := #[] }, Go.Value.int Go.IntKind.i64 0, Go.Value.int Go.IntKind.i64 0,
      Go.Value.string { data := #[] }, Go.Value.slice none 0 0, Go.Value.slice none 0 0]) := by unfold zero?; rw [show Try.prog.info? 91 = some Try.t91 from Try.type91]; rfl
@[simp ↓] theorem z91 {q : List Value → Prop} : goZ Try.prog 91 q = q [Go.Value.string { data := #[] }, Go.Value.int Go.IntKind.i64 0, Go.Value.int Go.IntKind.i64 0,
      Go.Value.string { data := #[] }, Go.Value.slice none 0 0, Go.Value.slice none 0 0] := by simp [goZ, zer91, Value.cells]
@[simp] theorem und91 : Try.prog.underlying 91 = some (Go.TypeDesc.struct
  #[{ name := "Name", type := 9, offset := 0, embedded := false, tag := "", pkgPath := "", byteOffset := 0 },
    { name := "Kind", type := 3, offset := 1, embedded := false, tag := "", pkgPath := "", byteOffset := 16 },
    { name := "Code", type := 3, offset := 2, embedded := false, tag := "", pkgPath := "", byteOffset := 24 },
    { name := "Text", type := 9, offset := 3, embedded := false, tag := "", pkgPath := "", byteOffset := 32 },
    { name := "Action", type := 63, offset := 4, embedded := false, tag := "", pkgPath := "", byteOffset := 48 },
    { name := "Links", type := 89, offset := 5, embedded := false, tag := "", pkgPath := "", byteOffset := 72 }]) := opq Try.underlying91
@[simp ↓] theorem fld91_0 {q : Nat → TypeId → Prop} : goFld Try.prog 91 0 q = q 0 9 := by simp only [goFld, und91]; rfl
@[simp ↓] theorem fld91_1 {q : Nat → TypeId → Prop} : goFld Try.prog 91 1 q = q 1 3 := by simp only [goFld, und91]; rfl
@[simp ↓] theorem fld91_2 {q : Nat → TypeId → Prop} : goFld Try.prog 91 2 q = q 2 3 := by simp only [goFld, und91]; rfl
@[simp ↓] theorem fld91_3 {q : Nat → TypeId → Prop} : goFld Try.prog 91 3 q = q 3 9 := by simp only [goFld, und91]; rfl
@[simp ↓] theorem fld91_4 {q : Nat → TypeId → Prop} : goFld Try.prog 91 4 q = q 4 63 := by simp only [goFld, und91]; rfl
@[simp ↓] theorem fld91_5 {q : Nat → TypeId → Prop} : goFld Try.prog 91 5 q = q 5 89 := by simp only [goFld, und91]; rfl
@[simp ↓] theorem bld91 {q : List Value → List (Nat × Nat) → Prop} : goBld Try.prog 91 q = q [Go.Value.string { data := #[] }, Go.Value.int Go.IntKind.i64 0, Go.Value.int Go.IntKind.i64 0,
      Go.Value.string { data := #[] }, Go.Value.slice none 0 0, Go.Value.slice none 0 0] [(0, 1), (1, 1), (2, 1), (3, 1), (4, 1), (5, 1)] := by simp [goBld, und91, zer91, placesL, Value.cells]
theorem agg92 : aggT Try.prog 92 = some false := by unfold aggT; rw [Try.underlying92]; rfl
@[simp] theorem siz92 : szT Try.prog 92 = some 1 := by unfold szT; rw [show Try.prog.info? 92 = some Try.t92 from Try.type92]; rfl
@[simp ↓] theorem ty92 {q : Bool → Nat → Prop} : goTy Try.prog 92 q = q false 1 := by simp only [goTy, agg92, siz92]
@[simp ↓] theorem sz92 {q : Nat → Prop} : goSz Try.prog 92 q = q 1 := by simp only [goSz, siz92]
theorem zer92 : zero? Try.prog 92 = some (Go.Value.pointer none) := by unfold zero?; rw [show Try.prog.info? 92 = some Try.t92 from Try.type92]; rfl
@[simp ↓] theorem z92 {q : List Value → Prop} : goZ Try.prog 92 q = q [(Go.Value.pointer none)] := by simp [goZ, zer92, Value.cells]
@[simp] theorem und92 : Try.prog.underlying 92 = some (Go.TypeDesc.pointer 97) := opq Try.underlying92
@[simp ↓] theorem un92 {q : TypeDesc → Prop} : goUnd Try.prog 92 q = q (Go.TypeDesc.pointer 97) := by simp only [goUnd, und92]
theorem agg93 : aggT Try.prog 93 = some false := by unfold aggT; rw [Try.underlying93]; rfl
@[simp] theorem siz93 : szT Try.prog 93 = some 1 := by unfold szT; rw [show Try.prog.info? 93 = some Try.t93 from Try.type93]; rfl
@[simp ↓] theorem ty93 {q : Bool → Nat → Prop} : goTy Try.prog 93 q = q false 1 := by simp only [goTy, agg93, siz93]
@[simp ↓] theorem sz93 {q : Nat → Prop} : goSz Try.prog 93 q = q 1 := by simp only [goSz, siz93]
theorem zer93 : zero? Try.prog 93 = some Go.Value.nilFunc := by unfold zero?; rw [show Try.prog.info? 93 = some Try.t93 from Try.type93]; rfl
@[simp ↓] theorem z93 {q : List Value → Prop} : goZ Try.prog 93 q = q [Go.Value.nilFunc] := by simp [goZ, zer93, Value.cells]
theorem agg94 : aggT Try.prog 94 = some false := by unfold aggT; rw [Try.underlying94]; rfl
@[simp] theorem siz94 : szT Try.prog 94 = some 1 := by unfold szT; rw [show Try.prog.info? 94 = some Try.t94 from Try.type94]; rfl
@[simp ↓] theorem ty94 {q : Bool → Nat → Prop} : goTy Try.prog 94 q = q false 1 := by simp only [goTy, agg94, siz94]
@[simp ↓] theorem sz94 {q : Nat → Prop} : goSz Try.prog 94 q = q 1 := by simp only [goSz, siz94]
theorem zer94 : zero? Try.prog 94 = some (Go.Value.slice none 0 0) := by unfold zero?; rw [show Try.prog.info? 94 = some Try.t94 from Try.type94]; rfl
@[simp ↓] theorem z94 {q : List Value → Prop} : goZ Try.prog 94 q = q [(Go.Value.slice none 0 0)] := by simp [goZ, zer94, Value.cells]
@[simp] theorem und94 : Try.prog.underlying 94 = some (Go.TypeDesc.slice 4) := opq Try.underlying94
@[simp ↓] theorem un94 {q : TypeDesc → Prop} : goUnd Try.prog 94 q = q (Go.TypeDesc.slice 4) := by simp only [goUnd, und94]
theorem slt94 : SlT Try.prog 94 4 1 1 := ⟨Try.underlying94, ⟨Try.t4, _, Try.type4, rfl, rfl, rfl, by simp, rfl⟩, by decide⟩
@[simp ↓] theorem sl94 {q : TypeId → Nat → List Value → Prop} : goSl Try.prog 94 q = q 4 1 [(Go.Value.bool false)] := by simp [goSl, und94, show zero? Try.prog 4 = some (Go.Value.bool false) from by unfold zero?; rw [show Try.prog.info? 4 = some Try.t4 from Try.type4]; rfl, show szT Try.prog 4 = some 1 from by unfold szT; rw [show Try.prog.info? 4 = some Try.t4 from Try.type4]; rfl, Value.cells]
theorem agg95 : aggT Try.prog 95 = some false := by unfold aggT; rw [Try.underlying95]; rfl
@[simp] theorem siz95 : szT Try.prog 95 = some 1 := by unfold szT; rw [show Try.prog.info? 95 = some Try.t95 from Try.type95]; rfl
@[simp ↓] theorem ty95 {q : Bool → Nat → Prop} : goTy Try.prog 95 q = q false 1 := by simp only [goTy, agg95, siz95]
@[simp ↓] theorem sz95 {q : Nat → Prop} : goSz Try.prog 95 q = q 1 := by simp only [goSz, siz95]
theorem zer95 : zero? Try.prog 95 = some (Go.Value.slice none 0 0) := by unfold zero?; rw [show Try.prog.info? 95 = some Try.t95 from Try.type95]; rfl
@[simp ↓] theorem z95 {q : List Value → Prop} : goZ Try.prog 95 q = q [(Go.Value.slice none 0 0)] := by simp [goZ, zer95, Value.cells]
@[simp] theorem und95 : Try.prog.underlying 95 = some (Go.TypeDesc.slice 3) := opq Try.underlying95
@[simp ↓] theorem un95 {q : TypeDesc → Prop} : goUnd Try.prog 95 q = q (Go.TypeDesc.slice 3) := by simp only [goUnd, und95]
theorem slt95 : SlT Try.prog 95 3 1 8 := ⟨Try.underlying95, ⟨Try.t3, _, Try.type3, rfl, rfl, rfl, by simp, rfl⟩, by decide⟩
@[simp ↓] theorem sl95 {q : TypeId → Nat → List Value → Prop} : goSl Try.prog 95 q = q 3 1 [(Go.Value.int Go.IntKind.i64 0)] := by simp [goSl, und95, show zero? Try.prog 3 = some (Go.Value.int Go.IntKind.i64 0) from by unfold zero?; rw [show Try.prog.info? 3 = some Try.t3 from Try.type3]; rfl, show szT Try.prog 3 = some 1 from by unfold szT; rw [show Try.prog.info? 3 = some Try.t3 from Try.type3]; rfl, Value.cells]
theorem agg96 : aggT Try.prog 96 = some true := by unfold aggT; rw [Try.underlying96]; rfl
@[simp] theorem siz96 : szT Try.prog 96 = some 4 := by unfold szT; rw [show Try.prog.info? 96 = some Try.t96 from Try.type96]; rfl
@[simp ↓] theorem ty96 {q : Bool → Nat → Prop} : goTy Try.prog 96 q = q true 4 := by simp only [goTy, agg96, siz96]
@[simp ↓] theorem sz96 {q : Nat → Prop} : goSz Try.prog 96 q = q 4 := by simp only [goSz, siz96]
theorem zer96 : zero? Try.prog 96 = some
  (Go.Value.agg
    #[Go.Value.slice none 0 0, Go.Value.slice none 0 0, Go.Value.slice none 0 0, Go.Value.int Go.IntKind.i64 0]) := by unfold zero?; rw [show Try.prog.info? 96 = some Try.t96 from Try.type96]; rfl
@[simp ↓] theorem z96 {q : List Value → Prop} : goZ Try.prog 96 q = q [Go.Value.slice none 0 0, Go.Value.slice none 0 0, Go.Value.slice none 0 0, Go.Value.int Go.IntKind.i64 0] := by simp [goZ, zer96, Value.cells]
@[simp] theorem und96 : Try.prog.underlying 96 = some (Go.TypeDesc.struct
  #[{ name := "a", type := 43, offset := 0, embedded := false, tag := "", pkgPath := "loop.example/kilndeed/spec",
      byteOffset := 0 },
    { name := "listed", type := 94, offset := 1, embedded := false, tag := "", pkgPath := "loop.example/kilndeed/spec",
      byteOffset := 24 },
    { name := "order", type := 95, offset := 2, embedded := false, tag := "", pkgPath := "loop.example/kilndeed/spec",
      byteOffset := 48 },
    { name := "deep", type := 3, offset := 3, embedded := false, tag := "", pkgPath := "loop.example/kilndeed/spec",
      byteOffset := 72 }]) := opq Try.underlying96
@[simp ↓] theorem fld96_0 {q : Nat → TypeId → Prop} : goFld Try.prog 96 0 q = q 0 43 := by simp only [goFld, und96]; rfl
@[simp ↓] theorem fld96_1 {q : Nat → TypeId → Prop} : goFld Try.prog 96 1 q = q 1 94 := by simp only [goFld, und96]; rfl
@[simp ↓] theorem fld96_2 {q : Nat → TypeId → Prop} : goFld Try.prog 96 2 q = q 2 95 := by simp only [goFld, und96]; rfl
@[simp ↓] theorem fld96_3 {q : Nat → TypeId → Prop} : goFld Try.prog 96 3 q = q 3 3 := by simp only [goFld, und96]; rfl
@[simp ↓] theorem bld96 {q : List Value → List (Nat × Nat) → Prop} : goBld Try.prog 96 q = q [Go.Value.slice none 0 0, Go.Value.slice none 0 0, Go.Value.slice none 0 0, Go.Value.int Go.IntKind.i64 0] [(0, 1), (1, 1), (2, 1), (3, 1)] := by simp [goBld, und96, zer96, placesL, Value.cells]
theorem agg97 : aggT Try.prog 97 = some true := by unfold aggT; rw [Try.underlying97]; rfl
@[simp] theorem siz97 : szT Try.prog 97 = some 4 := by unfold szT; rw [show Try.prog.info? 97 = some Try.t97 from Try.type97]; rfl
@[simp ↓] theorem ty97 {q : Bool → Nat → Prop} : goTy Try.prog 97 q = q true 4 := by simp only [goTy, agg97, siz97]
@[simp ↓] theorem sz97 {q : Nat → Prop} : goSz Try.prog 97 q = q 4 := by simp only [goSz, siz97]
theorem zer97 : zero? Try.prog 97 = some
  (Go.Value.agg
    #[Go.Value.slice none 0 0, Go.Value.slice none 0 0, Go.Value.slice none 0 0, Go.Value.int Go.IntKind.i64 0]) := by unfold zero?; rw [show Try.prog.info? 97 = some Try.t97 from Try.type97]; rfl
@[simp ↓] theorem z97 {q : List Value → Prop} : goZ Try.prog 97 q = q [Go.Value.slice none 0 0, Go.Value.slice none 0 0, Go.Value.slice none 0 0, Go.Value.int Go.IntKind.i64 0] := by simp [goZ, zer97, Value.cells]
@[simp] theorem und97 : Try.prog.underlying 97 = some (Go.TypeDesc.struct
  #[{ name := "a", type := 43, offset := 0, embedded := false, tag := "", pkgPath := "loop.example/kilndeed/spec",
      byteOffset := 0 },
    { name := "listed", type := 94, offset := 1, embedded := false, tag := "", pkgPath := "loop.example/kilndeed/spec",
      byteOffset := 24 },
    { name := "order", type := 95, offset := 2, embedded := false, tag := "", pkgPath := "loop.example/kilndeed/spec",
      byteOffset := 48 },
    { name := "deep", type := 3, offset := 3, embedded := false, tag := "", pkgPath := "loop.example/kilndeed/spec",
      byteOffset := 72 }]) := opq Try.underlying97
@[simp ↓] theorem fld97_0 {q : Nat → TypeId → Prop} : goFld Try.prog 97 0 q = q 0 43 := by simp only [goFld, und97]; rfl
@[simp ↓] theorem fld97_1 {q : Nat → TypeId → Prop} : goFld Try.prog 97 1 q = q 1 94 := by simp only [goFld, und97]; rfl
@[simp ↓] theorem fld97_2 {q : Nat → TypeId → Prop} : goFld Try.prog 97 2 q = q 2 95 := by simp only [goFld, und97]; rfl
@[simp ↓] theorem fld97_3 {q : Nat → TypeId → Prop} : goFld Try.prog 97 3 q = q 3 3 := by simp only [goFld, und97]; rfl
@[simp ↓] theorem bld97 {q : List Value → List (Nat × Nat) → Prop} : goBld Try.prog 97 q = q [Go.Value.slice none 0 0, Go.Value.slice none 0 0, Go.Value.slice none 0 0, Go.Value.int Go.IntKind.i64 0] [(0, 1), (1, 1), (2, 1), (3, 1)] := by simp [goBld, und97, zer97, placesL, Value.cells]
theorem agg98 : aggT Try.prog 98 = some false := by unfold aggT; rw [Try.underlying98]; rfl
@[simp] theorem siz98 : szT Try.prog 98 = some 1 := by unfold szT; rw [show Try.prog.info? 98 = some Try.t98 from Try.type98]; rfl
@[simp ↓] theorem ty98 {q : Bool → Nat → Prop} : goTy Try.prog 98 q = q false 1 := by simp only [goTy, agg98, siz98]
@[simp ↓] theorem sz98 {q : Nat → Prop} : goSz Try.prog 98 q = q 1 := by simp only [goSz, siz98]
theorem zer98 : zero? Try.prog 98 = some Go.Value.nilFunc := by unfold zero?; rw [show Try.prog.info? 98 = some Try.t98 from Try.type98]; rfl
@[simp ↓] theorem z98 {q : List Value → Prop} : goZ Try.prog 98 q = q [Go.Value.nilFunc] := by simp [goZ, zer98, Value.cells]
theorem agg99 : aggT Try.prog 99 = some false := by unfold aggT; rw [Try.underlying99]; rfl
@[simp] theorem siz99 : szT Try.prog 99 = some 1 := by unfold szT; rw [show Try.prog.info? 99 = some Try.t99 from Try.type99]; rfl
@[simp ↓] theorem ty99 {q : Bool → Nat → Prop} : goTy Try.prog 99 q = q false 1 := by simp only [goTy, agg99, siz99]
@[simp ↓] theorem sz99 {q : Nat → Prop} : goSz Try.prog 99 q = q 1 := by simp only [goSz, siz99]
theorem zer99 : zero? Try.prog 99 = some Go.Value.nilFunc := by unfold zero?; rw [show Try.prog.info? 99 = some Try.t99 from Try.type99]; rfl
@[simp ↓] theorem z99 {q : List Value → Prop} : goZ Try.prog 99 q = q [Go.Value.nilFunc] := by simp [goZ, zer99, Value.cells]
theorem agg100 : aggT Try.prog 100 = some false := by unfold aggT; rw [Try.underlying100]; rfl
@[simp] theorem siz100 : szT Try.prog 100 = some 1 := by unfold szT; rw [show Try.prog.info? 100 = some Try.t100 from Try.type100]; rfl
@[simp ↓] theorem ty100 {q : Bool → Nat → Prop} : goTy Try.prog 100 q = q false 1 := by simp only [goTy, agg100, siz100]
@[simp ↓] theorem sz100 {q : Nat → Prop} : goSz Try.prog 100 q = q 1 := by simp only [goSz, siz100]
theorem zer100 : zero? Try.prog 100 = some (Go.Value.map none) := by unfold zero?; rw [show Try.prog.info? 100 = some Try.t100 from Try.type100]; rfl
@[simp ↓] theorem z100 {q : List Value → Prop} : goZ Try.prog 100 q = q [(Go.Value.map none)] := by simp [goZ, zer100, Value.cells]
@[simp] theorem und100 : Try.prog.underlying 100 = some (Go.TypeDesc.map 9 4) := opq Try.underlying100
@[simp ↓] theorem un100 {q : TypeDesc → Prop} : goUnd Try.prog 100 q = q (Go.TypeDesc.map 9 4) := by simp only [goUnd, und100]
theorem agg101 : aggT Try.prog 101 = some false := by unfold aggT; rw [Try.underlying101]; rfl
@[simp] theorem siz101 : szT Try.prog 101 = some 1 := by unfold szT; rw [show Try.prog.info? 101 = some Try.t101 from Try.type101]; rfl
@[simp ↓] theorem ty101 {q : Bool → Nat → Prop} : goTy Try.prog 101 q = q false 1 := by simp only [goTy, agg101, siz101]
@[simp ↓] theorem sz101 {q : Nat → Prop} : goSz Try.prog 101 q = q 1 := by simp only [goSz, siz101]
theorem zer101 : zero? Try.prog 101 = some (Go.Value.map none) := by unfold zero?; rw [show Try.prog.info? 101 = some Try.t101 from Try.type101]; rfl
@[simp ↓] theorem z101 {q : List Value → Prop} : goZ Try.prog 101 q = q [(Go.Value.map none)] := by simp [goZ, zer101, Value.cells]
@[simp] theorem und101 : Try.prog.underlying 101 = some (Go.TypeDesc.map 3 3) := opq Try.underlying101
@[simp ↓] theorem un101 {q : TypeDesc → Prop} : goUnd Try.prog 101 q = q (Go.TypeDesc.map 3 3) := by simp only [goUnd, und101]
theorem agg103 : aggT Try.prog 103 = some false := by unfold aggT; rw [Try.underlying103]; rfl
@[simp] theorem siz103 : szT Try.prog 103 = some 1 := by unfold szT; rw [show Try.prog.info? 103 = some Try.t103 from Try.type103]; rfl
@[simp ↓] theorem ty103 {q : Bool → Nat → Prop} : goTy Try.prog 103 q = q false 1 := by simp only [goTy, agg103, siz103]
@[simp ↓] theorem sz103 {q : Nat → Prop} : goSz Try.prog 103 q = q 1 := by simp only [goSz, siz103]
theorem zer103 : zero? Try.prog 103 = some Go.Value.nilFunc := by unfold zero?; rw [show Try.prog.info? 103 = some Try.t103 from Try.type103]; rfl
@[simp ↓] theorem z103 {q : List Value → Prop} : goZ Try.prog 103 q = q [Go.Value.nilFunc] := by simp [goZ, zer103, Value.cells]
theorem agg104 : aggT Try.prog 104 = some false := by unfold aggT; rw [Try.underlying104]; rfl
@[simp] theorem siz104 : szT Try.prog 104 = some 1 := by unfold szT; rw [show Try.prog.info? 104 = some Try.t104 from Try.type104]; rfl
@[simp ↓] theorem ty104 {q : Bool → Nat → Prop} : goTy Try.prog 104 q = q false 1 := by simp only [goTy, agg104, siz104]
@[simp ↓] theorem sz104 {q : Nat → Prop} : goSz Try.prog 104 q = q 1 := by simp only [goSz, siz104]
theorem zer104 : zero? Try.prog 104 = some Go.Value.nilFunc := by unfold zero?; rw [show Try.prog.info? 104 = some Try.t104 from Try.type104]; rfl
@[simp ↓] theorem z104 {q : List Value → Prop} : goZ Try.prog 104 q = q [Go.Value.nilFunc] := by simp [goZ, zer104, Value.cells]
theorem agg105 : aggT Try.prog 105 = some false := by unfold aggT; rw [Try.underlying105]; rfl
@[simp] theorem siz105 : szT Try.prog 105 = some 1 := by unfold szT; rw [show Try.prog.info? 105 = some Try.t105 from Try.type105]; rfl
@[simp ↓] theorem ty105 {q : Bool → Nat → Prop} : goTy Try.prog 105 q = q false 1 := by simp only [goTy, agg105, siz105]
@[simp ↓] theorem sz105 {q : Nat → Prop} : goSz Try.prog 105 q = q 1 := by simp only [goSz, siz105]
theorem zer105 : zero? Try.prog 105 = some Go.Value.nilFunc := by unfold zero?; rw [show Try.prog.info? 105 = some Try.t105 from Try.type105]; rfl
@[simp ↓] theorem z105 {q : List Value → Prop} : goZ Try.prog 105 q = q [Go.Value.nilFunc] := by simp [goZ, zer105, Value.cells]
theorem agg107 : aggT Try.prog 107 = some false := by unfold aggT; rw [Try.underlying107]; rfl
@[simp] theorem siz107 : szT Try.prog 107 = some 1 := by unfold szT; rw [show Try.prog.info? 107 = some Try.t107 from Try.type107]; rfl
@[simp ↓] theorem ty107 {q : Bool → Nat → Prop} : goTy Try.prog 107 q = q false 1 := by simp only [goTy, agg107, siz107]
@[simp ↓] theorem sz107 {q : Nat → Prop} : goSz Try.prog 107 q = q 1 := by simp only [goSz, siz107]
theorem zer107 : zero? Try.prog 107 = some Go.Value.nilFunc := by unfold zero?; rw [show Try.prog.info? 107 = some Try.t107 from Try.type107]; rfl
@[simp ↓] theorem z107 {q : List Value → Prop} : goZ Try.prog 107 q = q [Go.Value.nilFunc] := by simp [goZ, zer107, Value.cells]
theorem agg108 : aggT Try.prog 108 = some false := by unfold aggT; rw [Try.underlying108]; rfl
@[simp] theorem siz108 : szT Try.prog 108 = some 1 := by unfold szT; rw [show Try.prog.info? 108 = some Try.t108 from Try.type108]; rfl
@[simp ↓] theorem ty108 {q : Bool → Nat → Prop} : goTy Try.prog 108 q = q false 1 := by simp only [goTy, agg108, siz108]
@[simp ↓] theorem sz108 {q : Nat → Prop} : goSz Try.prog 108 q = q 1 := by simp only [goSz, siz108]
theorem zer108 : zero? Try.prog 108 = some Go.Value.nilFunc := by unfold zero?; rw [show Try.prog.info? 108 = some Try.t108 from Try.type108]; rfl
@[simp ↓] theorem z108 {q : List Value → Prop} : goZ Try.prog 108 q = q [Go.Value.nilFunc] := by simp [goZ, zer108, Value.cells]
theorem agg109 : aggT Try.prog 109 = some false := by unfold aggT; rw [Try.underlying109]; rfl
@[simp] theorem siz109 : szT Try.prog 109 = some 1 := by unfold szT; rw [show Try.prog.info? 109 = some Try.t109 from Try.type109]; rfl
@[simp ↓] theorem ty109 {q : Bool → Nat → Prop} : goTy Try.prog 109 q = q false 1 := by simp only [goTy, agg109, siz109]
@[simp ↓] theorem sz109 {q : Nat → Prop} : goSz Try.prog 109 q = q 1 := by simp only [goSz, siz109]
theorem zer109 : zero? Try.prog 109 = some Go.Value.nilFunc := by unfold zero?; rw [show Try.prog.info? 109 = some Try.t109 from Try.type109]; rfl
@[simp ↓] theorem z109 {q : List Value → Prop} : goZ Try.prog 109 q = q [Go.Value.nilFunc] := by simp [goZ, zer109, Value.cells]
theorem agg110 : aggT Try.prog 110 = some false := by unfold aggT; rw [Try.underlying110]; rfl
@[simp] theorem siz110 : szT Try.prog 110 = some 1 := by unfold szT; rw [show Try.prog.info? 110 = some Try.t110 from Try.type110]; rfl
@[simp ↓] theorem ty110 {q : Bool → Nat → Prop} : goTy Try.prog 110 q = q false 1 := by simp only [goTy, agg110, siz110]
@[simp ↓] theorem sz110 {q : Nat → Prop} : goSz Try.prog 110 q = q 1 := by simp only [goSz, siz110]
theorem zer110 : zero? Try.prog 110 = some Go.Value.nilFunc := by unfold zero?; rw [show Try.prog.info? 110 = some Try.t110 from Try.type110]; rfl
@[simp ↓] theorem z110 {q : List Value → Prop} : goZ Try.prog 110 q = q [Go.Value.nilFunc] := by simp [goZ, zer110, Value.cells]
theorem agg111 : aggT Try.prog 111 = some false := by unfold aggT; rw [Try.underlying111]; rfl
@[simp] theorem siz111 : szT Try.prog 111 = some 1 := by unfold szT; rw [show Try.prog.info? 111 = some Try.t111 from Try.type111]; rfl
@[simp ↓] theorem ty111 {q : Bool → Nat → Prop} : goTy Try.prog 111 q = q false 1 := by simp only [goTy, agg111, siz111]
@[simp ↓] theorem sz111 {q : Nat → Prop} : goSz Try.prog 111 q = q 1 := by simp only [goSz, siz111]
theorem zer111 : zero? Try.prog 111 = some Go.Value.nilFunc := by unfold zero?; rw [show Try.prog.info? 111 = some Try.t111 from Try.type111]; rfl
@[simp ↓] theorem z111 {q : List Value → Prop} : goZ Try.prog 111 q = q [Go.Value.nilFunc] := by simp [goZ, zer111, Value.cells]
theorem agg112 : aggT Try.prog 112 = some false := by unfold aggT; rw [Try.underlying112]; rfl
@[simp] theorem siz112 : szT Try.prog 112 = some 1 := by unfold szT; rw [show Try.prog.info? 112 = some Try.t112 from Try.type112]; rfl
@[simp ↓] theorem ty112 {q : Bool → Nat → Prop} : goTy Try.prog 112 q = q false 1 := by simp only [goTy, agg112, siz112]
@[simp ↓] theorem sz112 {q : Nat → Prop} : goSz Try.prog 112 q = q 1 := by simp only [goSz, siz112]
theorem zer112 : zero? Try.prog 112 = some Go.Value.nilFunc := by unfold zero?; rw [show Try.prog.info? 112 = some Try.t112 from Try.type112]; rfl
@[simp ↓] theorem z112 {q : List Value → Prop} : goZ Try.prog 112 q = q [Go.Value.nilFunc] := by simp [goZ, zer112, Value.cells]
theorem agg113 : aggT Try.prog 113 = some true := by unfold aggT; rw [Try.underlying113]; rfl
@[simp] theorem siz113 : szT Try.prog 113 = some 4 := by unfold szT; rw [show Try.prog.info? 113 = some Try.t113 from Try.type113]; rfl
@[simp ↓] theorem ty113 {q : Bool → Nat → Prop} : goTy Try.prog 113 q = q true 4 := by simp only [goTy, agg113, siz113]
@[simp ↓] theorem sz113 {q : Nat → Prop} : goSz Try.prog 113 q = q 4 := by simp only [goSz, siz113]
theorem zer113 : zero? Try.prog 113 = some
  (Go.Value.agg
    #[Go.Value.string { data := #[] }, Go.Value.bool false, Go.Value.bool false, Go.Value.int Go.IntKind.i64 0]) := by unfold zero?; rw [show Try.prog.info? 113 = some Try.t113 from Try.type113]; rfl
@[simp ↓] theorem z113 {q : List Value → Prop} : goZ Try.prog 113 q = q [Go.Value.string { data := #[] }, Go.Value.bool false, Go.Value.bool false, Go.Value.int Go.IntKind.i64 0] := by simp [goZ, zer113, Value.cells]
@[simp] theorem und113 : Try.prog.underlying 113 = some (Go.TypeDesc.struct
  #[{ name := "Name", type := 9, offset := 0, embedded := false, tag := "", pkgPath := "", byteOffset := 0 },
    { name := "Ask", type := 4, offset := 1, embedded := false, tag := "", pkgPath := "", byteOffset := 16 },
    { name := "Has", type := 4, offset := 2, embedded := false, tag := "", pkgPath := "", byteOffset := 17 },
    { name := "At", type := 3, offset := 3, embedded := false, tag := "", pkgPath := "", byteOffset := 24 }]) := opq Try.underlying113
@[simp ↓] theorem fld113_0 {q : Nat → TypeId → Prop} : goFld Try.prog 113 0 q = q 0 9 := by simp only [goFld, und113]; rfl
@[simp ↓] theorem fld113_1 {q : Nat → TypeId → Prop} : goFld Try.prog 113 1 q = q 1 4 := by simp only [goFld, und113]; rfl
@[simp ↓] theorem fld113_2 {q : Nat → TypeId → Prop} : goFld Try.prog 113 2 q = q 2 4 := by simp only [goFld, und113]; rfl
@[simp ↓] theorem fld113_3 {q : Nat → TypeId → Prop} : goFld Try.prog 113 3 q = q 3 3 := by simp only [goFld, und113]; rfl
@[simp ↓] theorem bld113 {q : List Value → List (Nat × Nat) → Prop} : goBld Try.prog 113 q = q [Go.Value.string { data := #[] }, Go.Value.bool false, Go.Value.bool false, Go.Value.int Go.IntKind.i64 0] [(0, 1), (1, 1), (2, 1), (3, 1)] := by simp [goBld, und113, zer113, placesL, Value.cells]
theorem agg114 : aggT Try.prog 114 = some true := by unfold aggT; rw [Try.underlying114]; rfl
@[simp] theorem siz114 : szT Try.prog 114 = some 4 := by unfold szT; rw [show Try.prog.info? 114 = some Try.t114 from Try.type114]; rfl
@[simp ↓] theorem ty114 {q : Bool → Nat → Prop} : goTy Try.prog 114 q = q true 4 := by simp only [goTy, agg114, siz114]
@[simp ↓] theorem sz114 {q : Nat → Prop} : goSz Try.prog 114 q = q 4 := by simp only [goSz, siz114]
theorem zer114 : zero? Try.prog 114 = some
  (Go.Value.agg
    #[Go.Value.string { data := #[] }, Go.Value.bool false, Go.Value.bool false, Go.Value.int Go.IntKind.i64 0]) := by unfold zero?; rw [show Try.prog.info? 114 = some Try.t114 from Try.type114]; rfl
@[simp ↓] theorem z114 {q : List Value → Prop} : goZ Try.prog 114 q = q [Go.Value.string { data := #[] }, Go.Value.bool false, Go.Value.bool false, Go.Value.int Go.IntKind.i64 0] := by simp [goZ, zer114, Value.cells]
@[simp] theorem und114 : Try.prog.underlying 114 = some (Go.TypeDesc.struct
  #[{ name := "Name", type := 9, offset := 0, embedded := false, tag := "", pkgPath := "", byteOffset := 0 },
    { name := "Ask", type := 4, offset := 1, embedded := false, tag := "", pkgPath := "", byteOffset := 16 },
    { name := "Has", type := 4, offset := 2, embedded := false, tag := "", pkgPath := "", byteOffset := 17 },
    { name := "At", type := 3, offset := 3, embedded := false, tag := "", pkgPath := "", byteOffset := 24 }]) := opq Try.underlying114
@[simp ↓] theorem fld114_0 {q : Nat → TypeId → Prop} : goFld Try.prog 114 0 q = q 0 9 := by simp only [goFld, und114]; rfl
@[simp ↓] theorem fld114_1 {q : Nat → TypeId → Prop} : goFld Try.prog 114 1 q = q 1 4 := by simp only [goFld, und114]; rfl
@[simp ↓] theorem fld114_2 {q : Nat → TypeId → Prop} : goFld Try.prog 114 2 q = q 2 4 := by simp only [goFld, und114]; rfl
@[simp ↓] theorem fld114_3 {q : Nat → TypeId → Prop} : goFld Try.prog 114 3 q = q 3 3 := by simp only [goFld, und114]; rfl
@[simp ↓] theorem bld114 {q : List Value → List (Nat × Nat) → Prop} : goBld Try.prog 114 q = q [Go.Value.string { data := #[] }, Go.Value.bool false, Go.Value.bool false, Go.Value.int Go.IntKind.i64 0] [(0, 1), (1, 1), (2, 1), (3, 1)] := by simp [goBld, und114, zer114, placesL, Value.cells]
theorem agg115 : aggT Try.prog 115 = some false := by unfold aggT; rw [Try.underlying115]; rfl
@[simp] theorem siz115 : szT Try.prog 115 = some 1 := by unfold szT; rw [show Try.prog.info? 115 = some Try.t115 from Try.type115]; rfl
@[simp ↓] theorem ty115 {q : Bool → Nat → Prop} : goTy Try.prog 115 q = q false 1 := by simp only [goTy, agg115, siz115]
@[simp ↓] theorem sz115 {q : Nat → Prop} : goSz Try.prog 115 q = q 1 := by simp only [goSz, siz115]
theorem zer115 : zero? Try.prog 115 = some Go.Value.nilFunc := by unfold zero?; rw [show Try.prog.info? 115 = some Try.t115 from Try.type115]; rfl
@[simp ↓] theorem z115 {q : List Value → Prop} : goZ Try.prog 115 q = q [Go.Value.nilFunc] := by simp [goZ, zer115, Value.cells]
theorem agg116 : aggT Try.prog 116 = some false := by unfold aggT; rw [Try.underlying116]; rfl
@[simp] theorem siz116 : szT Try.prog 116 = some 1 := by unfold szT; rw [show Try.prog.info? 116 = some Try.t116 from Try.type116]; rfl
@[simp ↓] theorem ty116 {q : Bool → Nat → Prop} : goTy Try.prog 116 q = q false 1 := by simp only [goTy, agg116, siz116]
@[simp ↓] theorem sz116 {q : Nat → Prop} : goSz Try.prog 116 q = q 1 := by simp only [goSz, siz116]
theorem zer116 : zero? Try.prog 116 = some Go.Value.nilFunc := by unfold zero?; rw [show Try.prog.info? 116 = some Try.t116 from Try.type116]; rfl
@[simp ↓] theorem z116 {q : List Value → Prop} : goZ Try.prog 116 q = q [Go.Value.nilFunc] := by simp [goZ, zer116, Value.cells]
theorem agg117 : aggT Try.prog 117 = some false := by unfold aggT; rw [Try.underlying117]; rfl
@[simp] theorem siz117 : szT Try.prog 117 = some 1 := by unfold szT; rw [show Try.prog.info? 117 = some Try.t117 from Try.type117]; rfl
@[simp ↓] theorem ty117 {q : Bool → Nat → Prop} : goTy Try.prog 117 q = q false 1 := by simp only [goTy, agg117, siz117]
@[simp ↓] theorem sz117 {q : Nat → Prop} : goSz Try.prog 117 q = q 1 := by simp only [goSz, siz117]
theorem zer117 : zero? Try.prog 117 = some Go.Value.nilFunc := by unfold zero?; rw [show Try.prog.info? 117 = some Try.t117 from Try.type117]; rfl
@[simp ↓] theorem z117 {q : List Value → Prop} : goZ Try.prog 117 q = q [Go.Value.nilFunc] := by simp [goZ, zer117, Value.cells]
theorem agg118 : aggT Try.prog 118 = some false := by unfold aggT; rw [Try.underlying118]; rfl
@[simp] theorem siz118 : szT Try.prog 118 = some 1 := by unfold szT; rw [show Try.prog.info? 118 = some Try.t118 from Try.type118]; rfl
@[simp ↓] theorem ty118 {q : Bool → Nat → Prop} : goTy Try.prog 118 q = q false 1 := by simp only [goTy, agg118, siz118]
@[simp ↓] theorem sz118 {q : Nat → Prop} : goSz Try.prog 118 q = q 1 := by simp only [goSz, siz118]
theorem zer118 : zero? Try.prog 118 = some Go.Value.nilFunc := by unfold zero?; rw [show Try.prog.info? 118 = some Try.t118 from Try.type118]; rfl
@[simp ↓] theorem z118 {q : List Value → Prop} : goZ Try.prog 118 q = q [Go.Value.nilFunc] := by simp [goZ, zer118, Value.cells]
theorem agg119 : aggT Try.prog 119 = some false := by unfold aggT; rw [Try.underlying119]; rfl
@[simp] theorem siz119 : szT Try.prog 119 = some 1 := by unfold szT; rw [show Try.prog.info? 119 = some Try.t119 from Try.type119]; rfl
@[simp ↓] theorem ty119 {q : Bool → Nat → Prop} : goTy Try.prog 119 q = q false 1 := by simp only [goTy, agg119, siz119]
@[simp ↓] theorem sz119 {q : Nat → Prop} : goSz Try.prog 119 q = q 1 := by simp only [goSz, siz119]
theorem zer119 : zero? Try.prog 119 = some Go.Value.nilFunc := by unfold zero?; rw [show Try.prog.info? 119 = some Try.t119 from Try.type119]; rfl
@[simp ↓] theorem z119 {q : List Value → Prop} : goZ Try.prog 119 q = q [Go.Value.nilFunc] := by simp [goZ, zer119, Value.cells]
theorem agg120 : aggT Try.prog 120 = some false := by unfold aggT; rw [Try.underlying120]; rfl
@[simp] theorem siz120 : szT Try.prog 120 = some 1 := by unfold szT; rw [show Try.prog.info? 120 = some Try.t120 from Try.type120]; rfl
@[simp ↓] theorem ty120 {q : Bool → Nat → Prop} : goTy Try.prog 120 q = q false 1 := by simp only [goTy, agg120, siz120]
@[simp ↓] theorem sz120 {q : Nat → Prop} : goSz Try.prog 120 q = q 1 := by simp only [goSz, siz120]
theorem zer120 : zero? Try.prog 120 = some (Go.Value.pointer none) := by unfold zero?; rw [show Try.prog.info? 120 = some Try.t120 from Try.type120]; rfl
@[simp ↓] theorem z120 {q : List Value → Prop} : goZ Try.prog 120 q = q [(Go.Value.pointer none)] := by simp [goZ, zer120, Value.cells]
@[simp] theorem und120 : Try.prog.underlying 120 = some (Go.TypeDesc.pointer 114) := opq Try.underlying120
@[simp ↓] theorem un120 {q : TypeDesc → Prop} : goUnd Try.prog 120 q = q (Go.TypeDesc.pointer 114) := by simp only [goUnd, und120]
theorem agg121 : aggT Try.prog 121 = some false := by unfold aggT; rw [Try.underlying121]; rfl
@[simp] theorem siz121 : szT Try.prog 121 = some 1 := by unfold szT; rw [show Try.prog.info? 121 = some Try.t121 from Try.type121]; rfl
@[simp ↓] theorem ty121 {q : Bool → Nat → Prop} : goTy Try.prog 121 q = q false 1 := by simp only [goTy, agg121, siz121]
@[simp ↓] theorem sz121 {q : Nat → Prop} : goSz Try.prog 121 q = q 1 := by simp only [goSz, siz121]
theorem zer121 : zero? Try.prog 121 = some Go.Value.nilFunc := by unfold zero?; rw [show Try.prog.info? 121 = some Try.t121 from Try.type121]; rfl
@[simp ↓] theorem z121 {q : List Value → Prop} : goZ Try.prog 121 q = q [Go.Value.nilFunc] := by simp [goZ, zer121, Value.cells]
theorem agg122 : aggT Try.prog 122 = some false := by unfold aggT; rw [Try.underlying122]; rfl
@[simp] theorem siz122 : szT Try.prog 122 = some 1 := by unfold szT; rw [show Try.prog.info? 122 = some Try.t122 from Try.type122]; rfl
@[simp ↓] theorem ty122 {q : Bool → Nat → Prop} : goTy Try.prog 122 q = q false 1 := by simp only [goTy, agg122, siz122]
@[simp ↓] theorem sz122 {q : Nat → Prop} : goSz Try.prog 122 q = q 1 := by simp only [goSz, siz122]
theorem zer122 : zero? Try.prog 122 = some Go.Value.nilFunc := by unfold zero?; rw [show Try.prog.info? 122 = some Try.t122 from Try.type122]; rfl
@[simp ↓] theorem z122 {q : List Value → Prop} : goZ Try.prog 122 q = q [Go.Value.nilFunc] := by simp [goZ, zer122, Value.cells]
theorem agg123 : aggT Try.prog 123 = some false := by unfold aggT; rw [Try.underlying123]; rfl
@[simp] theorem siz123 : szT Try.prog 123 = some 1 := by unfold szT; rw [show Try.prog.info? 123 = some Try.t123 from Try.type123]; rfl
@[simp ↓] theorem ty123 {q : Bool → Nat → Prop} : goTy Try.prog 123 q = q false 1 := by simp only [goTy, agg123, siz123]
@[simp ↓] theorem sz123 {q : Nat → Prop} : goSz Try.prog 123 q = q 1 := by simp only [goSz, siz123]
theorem zer123 : zero? Try.prog 123 = some Go.Value.nilFunc := by unfold zero?; rw [show Try.prog.info? 123 = some Try.t123 from Try.type123]; rfl
@[simp ↓] theorem z123 {q : List Value → Prop} : goZ Try.prog 123 q = q [Go.Value.nilFunc] := by simp [goZ, zer123, Value.cells]
theorem agg124 : aggT Try.prog 124 = some false := by unfold aggT; rw [Try.underlying124]; rfl
@[simp] theorem siz124 : szT Try.prog 124 = some 1 := by unfold szT; rw [show Try.prog.info? 124 = some Try.t124 from Try.type124]; rfl
@[simp ↓] theorem ty124 {q : Bool → Nat → Prop} : goTy Try.prog 124 q = q false 1 := by simp only [goTy, agg124, siz124]
@[simp ↓] theorem sz124 {q : Nat → Prop} : goSz Try.prog 124 q = q 1 := by simp only [goSz, siz124]
theorem zer124 : zero? Try.prog 124 = some Go.Value.nilFunc := by unfold zero?; rw [show Try.prog.info? 124 = some Try.t124 from Try.type124]; rfl
@[simp ↓] theorem z124 {q : List Value → Prop} : goZ Try.prog 124 q = q [Go.Value.nilFunc] := by simp [goZ, zer124, Value.cells]
theorem agg125 : aggT Try.prog 125 = some false := by unfold aggT; rw [Try.underlying125]; rfl
@[simp] theorem siz125 : szT Try.prog 125 = some 1 := by unfold szT; rw [show Try.prog.info? 125 = some Try.t125 from Try.type125]; rfl
@[simp ↓] theorem ty125 {q : Bool → Nat → Prop} : goTy Try.prog 125 q = q false 1 := by simp only [goTy, agg125, siz125]
@[simp ↓] theorem sz125 {q : Nat → Prop} : goSz Try.prog 125 q = q 1 := by simp only [goSz, siz125]
theorem zer125 : zero? Try.prog 125 = some Go.Value.nilFunc := by unfold zero?; rw [show Try.prog.info? 125 = some Try.t125 from Try.type125]; rfl
@[simp ↓] theorem z125 {q : List Value → Prop} : goZ Try.prog 125 q = q [Go.Value.nilFunc] := by simp [goZ, zer125, Value.cells]
theorem agg126 : aggT Try.prog 126 = some false := by unfold aggT; rw [Try.underlying126]; rfl
@[simp] theorem siz126 : szT Try.prog 126 = some 1 := by unfold szT; rw [show Try.prog.info? 126 = some Try.t126 from Try.type126]; rfl
@[simp ↓] theorem ty126 {q : Bool → Nat → Prop} : goTy Try.prog 126 q = q false 1 := by simp only [goTy, agg126, siz126]
@[simp ↓] theorem sz126 {q : Nat → Prop} : goSz Try.prog 126 q = q 1 := by simp only [goSz, siz126]
theorem zer126 : zero? Try.prog 126 = some Go.Value.nilFunc := by unfold zero?; rw [show Try.prog.info? 126 = some Try.t126 from Try.type126]; rfl
@[simp ↓] theorem z126 {q : List Value → Prop} : goZ Try.prog 126 q = q [Go.Value.nilFunc] := by simp [goZ, zer126, Value.cells]
theorem agg127 : aggT Try.prog 127 = some false := by unfold aggT; rw [Try.underlying127]; rfl
@[simp] theorem siz127 : szT Try.prog 127 = some 1 := by unfold szT; rw [show Try.prog.info? 127 = some Try.t127 from Try.type127]; rfl
@[simp ↓] theorem ty127 {q : Bool → Nat → Prop} : goTy Try.prog 127 q = q false 1 := by simp only [goTy, agg127, siz127]
@[simp ↓] theorem sz127 {q : Nat → Prop} : goSz Try.prog 127 q = q 1 := by simp only [goSz, siz127]
theorem zer127 : zero? Try.prog 127 = some Go.Value.nilFunc := by unfold zero?; rw [show Try.prog.info? 127 = some Try.t127 from Try.type127]; rfl
@[simp ↓] theorem z127 {q : List Value → Prop} : goZ Try.prog 127 q = q [Go.Value.nilFunc] := by simp [goZ, zer127, Value.cells]
theorem agg128 : aggT Try.prog 128 = some false := by unfold aggT; rw [Try.underlying128]; rfl
@[simp] theorem siz128 : szT Try.prog 128 = some 1 := by unfold szT; rw [show Try.prog.info? 128 = some Try.t128 from Try.type128]; rfl
@[simp ↓] theorem ty128 {q : Bool → Nat → Prop} : goTy Try.prog 128 q = q false 1 := by simp only [goTy, agg128, siz128]
@[simp ↓] theorem sz128 {q : Nat → Prop} : goSz Try.prog 128 q = q 1 := by simp only [goSz, siz128]
theorem zer128 : zero? Try.prog 128 = some Go.Value.nilFunc := by unfold zero?; rw [show Try.prog.info? 128 = some Try.t128 from Try.type128]; rfl
@[simp ↓] theorem z128 {q : List Value → Prop} : goZ Try.prog 128 q = q [Go.Value.nilFunc] := by simp [goZ, zer128, Value.cells]
theorem agg129 : aggT Try.prog 129 = some false := by unfold aggT; rw [Try.underlying129]; rfl
@[simp] theorem siz129 : szT Try.prog 129 = some 1 := by unfold szT; rw [show Try.prog.info? 129 = some Try.t129 from Try.type129]; rfl
@[simp ↓] theorem ty129 {q : Bool → Nat → Prop} : goTy Try.prog 129 q = q false 1 := by simp only [goTy, agg129, siz129]
@[simp ↓] theorem sz129 {q : Nat → Prop} : goSz Try.prog 129 q = q 1 := by simp only [goSz, siz129]
theorem zer129 : zero? Try.prog 129 = some Go.Value.nilFunc := by unfold zero?; rw [show Try.prog.info? 129 = some Try.t129 from Try.type129]; rfl
@[simp ↓] theorem z129 {q : List Value → Prop} : goZ Try.prog 129 q = q [Go.Value.nilFunc] := by simp [goZ, zer129, Value.cells]
theorem agg130 : aggT Try.prog 130 = some false := by unfold aggT; rw [Try.underlying130]; rfl
@[simp] theorem siz130 : szT Try.prog 130 = some 1 := by unfold szT; rw [show Try.prog.info? 130 = some Try.t130 from Try.type130]; rfl
@[simp ↓] theorem ty130 {q : Bool → Nat → Prop} : goTy Try.prog 130 q = q false 1 := by simp only [goTy, agg130, siz130]
@[simp ↓] theorem sz130 {q : Nat → Prop} : goSz Try.prog 130 q = q 1 := by simp only [goSz, siz130]
theorem zer130 : zero? Try.prog 130 = some Go.Value.nilFunc := by unfold zero?; rw [show Try.prog.info? 130 = some Try.t130 from Try.type130]; rfl
@[simp ↓] theorem z130 {q : List Value → Prop} : goZ Try.prog 130 q = q [Go.Value.nilFunc] := by simp [goZ, zer130, Value.cells]
theorem agg131 : aggT Try.prog 131 = some false := by unfold aggT; rw [Try.underlying131]; rfl
@[simp] theorem siz131 : szT Try.prog 131 = some 1 := by unfold szT; rw [show Try.prog.info? 131 = some Try.t131 from Try.type131]; rfl
@[simp ↓] theorem ty131 {q : Bool → Nat → Prop} : goTy Try.prog 131 q = q false 1 := by simp only [goTy, agg131, siz131]
@[simp ↓] theorem sz131 {q : Nat → Prop} : goSz Try.prog 131 q = q 1 := by simp only [goSz, siz131]
theorem zer131 : zero? Try.prog 131 = some Go.Value.nilFunc := by unfold zero?; rw [show Try.prog.info? 131 = some Try.t131 from Try.type131]; rfl
@[simp ↓] theorem z131 {q : List Value → Prop} : goZ Try.prog 131 q = q [Go.Value.nilFunc] := by simp [goZ, zer131, Value.cells]
theorem agg132 : aggT Try.prog 132 = some false := by unfold aggT; rw [Try.underlying132]; rfl
@[simp] theorem siz132 : szT Try.prog 132 = some 1 := by unfold szT; rw [show Try.prog.info? 132 = some Try.t132 from Try.type132]; rfl
@[simp ↓] theorem ty132 {q : Bool → Nat → Prop} : goTy Try.prog 132 q = q false 1 := by simp only [goTy, agg132, siz132]
@[simp ↓] theorem sz132 {q : Nat → Prop} : goSz Try.prog 132 q = q 1 := by simp only [goSz, siz132]
theorem zer132 : zero? Try.prog 132 = some Go.Value.nilFunc := by unfold zero?; rw [show Try.prog.info? 132 = some Try.t132 from Try.type132]; rfl
@[simp ↓] theorem z132 {q : List Value → Prop} : goZ Try.prog 132 q = q [Go.Value.nilFunc] := by simp [goZ, zer132, Value.cells]
theorem agg133 : aggT Try.prog 133 = some true := by unfold aggT; rw [Try.underlying133]; rfl
@[simp] theorem siz133 : szT Try.prog 133 = some 2 := by unfold szT; rw [show Try.prog.info? 133 = some Try.t133 from Try.type133]; rfl
@[simp ↓] theorem ty133 {q : Bool → Nat → Prop} : goTy Try.prog 133 q = q true 2 := by simp only [goTy, agg133, siz133]
@[simp ↓] theorem sz133 {q : Nat → Prop} : goSz Try.prog 133 q = q 2 := by simp only [goSz, siz133]
theorem zer133 : zero? Try.prog 133 = some (Go.Value.agg #[Go.Value.string { data := #[] }, Go.Value.string { data := #[] }]) := by unfold zero?; rw [show Try.prog.info? 133 = some Try.t133 from Try.type133]; rfl
@[simp ↓] theorem z133 {q : List Value → Prop} : goZ Try.prog 133 q = q [Go.Value.string { data := #[] }, Go.Value.string { data := #[] }] := by simp [goZ, zer133, Value.cells]
@[simp] theorem und133 : Try.prog.underlying 133 = some (Go.TypeDesc.struct
  #[{ name := "Name", type := 9, offset := 0, embedded := false, tag := "", pkgPath := "", byteOffset := 0 },
    { name := "Text", type := 9, offset := 1, embedded := false, tag := "", pkgPath := "", byteOffset := 16 }]) := opq Try.underlying133
@[simp ↓] theorem fld133_0 {q : Nat → TypeId → Prop} : goFld Try.prog 133 0 q = q 0 9 := by simp only [goFld, und133]; rfl
@[simp ↓] theorem fld133_1 {q : Nat → TypeId → Prop} : goFld Try.prog 133 1 q = q 1 9 := by simp only [goFld, und133]; rfl
@[simp ↓] theorem bld133 {q : List Value → List (Nat × Nat) → Prop} : goBld Try.prog 133 q = q [Go.Value.string { data := #[] }, Go.Value.string { data := #[] }] [(0, 1), (1, 1)] := by simp [goBld, und133, zer133, placesL, Value.cells]
theorem agg134 : aggT Try.prog 134 = some false := by unfold aggT; rw [Try.underlying134]; rfl
@[simp] theorem siz134 : szT Try.prog 134 = some 1 := by unfold szT; rw [show Try.prog.info? 134 = some Try.t134 from Try.type134]; rfl
@[simp ↓] theorem ty134 {q : Bool → Nat → Prop} : goTy Try.prog 134 q = q false 1 := by simp only [goTy, agg134, siz134]
@[simp ↓] theorem sz134 {q : Nat → Prop} : goSz Try.prog 134 q = q 1 := by simp only [goSz, siz134]
theorem zer134 : zero? Try.prog 134 = some Go.Value.nilFunc := by unfold zero?; rw [show Try.prog.info? 134 = some Try.t134 from Try.type134]; rfl
@[simp ↓] theorem z134 {q : List Value → Prop} : goZ Try.prog 134 q = q [Go.Value.nilFunc] := by simp [goZ, zer134, Value.cells]
theorem agg135 : aggT Try.prog 135 = some true := by unfold aggT; rw [Try.underlying135]; rfl
@[simp] theorem siz135 : szT Try.prog 135 = some 2 := by unfold szT; rw [show Try.prog.info? 135 = some Try.t135 from Try.type135]; rfl
@[simp ↓] theorem ty135 {q : Bool → Nat → Prop} : goTy Try.prog 135 q = q true 2 := by simp only [goTy, agg135, siz135]
@[simp ↓] theorem sz135 {q : Nat → Prop} : goSz Try.prog 135 q = q 2 := by simp only [goSz, siz135]
theorem zer135 : zero? Try.prog 135 = some (Go.Value.agg #[Go.Value.string { data := #[] }, Go.Value.slice none 0 0]) := by unfold zero?; rw [show Try.prog.info? 135 = some Try.t135 from Try.type135]; rfl
@[simp ↓] theorem z135 {q : List Value → Prop} : goZ Try.prog 135 q = q [Go.Value.string { data := #[] }, Go.Value.slice none 0 0] := by simp [goZ, zer135, Value.cells]
@[simp] theorem und135 : Try.prog.underlying 135 = some (Go.TypeDesc.struct
  #[{ name := "Name", type := 9, offset := 0, embedded := false, tag := "", pkgPath := "", byteOffset := 0 },
    { name := "Action", type := 58, offset := 1, embedded := false, tag := "", pkgPath := "", byteOffset := 16 }]) := opq Try.underlying135
@[simp ↓] theorem fld135_0 {q : Nat → TypeId → Prop} : goFld Try.prog 135 0 q = q 0 9 := by simp only [goFld, und135]; rfl
@[simp ↓] theorem fld135_1 {q : Nat → TypeId → Prop} : goFld Try.prog 135 1 q = q 1 58 := by simp only [goFld, und135]; rfl
@[simp ↓] theorem bld135 {q : List Value → List (Nat × Nat) → Prop} : goBld Try.prog 135 q = q [Go.Value.string { data := #[] }, Go.Value.slice none 0 0] [(0, 1), (1, 1)] := by simp [goBld, und135, zer135, placesL, Value.cells]
theorem agg136 : aggT Try.prog 136 = some true := by unfold aggT; rw [Try.underlying136]; rfl
@[simp] theorem siz136 : szT Try.prog 136 = some 2 := by unfold szT; rw [show Try.prog.info? 136 = some Try.t136 from Try.type136]; rfl
@[simp ↓] theorem ty136 {q : Bool → Nat → Prop} : goTy Try.prog 136 q = q true 2 := by simp only [goTy, agg136, siz136]
@[simp ↓] theorem sz136 {q : Nat → Prop} : goSz Try.prog 136 q = q 2 := by simp only [goSz, siz136]
theorem zer136 : zero? Try.prog 136 = some (Go.Value.agg #[Go.Value.string { data := #[] }, Go.Value.slice none 0 0]) := by unfold zero?; rw [show Try.prog.info? 136 = some Try.t136 from Try.type136]; rfl
@[simp ↓] theorem z136 {q : List Value → Prop} : goZ Try.prog 136 q = q [Go.Value.string { data := #[] }, Go.Value.slice none 0 0] := by simp [goZ, zer136, Value.cells]
@[simp] theorem und136 : Try.prog.underlying 136 = some (Go.TypeDesc.struct
  #[{ name := "Name", type := 9, offset := 0, embedded := false, tag := "", pkgPath := "", byteOffset := 0 },
    { name := "Action", type := 58, offset := 1, embedded := false, tag := "", pkgPath := "", byteOffset := 16 }]) := opq Try.underlying136
@[simp ↓] theorem fld136_0 {q : Nat → TypeId → Prop} : goFld Try.prog 136 0 q = q 0 9 := by simp only [goFld, und136]; rfl
@[simp ↓] theorem fld136_1 {q : Nat → TypeId → Prop} : goFld Try.prog 136 1 q = q 1 58 := by simp only [goFld, und136]; rfl
@[simp ↓] theorem bld136 {q : List Value → List (Nat × Nat) → Prop} : goBld Try.prog 136 q = q [Go.Value.string { data := #[] }, Go.Value.slice none 0 0] [(0, 1), (1, 1)] := by simp [goBld, und136, zer136, placesL, Value.cells]
theorem agg137 : aggT Try.prog 137 = some false := by unfold aggT; rw [Try.underlying137]; rfl
@[simp] theorem siz137 : szT Try.prog 137 = some 1 := by unfold szT; rw [show Try.prog.info? 137 = some Try.t137 from Try.type137]; rfl
@[simp ↓] theorem ty137 {q : Bool → Nat → Prop} : goTy Try.prog 137 q = q false 1 := by simp only [goTy, agg137, siz137]
@[simp ↓] theorem sz137 {q : Nat → Prop} : goSz Try.prog 137 q = q 1 := by simp only [goSz, siz137]
theorem zer137 : zero? Try.prog 137 = some Go.Value.nilFunc := by unfold zero?; rw [show Try.prog.info? 137 = some Try.t137 from Try.type137]; rfl
@[simp ↓] theorem z137 {q : List Value → Prop} : goZ Try.prog 137 q = q [Go.Value.nilFunc] := by simp [goZ, zer137, Value.cells]
theorem agg138 : aggT Try.prog 138 = some true := by unfold aggT; rw [Try.underlying138]; rfl
@[simp] theorem siz138 : szT Try.prog 138 = some 3 := by unfold szT; rw [show Try.prog.info? 138 = some Try.t138 from Try.type138]; rfl
@[simp ↓] theorem ty138 {q : Bool → Nat → Prop} : goTy Try.prog 138 q = q true 3 := by simp only [goTy, agg138, siz138]
@[simp ↓] theorem sz138 {q : Nat → Prop} : goSz Try.prog 138 q = q 3 := by simp only [goSz, siz138]
theorem zer138 : zero? Try.prog 138 = some (Go.Value.agg #[Go.Value.int Go.IntKind.i64 0, Go.Value.string { data := #[] }, Go.Value.int Go.IntKind.i64 0]) := by unfold zero?; rw [show Try.prog.info? 138 = some Try.t138 from Try.type138]; rfl
@[simp ↓] theorem z138 {q : List Value → Prop} : goZ Try.prog 138 q = q [Go.Value.int Go.IntKind.i64 0, Go.Value.string { data := #[] }, Go.Value.int Go.IntKind.i64 0] := by simp [goZ, zer138, Value.cells]
@[simp] theorem und138 : Try.prog.underlying 138 = some (Go.TypeDesc.struct
  #[{ name := "Op", type := 3, offset := 0, embedded := false, tag := "", pkgPath := "", byteOffset := 0 },
    { name := "Text", type := 9, offset := 1, embedded := false, tag := "", pkgPath := "", byteOffset := 8 },
    { name := "N", type := 3, offset := 2, embedded := false, tag := "", pkgPath := "", byteOffset := 24 }]) := opq Try.underlying138
@[simp ↓] theorem fld138_0 {q : Nat → TypeId → Prop} : goFld Try.prog 138 0 q = q 0 3 := by simp only [goFld, und138]; rfl
@[simp ↓] theorem fld138_1 {q : Nat → TypeId → Prop} : goFld Try.prog 138 1 q = q 1 9 := by simp only [goFld, und138]; rfl
@[simp ↓] theorem fld138_2 {q : Nat → TypeId → Prop} : goFld Try.prog 138 2 q = q 2 3 := by simp only [goFld, und138]; rfl
@[simp ↓] theorem bld138 {q : List Value → List (Nat × Nat) → Prop} : goBld Try.prog 138 q = q [Go.Value.int Go.IntKind.i64 0, Go.Value.string { data := #[] }, Go.Value.int Go.IntKind.i64 0] [(0, 1), (1, 1), (2, 1)] := by simp [goBld, und138, zer138, placesL, Value.cells]
theorem agg139 : aggT Try.prog 139 = some true := by unfold aggT; rw [Try.underlying139]; rfl
@[simp] theorem siz139 : szT Try.prog 139 = some 3 := by unfold szT; rw [show Try.prog.info? 139 = some Try.t139 from Try.type139]; rfl
@[simp ↓] theorem ty139 {q : Bool → Nat → Prop} : goTy Try.prog 139 q = q true 3 := by simp only [goTy, agg139, siz139]
@[simp ↓] theorem sz139 {q : Nat → Prop} : goSz Try.prog 139 q = q 3 := by simp only [goSz, siz139]
theorem zer139 : zero? Try.prog 139 = some (Go.Value.agg #[Go.Value.int Go.IntKind.i64 0, Go.Value.string { data := #[] }, Go.Value.int Go.IntKind.i64 0]) := by unfold zero?; rw [show Try.prog.info? 139 = some Try.t139 from Try.type139]; rfl
@[simp ↓] theorem z139 {q : List Value → Prop} : goZ Try.prog 139 q = q [Go.Value.int Go.IntKind.i64 0, Go.Value.string { data := #[] }, Go.Value.int Go.IntKind.i64 0] := by simp [goZ, zer139, Value.cells]
@[simp] theorem und139 : Try.prog.underlying 139 = some (Go.TypeDesc.struct
  #[{ name := "Op", type := 3, offset := 0, embedded := false, tag := "", pkgPath := "", byteOffset := 0 },
    { name := "Text", type := 9, offset := 1, embedded := false, tag := "", pkgPath := "", byteOffset := 8 },
    { name := "N", type := 3, offset := 2, embedded := false, tag := "", pkgPath := "", byteOffset := 24 }]) := opq Try.underlying139
@[simp ↓] theorem fld139_0 {q : Nat → TypeId → Prop} : goFld Try.prog 139 0 q = q 0 3 := by simp only [goFld, und139]; rfl
@[simp ↓] theorem fld139_1 {q : Nat → TypeId → Prop} : goFld Try.prog 139 1 q = q 1 9 := by simp only [goFld, und139]; rfl
@[simp ↓] theorem fld139_2 {q : Nat → TypeId → Prop} : goFld Try.prog 139 2 q = q 2 3 := by simp only [goFld, und139]; rfl
@[simp ↓] theorem bld139 {q : List Value → List (Nat × Nat) → Prop} : goBld Try.prog 139 q = q [Go.Value.int Go.IntKind.i64 0, Go.Value.string { data := #[] }, Go.Value.int Go.IntKind.i64 0] [(0, 1), (1, 1), (2, 1)] := by simp [goBld, und139, zer139, placesL, Value.cells]
theorem agg140 : aggT Try.prog 140 = some false := by unfold aggT; rw [Try.underlying140]; rfl
@[simp] theorem siz140 : szT Try.prog 140 = some 1 := by unfold szT; rw [show Try.prog.info? 140 = some Try.t140 from Try.type140]; rfl
@[simp ↓] theorem ty140 {q : Bool → Nat → Prop} : goTy Try.prog 140 q = q false 1 := by simp only [goTy, agg140, siz140]
@[simp ↓] theorem sz140 {q : Nat → Prop} : goSz Try.prog 140 q = q 1 := by simp only [goSz, siz140]
theorem zer140 : zero? Try.prog 140 = some Go.Value.nilFunc := by unfold zero?; rw [show Try.prog.info? 140 = some Try.t140 from Try.type140]; rfl
@[simp ↓] theorem z140 {q : List Value → Prop} : goZ Try.prog 140 q = q [Go.Value.nilFunc] := by simp [goZ, zer140, Value.cells]
theorem agg141 : aggT Try.prog 141 = some false := by unfold aggT; rw [Try.underlying141]; rfl
@[simp] theorem siz141 : szT Try.prog 141 = some 1 := by unfold szT; rw [show Try.prog.info? 141 = some Try.t141 from Try.type141]; rfl
@[simp ↓] theorem ty141 {q : Bool → Nat → Prop} : goTy Try.prog 141 q = q false 1 := by simp only [goTy, agg141, siz141]
@[simp ↓] theorem sz141 {q : Nat → Prop} : goSz Try.prog 141 q = q 1 := by simp only [goSz, siz141]
theorem zer141 : zero? Try.prog 141 = some Go.Value.nilFunc := by unfold zero?; rw [show Try.prog.info? 141 = some Try.t141 from Try.type141]; rfl
@[simp ↓] theorem z141 {q : List Value → Prop} : goZ Try.prog 141 q = q [Go.Value.nilFunc] := by simp [goZ, zer141, Value.cells]
theorem agg142 : aggT Try.prog 142 = some false := by unfold aggT; rw [Try.underlying142]; rfl
@[simp] theorem siz142 : szT Try.prog 142 = some 1 := by unfold szT; rw [show Try.prog.info? 142 = some Try.t142 from Try.type142]; rfl
@[simp ↓] theorem ty142 {q : Bool → Nat → Prop} : goTy Try.prog 142 q = q false 1 := by simp only [goTy, agg142, siz142]
@[simp ↓] theorem sz142 {q : Nat → Prop} : goSz Try.prog 142 q = q 1 := by simp only [goSz, siz142]
theorem zer142 : zero? Try.prog 142 = some Go.Value.nilFunc := by unfold zero?; rw [show Try.prog.info? 142 = some Try.t142 from Try.type142]; rfl
@[simp ↓] theorem z142 {q : List Value → Prop} : goZ Try.prog 142 q = q [Go.Value.nilFunc] := by simp [goZ, zer142, Value.cells]
theorem agg143 : aggT Try.prog 143 = some false := by unfold aggT; rw [Try.underlying143]; rfl
@[simp] theorem siz143 : szT Try.prog 143 = some 1 := by unfold szT; rw [show Try.prog.info? 143 = some Try.t143 from Try.type143]; rfl
@[simp ↓] theorem ty143 {q : Bool → Nat → Prop} : goTy Try.prog 143 q = q false 1 := by simp only [goTy, agg143, siz143]
@[simp ↓] theorem sz143 {q : Nat → Prop} : goSz Try.prog 143 q = q 1 := by simp only [goSz, siz143]
theorem zer143 : zero? Try.prog 143 = some Go.Value.nilFunc := by unfold zero?; rw [show Try.prog.info? 143 = some Try.t143 from Try.type143]; rfl
@[simp ↓] theorem z143 {q : List Value → Prop} : goZ Try.prog 143 q = q [Go.Value.nilFunc] := by simp [goZ, zer143, Value.cells]
theorem agg144 : aggT Try.prog 144 = some false := by unfold aggT; rw [Try.underlying144]; rfl
@[simp] theorem siz144 : szT Try.prog 144 = some 1 := by unfold szT; rw [show Try.prog.info? 144 = some Try.t144 from Try.type144]; rfl
@[simp ↓] theorem ty144 {q : Bool → Nat → Prop} : goTy Try.prog 144 q = q false 1 := by simp only [goTy, agg144, siz144]
@[simp ↓] theorem sz144 {q : Nat → Prop} : goSz Try.prog 144 q = q 1 := by simp only [goSz, siz144]
theorem zer144 : zero? Try.prog 144 = some Go.Value.nilFunc := by unfold zero?; rw [show Try.prog.info? 144 = some Try.t144 from Try.type144]; rfl
@[simp ↓] theorem z144 {q : List Value → Prop} : goZ Try.prog 144 q = q [Go.Value.nilFunc] := by simp [goZ, zer144, Value.cells]
theorem agg145 : aggT Try.prog 145 = some false := by unfold aggT; rw [Try.underlying145]; rfl
@[simp] theorem siz145 : szT Try.prog 145 = some 1 := by unfold szT; rw [show Try.prog.info? 145 = some Try.t145 from Try.type145]; rfl
@[simp ↓] theorem ty145 {q : Bool → Nat → Prop} : goTy Try.prog 145 q = q false 1 := by simp only [goTy, agg145, siz145]
@[simp ↓] theorem sz145 {q : Nat → Prop} : goSz Try.prog 145 q = q 1 := by simp only [goSz, siz145]
theorem zer145 : zero? Try.prog 145 = some Go.Value.nilFunc := by unfold zero?; rw [show Try.prog.info? 145 = some Try.t145 from Try.type145]; rfl
@[simp ↓] theorem z145 {q : List Value → Prop} : goZ Try.prog 145 q = q [Go.Value.nilFunc] := by simp [goZ, zer145, Value.cells]
theorem agg146 : aggT Try.prog 146 = some false := by unfold aggT; rw [Try.underlying146]; rfl
@[simp] theorem siz146 : szT Try.prog 146 = some 1 := by unfold szT; rw [show Try.prog.info? 146 = some Try.t146 from Try.type146]; rfl
@[simp ↓] theorem ty146 {q : Bool → Nat → Prop} : goTy Try.prog 146 q = q false 1 := by simp only [goTy, agg146, siz146]
@[simp ↓] theorem sz146 {q : Nat → Prop} : goSz Try.prog 146 q = q 1 := by simp only [goSz, siz146]
theorem zer146 : zero? Try.prog 146 = some Go.Value.nilFunc := by unfold zero?; rw [show Try.prog.info? 146 = some Try.t146 from Try.type146]; rfl
@[simp ↓] theorem z146 {q : List Value → Prop} : goZ Try.prog 146 q = q [Go.Value.nilFunc] := by simp [goZ, zer146, Value.cells]
theorem agg147 : aggT Try.prog 147 = some false := by unfold aggT; rw [Try.underlying147]; rfl
@[simp] theorem siz147 : szT Try.prog 147 = some 1 := by unfold szT; rw [show Try.prog.info? 147 = some Try.t147 from Try.type147]; rfl
@[simp ↓] theorem ty147 {q : Bool → Nat → Prop} : goTy Try.prog 147 q = q false 1 := by simp only [goTy, agg147, siz147]
@[simp ↓] theorem sz147 {q : Nat → Prop} : goSz Try.prog 147 q = q 1 := by simp only [goSz, siz147]
theorem zer147 : zero? Try.prog 147 = some Go.Value.nilFunc := by unfold zero?; rw [show Try.prog.info? 147 = some Try.t147 from Try.type147]; rfl
@[simp ↓] theorem z147 {q : List Value → Prop} : goZ Try.prog 147 q = q [Go.Value.nilFunc] := by simp [goZ, zer147, Value.cells]
theorem agg148 : aggT Try.prog 148 = some false := by unfold aggT; rw [Try.underlying148]; rfl
@[simp] theorem siz148 : szT Try.prog 148 = some 1 := by unfold szT; rw [show Try.prog.info? 148 = some Try.t148 from Try.type148]; rfl
@[simp ↓] theorem ty148 {q : Bool → Nat → Prop} : goTy Try.prog 148 q = q false 1 := by simp only [goTy, agg148, siz148]
@[simp ↓] theorem sz148 {q : Nat → Prop} : goSz Try.prog 148 q = q 1 := by simp only [goSz, siz148]
theorem zer148 : zero? Try.prog 148 = some (Go.Value.slice none 0 0) := by unfold zero?; rw [show Try.prog.info? 148 = some Try.t148 from Try.type148]; rfl
@[simp ↓] theorem z148 {q : List Value → Prop} : goZ Try.prog 148 q = q [(Go.Value.slice none 0 0)] := by simp [goZ, zer148, Value.cells]
@[simp] theorem und148 : Try.prog.underlying 148 = some (Go.TypeDesc.slice 176) := opq Try.underlying148
@[simp ↓] theorem un148 {q : TypeDesc → Prop} : goUnd Try.prog 148 q = q (Go.TypeDesc.slice 176) := by simp only [goUnd, und148]
theorem slt148 : SlT Try.prog 148 176 4 32 := ⟨Try.underlying148, ⟨Try.t176, _, Try.type176, rfl, rfl, rfl, by simp, rfl⟩, by decide⟩
@[simp ↓] theorem sl148 {q : TypeId → Nat → List Value → Prop} : goSl Try.prog 148 q = q 176 4 [Go.Value.string { data := #[] }, Go.Value.bool false, Go.Value.bool false, Go.Value.int Go.IntKind.i64 0] := by simp [goSl, und148, show zero? Try.prog 176 = some
  (Go.Value.agg
    #[Go.Value.string { data := #[] }, Go.Value.bool false, Go.Value.bool false, Go.Value.int Go.IntKind.i64 0]) from by unfold zero?; rw [show Try.prog.info? 176 = some Try.t176 from Try.type176]; rfl, show szT Try.prog 176 = some 4 from by unfold szT; rw [show Try.prog.info? 176 = some Try.t176 from Try.type176]; rfl, Value.cells]
theorem agg149 : aggT Try.prog 149 = some true := by unfold aggT; rw [Try.underlying149]; rfl
@[simp] theorem siz149 : szT Try.prog 149 = some 6 := by unfold szT; rw [show Try.prog.info? 149 = some Try.t149 from Try.type149]; rfl
@[simp ↓] theorem ty149 {q : Bool → Nat → Prop} : goTy Try.prog 149 q = q true 6 := by simp only [goTy, agg149, siz149]
@[simp ↓] theorem sz149 {q : Nat → Prop} : goSz Try.prog 149 q = q 6 := by simp only [goSz, siz149]
theorem zer149 : zero? Try.prog 149 = some
  (Go.Value.agg
    #[Go.Value.string { data := #[] }, Go.Value.int Go.IntKind.i64 0, Go.Value.int Go.IntKind.i64 0,
      Go.Value.string { data := #[] }, Go.Value.slice none 0 0, Go.Value.slice none 0 0]) := by unfold zero?; rw [show Try.prog.info? 149 = some Try.t149 from Try.type149]; rfl
@[simp ↓] theorem z149 {q : List Value → Prop} : goZ Try.prog 149 q = q [Go.Value.string { data := #[] }, Go.Value.int Go.IntKind.i64 0, Go.Value.int Go.IntKind.i64 0,
      Go.Value.string { data := #[] }, Go.Value.slice none 0 0, Go.Value.slice none 0 0] := by simp [goZ, zer149, Value.cells]
@[simp] theorem und149 : Try.prog.underlying 149 = some (Go.TypeDesc.struct
  #[{ name := "Name", type := 9, offset := 0, embedded := false, tag := "", pkgPath := "", byteOffset := 0 },
    { name := "Kind", type := 3, offset := 1, embedded := false, tag := "", pkgPath := "", byteOffset := 16 },
    { name := "Code", type := 3, offset := 2, embedded := false, tag := "", pkgPath := "", byteOffset := 24 },
    { name := "Text", type := 9, offset := 3, embedded := false, tag := "", pkgPath := "", byteOffset := 32 },
    { name := "Action", type := 58, offset := 4, embedded := false, tag := "", pkgPath := "", byteOffset := 48 },
    { name := "Links", type := 148, offset := 5, embedded := false, tag := "", pkgPath := "", byteOffset := 72 }]) := opq Try.underlying149
@[simp ↓] theorem fld149_0 {q : Nat → TypeId → Prop} : goFld Try.prog 149 0 q = q 0 9 := by simp only [goFld, und149]; rfl
@[simp ↓] theorem fld149_1 {q : Nat → TypeId → Prop} : goFld Try.prog 149 1 q = q 1 3 := by simp only [goFld, und149]; rfl
@[simp ↓] theorem fld149_2 {q : Nat → TypeId → Prop} : goFld Try.prog 149 2 q = q 2 3 := by simp only [goFld, und149]; rfl
@[simp ↓] theorem fld149_3 {q : Nat → TypeId → Prop} : goFld Try.prog 149 3 q = q 3 9 := by simp only [goFld, und149]; rfl
@[simp ↓] theorem fld149_4 {q : Nat → TypeId → Prop} : goFld Try.prog 149 4 q = q 4 58 := by simp only [goFld, und149]; rfl
@[simp ↓] theorem fld149_5 {q : Nat → TypeId → Prop} : goFld Try.prog 149 5 q = q 5 148 := by simp only [goFld, und149]; rfl
@[simp ↓] theorem bld149 {q : List Value → List (Nat × Nat) → Prop} : goBld Try.prog 149 q = q [Go.Value.string { data := #[] }, Go.Value.int Go.IntKind.i64 0, Go.Value.int Go.IntKind.i64 0,
      Go.Value.string { data := #[] }, Go.Value.slice none 0 0, Go.Value.slice none 0 0] [(0, 1), (1, 1), (2, 1), (3, 1), (4, 1), (5, 1)] := by simp [goBld, und149, zer149, placesL, Value.cells]
theorem agg150 : aggT Try.prog 150 = some true := by unfold aggT; rw [Try.underlying150]; rfl
@[simp] theorem siz150 : szT Try.prog 150 = some 6 := by unfold szT; rw [show Try.prog.info? 150 = some Try.t150 from Try.type150]; rfl
@[simp ↓] theorem ty150 {q : Bool → Nat → Prop} : goTy Try.prog 150 q = q true 6 := by simp only [goTy, agg150, siz150]
@[simp ↓] theorem sz150 {q : Nat → Prop} : goSz Try.prog 150 q = q 6 := by simp only [goSz, siz150]
theorem zer150 : zero? Try.prog 150 = some
  (Go.Value.agg
    #[Go.Value.string { data := #[] }, Go.Value.int Go.IntKind.i64 0, Go.Value.int Go.IntKind.i64 0,
      Go.Value.string { data := #[] }, Go.Value.slice none 0 0, Go.Value.slice none 0 0]) := by unfold zero?; rw [show Try.prog.info? 150 = some Try.t150 from Try.type150]; rfl
@[simp ↓] theorem z150 {q : List Value → Prop} : goZ Try.prog 150 q = q [Go.Value.string { data := #[] }, Go.Value.int Go.IntKind.i64 0, Go.Value.int Go.IntKind.i64 0,
      Go.Value.string { data := #[] }, Go.Value.slice none 0 0, Go.Value.slice none 0 0] := by simp [goZ, zer150, Value.cells]
@[simp] theorem und150 : Try.prog.underlying 150 = some (Go.TypeDesc.struct
  #[{ name := "Name", type := 9, offset := 0, embedded := false, tag := "", pkgPath := "", byteOffset := 0 },
    { name := "Kind", type := 3, offset := 1, embedded := false, tag := "", pkgPath := "", byteOffset := 16 },
    { name := "Code", type := 3, offset := 2, embedded := false, tag := "", pkgPath := "", byteOffset := 24 },
    { name := "Text", type := 9, offset := 3, embedded := false, tag := "", pkgPath := "", byteOffset := 32 },
    { name := "Action", type := 58, offset := 4, embedded := false, tag := "", pkgPath := "", byteOffset := 48 },
    { name := "Links", type := 148, offset := 5, embedded := false, tag := "", pkgPath := "", byteOffset := 72 }]) := opq Try.underlying150
@[simp ↓] theorem fld150_0 {q : Nat → TypeId → Prop} : goFld Try.prog 150 0 q = q 0 9 := by simp only [goFld, und150]; rfl
@[simp ↓] theorem fld150_1 {q : Nat → TypeId → Prop} : goFld Try.prog 150 1 q = q 1 3 := by simp only [goFld, und150]; rfl
@[simp ↓] theorem fld150_2 {q : Nat → TypeId → Prop} : goFld Try.prog 150 2 q = q 2 3 := by simp only [goFld, und150]; rfl
@[simp ↓] theorem fld150_3 {q : Nat → TypeId → Prop} : goFld Try.prog 150 3 q = q 3 9 := by simp only [goFld, und150]; rfl
@[simp ↓] theorem fld150_4 {q : Nat → TypeId → Prop} : goFld Try.prog 150 4 q = q 4 58 := by simp only [goFld, und150]; rfl
@[simp ↓] theorem fld150_5 {q : Nat → TypeId → Prop} : goFld Try.prog 150 5 q = q 5 148 := by simp only [goFld, und150]; rfl
@[simp ↓] theorem bld150 {q : List Value → List (Nat × Nat) → Prop} : goBld Try.prog 150 q = q [Go.Value.string { data := #[] }, Go.Value.int Go.IntKind.i64 0, Go.Value.int Go.IntKind.i64 0,
      Go.Value.string { data := #[] }, Go.Value.slice none 0 0, Go.Value.slice none 0 0] [(0, 1), (1, 1), (2, 1), (3, 1), (4, 1), (5, 1)] := by simp [goBld, und150, zer150, placesL, Value.cells]
theorem agg151 : aggT Try.prog 151 = some false := by unfold aggT; rw [Try.underlying151]; rfl
@[simp] theorem siz151 : szT Try.prog 151 = some 1 := by unfold szT; rw [show Try.prog.info? 151 = some Try.t151 from Try.type151]; rfl
@[simp ↓] theorem ty151 {q : Bool → Nat → Prop} : goTy Try.prog 151 q = q false 1 := by simp only [goTy, agg151, siz151]
@[simp ↓] theorem sz151 {q : Nat → Prop} : goSz Try.prog 151 q = q 1 := by simp only [goSz, siz151]
theorem zer151 : zero? Try.prog 151 = some Go.Value.nilFunc := by unfold zero?; rw [show Try.prog.info? 151 = some Try.t151 from Try.type151]; rfl
@[simp ↓] theorem z151 {q : List Value → Prop} : goZ Try.prog 151 q = q [Go.Value.nilFunc] := by simp [goZ, zer151, Value.cells]
theorem agg152 : aggT Try.prog 152 = some false := by unfold aggT; rw [Try.underlying152]; rfl
@[simp] theorem siz152 : szT Try.prog 152 = some 1 := by unfold szT; rw [show Try.prog.info? 152 = some Try.t152 from Try.type152]; rfl
@[simp ↓] theorem ty152 {q : Bool → Nat → Prop} : goTy Try.prog 152 q = q false 1 := by simp only [goTy, agg152, siz152]
@[simp ↓] theorem sz152 {q : Nat → Prop} : goSz Try.prog 152 q = q 1 := by simp only [goSz, siz152]
theorem zer152 : zero? Try.prog 152 = some Go.Value.nilFunc := by unfold zero?; rw [show Try.prog.info? 152 = some Try.t152 from Try.type152]; rfl
@[simp ↓] theorem z152 {q : List Value → Prop} : goZ Try.prog 152 q = q [Go.Value.nilFunc] := by simp [goZ, zer152, Value.cells]
theorem agg153 : aggT Try.prog 153 = some false := by unfold aggT; rw [Try.underlying153]; rfl
@[simp] theorem siz153 : szT Try.prog 153 = some 1 := by unfold szT; rw [show Try.prog.info? 153 = some Try.t153 from Try.type153]; rfl
@[simp ↓] theorem ty153 {q : Bool → Nat → Prop} : goTy Try.prog 153 q = q false 1 := by simp only [goTy, agg153, siz153]
@[simp ↓] theorem sz153 {q : Nat → Prop} : goSz Try.prog 153 q = q 1 := by simp only [goSz, siz153]
theorem zer153 : zero? Try.prog 153 = some Go.Value.nilFunc := by unfold zero?; rw [show Try.prog.info? 153 = some Try.t153 from Try.type153]; rfl
@[simp ↓] theorem z153 {q : List Value → Prop} : goZ Try.prog 153 q = q [Go.Value.nilFunc] := by simp [goZ, zer153, Value.cells]
theorem agg154 : aggT Try.prog 154 = some false := by unfold aggT; rw [Try.underlying154]; rfl
@[simp] theorem siz154 : szT Try.prog 154 = some 1 := by unfold szT; rw [show Try.prog.info? 154 = some Try.t154 from Try.type154]; rfl
@[simp ↓] theorem ty154 {q : Bool → Nat → Prop} : goTy Try.prog 154 q = q false 1 := by simp only [goTy, agg154, siz154]
@[simp ↓] theorem sz154 {q : Nat → Prop} : goSz Try.prog 154 q = q 1 := by simp only [goSz, siz154]
theorem zer154 : zero? Try.prog 154 = some Go.Value.nilFunc := by unfold zero?; rw [show Try.prog.info? 154 = some Try.t154 from Try.type154]; rfl
@[simp ↓] theorem z154 {q : List Value → Prop} : goZ Try.prog 154 q = q [Go.Value.nilFunc] := by simp [goZ, zer154, Value.cells]
theorem agg155 : aggT Try.prog 155 = some false := by unfold aggT; rw [Try.underlying155]; rfl
@[simp] theorem siz155 : szT Try.prog 155 = some 1 := by unfold szT; rw [show Try.prog.info? 155 = some Try.t155 from Try.type155]; rfl
@[simp ↓] theorem ty155 {q : Bool → Nat → Prop} : goTy Try.prog 155 q = q false 1 := by simp only [goTy, agg155, siz155]
@[simp ↓] theorem sz155 {q : Nat → Prop} : goSz Try.prog 155 q = q 1 := by simp only [goSz, siz155]
theorem zer155 : zero? Try.prog 155 = some Go.Value.nilFunc := by unfold zero?; rw [show Try.prog.info? 155 = some Try.t155 from Try.type155]; rfl
@[simp ↓] theorem z155 {q : List Value → Prop} : goZ Try.prog 155 q = q [Go.Value.nilFunc] := by simp [goZ, zer155, Value.cells]
theorem agg156 : aggT Try.prog 156 = some false := by unfold aggT; rw [Try.underlying156]; rfl
@[simp] theorem siz156 : szT Try.prog 156 = some 1 := by unfold szT; rw [show Try.prog.info? 156 = some Try.t156 from Try.type156]; rfl
@[simp ↓] theorem ty156 {q : Bool → Nat → Prop} : goTy Try.prog 156 q = q false 1 := by simp only [goTy, agg156, siz156]
@[simp ↓] theorem sz156 {q : Nat → Prop} : goSz Try.prog 156 q = q 1 := by simp only [goSz, siz156]
theorem zer156 : zero? Try.prog 156 = some Go.Value.nilFunc := by unfold zero?; rw [show Try.prog.info? 156 = some Try.t156 from Try.type156]; rfl
@[simp ↓] theorem z156 {q : List Value → Prop} : goZ Try.prog 156 q = q [Go.Value.nilFunc] := by simp [goZ, zer156, Value.cells]
theorem agg157 : aggT Try.prog 157 = some false := by unfold aggT; rw [Try.underlying157]; rfl
@[simp] theorem siz157 : szT Try.prog 157 = some 1 := by unfold szT; rw [show Try.prog.info? 157 = some Try.t157 from Try.type157]; rfl
@[simp ↓] theorem ty157 {q : Bool → Nat → Prop} : goTy Try.prog 157 q = q false 1 := by simp only [goTy, agg157, siz157]
@[simp ↓] theorem sz157 {q : Nat → Prop} : goSz Try.prog 157 q = q 1 := by simp only [goSz, siz157]
theorem zer157 : zero? Try.prog 157 = some Go.Value.nilFunc := by unfold zero?; rw [show Try.prog.info? 157 = some Try.t157 from Try.type157]; rfl
@[simp ↓] theorem z157 {q : List Value → Prop} : goZ Try.prog 157 q = q [Go.Value.nilFunc] := by simp [goZ, zer157, Value.cells]
theorem agg158 : aggT Try.prog 158 = some false := by unfold aggT; rw [Try.underlying158]; rfl
@[simp] theorem siz158 : szT Try.prog 158 = some 1 := by unfold szT; rw [show Try.prog.info? 158 = some Try.t158 from Try.type158]; rfl
@[simp ↓] theorem ty158 {q : Bool → Nat → Prop} : goTy Try.prog 158 q = q false 1 := by simp only [goTy, agg158, siz158]
@[simp ↓] theorem sz158 {q : Nat → Prop} : goSz Try.prog 158 q = q 1 := by simp only [goSz, siz158]
theorem zer158 : zero? Try.prog 158 = some Go.Value.nilFunc := by unfold zero?; rw [show Try.prog.info? 158 = some Try.t158 from Try.type158]; rfl
@[simp ↓] theorem z158 {q : List Value → Prop} : goZ Try.prog 158 q = q [Go.Value.nilFunc] := by simp [goZ, zer158, Value.cells]
theorem agg159 : aggT Try.prog 159 = some false := by unfold aggT; rw [Try.underlying159]; rfl
@[simp] theorem siz159 : szT Try.prog 159 = some 1 := by unfold szT; rw [show Try.prog.info? 159 = some Try.t159 from Try.type159]; rfl
@[simp ↓] theorem ty159 {q : Bool → Nat → Prop} : goTy Try.prog 159 q = q false 1 := by simp only [goTy, agg159, siz159]
@[simp ↓] theorem sz159 {q : Nat → Prop} : goSz Try.prog 159 q = q 1 := by simp only [goSz, siz159]
theorem zer159 : zero? Try.prog 159 = some Go.Value.nilFunc := by unfold zero?; rw [show Try.prog.info? 159 = some Try.t159 from Try.type159]; rfl
@[simp ↓] theorem z159 {q : List Value → Prop} : goZ Try.prog 159 q = q [Go.Value.nilFunc] := by simp [goZ, zer159, Value.cells]
theorem agg160 : aggT Try.prog 160 = some true := by unfold aggT; rw [Try.underlying160]; rfl
@[simp] theorem siz160 : szT Try.prog 160 = some 3 := by unfold szT; rw [show Try.prog.info? 160 = some Try.t160 from Try.type160]; rfl
@[simp ↓] theorem ty160 {q : Bool → Nat → Prop} : goTy Try.prog 160 q = q true 3 := by simp only [goTy, agg160, siz160]
@[simp ↓] theorem sz160 {q : Nat → Prop} : goSz Try.prog 160 q = q 3 := by simp only [goSz, siz160]
theorem zer160 : zero? Try.prog 160 = some (Go.Value.agg #[Go.Value.int Go.IntKind.i64 0, Go.Value.string { data := #[] }, Go.Value.int Go.IntKind.i64 0]) := by unfold zero?; rw [show Try.prog.info? 160 = some Try.t160 from Try.type160]; rfl
@[simp ↓] theorem z160 {q : List Value → Prop} : goZ Try.prog 160 q = q [Go.Value.int Go.IntKind.i64 0, Go.Value.string { data := #[] }, Go.Value.int Go.IntKind.i64 0] := by simp [goZ, zer160, Value.cells]
@[simp] theorem und160 : Try.prog.underlying 160 = some (Go.TypeDesc.struct
  #[{ name := "Op", type := 3, offset := 0, embedded := false, tag := "", pkgPath := "", byteOffset := 0 },
    { name := "Text", type := 9, offset := 1, embedded := false, tag := "", pkgPath := "", byteOffset := 8 },
    { name := "N", type := 3, offset := 2, embedded := false, tag := "", pkgPath := "", byteOffset := 24 }]) := opq Try.underlying160
@[simp ↓] theorem fld160_0 {q : Nat → TypeId → Prop} : goFld Try.prog 160 0 q = q 0 3 := by simp only [goFld, und160]; rfl
@[simp ↓] theorem fld160_1 {q : Nat → TypeId → Prop} : goFld Try.prog 160 1 q = q 1 9 := by simp only [goFld, und160]; rfl
@[simp ↓] theorem fld160_2 {q : Nat → TypeId → Prop} : goFld Try.prog 160 2 q = q 2 3 := by simp only [goFld, und160]; rfl
@[simp ↓] theorem bld160 {q : List Value → List (Nat × Nat) → Prop} : goBld Try.prog 160 q = q [Go.Value.int Go.IntKind.i64 0, Go.Value.string { data := #[] }, Go.Value.int Go.IntKind.i64 0] [(0, 1), (1, 1), (2, 1)] := by simp [goBld, und160, zer160, placesL, Value.cells]
theorem agg161 : aggT Try.prog 161 = some false := by unfold aggT; rw [Try.underlying161]; rfl
@[simp] theorem siz161 : szT Try.prog 161 = some 1 := by unfold szT; rw [show Try.prog.info? 161 = some Try.t161 from Try.type161]; rfl
@[simp ↓] theorem ty161 {q : Bool → Nat → Prop} : goTy Try.prog 161 q = q false 1 := by simp only [goTy, agg161, siz161]
@[simp ↓] theorem sz161 {q : Nat → Prop} : goSz Try.prog 161 q = q 1 := by simp only [goSz, siz161]
theorem zer161 : zero? Try.prog 161 = some Go.Value.nilFunc := by unfold zero?; rw [show Try.prog.info? 161 = some Try.t161 from Try.type161]; rfl
@[simp ↓] theorem z161 {q : List Value → Prop} : goZ Try.prog 161 q = q [Go.Value.nilFunc] := by simp [goZ, zer161, Value.cells]
theorem agg162 : aggT Try.prog 162 = some false := by unfold aggT; rw [Try.underlying162]; rfl
@[simp] theorem siz162 : szT Try.prog 162 = some 1 := by unfold szT; rw [show Try.prog.info? 162 = some Try.t162 from Try.type162]; rfl
@[simp ↓] theorem ty162 {q : Bool → Nat → Prop} : goTy Try.prog 162 q = q false 1 := by simp only [goTy, agg162, siz162]
@[simp ↓] theorem sz162 {q : Nat → Prop} : goSz Try.prog 162 q = q 1 := by simp only [goSz, siz162]
theorem zer162 : zero? Try.prog 162 = some Go.Value.nilFunc := by unfold zero?; rw [show Try.prog.info? 162 = some Try.t162 from Try.type162]; rfl
@[simp ↓] theorem z162 {q : List Value → Prop} : goZ Try.prog 162 q = q [Go.Value.nilFunc] := by simp [goZ, zer162, Value.cells]
theorem agg163 : aggT Try.prog 163 = some false := by unfold aggT; rw [Try.underlying163]; rfl
@[simp] theorem siz163 : szT Try.prog 163 = some 1 := by unfold szT; rw [show Try.prog.info? 163 = some Try.t163 from Try.type163]; rfl
@[simp ↓] theorem ty163 {q : Bool → Nat → Prop} : goTy Try.prog 163 q = q false 1 := by simp only [goTy, agg163, siz163]
@[simp ↓] theorem sz163 {q : Nat → Prop} : goSz Try.prog 163 q = q 1 := by simp only [goSz, siz163]
theorem zer163 : zero? Try.prog 163 = some Go.Value.nilFunc := by unfold zero?; rw [show Try.prog.info? 163 = some Try.t163 from Try.type163]; rfl
@[simp ↓] theorem z163 {q : List Value → Prop} : goZ Try.prog 163 q = q [Go.Value.nilFunc] := by simp [goZ, zer163, Value.cells]
theorem agg164 : aggT Try.prog 164 = some false := by unfold aggT; rw [Try.underlying164]; rfl
@[simp] theorem siz164 : szT Try.prog 164 = some 1 := by unfold szT; rw [show Try.prog.info? 164 = some Try.t164 from Try.type164]; rfl
@[simp ↓] theorem ty164 {q : Bool → Nat → Prop} : goTy Try.prog 164 q = q false 1 := by simp only [goTy, agg164, siz164]
@[simp ↓] theorem sz164 {q : Nat → Prop} : goSz Try.prog 164 q = q 1 := by simp only [goSz, siz164]
theorem zer164 : zero? Try.prog 164 = some Go.Value.nilFunc := by unfold zero?; rw [show Try.prog.info? 164 = some Try.t164 from Try.type164]; rfl
@[simp ↓] theorem z164 {q : List Value → Prop} : goZ Try.prog 164 q = q [Go.Value.nilFunc] := by simp [goZ, zer164, Value.cells]
theorem agg165 : aggT Try.prog 165 = some false := by unfold aggT; rw [Try.underlying165]; rfl
@[simp] theorem siz165 : szT Try.prog 165 = some 1 := by unfold szT; rw [show Try.prog.info? 165 = some Try.t165 from Try.type165]; rfl
@[simp ↓] theorem ty165 {q : Bool → Nat → Prop} : goTy Try.prog 165 q = q false 1 := by simp only [goTy, agg165, siz165]
@[simp ↓] theorem sz165 {q : Nat → Prop} : goSz Try.prog 165 q = q 1 := by simp only [goSz, siz165]
theorem zer165 : zero? Try.prog 165 = some (Go.Value.slice none 0 0) := by unfold zero?; rw [show Try.prog.info? 165 = some Try.t165 from Try.type165]; rfl
@[simp ↓] theorem z165 {q : List Value → Prop} : goZ Try.prog 165 q = q [(Go.Value.slice none 0 0)] := by simp [goZ, zer165, Value.cells]
@[simp] theorem und165 : Try.prog.underlying 165 = some (Go.TypeDesc.slice 5) := opq Try.underlying165
@[simp ↓] theorem un165 {q : TypeDesc → Prop} : goUnd Try.prog 165 q = q (Go.TypeDesc.slice 5) := by simp only [goUnd, und165]
theorem slt165 : SlT Try.prog 165 5 1 1 := ⟨Try.underlying165, ⟨Try.t5, _, Try.type5, rfl, rfl, rfl, by simp, rfl⟩, by decide⟩
@[simp ↓] theorem sl165 {q : TypeId → Nat → List Value → Prop} : goSl Try.prog 165 q = q 5 1 [(Go.Value.int Go.IntKind.u8 0)] := by simp [goSl, und165, show zero? Try.prog 5 = some (Go.Value.int Go.IntKind.u8 0) from by unfold zero?; rw [show Try.prog.info? 5 = some Try.t5 from Try.type5]; rfl, show szT Try.prog 5 = some 1 from by unfold szT; rw [show Try.prog.info? 5 = some Try.t5 from Try.type5]; rfl, Value.cells]
theorem agg167 : aggT Try.prog 167 = some false := by unfold aggT; rw [Try.underlying167]; rfl
@[simp] theorem siz167 : szT Try.prog 167 = some 1 := by unfold szT; rw [show Try.prog.info? 167 = some Try.t167 from Try.type167]; rfl
@[simp ↓] theorem ty167 {q : Bool → Nat → Prop} : goTy Try.prog 167 q = q false 1 := by simp only [goTy, agg167, siz167]
@[simp ↓] theorem sz167 {q : Nat → Prop} : goSz Try.prog 167 q = q 1 := by simp only [goSz, siz167]
theorem zer167 : zero? Try.prog 167 = some Go.Value.nilFunc := by unfold zero?; rw [show Try.prog.info? 167 = some Try.t167 from Try.type167]; rfl
@[simp ↓] theorem z167 {q : List Value → Prop} : goZ Try.prog 167 q = q [Go.Value.nilFunc] := by simp [goZ, zer167, Value.cells]
theorem agg168 : aggT Try.prog 168 = some false := by unfold aggT; rw [Try.underlying168]; rfl
@[simp] theorem siz168 : szT Try.prog 168 = some 1 := by unfold szT; rw [show Try.prog.info? 168 = some Try.t168 from Try.type168]; rfl
@[simp ↓] theorem ty168 {q : Bool → Nat → Prop} : goTy Try.prog 168 q = q false 1 := by simp only [goTy, agg168, siz168]
@[simp ↓] theorem sz168 {q : Nat → Prop} : goSz Try.prog 168 q = q 1 := by simp only [goSz, siz168]
theorem zer168 : zero? Try.prog 168 = some (Go.Value.int Go.IntKind.u64 0) := by unfold zero?; rw [show Try.prog.info? 168 = some Try.t168 from Try.type168]; rfl
@[simp ↓] theorem z168 {q : List Value → Prop} : goZ Try.prog 168 q = q [(Go.Value.int Go.IntKind.u64 0)] := by simp [goZ, zer168, Value.cells]
@[simp] theorem und168 : Try.prog.underlying 168 = some (Go.TypeDesc.int Go.IntKind.u64) := opq Try.underlying168
@[simp ↓] theorem un168 {q : TypeDesc → Prop} : goUnd Try.prog 168 q = q (Go.TypeDesc.int Go.IntKind.u64) := by simp only [goUnd, und168]
theorem agg169 : aggT Try.prog 169 = some false := by unfold aggT; rw [Try.underlying169]; rfl
@[simp] theorem siz169 : szT Try.prog 169 = some 1 := by unfold szT; rw [show Try.prog.info? 169 = some Try.t169 from Try.type169]; rfl
@[simp ↓] theorem ty169 {q : Bool → Nat → Prop} : goTy Try.prog 169 q = q false 1 := by simp only [goTy, agg169, siz169]
@[simp ↓] theorem sz169 {q : Nat → Prop} : goSz Try.prog 169 q = q 1 := by simp only [goSz, siz169]
theorem zer169 : zero? Try.prog 169 = some Go.Value.nilFunc := by unfold zero?; rw [show Try.prog.info? 169 = some Try.t169 from Try.type169]; rfl
@[simp ↓] theorem z169 {q : List Value → Prop} : goZ Try.prog 169 q = q [Go.Value.nilFunc] := by simp [goZ, zer169, Value.cells]
theorem agg170 : aggT Try.prog 170 = some false := by unfold aggT; rw [Try.underlying170]; rfl
@[simp] theorem siz170 : szT Try.prog 170 = some 1 := by unfold szT; rw [show Try.prog.info? 170 = some Try.t170 from Try.type170]; rfl
@[simp ↓] theorem ty170 {q : Bool → Nat → Prop} : goTy Try.prog 170 q = q false 1 := by simp only [goTy, agg170, siz170]
@[simp ↓] theorem sz170 {q : Nat → Prop} : goSz Try.prog 170 q = q 1 := by simp only [goSz, siz170]
theorem zer170 : zero? Try.prog 170 = some Go.Value.nilFunc := by unfold zero?; rw [show Try.prog.info? 170 = some Try.t170 from Try.type170]; rfl
@[simp ↓] theorem z170 {q : List Value → Prop} : goZ Try.prog 170 q = q [Go.Value.nilFunc] := by simp [goZ, zer170, Value.cells]
theorem agg171 : aggT Try.prog 171 = some false := by unfold aggT; rw [Try.underlying171]; rfl
@[simp] theorem siz171 : szT Try.prog 171 = some 1 := by unfold szT; rw [show Try.prog.info? 171 = some Try.t171 from Try.type171]; rfl
@[simp ↓] theorem ty171 {q : Bool → Nat → Prop} : goTy Try.prog 171 q = q false 1 := by simp only [goTy, agg171, siz171]
@[simp ↓] theorem sz171 {q : Nat → Prop} : goSz Try.prog 171 q = q 1 := by simp only [goSz, siz171]
theorem zer171 : zero? Try.prog 171 = some Go.Value.nilFunc := by unfold zero?; rw [show Try.prog.info? 171 = some Try.t171 from Try.type171]; rfl
@[simp ↓] theorem z171 {q : List Value → Prop} : goZ Try.prog 171 q = q [Go.Value.nilFunc] := by simp [goZ, zer171, Value.cells]
theorem agg172 : aggT Try.prog 172 = some false := by unfold aggT; rw [Try.underlying172]; rfl
@[simp] theorem siz172 : szT Try.prog 172 = some 1 := by unfold szT; rw [show Try.prog.info? 172 = some Try.t172 from Try.type172]; rfl
@[simp ↓] theorem ty172 {q : Bool → Nat → Prop} : goTy Try.prog 172 q = q false 1 := by simp only [goTy, agg172, siz172]
@[simp ↓] theorem sz172 {q : Nat → Prop} : goSz Try.prog 172 q = q 1 := by simp only [goSz, siz172]
theorem zer172 : zero? Try.prog 172 = some Go.Value.nilFunc := by unfold zero?; rw [show Try.prog.info? 172 = some Try.t172 from Try.type172]; rfl
@[simp ↓] theorem z172 {q : List Value → Prop} : goZ Try.prog 172 q = q [Go.Value.nilFunc] := by simp [goZ, zer172, Value.cells]
theorem agg173 : aggT Try.prog 173 = some false := by unfold aggT; rw [Try.underlying173]; rfl
@[simp] theorem siz173 : szT Try.prog 173 = some 1 := by unfold szT; rw [show Try.prog.info? 173 = some Try.t173 from Try.type173]; rfl
@[simp ↓] theorem ty173 {q : Bool → Nat → Prop} : goTy Try.prog 173 q = q false 1 := by simp only [goTy, agg173, siz173]
@[simp ↓] theorem sz173 {q : Nat → Prop} : goSz Try.prog 173 q = q 1 := by simp only [goSz, siz173]
theorem zer173 : zero? Try.prog 173 = some Go.Value.nilFunc := by unfold zero?; rw [show Try.prog.info? 173 = some Try.t173 from Try.type173]; rfl
@[simp ↓] theorem z173 {q : List Value → Prop} : goZ Try.prog 173 q = q [Go.Value.nilFunc] := by simp [goZ, zer173, Value.cells]
theorem agg174 : aggT Try.prog 174 = some false := by unfold aggT; rw [Try.underlying174]; rfl
@[simp] theorem siz174 : szT Try.prog 174 = some 1 := by unfold szT; rw [show Try.prog.info? 174 = some Try.t174 from Try.type174]; rfl
@[simp ↓] theorem ty174 {q : Bool → Nat → Prop} : goTy Try.prog 174 q = q false 1 := by simp only [goTy, agg174, siz174]
@[simp ↓] theorem sz174 {q : Nat → Prop} : goSz Try.prog 174 q = q 1 := by simp only [goSz, siz174]
theorem zer174 : zero? Try.prog 174 = some Go.Value.nilFunc := by unfold zero?; rw [show Try.prog.info? 174 = some Try.t174 from Try.type174]; rfl
@[simp ↓] theorem z174 {q : List Value → Prop} : goZ Try.prog 174 q = q [Go.Value.nilFunc] := by simp [goZ, zer174, Value.cells]
theorem agg175 : aggT Try.prog 175 = some false := by unfold aggT; rw [Try.underlying175]; rfl
@[simp] theorem siz175 : szT Try.prog 175 = some 1 := by unfold szT; rw [show Try.prog.info? 175 = some Try.t175 from Try.type175]; rfl
@[simp ↓] theorem ty175 {q : Bool → Nat → Prop} : goTy Try.prog 175 q = q false 1 := by simp only [goTy, agg175, siz175]
@[simp ↓] theorem sz175 {q : Nat → Prop} : goSz Try.prog 175 q = q 1 := by simp only [goSz, siz175]
theorem zer175 : zero? Try.prog 175 = some Go.Value.nilFunc := by unfold zero?; rw [show Try.prog.info? 175 = some Try.t175 from Try.type175]; rfl
@[simp ↓] theorem z175 {q : List Value → Prop} : goZ Try.prog 175 q = q [Go.Value.nilFunc] := by simp [goZ, zer175, Value.cells]
theorem agg176 : aggT Try.prog 176 = some true := by unfold aggT; rw [Try.underlying176]; rfl
@[simp] theorem siz176 : szT Try.prog 176 = some 4 := by unfold szT; rw [show Try.prog.info? 176 = some Try.t176 from Try.type176]; rfl
@[simp ↓] theorem ty176 {q : Bool → Nat → Prop} : goTy Try.prog 176 q = q true 4 := by simp only [goTy, agg176, siz176]
@[simp ↓] theorem sz176 {q : Nat → Prop} : goSz Try.prog 176 q = q 4 := by simp only [goSz, siz176]
theorem zer176 : zero? Try.prog 176 = some
  (Go.Value.agg
    #[Go.Value.string { data := #[] }, Go.Value.bool false, Go.Value.bool false, Go.Value.int Go.IntKind.i64 0]) := by unfold zero?; rw [show Try.prog.info? 176 = some Try.t176 from Try.type176]; rfl
@[simp ↓] theorem z176 {q : List Value → Prop} : goZ Try.prog 176 q = q [Go.Value.string { data := #[] }, Go.Value.bool false, Go.Value.bool false, Go.Value.int Go.IntKind.i64 0] := by simp [goZ, zer176, Value.cells]
@[simp] theorem und176 : Try.prog.underlying 176 = some (Go.TypeDesc.struct
  #[{ name := "Name", type := 9, offset := 0, embedded := false, tag := "", pkgPath := "", byteOffset := 0 },
    { name := "Ask", type := 4, offset := 1, embedded := false, tag := "", pkgPath := "", byteOffset := 16 },
    { name := "Has", type := 4, offset := 2, embedded := false, tag := "", pkgPath := "", byteOffset := 17 },
    { name := "At", type := 3, offset := 3, embedded := false, tag := "", pkgPath := "", byteOffset := 24 }]) := opq Try.underlying176
@[simp ↓] theorem fld176_0 {q : Nat → TypeId → Prop} : goFld Try.prog 176 0 q = q 0 9 := by simp only [goFld, und176]; rfl
@[simp ↓] theorem fld176_1 {q : Nat → TypeId → Prop} : goFld Try.prog 176 1 q = q 1 4 := by simp only [goFld, und176]; rfl
@[simp ↓] theorem fld176_2 {q : Nat → TypeId → Prop} : goFld Try.prog 176 2 q = q 2 4 := by simp only [goFld, und176]; rfl
@[simp ↓] theorem fld176_3 {q : Nat → TypeId → Prop} : goFld Try.prog 176 3 q = q 3 3 := by simp only [goFld, und176]; rfl
@[simp ↓] theorem bld176 {q : List Value → List (Nat × Nat) → Prop} : goBld Try.prog 176 q = q [Go.Value.string { data := #[] }, Go.Value.bool false, Go.Value.bool false, Go.Value.int Go.IntKind.i64 0] [(0, 1), (1, 1), (2, 1), (3, 1)] := by simp [goBld, und176, zer176, placesL, Value.cells]
theorem agg177 : aggT Try.prog 177 = some false := by unfold aggT; rw [Try.underlying177]; rfl
@[simp] theorem siz177 : szT Try.prog 177 = some 1 := by unfold szT; rw [show Try.prog.info? 177 = some Try.t177 from Try.type177]; rfl
@[simp ↓] theorem ty177 {q : Bool → Nat → Prop} : goTy Try.prog 177 q = q false 1 := by simp only [goTy, agg177, siz177]
@[simp ↓] theorem sz177 {q : Nat → Prop} : goSz Try.prog 177 q = q 1 := by simp only [goSz, siz177]
theorem zer177 : zero? Try.prog 177 = some Go.Value.nilFunc := by unfold zero?; rw [show Try.prog.info? 177 = some Try.t177 from Try.type177]; rfl
@[simp ↓] theorem z177 {q : List Value → Prop} : goZ Try.prog 177 q = q [Go.Value.nilFunc] := by simp [goZ, zer177, Value.cells]
theorem agg178 : aggT Try.prog 178 = some false := by unfold aggT; rw [Try.underlying178]; rfl
@[simp] theorem siz178 : szT Try.prog 178 = some 1 := by unfold szT; rw [show Try.prog.info? 178 = some Try.t178 from Try.type178]; rfl
@[simp ↓] theorem ty178 {q : Bool → Nat → Prop} : goTy Try.prog 178 q = q false 1 := by simp only [goTy, agg178, siz178]
@[simp ↓] theorem sz178 {q : Nat → Prop} : goSz Try.prog 178 q = q 1 := by simp only [goSz, siz178]
theorem zer178 : zero? Try.prog 178 = some Go.Value.nilFunc := by unfold zero?; rw [show Try.prog.info? 178 = some Try.t178 from Try.type178]; rfl
@[simp ↓] theorem z178 {q : List Value → Prop} : goZ Try.prog 178 q = q [Go.Value.nilFunc] := by simp [goZ, zer178, Value.cells]
theorem agg179 : aggT Try.prog 179 = some false := by unfold aggT; rw [Try.underlying179]; rfl
@[simp] theorem siz179 : szT Try.prog 179 = some 1 := by unfold szT; rw [show Try.prog.info? 179 = some Try.t179 from Try.type179]; rfl
@[simp ↓] theorem ty179 {q : Bool → Nat → Prop} : goTy Try.prog 179 q = q false 1 := by simp only [goTy, agg179, siz179]
@[simp ↓] theorem sz179 {q : Nat → Prop} : goSz Try.prog 179 q = q 1 := by simp only [goSz, siz179]
theorem zer179 : zero? Try.prog 179 = some Go.Value.nilFunc := by unfold zero?; rw [show Try.prog.info? 179 = some Try.t179 from Try.type179]; rfl
@[simp ↓] theorem z179 {q : List Value → Prop} : goZ Try.prog 179 q = q [Go.Value.nilFunc] := by simp [goZ, zer179, Value.cells]
theorem agg180 : aggT Try.prog 180 = some false := by unfold aggT; rw [Try.underlying180]; rfl
@[simp] theorem siz180 : szT Try.prog 180 = some 1 := by unfold szT; rw [show Try.prog.info? 180 = some Try.t180 from Try.type180]; rfl
@[simp ↓] theorem ty180 {q : Bool → Nat → Prop} : goTy Try.prog 180 q = q false 1 := by simp only [goTy, agg180, siz180]
@[simp ↓] theorem sz180 {q : Nat → Prop} : goSz Try.prog 180 q = q 1 := by simp only [goSz, siz180]
theorem zer180 : zero? Try.prog 180 = some Go.Value.nilFunc := by unfold zero?; rw [show Try.prog.info? 180 = some Try.t180 from Try.type180]; rfl
@[simp ↓] theorem z180 {q : List Value → Prop} : goZ Try.prog 180 q = q [Go.Value.nilFunc] := by simp [goZ, zer180, Value.cells]
theorem agg181 : aggT Try.prog 181 = some false := by unfold aggT; rw [Try.underlying181]; rfl
@[simp] theorem siz181 : szT Try.prog 181 = some 1 := by unfold szT; rw [show Try.prog.info? 181 = some Try.t181 from Try.type181]; rfl
@[simp ↓] theorem ty181 {q : Bool → Nat → Prop} : goTy Try.prog 181 q = q false 1 := by simp only [goTy, agg181, siz181]
@[simp ↓] theorem sz181 {q : Nat → Prop} : goSz Try.prog 181 q = q 1 := by simp only [goSz, siz181]
theorem zer181 : zero? Try.prog 181 = some Go.Value.nilFunc := by unfold zero?; rw [show Try.prog.info? 181 = some Try.t181 from Try.type181]; rfl
@[simp ↓] theorem z181 {q : List Value → Prop} : goZ Try.prog 181 q = q [Go.Value.nilFunc] := by simp [goZ, zer181, Value.cells]
theorem agg182 : aggT Try.prog 182 = some false := by unfold aggT; rw [Try.underlying182]; rfl
@[simp] theorem siz182 : szT Try.prog 182 = some 1 := by unfold szT; rw [show Try.prog.info? 182 = some Try.t182 from Try.type182]; rfl
@[simp ↓] theorem ty182 {q : Bool → Nat → Prop} : goTy Try.prog 182 q = q false 1 := by simp only [goTy, agg182, siz182]
@[simp ↓] theorem sz182 {q : Nat → Prop} : goSz Try.prog 182 q = q 1 := by simp only [goSz, siz182]
theorem zer182 : zero? Try.prog 182 = some (Go.Value.int Go.IntKind.i64 0) := by unfold zero?; rw [show Try.prog.info? 182 = some Try.t182 from Try.type182]; rfl
@[simp ↓] theorem z182 {q : List Value → Prop} : goZ Try.prog 182 q = q [(Go.Value.int Go.IntKind.i64 0)] := by simp [goZ, zer182, Value.cells]
@[simp] theorem und182 : Try.prog.underlying 182 = some (Go.TypeDesc.int Go.IntKind.i64) := opq Try.underlying182
@[simp ↓] theorem un182 {q : TypeDesc → Prop} : goUnd Try.prog 182 q = q (Go.TypeDesc.int Go.IntKind.i64) := by simp only [goUnd, und182]
theorem agg184 : aggT Try.prog 184 = some false := by unfold aggT; rw [Try.underlying184]; rfl
@[simp] theorem siz184 : szT Try.prog 184 = some 1 := by unfold szT; rw [show Try.prog.info? 184 = some Try.t184 from Try.type184]; rfl
@[simp ↓] theorem ty184 {q : Bool → Nat → Prop} : goTy Try.prog 184 q = q false 1 := by simp only [goTy, agg184, siz184]
@[simp ↓] theorem sz184 {q : Nat → Prop} : goSz Try.prog 184 q = q 1 := by simp only [goSz, siz184]
theorem zer184 : zero? Try.prog 184 = some Go.Value.nilFunc := by unfold zero?; rw [show Try.prog.info? 184 = some Try.t184 from Try.type184]; rfl
@[simp ↓] theorem z184 {q : List Value → Prop} : goZ Try.prog 184 q = q [Go.Value.nilFunc] := by simp [goZ, zer184, Value.cells]
theorem agg185 : aggT Try.prog 185 = some false := by unfold aggT; rw [Try.underlying185]; rfl
@[simp] theorem siz185 : szT Try.prog 185 = some 1 := by unfold szT; rw [show Try.prog.info? 185 = some Try.t185 from Try.type185]; rfl
@[simp ↓] theorem ty185 {q : Bool → Nat → Prop} : goTy Try.prog 185 q = q false 1 := by simp only [goTy, agg185, siz185]
@[simp ↓] theorem sz185 {q : Nat → Prop} : goSz Try.prog 185 q = q 1 := by simp only [goSz, siz185]
theorem zer185 : zero? Try.prog 185 = some Go.Value.nilFunc := by unfold zero?; rw [show Try.prog.info? 185 = some Try.t185 from Try.type185]; rfl
@[simp ↓] theorem z185 {q : List Value → Prop} : goZ Try.prog 185 q = q [Go.Value.nilFunc] := by simp [goZ, zer185, Value.cells]
theorem agg186 : aggT Try.prog 186 = some false := by unfold aggT; rw [Try.underlying186]; rfl
@[simp] theorem siz186 : szT Try.prog 186 = some 1 := by unfold szT; rw [show Try.prog.info? 186 = some Try.t186 from Try.type186]; rfl
@[simp ↓] theorem ty186 {q : Bool → Nat → Prop} : goTy Try.prog 186 q = q false 1 := by simp only [goTy, agg186, siz186]
@[simp ↓] theorem sz186 {q : Nat → Prop} : goSz Try.prog 186 q = q 1 := by simp only [goSz, siz186]
theorem zer186 : zero? Try.prog 186 = some Go.Value.nilFunc := by unfold zero?; rw [show Try.prog.info? 186 = some Try.t186 from Try.type186]; rfl
@[simp ↓] theorem z186 {q : List Value → Prop} : goZ Try.prog 186 q = q [Go.Value.nilFunc] := by simp [goZ, zer186, Value.cells]
theorem agg187 : aggT Try.prog 187 = some false := by unfold aggT; rw [Try.underlying187]; rfl
@[simp] theorem siz187 : szT Try.prog 187 = some 1 := by unfold szT; rw [show Try.prog.info? 187 = some Try.t187 from Try.type187]; rfl
@[simp ↓] theorem ty187 {q : Bool → Nat → Prop} : goTy Try.prog 187 q = q false 1 := by simp only [goTy, agg187, siz187]
@[simp ↓] theorem sz187 {q : Nat → Prop} : goSz Try.prog 187 q = q 1 := by simp only [goSz, siz187]
theorem zer187 : zero? Try.prog 187 = some Go.Value.nilFunc := by unfold zero?; rw [show Try.prog.info? 187 = some Try.t187 from Try.type187]; rfl
@[simp ↓] theorem z187 {q : List Value → Prop} : goZ Try.prog 187 q = q [Go.Value.nilFunc] := by simp [goZ, zer187, Value.cells]
theorem agg188 : aggT Try.prog 188 = some false := by unfold aggT; rw [Try.underlying188]; rfl
@[simp] theorem siz188 : szT Try.prog 188 = some 1 := by unfold szT; rw [show Try.prog.info? 188 = some Try.t188 from Try.type188]; rfl
@[simp ↓] theorem ty188 {q : Bool → Nat → Prop} : goTy Try.prog 188 q = q false 1 := by simp only [goTy, agg188, siz188]
@[simp ↓] theorem sz188 {q : Nat → Prop} : goSz Try.prog 188 q = q 1 := by simp only [goSz, siz188]
theorem zer188 : zero? Try.prog 188 = some Go.Value.nilFunc := by unfold zero?; rw [show Try.prog.info? 188 = some Try.t188 from Try.type188]; rfl
@[simp ↓] theorem z188 {q : List Value → Prop} : goZ Try.prog 188 q = q [Go.Value.nilFunc] := by simp [goZ, zer188, Value.cells]
theorem agg189 : aggT Try.prog 189 = some false := by unfold aggT; rw [Try.underlying189]; rfl
@[simp] theorem siz189 : szT Try.prog 189 = some 1 := by unfold szT; rw [show Try.prog.info? 189 = some Try.t189 from Try.type189]; rfl
@[simp ↓] theorem ty189 {q : Bool → Nat → Prop} : goTy Try.prog 189 q = q false 1 := by simp only [goTy, agg189, siz189]
@[simp ↓] theorem sz189 {q : Nat → Prop} : goSz Try.prog 189 q = q 1 := by simp only [goSz, siz189]
theorem zer189 : zero? Try.prog 189 = some Go.Value.nilFunc := by unfold zero?; rw [show Try.prog.info? 189 = some Try.t189 from Try.type189]; rfl
@[simp ↓] theorem z189 {q : List Value → Prop} : goZ Try.prog 189 q = q [Go.Value.nilFunc] := by simp [goZ, zer189, Value.cells]
theorem agg190 : aggT Try.prog 190 = some false := by unfold aggT; rw [Try.underlying190]; rfl
@[simp] theorem siz190 : szT Try.prog 190 = some 1 := by unfold szT; rw [show Try.prog.info? 190 = some Try.t190 from Try.type190]; rfl
@[simp ↓] theorem ty190 {q : Bool → Nat → Prop} : goTy Try.prog 190 q = q false 1 := by simp only [goTy, agg190, siz190]
@[simp ↓] theorem sz190 {q : Nat → Prop} : goSz Try.prog 190 q = q 1 := by simp only [goSz, siz190]
theorem zer190 : zero? Try.prog 190 = some (Go.Value.int Go.IntKind.u32 0) := by unfold zero?; rw [show Try.prog.info? 190 = some Try.t190 from Try.type190]; rfl
@[simp ↓] theorem z190 {q : List Value → Prop} : goZ Try.prog 190 q = q [(Go.Value.int Go.IntKind.u32 0)] := by simp [goZ, zer190, Value.cells]
@[simp] theorem und190 : Try.prog.underlying 190 = some (Go.TypeDesc.int Go.IntKind.u32) := opq Try.underlying190
@[simp ↓] theorem un190 {q : TypeDesc → Prop} : goUnd Try.prog 190 q = q (Go.TypeDesc.int Go.IntKind.u32) := by simp only [goUnd, und190]
theorem agg191 : aggT Try.prog 191 = some false := by unfold aggT; rw [Try.underlying191]; rfl
@[simp] theorem siz191 : szT Try.prog 191 = some 1 := by unfold szT; rw [show Try.prog.info? 191 = some Try.t191 from Try.type191]; rfl
@[simp ↓] theorem ty191 {q : Bool → Nat → Prop} : goTy Try.prog 191 q = q false 1 := by simp only [goTy, agg191, siz191]
@[simp ↓] theorem sz191 {q : Nat → Prop} : goSz Try.prog 191 q = q 1 := by simp only [goSz, siz191]
theorem zer191 : zero? Try.prog 191 = some Go.Value.nilFunc := by unfold zero?; rw [show Try.prog.info? 191 = some Try.t191 from Try.type191]; rfl
@[simp ↓] theorem z191 {q : List Value → Prop} : goZ Try.prog 191 q = q [Go.Value.nilFunc] := by simp [goZ, zer191, Value.cells]
theorem agg192 : aggT Try.prog 192 = some false := by unfold aggT; rw [Try.underlying192]; rfl
@[simp] theorem siz192 : szT Try.prog 192 = some 1 := by unfold szT; rw [show Try.prog.info? 192 = some Try.t192 from Try.type192]; rfl
@[simp ↓] theorem ty192 {q : Bool → Nat → Prop} : goTy Try.prog 192 q = q false 1 := by simp only [goTy, agg192, siz192]
@[simp ↓] theorem sz192 {q : Nat → Prop} : goSz Try.prog 192 q = q 1 := by simp only [goSz, siz192]
theorem zer192 : zero? Try.prog 192 = some (Go.Value.int Go.IntKind.u64 0) := by unfold zero?; rw [show Try.prog.info? 192 = some Try.t192 from Try.type192]; rfl
@[simp ↓] theorem z192 {q : List Value → Prop} : goZ Try.prog 192 q = q [(Go.Value.int Go.IntKind.u64 0)] := by simp [goZ, zer192, Value.cells]
@[simp] theorem und192 : Try.prog.underlying 192 = some (Go.TypeDesc.int Go.IntKind.u64) := opq Try.underlying192
@[simp ↓] theorem un192 {q : TypeDesc → Prop} : goUnd Try.prog 192 q = q (Go.TypeDesc.int Go.IntKind.u64) := by simp only [goUnd, und192]
theorem agg193 : aggT Try.prog 193 = some false := by unfold aggT; rw [Try.underlying193]; rfl
@[simp] theorem siz193 : szT Try.prog 193 = some 1 := by unfold szT; rw [show Try.prog.info? 193 = some Try.t193 from Try.type193]; rfl
@[simp ↓] theorem ty193 {q : Bool → Nat → Prop} : goTy Try.prog 193 q = q false 1 := by simp only [goTy, agg193, siz193]
@[simp ↓] theorem sz193 {q : Nat → Prop} : goSz Try.prog 193 q = q 1 := by simp only [goSz, siz193]
theorem zer193 : zero? Try.prog 193 = some (Go.Value.int Go.IntKind.u64 0) := by unfold zero?; rw [show Try.prog.info? 193 = some Try.t193 from Try.type193]; rfl
@[simp ↓] theorem z193 {q : List Value → Prop} : goZ Try.prog 193 q = q [(Go.Value.int Go.IntKind.u64 0)] := by simp [goZ, zer193, Value.cells]
@[simp] theorem und193 : Try.prog.underlying 193 = some (Go.TypeDesc.int Go.IntKind.u64) := opq Try.underlying193
@[simp ↓] theorem un193 {q : TypeDesc → Prop} : goUnd Try.prog 193 q = q (Go.TypeDesc.int Go.IntKind.u64) := by simp only [goUnd, und193]
theorem agg194 : aggT Try.prog 194 = some false := by unfold aggT; rw [Try.underlying194]; rfl
@[simp] theorem siz194 : szT Try.prog 194 = some 1 := by unfold szT; rw [show Try.prog.info? 194 = some Try.t194 from Try.type194]; rfl
@[simp ↓] theorem ty194 {q : Bool → Nat → Prop} : goTy Try.prog 194 q = q false 1 := by simp only [goTy, agg194, siz194]
@[simp ↓] theorem sz194 {q : Nat → Prop} : goSz Try.prog 194 q = q 1 := by simp only [goSz, siz194]
theorem zer194 : zero? Try.prog 194 = some Go.Value.nilFunc := by unfold zero?; rw [show Try.prog.info? 194 = some Try.t194 from Try.type194]; rfl
@[simp ↓] theorem z194 {q : List Value → Prop} : goZ Try.prog 194 q = q [Go.Value.nilFunc] := by simp [goZ, zer194, Value.cells]
theorem agg195 : aggT Try.prog 195 = some false := by unfold aggT; rw [Try.underlying195]; rfl
@[simp] theorem siz195 : szT Try.prog 195 = some 1 := by unfold szT; rw [show Try.prog.info? 195 = some Try.t195 from Try.type195]; rfl
@[simp ↓] theorem ty195 {q : Bool → Nat → Prop} : goTy Try.prog 195 q = q false 1 := by simp only [goTy, agg195, siz195]
@[simp ↓] theorem sz195 {q : Nat → Prop} : goSz Try.prog 195 q = q 1 := by simp only [goSz, siz195]
theorem zer195 : zero? Try.prog 195 = some Go.Value.nilFunc := by unfold zero?; rw [show Try.prog.info? 195 = some Try.t195 from Try.type195]; rfl
@[simp ↓] theorem z195 {q : List Value → Prop} : goZ Try.prog 195 q = q [Go.Value.nilFunc] := by simp [goZ, zer195, Value.cells]
theorem agg196 : aggT Try.prog 196 = some false := by unfold aggT; rw [Try.underlying196]; rfl
@[simp] theorem siz196 : szT Try.prog 196 = some 1 := by unfold szT; rw [show Try.prog.info? 196 = some Try.t196 from Try.type196]; rfl
@[simp ↓] theorem ty196 {q : Bool → Nat → Prop} : goTy Try.prog 196 q = q false 1 := by simp only [goTy, agg196, siz196]
@[simp ↓] theorem sz196 {q : Nat → Prop} : goSz Try.prog 196 q = q 1 := by simp only [goSz, siz196]
theorem zer196 : zero? Try.prog 196 = some Go.Value.nilFunc := by unfold zero?; rw [show Try.prog.info? 196 = some Try.t196 from Try.type196]; rfl
@[simp ↓] theorem z196 {q : List Value → Prop} : goZ Try.prog 196 q = q [Go.Value.nilFunc] := by simp [goZ, zer196, Value.cells]
theorem agg197 : aggT Try.prog 197 = some false := by unfold aggT; rw [Try.underlying197]; rfl
@[simp] theorem siz197 : szT Try.prog 197 = some 1 := by unfold szT; rw [show Try.prog.info? 197 = some Try.t197 from Try.type197]; rfl
@[simp ↓] theorem ty197 {q : Bool → Nat → Prop} : goTy Try.prog 197 q = q false 1 := by simp only [goTy, agg197, siz197]
@[simp ↓] theorem sz197 {q : Nat → Prop} : goSz Try.prog 197 q = q 1 := by simp only [goSz, siz197]
theorem zer197 : zero? Try.prog 197 = some (Go.Value.pointer none) := by unfold zero?; rw [show Try.prog.info? 197 = some Try.t197 from Try.type197]; rfl
@[simp ↓] theorem z197 {q : List Value → Prop} : goZ Try.prog 197 q = q [(Go.Value.pointer none)] := by simp [goZ, zer197, Value.cells]
@[simp] theorem und197 : Try.prog.underlying 197 = some (Go.TypeDesc.pointer 3) := opq Try.underlying197
@[simp ↓] theorem un197 {q : TypeDesc → Prop} : goUnd Try.prog 197 q = q (Go.TypeDesc.pointer 3) := by simp only [goUnd, und197]
theorem agg198 : aggT Try.prog 198 = some false := by unfold aggT; rw [Try.underlying198]; rfl
@[simp] theorem siz198 : szT Try.prog 198 = some 1 := by unfold szT; rw [show Try.prog.info? 198 = some Try.t198 from Try.type198]; rfl
@[simp ↓] theorem ty198 {q : Bool → Nat → Prop} : goTy Try.prog 198 q = q false 1 := by simp only [goTy, agg198, siz198]
@[simp ↓] theorem sz198 {q : Nat → Prop} : goSz Try.prog 198 q = q 1 := by simp only [goSz, siz198]
theorem zer198 : zero? Try.prog 198 = some Go.Value.nilFunc := by unfold zero?; rw [show Try.prog.info? 198 = some Try.t198 from Try.type198]; rfl
@[simp ↓] theorem z198 {q : List Value → Prop} : goZ Try.prog 198 q = q [Go.Value.nilFunc] := by simp [goZ, zer198, Value.cells]
theorem agg199 : aggT Try.prog 199 = some false := by unfold aggT; rw [Try.underlying199]; rfl
@[simp] theorem siz199 : szT Try.prog 199 = some 1 := by unfold szT; rw [show Try.prog.info? 199 = some Try.t199 from Try.type199]; rfl
@[simp ↓] theorem ty199 {q : Bool → Nat → Prop} : goTy Try.prog 199 q = q false 1 := by simp only [goTy, agg199, siz199]
@[simp ↓] theorem sz199 {q : Nat → Prop} : goSz Try.prog 199 q = q 1 := by simp only [goSz, siz199]
theorem zer199 : zero? Try.prog 199 = some (Go.Value.pointer none) := by unfold zero?; rw [show Try.prog.info? 199 = some Try.t199 from Try.type199]; rfl
@[simp ↓] theorem z199 {q : List Value → Prop} : goZ Try.prog 199 q = q [(Go.Value.pointer none)] := by simp [goZ, zer199, Value.cells]
@[simp] theorem und199 : Try.prog.underlying 199 = some (Go.TypeDesc.pointer 193) := opq Try.underlying199
@[simp ↓] theorem un199 {q : TypeDesc → Prop} : goUnd Try.prog 199 q = q (Go.TypeDesc.pointer 193) := by simp only [goUnd, und199]
theorem agg200 : aggT Try.prog 200 = some false := by unfold aggT; rw [Try.underlying200]; rfl
@[simp] theorem siz200 : szT Try.prog 200 = some 1 := by unfold szT; rw [show Try.prog.info? 200 = some Try.t200 from Try.type200]; rfl
@[simp ↓] theorem ty200 {q : Bool → Nat → Prop} : goTy Try.prog 200 q = q false 1 := by simp only [goTy, agg200, siz200]
@[simp ↓] theorem sz200 {q : Nat → Prop} : goSz Try.prog 200 q = q 1 := by simp only [goSz, siz200]
theorem zer200 : zero? Try.prog 200 = some Go.Value.nilFunc := by unfold zero?; rw [show Try.prog.info? 200 = some Try.t200 from Try.type200]; rfl
@[simp ↓] theorem z200 {q : List Value → Prop} : goZ Try.prog 200 q = q [Go.Value.nilFunc] := by simp [goZ, zer200, Value.cells]
theorem agg201 : aggT Try.prog 201 = some false := by unfold aggT; rw [Try.underlying201]; rfl
@[simp] theorem siz201 : szT Try.prog 201 = some 1 := by unfold szT; rw [show Try.prog.info? 201 = some Try.t201 from Try.type201]; rfl
@[simp ↓] theorem ty201 {q : Bool → Nat → Prop} : goTy Try.prog 201 q = q false 1 := by simp only [goTy, agg201, siz201]
@[simp ↓] theorem sz201 {q : Nat → Prop} : goSz Try.prog 201 q = q 1 := by simp only [goSz, siz201]
theorem zer201 : zero? Try.prog 201 = some Go.Value.nilFunc := by unfold zero?; rw [show Try.prog.info? 201 = some Try.t201 from Try.type201]; rfl
@[simp ↓] theorem z201 {q : List Value → Prop} : goZ Try.prog 201 q = q [Go.Value.nilFunc] := by simp [goZ, zer201, Value.cells]
theorem agg202 : aggT Try.prog 202 = some true := by unfold aggT; rw [Try.underlying202]; rfl
@[simp] theorem siz202 : szT Try.prog 202 = some 4 := by unfold szT; rw [show Try.prog.info? 202 = some Try.t202 from Try.type202]; rfl
@[simp ↓] theorem ty202 {q : Bool → Nat → Prop} : goTy Try.prog 202 q = q true 4 := by simp only [goTy, agg202, siz202]
@[simp ↓] theorem sz202 {q : Nat → Prop} : goSz Try.prog 202 q = q 4 := by simp only [goSz, siz202]
theorem zer202 : zero? Try.prog 202 = some
  (Go.Value.agg #[Go.Value.pointer none, Go.Value.pointer none, Go.Value.pointer none, Go.Value.string { data := #[] }]) := by unfold zero?; rw [show Try.prog.info? 202 = some Try.t202 from Try.type202]; rfl
@[simp ↓] theorem z202 {q : List Value → Prop} : goZ Try.prog 202 q = q [Go.Value.pointer none, Go.Value.pointer none, Go.Value.pointer none, Go.Value.string { data := #[] }] := by simp [goZ, zer202, Value.cells]
@[simp] theorem und202 : Try.prog.underlying 202 = some (Go.TypeDesc.struct
  #[{ name := "_interface", type := 17, offset := 0, embedded := false, tag := "", pkgPath := "runtime",
      byteOffset := 0 },
    { name := "concrete", type := 17, offset := 1, embedded := false, tag := "", pkgPath := "runtime",
      byteOffset := 8 },
    { name := "asserted", type := 17, offset := 2, embedded := false, tag := "", pkgPath := "runtime",
      byteOffset := 16 },
    { name := "missingMethod", type := 9, offset := 3, embedded := false, tag := "", pkgPath := "runtime",
      byteOffset := 24 }]) := opq Try.underlying202
@[simp ↓] theorem fld202_0 {q : Nat → TypeId → Prop} : goFld Try.prog 202 0 q = q 0 17 := by simp only [goFld, und202]; rfl
@[simp ↓] theorem fld202_1 {q : Nat → TypeId → Prop} : goFld Try.prog 202 1 q = q 1 17 := by simp only [goFld, und202]; rfl
@[simp ↓] theorem fld202_2 {q : Nat → TypeId → Prop} : goFld Try.prog 202 2 q = q 2 17 := by simp only [goFld, und202]; rfl
@[simp ↓] theorem fld202_3 {q : Nat → TypeId → Prop} : goFld Try.prog 202 3 q = q 3 9 := by simp only [goFld, und202]; rfl
@[simp ↓] theorem bld202 {q : List Value → List (Nat × Nat) → Prop} : goBld Try.prog 202 q = q [Go.Value.pointer none, Go.Value.pointer none, Go.Value.pointer none, Go.Value.string { data := #[] }] [(0, 1), (1, 1), (2, 1), (3, 1)] := by simp [goBld, und202, zer202, placesL, Value.cells]
theorem agg203 : aggT Try.prog 203 = some true := by unfold aggT; rw [Try.underlying203]; rfl
@[simp] theorem siz203 : szT Try.prog 203 = some 4 := by unfold szT; rw [show Try.prog.info? 203 = some Try.t203 from Try.type203]; rfl
@[simp ↓] theorem ty203 {q : Bool → Nat → Prop} : goTy Try.prog 203 q = q true 4 := by simp only [goTy, agg203, siz203]
@[simp ↓] theorem sz203 {q : Nat → Prop} : goSz Try.prog 203 q = q 4 := by simp only [goSz, siz203]
theorem zer203 : zero? Try.prog 203 = some
  (Go.Value.agg #[Go.Value.pointer none, Go.Value.pointer none, Go.Value.pointer none, Go.Value.string { data := #[] }]) := by unfold zero?; rw [show Try.prog.info? 203 = some Try.t203 from Try.type203]; rfl
@[simp ↓] theorem z203 {q : List Value → Prop} : goZ Try.prog 203 q = q [Go.Value.pointer none, Go.Value.pointer none, Go.Value.pointer none, Go.Value.string { data := #[] }] := by simp [goZ, zer203, Value.cells]
@[simp] theorem und203 : Try.prog.underlying 203 = some (Go.TypeDesc.struct
  #[{ name := "_interface", type := 17, offset := 0, embedded := false, tag := "", pkgPath := "runtime",
      byteOffset := 0 },
    { name := "concrete", type := 17, offset := 1, embedded := false, tag := "", pkgPath := "runtime",
      byteOffset := 8 },
    { name := "asserted", type := 17, offset := 2, embedded := false, tag := "", pkgPath := "runtime",
      byteOffset := 16 },
    { name := "missingMethod", type := 9, offset := 3, embedded := false, tag := "", pkgPath := "runtime",
      byteOffset := 24 }]) := opq Try.underlying203
@[simp ↓] theorem fld203_0 {q : Nat → TypeId → Prop} : goFld Try.prog 203 0 q = q 0 17 := by simp only [goFld, und203]; rfl
@[simp ↓] theorem fld203_1 {q : Nat → TypeId → Prop} : goFld Try.prog 203 1 q = q 1 17 := by simp only [goFld, und203]; rfl
@[simp ↓] theorem fld203_2 {q : Nat → TypeId → Prop} : goFld Try.prog 203 2 q = q 2 17 := by simp only [goFld, und203]; rfl
@[simp ↓] theorem fld203_3 {q : Nat → TypeId → Prop} : goFld Try.prog 203 3 q = q 3 9 := by simp only [goFld, und203]; rfl
@[simp ↓] theorem bld203 {q : List Value → List (Nat × Nat) → Prop} : goBld Try.prog 203 q = q [Go.Value.pointer none, Go.Value.pointer none, Go.Value.pointer none, Go.Value.string { data := #[] }] [(0, 1), (1, 1), (2, 1), (3, 1)] := by simp [goBld, und203, zer203, placesL, Value.cells]
theorem agg204 : aggT Try.prog 204 = some true := by unfold aggT; rw [Try.underlying204]; rfl
@[simp] theorem siz204 : szT Try.prog 204 = some 0 := by unfold szT; rw [show Try.prog.info? 204 = some Try.t204 from Try.type204]; rfl
@[simp ↓] theorem ty204 {q : Bool → Nat → Prop} : goTy Try.prog 204 q = q true 0 := by simp only [goTy, agg204, siz204]
@[simp ↓] theorem sz204 {q : Nat → Prop} : goSz Try.prog 204 q = q 0 := by simp only [goSz, siz204]
theorem zer204 : zero? Try.prog 204 = some (Go.Value.agg #[]) := by unfold zero?; rw [show Try.prog.info? 204 = some Try.t204 from Try.type204]; rfl
@[simp ↓] theorem z204 {q : List Value → Prop} : goZ Try.prog 204 q = q [] := by simp [goZ, zer204, Value.cells]
@[simp] theorem und204 : Try.prog.underlying 204 = some (Go.TypeDesc.array 0 16) := opq Try.underlying204
@[simp ↓] theorem un204 {q : TypeDesc → Prop} : goUnd Try.prog 204 q = q (Go.TypeDesc.array 0 16) := by simp only [goUnd, und204]
theorem agg205 : aggT Try.prog 205 = some true := by unfold aggT; rw [Try.underlying205]; rfl
@[simp] theorem siz205 : szT Try.prog 205 = some 0 := by unfold szT; rw [show Try.prog.info? 205 = some Try.t205 from Try.type205]; rfl
@[simp ↓] theorem ty205 {q : Bool → Nat → Prop} : goTy Try.prog 205 q = q true 0 := by simp only [goTy, agg205, siz205]
@[simp ↓] theorem sz205 {q : Nat → Prop} : goSz Try.prog 205 q = q 0 := by simp only [goSz, siz205]
theorem zer205 : zero? Try.prog 205 = some (Go.Value.agg #[]) := by unfold zero?; rw [show Try.prog.info? 205 = some Try.t205 from Try.type205]; rfl
@[simp ↓] theorem z205 {q : List Value → Prop} : goZ Try.prog 205 q = q [] := by simp [goZ, zer205, Value.cells]
@[simp] theorem und205 : Try.prog.underlying 205 = some (Go.TypeDesc.struct
  #[{ name := "_", type := 204, offset := 0, embedded := false, tag := "", pkgPath := "runtime", byteOffset := 0 }]) := opq Try.underlying205
@[simp ↓] theorem fld205_0 {q : Nat → TypeId → Prop} : goFld Try.prog 205 0 q = q 0 204 := by simp only [goFld, und205]; rfl
@[simp ↓] theorem bld205 {q : List Value → List (Nat × Nat) → Prop} : goBld Try.prog 205 q = q [] [(0, 0)] := by simp [goBld, und205, zer205, placesL, Value.cells]
theorem agg206 : aggT Try.prog 206 = some true := by unfold aggT; rw [Try.underlying206]; rfl
@[simp] theorem siz206 : szT Try.prog 206 = some 0 := by unfold szT; rw [show Try.prog.info? 206 = some Try.t206 from Try.type206]; rfl
@[simp ↓] theorem ty206 {q : Bool → Nat → Prop} : goTy Try.prog 206 q = q true 0 := by simp only [goTy, agg206, siz206]
@[simp ↓] theorem sz206 {q : Nat → Prop} : goSz Try.prog 206 q = q 0 := by simp only [goSz, siz206]
theorem zer206 : zero? Try.prog 206 = some (Go.Value.agg #[]) := by unfold zero?; rw [show Try.prog.info? 206 = some Try.t206 from Try.type206]; rfl
@[simp ↓] theorem z206 {q : List Value → Prop} : goZ Try.prog 206 q = q [] := by simp [goZ, zer206, Value.cells]
@[simp] theorem und206 : Try.prog.underlying 206 = some (Go.TypeDesc.struct
  #[{ name := "_", type := 204, offset := 0, embedded := false, tag := "", pkgPath := "runtime", byteOffset := 0 }]) := opq Try.underlying206
@[simp ↓] theorem fld206_0 {q : Nat → TypeId → Prop} : goFld Try.prog 206 0 q = q 0 204 := by simp only [goFld, und206]; rfl
@[simp ↓] theorem bld206 {q : List Value → List (Nat × Nat) → Prop} : goBld Try.prog 206 q = q [] [(0, 0)] := by simp [goBld, und206, zer206, placesL, Value.cells]
theorem agg207 : aggT Try.prog 207 = some false := by unfold aggT; rw [Try.underlying207]; rfl
@[simp] theorem siz207 : szT Try.prog 207 = some 1 := by unfold szT; rw [show Try.prog.info? 207 = some Try.t207 from Try.type207]; rfl
@[simp ↓] theorem ty207 {q : Bool → Nat → Prop} : goTy Try.prog 207 q = q false 1 := by simp only [goTy, agg207, siz207]
@[simp ↓] theorem sz207 {q : Nat → Prop} : goSz Try.prog 207 q = q 1 := by simp only [goSz, siz207]
theorem zer207 : zero? Try.prog 207 = some Go.Value.nilFunc := by unfold zero?; rw [show Try.prog.info? 207 = some Try.t207 from Try.type207]; rfl
@[simp ↓] theorem z207 {q : List Value → Prop} : goZ Try.prog 207 q = q [Go.Value.nilFunc] := by simp [goZ, zer207, Value.cells]
theorem agg208 : aggT Try.prog 208 = some false := by unfold aggT; rw [Try.underlying208]; rfl
@[simp] theorem siz208 : szT Try.prog 208 = some 1 := by unfold szT; rw [show Try.prog.info? 208 = some Try.t208 from Try.type208]; rfl
@[simp ↓] theorem ty208 {q : Bool → Nat → Prop} : goTy Try.prog 208 q = q false 1 := by simp only [goTy, agg208, siz208]
@[simp ↓] theorem sz208 {q : Nat → Prop} : goSz Try.prog 208 q = q 1 := by simp only [goSz, siz208]
theorem zer208 : zero? Try.prog 208 = some (Go.Value.int Go.IntKind.u8 0) := by unfold zero?; rw [show Try.prog.info? 208 = some Try.t208 from Try.type208]; rfl
@[simp ↓] theorem z208 {q : List Value → Prop} : goZ Try.prog 208 q = q [(Go.Value.int Go.IntKind.u8 0)] := by simp [goZ, zer208, Value.cells]
@[simp] theorem und208 : Try.prog.underlying 208 = some (Go.TypeDesc.int Go.IntKind.u8) := opq Try.underlying208
@[simp ↓] theorem un208 {q : TypeDesc → Prop} : goUnd Try.prog 208 q = q (Go.TypeDesc.int Go.IntKind.u8) := by simp only [goUnd, und208]
theorem agg209 : aggT Try.prog 209 = some false := by unfold aggT; rw [Try.underlying209]; rfl
@[simp] theorem siz209 : szT Try.prog 209 = some 1 := by unfold szT; rw [show Try.prog.info? 209 = some Try.t209 from Try.type209]; rfl
@[simp ↓] theorem ty209 {q : Bool → Nat → Prop} : goTy Try.prog 209 q = q false 1 := by simp only [goTy, agg209, siz209]
@[simp ↓] theorem sz209 {q : Nat → Prop} : goSz Try.prog 209 q = q 1 := by simp only [goSz, siz209]
theorem zer209 : zero? Try.prog 209 = some (Go.Value.int Go.IntKind.u8 0) := by unfold zero?; rw [show Try.prog.info? 209 = some Try.t209 from Try.type209]; rfl
@[simp ↓] theorem z209 {q : List Value → Prop} : goZ Try.prog 209 q = q [(Go.Value.int Go.IntKind.u8 0)] := by simp [goZ, zer209, Value.cells]
@[simp] theorem und209 : Try.prog.underlying 209 = some (Go.TypeDesc.int Go.IntKind.u8) := opq Try.underlying209
@[simp ↓] theorem un209 {q : TypeDesc → Prop} : goUnd Try.prog 209 q = q (Go.TypeDesc.int Go.IntKind.u8) := by simp only [goUnd, und209]
theorem agg210 : aggT Try.prog 210 = some false := by unfold aggT; rw [Try.underlying210]; rfl
@[simp] theorem siz210 : szT Try.prog 210 = some 1 := by unfold szT; rw [show Try.prog.info? 210 = some Try.t210 from Try.type210]; rfl
@[simp ↓] theorem ty210 {q : Bool → Nat → Prop} : goTy Try.prog 210 q = q false 1 := by simp only [goTy, agg210, siz210]
@[simp ↓] theorem sz210 {q : Nat → Prop} : goSz Try.prog 210 q = q 1 := by simp only [goSz, siz210]
theorem zer210 : zero? Try.prog 210 = some Go.Value.nilFunc := by unfold zero?; rw [show Try.prog.info? 210 = some Try.t210 from Try.type210]; rfl
@[simp ↓] theorem z210 {q : List Value → Prop} : goZ Try.prog 210 q = q [Go.Value.nilFunc] := by simp [goZ, zer210, Value.cells]
theorem agg211 : aggT Try.prog 211 = some false := by unfold aggT; rw [Try.underlying211]; rfl
@[simp] theorem siz211 : szT Try.prog 211 = some 1 := by unfold szT; rw [show Try.prog.info? 211 = some Try.t211 from Try.type211]; rfl
@[simp ↓] theorem ty211 {q : Bool → Nat → Prop} : goTy Try.prog 211 q = q false 1 := by simp only [goTy, agg211, siz211]
@[simp ↓] theorem sz211 {q : Nat → Prop} : goSz Try.prog 211 q = q 1 := by simp only [goSz, siz211]
theorem zer211 : zero? Try.prog 211 = some (Go.Value.pointer none) := by unfold zero?; rw [show Try.prog.info? 211 = some Try.t211 from Try.type211]; rfl
@[simp ↓] theorem z211 {q : List Value → Prop} : goZ Try.prog 211 q = q [(Go.Value.pointer none)] := by simp [goZ, zer211, Value.cells]
@[simp] theorem und211 : Try.prog.underlying 211 = some (Go.TypeDesc.pointer 5) := opq Try.underlying211
@[simp ↓] theorem un211 {q : TypeDesc → Prop} : goUnd Try.prog 211 q = q (Go.TypeDesc.pointer 5) := by simp only [goUnd, und211]
theorem agg212 : aggT Try.prog 212 = some false := by unfold aggT; rw [Try.underlying212]; rfl
@[simp] theorem siz212 : szT Try.prog 212 = some 1 := by unfold szT; rw [show Try.prog.info? 212 = some Try.t212 from Try.type212]; rfl
@[simp ↓] theorem ty212 {q : Bool → Nat → Prop} : goTy Try.prog 212 q = q false 1 := by simp only [goTy, agg212, siz212]
@[simp ↓] theorem sz212 {q : Nat → Prop} : goSz Try.prog 212 q = q 1 := by simp only [goSz, siz212]
theorem zer212 : zero? Try.prog 212 = some (Go.Value.int Go.IntKind.i32 0) := by unfold zero?; rw [show Try.prog.info? 212 = some Try.t212 from Try.type212]; rfl
@[simp ↓] theorem z212 {q : List Value → Prop} : goZ Try.prog 212 q = q [(Go.Value.int Go.IntKind.i32 0)] := by simp [goZ, zer212, Value.cells]
@[simp] theorem und212 : Try.prog.underlying 212 = some (Go.TypeDesc.int Go.IntKind.i32) := opq Try.underlying212
@[simp ↓] theorem un212 {q : TypeDesc → Prop} : goUnd Try.prog 212 q = q (Go.TypeDesc.int Go.IntKind.i32) := by simp only [goUnd, und212]
theorem agg213 : aggT Try.prog 213 = some false := by unfold aggT; rw [Try.underlying213]; rfl
@[simp] theorem siz213 : szT Try.prog 213 = some 1 := by unfold szT; rw [show Try.prog.info? 213 = some Try.t213 from Try.type213]; rfl
@[simp ↓] theorem ty213 {q : Bool → Nat → Prop} : goTy Try.prog 213 q = q false 1 := by simp only [goTy, agg213, siz213]
@[simp ↓] theorem sz213 {q : Nat → Prop} : goSz Try.prog 213 q = q 1 := by simp only [goSz, siz213]
theorem zer213 : zero? Try.prog 213 = some (Go.Value.int Go.IntKind.i32 0) := by unfold zero?; rw [show Try.prog.info? 213 = some Try.t213 from Try.type213]; rfl
@[simp ↓] theorem z213 {q : List Value → Prop} : goZ Try.prog 213 q = q [(Go.Value.int Go.IntKind.i32 0)] := by simp [goZ, zer213, Value.cells]
@[simp] theorem und213 : Try.prog.underlying 213 = some (Go.TypeDesc.int Go.IntKind.i32) := opq Try.underlying213
@[simp ↓] theorem un213 {q : TypeDesc → Prop} : goUnd Try.prog 213 q = q (Go.TypeDesc.int Go.IntKind.i32) := by simp only [goUnd, und213]
theorem agg214 : aggT Try.prog 214 = some true := by unfold aggT; rw [Try.underlying214]; rfl
@[simp] theorem siz214 : szT Try.prog 214 = some 11 := by unfold szT; rw [show Try.prog.info? 214 = some Try.t214 from Try.type214]; rfl
@[simp ↓] theorem ty214 {q : Bool → Nat → Prop} : goTy Try.prog 214 q = q true 11 := by simp only [goTy, agg214, siz214]
@[simp ↓] theorem sz214 {q : Nat → Prop} : goSz Try.prog 214 q = q 11 := by simp only [goSz, siz214]
theorem zer214 : zero? Try.prog 214 = some
  (Go.Value.agg
    #[Go.Value.int Go.IntKind.u64 0, Go.Value.int Go.IntKind.u64 0, Go.Value.int Go.IntKind.u32 0,
      Go.Value.int Go.IntKind.u8 0, Go.Value.int Go.IntKind.u8 0, Go.Value.int Go.IntKind.u8 0,
      Go.Value.int Go.IntKind.u8 0, Go.Value.nilFunc, Go.Value.pointer none, Go.Value.int Go.IntKind.i32 0,
      Go.Value.int Go.IntKind.i32 0]) := by unfold zero?; rw [show Try.prog.info? 214 = some Try.t214 from Try.type214]; rfl
@[simp ↓] theorem z214 {q : List Value → Prop} : goZ Try.prog 214 q = q [Go.Value.int Go.IntKind.u64 0, Go.Value.int Go.IntKind.u64 0, Go.Value.int Go.IntKind.u32 0,
      Go.Value.int Go.IntKind.u8 0, Go.Value.int Go.IntKind.u8 0, Go.Value.int Go.IntKind.u8 0,
      Go.Value.int Go.IntKind.u8 0, Go.Value.nilFunc, Go.Value.pointer none, Go.Value.int Go.IntKind.i32 0,
      Go.Value.int Go.IntKind.i32 0] := by simp [goZ, zer214, Value.cells]
@[simp] theorem und214 : Try.prog.underlying 214 = some (Go.TypeDesc.struct
  #[{ name := "Size_", type := 12, offset := 0, embedded := false, tag := "", pkgPath := "", byteOffset := 0 },
    { name := "PtrBytes", type := 12, offset := 1, embedded := false, tag := "", pkgPath := "", byteOffset := 8 },
    { name := "Hash", type := 190, offset := 2, embedded := false, tag := "", pkgPath := "", byteOffset := 16 },
    { name := "TFlag", type := 208, offset := 3, embedded := false, tag := "", pkgPath := "", byteOffset := 20 },
    { name := "Align_", type := 5, offset := 4, embedded := false, tag := "", pkgPath := "", byteOffset := 21 },
    { name := "FieldAlign_", type := 5, offset := 5, embedded := false, tag := "", pkgPath := "", byteOffset := 22 },
    { name := "Kind_", type := 209, offset := 6, embedded := false, tag := "", pkgPath := "", byteOffset := 23 },
    { name := "Equal", type := 210, offset := 7, embedded := false, tag := "", pkgPath := "", byteOffset := 24 },
    { name := "GCData", type := 211, offset := 8, embedded := false, tag := "", pkgPath := "", byteOffset := 32 },
    { name := "Str", type := 212, offset := 9, embedded := false, tag := "", pkgPath := "", byteOffset := 40 },
    { name := "PtrToThis", type := 213, offset := 10, embedded := false, tag := "", pkgPath := "", byteOffset := 44 }]) := opq Try.underlying214
@[simp ↓] theorem fld214_0 {q : Nat → TypeId → Prop} : goFld Try.prog 214 0 q = q 0 12 := by simp only [goFld, und214]; rfl
@[simp ↓] theorem fld214_1 {q : Nat → TypeId → Prop} : goFld Try.prog 214 1 q = q 1 12 := by simp only [goFld, und214]; rfl
@[simp ↓] theorem fld214_2 {q : Nat → TypeId → Prop} : goFld Try.prog 214 2 q = q 2 190 := by simp only [goFld, und214]; rfl
@[simp ↓] theorem fld214_3 {q : Nat → TypeId → Prop} : goFld Try.prog 214 3 q = q 3 208 := by simp only [goFld, und214]; rfl
@[simp ↓] theorem fld214_4 {q : Nat → TypeId → Prop} : goFld Try.prog 214 4 q = q 4 5 := by simp only [goFld, und214]; rfl
@[simp ↓] theorem fld214_5 {q : Nat → TypeId → Prop} : goFld Try.prog 214 5 q = q 5 5 := by simp only [goFld, und214]; rfl
@[simp ↓] theorem fld214_6 {q : Nat → TypeId → Prop} : goFld Try.prog 214 6 q = q 6 209 := by simp only [goFld, und214]; rfl
@[simp ↓] theorem fld214_7 {q : Nat → TypeId → Prop} : goFld Try.prog 214 7 q = q 7 210 := by simp only [goFld, und214]; rfl
@[simp ↓] theorem fld214_8 {q : Nat → TypeId → Prop} : goFld Try.prog 214 8 q = q 8 211 := by simp only [goFld, und214]; rfl
@[simp ↓] theorem fld214_9 {q : Nat → TypeId → Prop} : goFld Try.prog 214 9 q = q 9 212 := by simp only [goFld, und214]; rfl
@[simp ↓] theorem fld214_10 {q : Nat → TypeId → Prop} : goFld Try.prog 214 10 q = q 10 213 := by simp only [goFld, und214]; rfl
@[simp ↓] theorem bld214 {q : List Value → List (Nat × Nat) → Prop} : goBld Try.prog 214 q = q [Go.Value.int Go.IntKind.u64 0, Go.Value.int Go.IntKind.u64 0, Go.Value.int Go.IntKind.u32 0,
      Go.Value.int Go.IntKind.u8 0, Go.Value.int Go.IntKind.u8 0, Go.Value.int Go.IntKind.u8 0,
      Go.Value.int Go.IntKind.u8 0, Go.Value.nilFunc, Go.Value.pointer none, Go.Value.int Go.IntKind.i32 0,
      Go.Value.int Go.IntKind.i32 0] [(0, 1), (1, 1), (2, 1), (3, 1), (4, 1), (5, 1), (6, 1), (7, 1), (8, 1), (9, 1), (10, 1)] := by simp [goBld, und214, zer214, placesL, Value.cells]
theorem agg215 : aggT Try.prog 215 = some true := by unfold aggT; rw [Try.underlying215]; rfl
@[simp] theorem siz215 : szT Try.prog 215 = some 11 := by unfold szT; rw [show Try.prog.info? 215 = some Try.t215 from Try.type215]; rfl
@[simp ↓] theorem ty215 {q : Bool → Nat → Prop} : goTy Try.prog 215 q = q true 11 := by simp only [goTy, agg215, siz215]
@[simp ↓] theorem sz215 {q : Nat → Prop} : goSz Try.prog 215 q = q 11 := by simp only [goSz, siz215]
theorem zer215 : zero? Try.prog 215 = some
  (Go.Value.agg
    #[Go.Value.int Go.IntKind.u64 0, Go.Value.int Go.IntKind.u64 0, Go.Value.int Go.IntKind.u32 0,
      Go.Value.int Go.IntKind.u8 0, Go.Value.int Go.IntKind.u8 0, Go.Value.int Go.IntKind.u8 0,
      Go.Value.int Go.IntKind.u8 0, Go.Value.nilFunc, Go.Value.pointer none, Go.Value.int Go.IntKind.i32 0,
      Go.Value.int Go.IntKind.i32 0]) := by unfold zero?; rw [show Try.prog.info? 215 = some Try.t215 from Try.type215]; rfl
@[simp ↓] theorem z215 {q : List Value → Prop} : goZ Try.prog 215 q = q [Go.Value.int Go.IntKind.u64 0, Go.Value.int Go.IntKind.u64 0, Go.Value.int Go.IntKind.u32 0,
      Go.Value.int Go.IntKind.u8 0, Go.Value.int Go.IntKind.u8 0, Go.Value.int Go.IntKind.u8 0,
      Go.Value.int Go.IntKind.u8 0, Go.Value.nilFunc, Go.Value.pointer none, Go.Value.int Go.IntKind.i32 0,
      Go.Value.int Go.IntKind.i32 0] := by simp [goZ, zer215, Value.cells]
@[simp] theorem und215 : Try.prog.underlying 215 = some (Go.TypeDesc.struct
  #[{ name := "Size_", type := 12, offset := 0, embedded := false, tag := "", pkgPath := "", byteOffset := 0 },
    { name := "PtrBytes", type := 12, offset := 1, embedded := false, tag := "", pkgPath := "", byteOffset := 8 },
    { name := "Hash", type := 190, offset := 2, embedded := false, tag := "", pkgPath := "", byteOffset := 16 },
    { name := "TFlag", type := 208, offset := 3, embedded := false, tag := "", pkgPath := "", byteOffset := 20 },
    { name := "Align_", type := 5, offset := 4, embedded := false, tag := "", pkgPath := "", byteOffset := 21 },
    { name := "FieldAlign_", type := 5, offset := 5, embedded := false, tag := "", pkgPath := "", byteOffset := 22 },
    { name := "Kind_", type := 209, offset := 6, embedded := false, tag := "", pkgPath := "", byteOffset := 23 },
    { name := "Equal", type := 210, offset := 7, embedded := false, tag := "", pkgPath := "", byteOffset := 24 },
    { name := "GCData", type := 211, offset := 8, embedded := false, tag := "", pkgPath := "", byteOffset := 32 },
    { name := "Str", type := 212, offset := 9, embedded := false, tag := "", pkgPath := "", byteOffset := 40 },
    { name := "PtrToThis", type := 213, offset := 10, embedded := false, tag := "", pkgPath := "", byteOffset := 44 }]) := opq Try.underlying215
@[simp ↓] theorem fld215_0 {q : Nat → TypeId → Prop} : goFld Try.prog 215 0 q = q 0 12 := by simp only [goFld, und215]; rfl
@[simp ↓] theorem fld215_1 {q : Nat → TypeId → Prop} : goFld Try.prog 215 1 q = q 1 12 := by simp only [goFld, und215]; rfl
@[simp ↓] theorem fld215_2 {q : Nat → TypeId → Prop} : goFld Try.prog 215 2 q = q 2 190 := by simp only [goFld, und215]; rfl
@[simp ↓] theorem fld215_3 {q : Nat → TypeId → Prop} : goFld Try.prog 215 3 q = q 3 208 := by simp only [goFld, und215]; rfl
@[simp ↓] theorem fld215_4 {q : Nat → TypeId → Prop} : goFld Try.prog 215 4 q = q 4 5 := by simp only [goFld, und215]; rfl
@[simp ↓] theorem fld215_5 {q : Nat → TypeId → Prop} : goFld Try.prog 215 5 q = q 5 5 := by simp only [goFld, und215]; rfl
@[simp ↓] theorem fld215_6 {q : Nat → TypeId → Prop} : goFld Try.prog 215 6 q = q 6 209 := by simp only [goFld, und215]; rfl
@[simp ↓] theorem fld215_7 {q : Nat → TypeId → Prop} : goFld Try.prog 215 7 q = q 7 210 := by simp only [goFld, und215]; rfl
@[simp ↓] theorem fld215_8 {q : Nat → TypeId → Prop} : goFld Try.prog 215 8 q = q 8 211 := by simp only [goFld, und215]; rfl
@[simp ↓] theorem fld215_9 {q : Nat → TypeId → Prop} : goFld Try.prog 215 9 q = q 9 212 := by simp only [goFld, und215]; rfl
@[simp ↓] theorem fld215_10 {q : Nat → TypeId → Prop} : goFld Try.prog 215 10 q = q 10 213 := by simp only [goFld, und215]; rfl
@[simp ↓] theorem bld215 {q : List Value → List (Nat × Nat) → Prop} : goBld Try.prog 215 q = q [Go.Value.int Go.IntKind.u64 0, Go.Value.int Go.IntKind.u64 0, Go.Value.int Go.IntKind.u32 0,
      Go.Value.int Go.IntKind.u8 0, Go.Value.int Go.IntKind.u8 0, Go.Value.int Go.IntKind.u8 0,
      Go.Value.int Go.IntKind.u8 0, Go.Value.nilFunc, Go.Value.pointer none, Go.Value.int Go.IntKind.i32 0,
      Go.Value.int Go.IntKind.i32 0] [(0, 1), (1, 1), (2, 1), (3, 1), (4, 1), (5, 1), (6, 1), (7, 1), (8, 1), (9, 1), (10, 1)] := by simp [goBld, und215, zer215, placesL, Value.cells]
theorem agg216 : aggT Try.prog 216 = some false := by unfold aggT; rw [Try.underlying216]; rfl
@[simp] theorem siz216 : szT Try.prog 216 = some 1 := by unfold szT; rw [show Try.prog.info? 216 = some Try.t216 from Try.type216]; rfl
@[simp ↓] theorem ty216 {q : Bool → Nat → Prop} : goTy Try.prog 216 q = q false 1 := by simp only [goTy, agg216, siz216]
@[simp ↓] theorem sz216 {q : Nat → Prop} : goSz Try.prog 216 q = q 1 := by simp only [goSz, siz216]
theorem zer216 : zero? Try.prog 216 = some Go.Value.nilFunc := by unfold zero?; rw [show Try.prog.info? 216 = some Try.t216 from Try.type216]; rfl
@[simp ↓] theorem z216 {q : List Value → Prop} : goZ Try.prog 216 q = q [Go.Value.nilFunc] := by simp [goZ, zer216, Value.cells]
theorem agg217 : aggT Try.prog 217 = some false := by unfold aggT; rw [Try.underlying217]; rfl
@[simp] theorem siz217 : szT Try.prog 217 = some 1 := by unfold szT; rw [show Try.prog.info? 217 = some Try.t217 from Try.type217]; rfl
@[simp ↓] theorem ty217 {q : Bool → Nat → Prop} : goTy Try.prog 217 q = q false 1 := by simp only [goTy, agg217, siz217]
@[simp ↓] theorem sz217 {q : Nat → Prop} : goSz Try.prog 217 q = q 1 := by simp only [goSz, siz217]
theorem zer217 : zero? Try.prog 217 = some (Go.Value.pointer none) := by unfold zero?; rw [show Try.prog.info? 217 = some Try.t217 from Try.type217]; rfl
@[simp ↓] theorem z217 {q : List Value → Prop} : goZ Try.prog 217 q = q [(Go.Value.pointer none)] := by simp [goZ, zer217, Value.cells]
@[simp] theorem und217 : Try.prog.underlying 217 = some (Go.TypeDesc.unsafePointer) := opq Try.underlying217
@[simp ↓] theorem un217 {q : TypeDesc → Prop} : goUnd Try.prog 217 q = q (Go.TypeDesc.unsafePointer) := by simp only [goUnd, und217]
theorem agg218 : aggT Try.prog 218 = some true := by unfold aggT; rw [Try.underlying218]; rfl
@[simp] theorem siz218 : szT Try.prog 218 = some 3 := by unfold szT; rw [show Try.prog.info? 218 = some Try.t218 from Try.type218]; rfl
@[simp ↓] theorem ty218 {q : Bool → Nat → Prop} : goTy Try.prog 218 q = q true 3 := by simp only [goTy, agg218, siz218]
@[simp ↓] theorem sz218 {q : Nat → Prop} : goSz Try.prog 218 q = q 3 := by simp only [goSz, siz218]
theorem zer218 : zero? Try.prog 218 = some (Go.Value.agg #[Go.Value.bool false, Go.Value.int Go.IntKind.i64 0, Go.Value.string { data := #[] }]) := by unfold zero?; rw [show Try.prog.info? 218 = some Try.t218 from Try.type218]; rfl
@[simp ↓] theorem z218 {q : List Value → Prop} : goZ Try.prog 218 q = q [Go.Value.bool false, Go.Value.int Go.IntKind.i64 0, Go.Value.string { data := #[] }] := by simp [goZ, zer218, Value.cells]
@[simp] theorem und218 : Try.prog.underlying 218 = some (Go.TypeDesc.struct
  #[{ name := "Has", type := 4, offset := 0, embedded := false, tag := "", pkgPath := "", byteOffset := 0 },
    { name := "Code", type := 3, offset := 1, embedded := false, tag := "", pkgPath := "", byteOffset := 8 },
    { name := "Text", type := 9, offset := 2, embedded := false, tag := "", pkgPath := "", byteOffset := 16 }]) := opq Try.underlying218
@[simp ↓] theorem fld218_0 {q : Nat → TypeId → Prop} : goFld Try.prog 218 0 q = q 0 4 := by simp only [goFld, und218]; rfl
@[simp ↓] theorem fld218_1 {q : Nat → TypeId → Prop} : goFld Try.prog 218 1 q = q 1 3 := by simp only [goFld, und218]; rfl
@[simp ↓] theorem fld218_2 {q : Nat → TypeId → Prop} : goFld Try.prog 218 2 q = q 2 9 := by simp only [goFld, und218]; rfl
@[simp ↓] theorem bld218 {q : List Value → List (Nat × Nat) → Prop} : goBld Try.prog 218 q = q [Go.Value.bool false, Go.Value.int Go.IntKind.i64 0, Go.Value.string { data := #[] }] [(0, 1), (1, 1), (2, 1)] := by simp [goBld, und218, zer218, placesL, Value.cells]
theorem agg219 : aggT Try.prog 219 = some true := by unfold aggT; rw [Try.underlying219]; rfl
@[simp] theorem siz219 : szT Try.prog 219 = some 3 := by unfold szT; rw [show Try.prog.info? 219 = some Try.t219 from Try.type219]; rfl
@[simp ↓] theorem ty219 {q : Bool → Nat → Prop} : goTy Try.prog 219 q = q true 3 := by simp only [goTy, agg219, siz219]
@[simp ↓] theorem sz219 {q : Nat → Prop} : goSz Try.prog 219 q = q 3 := by simp only [goSz, siz219]
theorem zer219 : zero? Try.prog 219 = some (Go.Value.agg #[Go.Value.bool false, Go.Value.int Go.IntKind.i64 0, Go.Value.string { data := #[] }]) := by unfold zero?; rw [show Try.prog.info? 219 = some Try.t219 from Try.type219]; rfl
@[simp ↓] theorem z219 {q : List Value → Prop} : goZ Try.prog 219 q = q [Go.Value.bool false, Go.Value.int Go.IntKind.i64 0, Go.Value.string { data := #[] }] := by simp [goZ, zer219, Value.cells]
@[simp] theorem und219 : Try.prog.underlying 219 = some (Go.TypeDesc.struct
  #[{ name := "Has", type := 4, offset := 0, embedded := false, tag := "", pkgPath := "", byteOffset := 0 },
    { name := "Code", type := 3, offset := 1, embedded := false, tag := "", pkgPath := "", byteOffset := 8 },
    { name := "Text", type := 9, offset := 2, embedded := false, tag := "", pkgPath := "", byteOffset := 16 }]) := opq Try.underlying219
@[simp ↓] theorem fld219_0 {q : Nat → TypeId → Prop} : goFld Try.prog 219 0 q = q 0 4 := by simp only [goFld, und219]; rfl
@[simp ↓] theorem fld219_1 {q : Nat → TypeId → Prop} : goFld Try.prog 219 1 q = q 1 3 := by simp only [goFld, und219]; rfl
@[simp ↓] theorem fld219_2 {q : Nat → TypeId → Prop} : goFld Try.prog 219 2 q = q 2 9 := by simp only [goFld, und219]; rfl
@[simp ↓] theorem bld219 {q : List Value → List (Nat × Nat) → Prop} : goBld Try.prog 219 q = q [Go.Value.bool false, Go.Value.int Go.IntKind.i64 0, Go.Value.string { data := #[] }] [(0, 1), (1, 1), (2, 1)] := by simp [goBld, und219, zer219, placesL, Value.cells]
end Go.Proofs.Ytehhjbomdohgoaa
