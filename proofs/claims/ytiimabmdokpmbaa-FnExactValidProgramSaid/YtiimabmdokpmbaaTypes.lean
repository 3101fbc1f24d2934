/- Facts about the seat's types, for the abstract machine. No condition. -/
import Derived.Test.YtiimabmdokpmbaaProg
import Derived.Test.YtiimabmdokpmbaaAm20
namespace Go.Proofs.Ytiimabmdokpmbaa
open Go Go.Am Go.Proofs
set_option linter.unusedSimpArgs false
theorem agg1 : aggT Try.prog 1 = some false := by unfold aggT; rw [Try.underlying1]; rfl
@[simp] theorem siz1 : szT Try.prog 1 = some 1 := by unfold szT; rw [show Try.prog.info? 1 = some Try.t1 from Try.type1]; rfl
@[simp ↓] theorem ty1 {q : Bool → Nat → Prop} : goTy Try.prog 1 q = q false 1 := by simp only [goTy, agg1, siz1]
@[simp ↓] theorem sz1 {q : Nat → Prop} : goSz Try.prog 1 q = q 1 := by simp only [goSz, siz1]
theorem zer1 : zero? Try.prog 1 = some Go.Value.nilFunc := by unfold zero?; rw [show Try.prog.info? 1 = some Try.t1 from Try.type1]; rfl
@[simp ↓] theorem z1 {q : List Value → Prop} : goZ Try.prog 1 q = q [Go.Value.nilFunc] := by simp [goZ, zer1, Value.cells]
theorem agg2 : aggT Try.prog 2 = some false := by unfold aggT; rw [Try.underlying2]; rfl
@[simp] theorem siz2 : szT Try.prog 2 = some 1 := by unfold szT; rw [show Try.prog.info? 2 = some Try.t2 from Try.type2]; rfl
@[simp ↓] theorem ty2 {q : Bool → Nat → Prop} : goTy Try.prog 2 q = q false 1 := by simp only [goTy, agg2, siz2]
@[simp ↓] theorem sz2 {q : Nat → Prop} : goSz Try.prog 2 q = q 1 := by simp only [goSz, siz2]
theorem zer2 : zero? Try.prog 2 = some (Go.Value.int Go.IntKind.i64 0) := by unfold zero?; rw [show Try.prog.info? 2 = some Try.t2 from Try.type2]; rfl
@[simp ↓] theorem z2 {q : List Value → Prop} : goZ Try.prog 2 q = q [(Go.Value.int Go.IntKind.i64 0)] := by simp [goZ, zer2, Value.cells]
@[simp] theorem und2 : Try.prog.underlying 2 = some (Go.TypeDesc.int Go.IntKind.i64) := opq Try.underlying2
@[simp ↓] theorem un2 {q : TypeDesc → Prop} : goUnd Try.prog 2 q = q (Go.TypeDesc.int Go.IntKind.i64) := by simp only [goUnd, und2]
theorem agg3 : aggT Try.prog 3 = some false := by unfold aggT; rw [Try.underlying3]; rfl
@[simp] theorem siz3 : szT Try.prog 3 = some 1 := by unfold szT; rw [show Try.prog.info? 3 = some Try.t3 from Try.type3]; rfl
@[simp ↓] theorem ty3 {q : Bool → Nat → Prop} : goTy Try.prog 3 q = q false 1 := by simp only [goTy, agg3, siz3]
@[simp ↓] theorem sz3 {q : Nat → Prop} : goSz Try.prog 3 q = q 1 := by simp only [goSz, siz3]
theorem zer3 : zero? Try.prog 3 = some (Go.Value.int Go.IntKind.i64 0) := by unfold zero?; rw [show Try.prog.info? 3 = some Try.t3 from Try.type3]; rfl
@[simp ↓] theorem z3 {q : List Value → Prop} : goZ Try.prog 3 q = q [(Go.Value.int Go.IntKind.i64 0)] := by simp [goZ, zer3, Value.cells]
@[simp] theorem und3 : Try.prog.underlying 3 = some (Go.TypeDesc.int Go.IntKind.i64) := opq Try.underlying3
@[simp ↓] theorem un3 {q : TypeDesc → Prop} : goUnd Try.prog 3 q = q (Go.TypeDesc.int Go.IntKind.i64) := by simp only [goUnd, und3]
theorem agg4 : aggT Try.prog 4 = some false := by unfold aggT; rw [Try.underlying4]; rfl
@[simp] theorem siz4 : szT Try.prog 4 = some 1 := by unfold szT; rw [show Try.prog.info? 4 = some Try.t4 from Try.type4]; rfl
@[simp ↓] theorem ty4 {q : Bool → Nat → Prop} : goTy Try.prog 4 q = q false 1 := by simp only [goTy, agg4, siz4]
@[simp ↓] theorem sz4 {q : Nat → Prop} : goSz Try.prog 4 q = q 1 := by simp only [goSz, siz4]
theorem zer4 : zero? Try.prog 4 = some (Go.Value.bool false) := by unfold zero?; rw [show Try.prog.info? 4 = some Try.t4 from Try.type4]; rfl
@[simp ↓] theorem z4 {q : List Value → Prop} : goZ Try.prog 4 q = q [(Go.Value.bool false)] := by simp [goZ, zer4, Value.cells]
@[simp] theorem und4 : Try.prog.underlying 4 = some (Go.TypeDesc.bool) := opq Try.underlying4
@[simp ↓] theorem un4 {q : TypeDesc → Prop} : goUnd Try.prog 4 q = q (Go.TypeDesc.bool) := by simp only [goUnd, und4]
theorem agg5 : aggT Try.prog 5 = some false := by unfold aggT; rw [Try.underlying5]; rfl
@[simp] theorem siz5 : szT Try.prog 5 = some 1 := by unfold szT; rw [show Try.prog.info? 5 = some Try.t5 from Try.type5]; rfl
@[simp ↓] theorem ty5 {q : Bool → Nat → Prop} : goTy Try.prog 5 q = q false 1 := by simp only [goTy, agg5, siz5]
@[simp ↓] theorem sz5 {q : Nat → Prop} : goSz Try.prog 5 q = q 1 := by simp only [goSz, siz5]
theorem zer5 : zero? Try.prog 5 = some (Go.Value.int Go.IntKind.u8 0) := by unfold zero?; rw [show Try.prog.info? 5 = some Try.t5 from Try.type5]; rfl
@[simp ↓] theorem z5 {q : List Value → Prop} : goZ Try.prog 5 q = q [(Go.Value.int Go.IntKind.u8 0)] := by simp [goZ, zer5, Value.cells]
@[simp] theorem und5 : Try.prog.underlying 5 = some (Go.TypeDesc.int Go.IntKind.u8) := opq Try.underlying5
@[simp ↓] theorem un5 {q : TypeDesc → Prop} : goUnd Try.prog 5 q = q (Go.TypeDesc.int Go.IntKind.u8) := by simp only [goUnd, und5]
theorem agg6 : aggT Try.prog 6 = some false := by unfold aggT; rw [Try.underlying6]; rfl
@[simp] theorem siz6 : szT Try.prog 6 = some 1 := by unfold szT; rw [show Try.prog.info? 6 = some Try.t6 from Try.type6]; rfl
@[simp ↓] theorem ty6 {q : Bool → Nat → Prop} : goTy Try.prog 6 q = q false 1 := by simp only [goTy, agg6, siz6]
@[simp ↓] theorem sz6 {q : Nat → Prop} : goSz Try.prog 6 q = q 1 := by simp only [goSz, siz6]
theorem zer6 : zero? Try.prog 6 = some (Go.Value.int Go.IntKind.u8 0) := by unfold zero?; rw [show Try.prog.info? 6 = some Try.t6 from Try.type6]; rfl
@[simp ↓] theorem z6 {q : List Value → Prop} : goZ Try.prog 6 q = q [(Go.Value.int Go.IntKind.u8 0)] := by simp [goZ, zer6, Value.cells]
@[simp] theorem und6 : Try.prog.underlying 6 = some (Go.TypeDesc.int Go.IntKind.u8) := opq Try.underlying6
@[simp ↓] theorem un6 {q : TypeDesc → Prop} : goUnd Try.prog 6 q = q (Go.TypeDesc.int Go.IntKind.u8) := by simp only [goUnd, und6]
theorem agg7 : aggT Try.prog 7 = some true := by unfold aggT; rw [Try.underlying7]; rfl
@[simp] theorem siz7 : szT Try.prog 7 = some 4 := by unfold szT; rw [show Try.prog.info? 7 = some Try.t7 from Try.type7]; rfl
@[simp ↓] theorem ty7 {q : Bool → Nat → Prop} : goTy Try.prog 7 q = q true 4 := by simp only [goTy, agg7, siz7]
@[simp ↓] theorem sz7 {q : Nat → Prop} : goSz Try.prog 7 q = q 4 := by simp only [goSz, siz7]
theorem zer7 : zero? Try.prog 7 = some
  (Go.Value.agg
    #[Go.Value.int Go.IntKind.i64 0, Go.Value.int Go.IntKind.i64 0, Go.Value.bool false, Go.Value.int Go.IntKind.u8 0]) := by unfold zero?; rw [show Try.prog.info? 7 = some Try.t7 from Try.type7]; rfl
@[simp ↓] theorem z7 {q : List Value → Prop} : goZ Try.prog 7 q = q [Go.Value.int Go.IntKind.i64 0, Go.Value.int Go.IntKind.i64 0, Go.Value.bool false, Go.Value.int Go.IntKind.u8 0] := by simp [goZ, zer7, Value.cells]
@[simp] theorem und7 : Try.prog.underlying 7 = some (Go.TypeDesc.struct
  #[{ name := "x", type := 2, offset := 0, embedded := false, tag := "", pkgPath := "runtime", byteOffset := 0 },
    { name := "y", type := 3, offset := 1, embedded := false, tag := "", pkgPath := "runtime", byteOffset := 8 },
    { name := "signed", type := 4, offset := 2, embedded := false, tag := "", pkgPath := "runtime", byteOffset := 16 },
    { name := "code", type := 6, offset := 3, embedded := false, tag := "", pkgPath := "runtime", byteOffset := 17 }]) := opq Try.underlying7
@[simp ↓] theorem fld7_0 {q : Nat → TypeId → Prop} : goFld Try.prog 7 0 q = q 0 2 := by simp only [goFld, und7]; rfl
@[simp ↓] theorem fld7_1 {q : Nat → TypeId → Prop} : goFld Try.prog 7 1 q = q 1 3 := by simp only [goFld, und7]; rfl
@[simp ↓] theorem fld7_2 {q : Nat → TypeId → Prop} : goFld Try.prog 7 2 q = q 2 4 := by simp only [goFld, und7]; rfl
@[simp ↓] theorem fld7_3 {q : Nat → TypeId → Prop} : goFld Try.prog 7 3 q = q 3 6 := by simp only [goFld, und7]; rfl
@[simp ↓] theorem bld7 {q : List Value → List (Nat × Nat) → Prop} : goBld Try.prog 7 q = q [Go.Value.int Go.IntKind.i64 0, Go.Value.int Go.IntKind.i64 0, Go.Value.bool false, Go.Value.int Go.IntKind.u8 0] [(0, 1), (1, 1), (2, 1), (3, 1)] := by simp [goBld, und7, zer7, placesL, Value.cells]
theorem agg8 : aggT Try.prog 8 = some true := by unfold aggT; rw [Try.underlying8]; rfl
@[simp] theorem siz8 : szT Try.prog 8 = some 4 := by unfold szT; rw [show Try.prog.info? 8 = some Try.t8 from Try.type8]; rfl
@[simp ↓] theorem ty8 {q : Bool → Nat → Prop} : goTy Try.prog 8 q = q true 4 := by simp only [goTy, agg8, siz8]
@[simp ↓] theorem sz8 {q : Nat → Prop} : goSz Try.prog 8 q = q 4 := by simp only [goSz, siz8]
theorem zer8 : zero? Try.prog 8 = some
  (Go.Value.agg
    #[Go.Value.int Go.IntKind.i64 0, Go.Value.int Go.IntKind.i64 0, Go.Value.bool false, Go.Value.int Go.IntKind.u8 0]) := by unfold zero?; rw [show Try.prog.info? 8 = some Try.t8 from Try.type8]; rfl
@[simp ↓] theorem z8 {q : List Value → Prop} : goZ Try.prog 8 q = q [Go.Value.int Go.IntKind.i64 0, Go.Value.int Go.IntKind.i64 0, Go.Value.bool false, Go.Value.int Go.IntKind.u8 0] := by simp [goZ, zer8, Value.cells]
@[simp] theorem und8 : Try.prog.underlying 8 = some (Go.TypeDesc.struct
  #[{ name := "x", type := 2, offset := 0, embedded := false, tag := "", pkgPath := "runtime", byteOffset := 0 },
    { name := "y", type := 3, offset := 1, embedded := false, tag := "", pkgPath := "runtime", byteOffset := 8 },
    { name := "signed", type := 4, offset := 2, embedded := false, tag := "", pkgPath := "runtime", byteOffset := 16 },
    { name := "code", type := 6, offset := 3, embedded := false, tag := "", pkgPath := "runtime", byteOffset := 17 }]) := opq Try.underlying8
@[simp ↓] theorem fld8_0 {q : Nat → TypeId → Prop} : goFld Try.prog 8 0 q = q 0 2 := by simp only [goFld, und8]; rfl
@[simp ↓] theorem fld8_1 {q : Nat → TypeId → Prop} : goFld Try.prog 8 1 q = q 1 3 := by simp only [goFld, und8]; rfl
@[simp ↓] theorem fld8_2 {q : Nat → TypeId → Prop} : goFld Try.prog 8 2 q = q 2 4 := by simp only [goFld, und8]; rfl
@[simp ↓] theorem fld8_3 {q : Nat → TypeId → Prop} : goFld Try.prog 8 3 q = q 3 6 := by simp only [goFld, und8]; rfl
@[simp ↓] theorem bld8 {q : List Value → List (Nat × Nat) → Prop} : goBld Try.prog 8 q = q [Go.Value.int Go.IntKind.i64 0, Go.Value.int Go.IntKind.i64 0, Go.Value.bool false, Go.Value.int Go.IntKind.u8 0] [(0, 1), (1, 1), (2, 1), (3, 1)] := by simp [goBld, und8, zer8, placesL, Value.cells]
theorem agg9 : aggT Try.prog 9 = some false := by unfold aggT; rw [Try.underlying9]; rfl
@[simp] theorem siz9 : szT Try.prog 9 = some 1 := by unfold szT; rw [show Try.prog.info? 9 = some Try.t9 from Try.type9]; rfl
@[simp ↓] theorem ty9 {q : Bool → Nat → Prop} : goTy Try.prog 9 q = q false 1 := by simp only [goTy, agg9, siz9]
@[simp ↓] theorem sz9 {q : Nat → Prop} : goSz Try.prog 9 q = q 1 := by simp only [goSz, siz9]
theorem zer9 : zero? Try.prog 9 = some (Go.Value.string { data := #[] }) := by unfold zero?; rw [show Try.prog.info? 9 = some Try.t9 from Try.type9]; rfl
@[simp ↓] theorem z9 {q : List Value → Prop} : goZ Try.prog 9 q = q [(Go.Value.string { data := #[] })] := by simp [goZ, zer9, Value.cells]
@[simp] theorem und9 : Try.prog.underlying 9 = some (Go.TypeDesc.string) := opq Try.underlying9
@[simp ↓] theorem un9 {q : TypeDesc → Prop} : goUnd Try.prog 9 q = q (Go.TypeDesc.string) := by simp only [goUnd, und9]
theorem agg10 : aggT Try.prog 10 = some false := by unfold aggT; rw [Try.underlying10]; rfl
@[simp] theorem siz10 : szT Try.prog 10 = some 1 := by unfold szT; rw [show Try.prog.info? 10 = some Try.t10 from Try.type10]; rfl
@[simp ↓] theorem ty10 {q : Bool → Nat → Prop} : goTy Try.prog 10 q = q false 1 := by simp only [goTy, agg10, siz10]
@[simp ↓] theorem sz10 {q : Nat → Prop} : goSz Try.prog 10 q = q 1 := by simp only [goSz, siz10]
theorem zer10 : zero? Try.prog 10 = some (Go.Value.string { data := #[] }) := by unfold zero?; rw [show Try.prog.info? 10 = some Try.t10 from Try.type10]; rfl
@[simp ↓] theorem z10 {q : List Value → Prop} : goZ Try.prog 10 q = q [(Go.Value.string { data := #[] })] := by simp [goZ, zer10, Value.cells]
@[simp] theorem und10 : Try.prog.underlying 10 = some (Go.TypeDesc.string) := opq Try.underlying10
@[simp ↓] theorem un10 {q : TypeDesc → Prop} : goUnd Try.prog 10 q = q (Go.TypeDesc.string) := by simp only [goUnd, und10]
theorem agg11 : aggT Try.prog 11 = some false := by unfold aggT; rw [Try.underlying11]; rfl
@[simp] theorem siz11 : szT Try.prog 11 = some 1 := by unfold szT; rw [show Try.prog.info? 11 = some Try.t11 from Try.type11]; rfl
@[simp ↓] theorem ty11 {q : Bool → Nat → Prop} : goTy Try.prog 11 q = q false 1 := by simp only [goTy, agg11, siz11]
@[simp ↓] theorem sz11 {q : Nat → Prop} : goSz Try.prog 11 q = q 1 := by simp only [goSz, siz11]
theorem zer11 : zero? Try.prog 11 = some (Go.Value.string { data := #[] }) := by unfold zero?; rw [show Try.prog.info? 11 = some Try.t11 from Try.type11]; rfl
@[simp ↓] theorem z11 {q : List Value → Prop} : goZ Try.prog 11 q = q [(Go.Value.string { data := #[] })] := by simp [goZ, zer11, Value.cells]
@[simp] theorem und11 : Try.prog.underlying 11 = some (Go.TypeDesc.string) := opq Try.underlying11
@[simp ↓] theorem un11 {q : TypeDesc → Prop} : goUnd Try.prog 11 q = q (Go.TypeDesc.string) := by simp only [goUnd, und11]
theorem agg12 : aggT Try.prog 12 = some false := by unfold aggT; rw [Try.underlying12]; rfl
@[simp] theorem siz12 : szT Try.prog 12 = some 1 := by unfold szT; rw [show Try.prog.info? 12 = some Try.t12 from Try.type12]; rfl
@[simp ↓] theorem ty12 {q : Bool → Nat → Prop} : goTy Try.prog 12 q = q false 1 := by simp only [goTy, agg12, siz12]
@[simp ↓] theorem sz12 {q : Nat → Prop} : goSz Try.prog 12 q = q 1 := by simp only [goSz, siz12]
theorem zer12 : zero? Try.prog 12 = some (Go.Value.int Go.IntKind.u64 0) := by unfold zero?; rw [show Try.prog.info? 12 = some Try.t12 from Try.type12]; rfl
@[simp ↓] theorem z12 {q : List Value → Prop} : goZ Try.prog 12 q = q [(Go.Value.int Go.IntKind.u64 0)] := by simp [goZ, zer12, Value.cells]
@[simp] theorem und12 : Try.prog.underlying 12 = some (Go.TypeDesc.int Go.IntKind.u64) := opq Try.underlying12
@[simp ↓] theorem un12 {q : TypeDesc → Prop} : goUnd Try.prog 12 q = q (Go.TypeDesc.int Go.IntKind.u64) := by simp only [goUnd, und12]
theorem agg13 : aggT Try.prog 13 = some true := by unfold aggT; rw [Try.underlying13]; rfl
@[simp] theorem siz13 : szT Try.prog 13 = some 2 := by unfold szT; rw [show Try.prog.info? 13 = some Try.t13 from Try.type13]; rfl
@[simp ↓] theorem ty13 {q : Bool → Nat → Prop} : goTy Try.prog 13 q = q true 2 := by simp only [goTy, agg13, siz13]
@[simp ↓] theorem sz13 {q : Nat → Prop} : goSz Try.prog 13 q = q 2 := by simp only [goSz, siz13]
theorem zer13 : zero? Try.prog 13 = some (Go.Value.agg #[Go.Value.string { data := #[] }, Go.Value.int Go.IntKind.u64 0]) := by unfold zero?; rw [show Try.prog.info? 13 = some Try.t13 from Try.type13]; rfl
@[simp ↓] theorem z13 {q : List Value → Prop} : goZ Try.prog 13 q = q [Go.Value.string { data := #[] }, Go.Value.int Go.IntKind.u64 0] := by simp [goZ, zer13, Value.cells]
@[simp] theorem und13 : Try.prog.underlying 13 = some (Go.TypeDesc.struct
  #[{ name := "msg", type := 9, offset := 0, embedded := false, tag := "", pkgPath := "runtime", byteOffset := 0 },
    { name := "addr", type := 12, offset := 1, embedded := false, tag := "", pkgPath := "runtime", byteOffset := 16 }]) := opq Try.underlying13
@[simp ↓] theorem fld13_0 {q : Nat → TypeId → Prop} : goFld Try.prog 13 0 q = q 0 9 := by simp only [goFld, und13]; rfl
@[simp ↓] theorem fld13_1 {q : Nat → TypeId → Prop} : goFld Try.prog 13 1 q = q 1 12 := by simp only [goFld, und13]; rfl
@[simp ↓] theorem bld13 {q : List Value → List (Nat × Nat) → Prop} : goBld Try.prog 13 q = q [Go.Value.string { data := #[] }, Go.Value.int Go.IntKind.u64 0] [(0, 1), (1, 1)] := by simp [goBld, und13, zer13, placesL, Value.cells]
theorem agg14 : aggT Try.prog 14 = some true := by unfold aggT; rw [Try.underlying14]; rfl
@[simp] theorem siz14 : szT Try.prog 14 = some 2 := by unfold szT; rw [show Try.prog.info? 14 = some Try.t14 from Try.type14]; rfl
@[simp ↓] theorem ty14 {q : Bool → Nat → Prop} : goTy Try.prog 14 q = q true 2 := by simp only [goTy, agg14, siz14]
@[simp ↓] theorem sz14 {q : Nat → Prop} : goSz Try.prog 14 q = q 2 := by simp only [goSz, siz14]
theorem zer14 : zero? Try.prog 14 = some (Go.Value.agg #[Go.Value.string { data := #[] }, Go.Value.int Go.IntKind.u64 0]) := by unfold zero?; rw [show Try.prog.info? 14 = some Try.t14 from Try.type14]; rfl
@[simp ↓] theorem z14 {q : List Value → Prop} : goZ Try.prog 14 q = q [Go.Value.string { data := #[] }, Go.Value.int Go.IntKind.u64 0] := by simp [goZ, zer14, Value.cells]
@[simp] theorem und14 : Try.prog.underlying 14 = some (Go.TypeDesc.struct
  #[{ name := "msg", type := 9, offset := 0, embedded := false, tag := "", pkgPath := "runtime", byteOffset := 0 },
    { name := "addr", type := 12, offset := 1, embedded := false, tag := "", pkgPath := "runtime", byteOffset := 16 }]) := opq Try.underlying14
@[simp ↓] theorem fld14_0 {q : Nat → TypeId → Prop} : goFld Try.prog 14 0 q = q 0 9 := by simp only [goFld, und14]; rfl
@[simp ↓] theorem fld14_1 {q : Nat → TypeId → Prop} : goFld Try.prog 14 1 q = q 1 12 := by simp only [goFld, und14]; rfl
@[simp ↓] theorem bld14 {q : List Value → List (Nat × Nat) → Prop} : goBld Try.prog 14 q = q [Go.Value.string { data := #[] }, Go.Value.int Go.IntKind.u64 0] [(0, 1), (1, 1)] := by simp [goBld, und14, zer14, placesL, Value.cells]
theorem agg15 : aggT Try.prog 15 = some false := by unfold aggT; rw [Try.underlying15]; rfl
@[simp] theorem siz15 : szT Try.prog 15 = some 1 := by unfold szT; rw [show Try.prog.info? 15 = some Try.t15 from Try.type15]; rfl
@[simp ↓] theorem ty15 {q : Bool → Nat → Prop} : goTy Try.prog 15 q = q false 1 := by simp only [goTy, agg15, siz15]
@[simp ↓] theorem sz15 {q : Nat → Prop} : goSz Try.prog 15 q = q 1 := by simp only [goSz, siz15]
theorem zer15 : zero? Try.prog 15 = some (Go.Value.pointer none) := by unfold zero?; rw [show Try.prog.info? 15 = some Try.t15 from Try.type15]; rfl
@[simp ↓] theorem z15 {q : List Value → Prop} : goZ Try.prog 15 q = q [(Go.Value.pointer none)] := by simp [goZ, zer15, Value.cells]
@[simp] theorem und15 : Try.prog.underlying 15 = some (Go.TypeDesc.pointer 61) := opq Try.underlying15
@[simp ↓] theorem un15 {q : TypeDesc → Prop} : goUnd Try.prog 15 q = q (Go.TypeDesc.pointer 61) := by simp only [goUnd, und15]
theorem agg16 : aggT Try.prog 16 = some false := by unfold aggT; rw [Try.underlying16]; rfl
@[simp] theorem siz16 : szT Try.prog 16 = some 1 := by unfold szT; rw [show Try.prog.info? 16 = some Try.t16 from Try.type16]; rfl
@[simp ↓] theorem ty16 {q : Bool → Nat → Prop} : goTy Try.prog 16 q = q false 1 := by simp only [goTy, agg16, siz16]
@[simp ↓] theorem sz16 {q : Nat → Prop} : goSz Try.prog 16 q = q 1 := by simp only [goSz, siz16]
theorem zer16 : zero? Try.prog 16 = some (Go.Value.pointer none) := by unfold zero?; rw [show Try.prog.info? 16 = some Try.t16 from Try.type16]; rfl
@[simp ↓] theorem z16 {q : List Value → Prop} : goZ Try.prog 16 q = q [(Go.Value.pointer none)] := by simp [goZ, zer16, Value.cells]
@[simp] theorem und16 : Try.prog.underlying 16 = some (Go.TypeDesc.pointer 64) := opq Try.underlying16
@[simp ↓] theorem un16 {q : TypeDesc → Prop} : goUnd Try.prog 16 q = q (Go.TypeDesc.pointer 64) := by simp only [goUnd, und16]
theorem agg17 : aggT Try.prog 17 = some false := by unfold aggT; rw [Try.underlying17]; rfl
@[simp] theorem siz17 : szT Try.prog 17 = some 1 := by unfold szT; rw [show Try.prog.info? 17 = some Try.t17 from Try.type17]; rfl
@[simp ↓] theorem ty17 {q : Bool → Nat → Prop} : goTy Try.prog 17 q = q false 1 := by simp only [goTy, agg17, siz17]
@[simp ↓] theorem sz17 {q : Nat → Prop} : goSz Try.prog 17 q = q 1 := by simp only [goSz, siz17]
theorem zer17 : zero? Try.prog 17 = some (Go.Value.pointer none) := by unfold zero?; rw [show Try.prog.info? 17 = some Try.t17 from Try.type17]; rfl
@[simp ↓] theorem z17 {q : List Value → Prop} : goZ Try.prog 17 q = q [(Go.Value.pointer none)] := by simp [goZ, zer17, Value.cells]
@[simp] theorem und17 : Try.prog.underlying 17 = some (Go.TypeDesc.pointer 74) := opq Try.underlying17
@[simp ↓] theorem un17 {q : TypeDesc → Prop} : goUnd Try.prog 17 q = q (Go.TypeDesc.pointer 74) := by simp only [goUnd, und17]
theorem agg18 : aggT Try.prog 18 = some true := by unfold aggT; rw [Try.underlying18]; rfl
@[simp] theorem siz18 : szT Try.prog 18 = some 1 := by unfold szT; rw [show Try.prog.info? 18 = some Try.t18 from Try.type18]; rfl
@[simp ↓] theorem ty18 {q : Bool → Nat → Prop} : goTy Try.prog 18 q = q true 1 := by simp only [goTy, agg18, siz18]
@[simp ↓] theorem sz18 {q : Nat → Prop} : goSz Try.prog 18 q = q 1 := by simp only [goSz, siz18]
theorem zer18 : zero? Try.prog 18 = some (Go.Value.agg #[Go.Value.pointer none]) := by unfold zero?; rw [show Try.prog.info? 18 = some Try.t18 from Try.type18]; rfl
@[simp ↓] theorem z18 {q : List Value → Prop} : goZ Try.prog 18 q = q [Go.Value.pointer none] := by simp [goZ, zer18, Value.cells]
@[simp] theorem und18 : Try.prog.underlying 18 = some (Go.TypeDesc.struct
  #[{ name := "typ", type := 17, offset := 0, embedded := false, tag := "", pkgPath := "internal/runtime/maps",
      byteOffset := 0 }]) := opq Try.underlying18
@[simp ↓] theorem fld18_0 {q : Nat → TypeId → Prop} : goFld Try.prog 18 0 q = q 0 17 := by simp only [goFld, und18]; rfl
@[simp ↓] theorem bld18 {q : List Value → List (Nat × Nat) → Prop} : goBld Try.prog 18 q = q [Go.Value.pointer none] [(0, 1)] := by simp [goBld, und18, zer18, placesL, Value.cells]
theorem agg19 : aggT Try.prog 19 = some true := by unfold aggT; rw [Try.underlying19]; rfl
@[simp] theorem siz19 : szT Try.prog 19 = some 1 := by unfold szT; rw [show Try.prog.info? 19 = some Try.t19 from Try.type19]; rfl
@[simp ↓] theorem ty19 {q : Bool → Nat → Prop} : goTy Try.prog 19 q = q true 1 := by simp only [goTy, agg19, siz19]
@[simp ↓] theorem sz19 {q : Nat → Prop} : goSz Try.prog 19 q = q 1 := by simp only [goSz, siz19]
theorem zer19 : zero? Try.prog 19 = some (Go.Value.agg #[Go.Value.pointer none]) := by unfold zero?; rw [show Try.prog.info? 19 = some Try.t19 from Try.type19]; rfl
@[simp ↓] theorem z19 {q : List Value → Prop} : goZ Try.prog 19 q = q [Go.Value.pointer none] := by simp [goZ, zer19, Value.cells]
@[simp] theorem und19 : Try.prog.underlying 19 = some (Go.TypeDesc.struct
  #[{ name := "typ", type := 17, offset := 0, embedded := false, tag := "", pkgPath := "internal/runtime/maps",
      byteOffset := 0 }]) := opq Try.underlying19
@[simp ↓] theorem fld19_0 {q : Nat → TypeId → Prop} : goFld Try.prog 19 0 q = q 0 17 := by simp only [goFld, und19]; rfl
@[simp ↓] theorem bld19 {q : List Value → List (Nat × Nat) → Prop} : goBld Try.prog 19 q = q [Go.Value.pointer none] [(0, 1)] := by simp [goBld, und19, zer19, placesL, Value.cells]
theorem agg21 : aggT Try.prog 21 = some false := by unfold aggT; rw [Try.underlying21]; rfl
@[simp] theorem siz21 : szT Try.prog 21 = some 1 := by unfold szT; rw [show Try.prog.info? 21 = some Try.t21 from Try.type21]; rfl
@[simp ↓] theorem ty21 {q : Bool → Nat → Prop} : goTy Try.prog 21 q = q false 1 := by simp only [goTy, agg21, siz21]
@[simp ↓] theorem sz21 {q : Nat → Prop} : goSz Try.prog 21 q = q 1 := by simp only [goSz, siz21]
theorem zer21 : zero? Try.prog 21 = some (Go.Value.int Go.IntKind.i32 0) := by unfold zero?; rw [show Try.prog.info? 21 = some Try.t21 from Try.type21]; rfl
@[simp ↓] theorem z21 {q : List Value → Prop} : goZ Try.prog 21 q = q [(Go.Value.int Go.IntKind.i32 0)] := by simp [goZ, zer21, Value.cells]
@[simp] theorem und21 : Try.prog.underlying 21 = some (Go.TypeDesc.int Go.IntKind.i32) := opq Try.underlying21
@[simp ↓] theorem un21 {q : TypeDesc → Prop} : goUnd Try.prog 21 q = q (Go.TypeDesc.int Go.IntKind.i32) := by simp only [goUnd, und21]
theorem agg22 : aggT Try.prog 22 = some false := by unfold aggT; rw [Try.underlying22]; rfl
@[simp] theorem siz22 : szT Try.prog 22 = some 1 := by unfold szT; rw [show Try.prog.info? 22 = some Try.t22 from Try.type22]; rfl
@[simp ↓] theorem ty22 {q : Bool → Nat → Prop} : goTy Try.prog 22 q = q false 1 := by simp only [goTy, agg22, siz22]
@[simp ↓] theorem sz22 {q : Nat → Prop} : goSz Try.prog 22 q = q 1 := by simp only [goSz, siz22]
theorem zer22 : zero? Try.prog 22 = some (Go.Value.slice none 0 0) := by unfold zero?; rw [show Try.prog.info? 22 = some Try.t22 from Try.type22]; rfl
@[simp ↓] theorem z22 {q : List Value → Prop} : goZ Try.prog 22 q = q [(Go.Value.slice none 0 0)] := by simp [goZ, zer22, Value.cells]
@[simp] theorem und22 : Try.prog.underlying 22 = some (Go.TypeDesc.slice 9) := opq Try.underlying22
@[simp ↓] theorem un22 {q : TypeDesc → Prop} : goUnd Try.prog 22 q = q (Go.TypeDesc.slice 9) := by simp only [goUnd, und22]
theorem slt22 : SlT Try.prog 22 9 1 16 := ⟨Try.underlying22, ⟨Try.t9, _, Try.type9, rfl, rfl, rfl, by simp, rfl⟩, by decide⟩
@[simp ↓] theorem sl22 {q : TypeId → Nat → List Value → Prop} : goSl Try.prog 22 q = q 9 1 [(Go.Value.string { data := #[] })] := by simp [goSl, und22, show zero? Try.prog 9 = some (Go.Value.string { data := #[] }) from by unfold zero?; rw [show Try.prog.info? 9 = some Try.t9 from Try.type9]; rfl, show szT Try.prog 9 = some 1 from by unfold szT; rw [show Try.prog.info? 9 = some Try.t9 from Try.type9]; rfl, Value.cells]
theorem agg23 : aggT Try.prog 23 = some true := by unfold aggT; rw [Try.underlying23]; rfl
@[simp] theorem siz23 : szT Try.prog 23 = some 3 := by unfold szT; rw [show Try.prog.info? 23 = some Try.t23 from Try.type23]; rfl
@[simp ↓] theorem ty23 {q : Bool → Nat → Prop} : goTy Try.prog 23 q = q true 3 := by simp only [goTy, agg23, siz23]
@[simp ↓] theorem sz23 {q : Nat → Prop} : goSz Try.prog 23 q = q 3 := by simp only [goSz, siz23]
theorem zer23 : zero? Try.prog 23 = some (Go.Value.agg #[Go.Value.int Go.IntKind.i64 0, Go.Value.string { data := #[] }, Go.Value.slice none 0 0]) := by unfold zero?; rw [show Try.prog.info? 23 = some Try.t23 from Try.type23]; rfl
@[simp ↓] theorem z23 {q : List Value → Prop} : goZ Try.prog 23 q = q [Go.Value.int Go.IntKind.i64 0, Go.Value.string { data := #[] }, Go.Value.slice none 0 0] := by simp [goZ, zer23, Value.cells]
@[simp] theorem und23 : Try.prog.underlying 23 = some (Go.TypeDesc.struct
  #[{ name := "Code", type := 3, offset := 0, embedded := false, tag := "", pkgPath := "", byteOffset := 0 },
    { name := "Text", type := 9, offset := 1, embedded := false, tag := "", pkgPath := "", byteOffset := 8 },
    { name := "Chain", type := 22, offset := 2, embedded := false, tag := "", pkgPath := "", byteOffset := 24 }]) := opq Try.underlying23
@[simp ↓] theorem fld23_0 {q : Nat → TypeId → Prop} : goFld Try.prog 23 0 q = q 0 3 := by simp only [goFld, und23]; rfl
@[simp ↓] theorem fld23_1 {q : Nat → TypeId → Prop} : goFld Try.prog 23 1 q = q 1 9 := by simp only [goFld, und23]; rfl
@[simp ↓] theorem fld23_2 {q : Nat → TypeId → Prop} : goFld Try.prog 23 2 q = q 2 22 := by simp only [goFld, und23]; rfl
@[simp ↓] theorem bld23 {q : List Value → List (Nat × Nat) → Prop} : goBld Try.prog 23 q = q [Go.Value.int Go.IntKind.i64 0, Go.Value.string { data := #[] }, Go.Value.slice none 0 0] [(0, 1), (1, 1), (2, 1)] := by simp [goBld, und23, zer23, placesL, Value.cells]
theorem agg24 : aggT Try.prog 24 = some true := by unfold aggT; rw [Try.underlying24]; rfl
@[simp] theorem siz24 : szT Try.prog 24 = some 3 := by unfold szT; rw [show Try.prog.info? 24 = some Try.t24 from Try.type24]; rfl
@[simp ↓] theorem ty24 {q : Bool → Nat → Prop} : goTy Try.prog 24 q = q true 3 := by simp only [goTy, agg24, siz24]
@[simp ↓] theorem sz24 {q : Nat → Prop} : goSz Try.prog 24 q = q 3 := by simp only [goSz, siz24]
theorem zer24 : zero? Try.prog 24 = some (Go.Value.agg #[Go.Value.int Go.IntKind.i64 0, Go.Value.string { data := #[] }, Go.Value.slice none 0 0]) := by unfold zero?; rw [show Try.prog.info? 24 = some Try.t24 from Try.type24]; rfl
@[simp ↓] theorem z24 {q : List Value → Prop} : goZ Try.prog 24 q = q [Go.Value.int Go.IntKind.i64 0, Go.Value.string { data := #[] }, Go.Value.slice none 0 0] := by simp [goZ, zer24, Value.cells]
@[simp] theorem und24 : Try.prog.underlying 24 = some (Go.TypeDesc.struct
  #[{ name := "Code", type := 3, offset := 0, embedded := false, tag := "", pkgPath := "", byteOffset := 0 },
    { name := "Text", type := 9, offset := 1, embedded := false, tag := "", pkgPath := "", byteOffset := 8 },
    { name := "Chain", type := 22, offset := 2, embedded := false, tag := "", pkgPath := "", byteOffset := 24 }]) := opq Try.underlying24
@[simp ↓] theorem fld24_0 {q : Nat → TypeId → Prop} : goFld Try.prog 24 0 q = q 0 3 := by simp only [goFld, und24]; rfl
@[simp ↓] theorem fld24_1 {q : Nat → TypeId → Prop} : goFld Try.prog 24 1 q = q 1 9 := by simp only [goFld, und24]; rfl
@[simp ↓] theorem fld24_2 {q : Nat → TypeId → Prop} : goFld Try.prog 24 2 q = q 2 22 := by simp only [goFld, und24]; rfl
@[simp ↓] theorem bld24 {q : List Value → List (Nat × Nat) → Prop} : goBld Try.prog 24 q = q [Go.Value.int Go.IntKind.i64 0, Go.Value.string { data := #[] }, Go.Value.slice none 0 0] [(0, 1), (1, 1), (2, 1)] := by simp [goBld, und24, zer24, placesL, Value.cells]
theorem agg26 : aggT Try.prog 26 = some false := by unfold aggT; rw [Try.underlying26]; rfl
@[simp] theorem siz26 : szT Try.prog 26 = some 1 := by unfold szT; rw [show Try.prog.info? 26 = some Try.t26 from Try.type26]; rfl
@[simp ↓] theorem ty26 {q : Bool → Nat → Prop} : goTy Try.prog 26 q = q false 1 := by simp only [goTy, agg26, siz26]
@[simp ↓] theorem sz26 {q : Nat → Prop} : goSz Try.prog 26 q = q 1 := by simp only [goSz, siz26]
theorem zer26 : zero? Try.prog 26 = some Go.Value.nilFunc := by unfold zero?; rw [show Try.prog.info? 26 = some Try.t26 from Try.type26]; rfl
@[simp ↓] theorem z26 {q : List Value → Prop} : goZ Try.prog 26 q = q [Go.Value.nilFunc] := by simp [goZ, zer26, Value.cells]
theorem agg27 : aggT Try.prog 27 = some false := by unfold aggT; rw [Try.underlying27]; rfl
@[simp] theorem siz27 : szT Try.prog 27 = some 1 := by unfold szT; rw [show Try.prog.info? 27 = some Try.t27 from Try.type27]; rfl
@[simp ↓] theorem ty27 {q : Bool → Nat → Prop} : goTy Try.prog 27 q = q false 1 := by simp only [goTy, agg27, siz27]
@[simp ↓] theorem sz27 {q : Nat → Prop} : goSz Try.prog 27 q = q 1 := by simp only [goSz, siz27]
theorem zer27 : zero? Try.prog 27 = some Go.Value.nilFunc := by unfold zero?; rw [show Try.prog.info? 27 = some Try.t27 from Try.type27]; rfl
@[simp ↓] theorem z27 {q : List Value → Prop} : goZ Try.prog 27 q = q [Go.Value.nilFunc] := by simp [goZ, zer27, Value.cells]
theorem agg28 : aggT Try.prog 28 = some false := by unfold aggT; rw [Try.underlying28]; rfl
@[simp] theorem siz28 : szT Try.prog 28 = some 1 := by unfold szT; rw [show Try.prog.info? 28 = some Try.t28 from Try.type28]; rfl
@[simp ↓] theorem ty28 {q : Bool → Nat → Prop} : goTy Try.prog 28 q = q false 1 := by simp only [goTy, agg28, siz28]
@[simp ↓] theorem sz28 {q : Nat → Prop} : goSz Try.prog 28 q = q 1 := by simp only [goSz, siz28]
theorem zer28 : zero? Try.prog 28 = some Go.Value.nilFunc := by unfold zero?; rw [show Try.prog.info? 28 = some Try.t28 from Try.type28]; rfl
@[simp ↓] theorem z28 {q : List Value → Prop} : goZ Try.prog 28 q = q [Go.Value.nilFunc] := by simp [goZ, zer28, Value.cells]
theorem agg29 : aggT Try.prog 29 = some false := by unfold aggT; rw [Try.underlying29]; rfl
@[simp] theorem siz29 : szT Try.prog 29 = some 1 := by unfold szT; rw [show Try.prog.info? 29 = some Try.t29 from Try.type29]; rfl
@[simp ↓] theorem ty29 {q : Bool → Nat → Prop} : goTy Try.prog 29 q = q false 1 := by simp only [goTy, agg29, siz29]
@[simp ↓] theorem sz29 {q : Nat → Prop} : goSz Try.prog 29 q = q 1 := by simp only [goSz, siz29]
theorem zer29 : zero? Try.prog 29 = some Go.Value.nilFunc := by unfold zero?; rw [show Try.prog.info? 29 = some Try.t29 from Try.type29]; rfl
@[simp ↓] theorem z29 {q : List Value → Prop} : goZ Try.prog 29 q = q [Go.Value.nilFunc] := by simp [goZ, zer29, Value.cells]
theorem agg30 : aggT Try.prog 30 = some false := by unfold aggT; rw [Try.underlying30]; rfl
@[simp] theorem siz30 : szT Try.prog 30 = some 1 := by unfold szT; rw [show Try.prog.info? 30 = some Try.t30 from Try.type30]; rfl
@[simp ↓] theorem ty30 {q : Bool → Nat → Prop} : goTy Try.prog 30 q = q false 1 := by simp only [goTy, agg30, siz30]
@[simp ↓] theorem sz30 {q : Nat → Prop} : goSz Try.prog 30 q = q 1 := by simp only [goSz, siz30]
theorem zer30 : zero? Try.prog 30 = some (Go.Value.slice none 0 0) := by unfold zero?; rw [show Try.prog.info? 30 = some Try.t30 from Try.type30]; rfl
@[simp ↓] theorem z30 {q : List Value → Prop} : goZ Try.prog 30 q = q [(Go.Value.slice none 0 0)] := by simp [goZ, zer30, Value.cells]
@[simp] theorem und30 : Try.prog.underlying 30 = some (Go.TypeDesc.slice 52) := opq Try.underlying30
@[simp ↓] theorem un30 {q : TypeDesc → Prop} : goUnd Try.prog 30 q = q (Go.TypeDesc.slice 52) := by simp only [goUnd, und30]
theorem slt30 : SlT Try.prog 30 52 3 32 := ⟨Try.underlying30, ⟨Try.t52, _, Try.type52, rfl, rfl, rfl, by simp, rfl⟩, by decide⟩
@[simp ↓] theorem sl30 {q : TypeId → Nat → List Value → Prop} : goSl Try.prog 30 q = q 52 3 [Go.Value.int Go.IntKind.i64 0, Go.Value.string { data := #[] }, Go.Value.int Go.IntKind.i64 0] := by simp [goSl, und30, show zero? Try.prog 52 = some (Go.Value.agg #[Go.Value.int Go.IntKind.i64 0, Go.Value.string { data := #[] }, Go.Value.int Go.IntKind.i64 0]) from by unfold zero?; rw [show Try.prog.info? 52 = some Try.t52 from Try.type52]; rfl, show szT Try.prog 52 = some 3 from by unfold szT; rw [show Try.prog.info? 52 = some Try.t52 from Try.type52]; rfl, Value.cells]
theorem agg31 : aggT Try.prog 31 = some true := by unfold aggT; rw [Try.underlying31]; rfl
@[simp] theorem siz31 : szT Try.prog 31 = some 1 := by unfold szT; rw [show Try.prog.info? 31 = some Try.t31 from Try.type31]; rfl
@[simp ↓] theorem ty31 {q : Bool → Nat → Prop} : goTy Try.prog 31 q = q true 1 := by simp only [goTy, agg31, siz31]
@[simp ↓] theorem sz31 {q : Nat → Prop} : goSz Try.prog 31 q = q 1 := by simp only [goSz, siz31]
theorem zer31 : zero? Try.prog 31 = some (Go.Value.agg #[Go.Value.slice none 0 0]) := by unfold zero?; rw [show Try.prog.info? 31 = some Try.t31 from Try.type31]; rfl
@[simp ↓] theorem z31 {q : List Value → Prop} : goZ Try.prog 31 q = q [Go.Value.slice none 0 0] := by simp [goZ, zer31, Value.cells]
@[simp] theorem und31 : Try.prog.underlying 31 = some (Go.TypeDesc.struct
  #[{ name := "Code", type := 30, offset := 0, embedded := false, tag := "", pkgPath := "", byteOffset := 0 }]) := opq Try.underlying31
@[simp ↓] theorem fld31_0 {q : Nat → TypeId → Prop} : goFld Try.prog 31 0 q = q 0 30 := by simp only [goFld, und31]; rfl
@[simp ↓] theorem bld31 {q : List Value → List (Nat × Nat) → Prop} : goBld Try.prog 31 q = q [Go.Value.slice none 0 0] [(0, 1)] := by simp [goBld, und31, zer31, placesL, Value.cells]
theorem agg32 : aggT Try.prog 32 = some true := by unfold aggT; rw [Try.underlying32]; rfl
@[simp] theorem siz32 : szT Try.prog 32 = some 1 := by unfold szT; rw [show Try.prog.info? 32 = some Try.t32 from Try.type32]; rfl
@[simp ↓] theorem ty32 {q : Bool → Nat → Prop} : goTy Try.prog 32 q = q true 1 := by simp only [goTy, agg32, siz32]
@[simp ↓] theorem sz32 {q : Nat → Prop} : goSz Try.prog 32 q = q 1 := by simp only [goSz, siz32]
theorem zer32 : zero? Try.prog 32 = some (Go.Value.agg #[Go.Value.slice none 0 0]) := by unfold zero?; rw [show Try.prog.info? 32 = some Try.t32 from Try.type32]; rfl
@[simp ↓] theorem z32 {q : List Value → Prop} : goZ Try.prog 32 q = q [Go.Value.slice none 0 0] := by simp [goZ, zer32, Value.cells]
@[simp] theorem und32 : Try.prog.underlying 32 = some (Go.TypeDesc.struct
  #[{ name := "Code", type := 30, offset := 0, embedded := false, tag := "", pkgPath := "", byteOffset := 0 }]) := opq Try.underlying32
@[simp ↓] theorem fld32_0 {q : Nat → TypeId → Prop} : goFld Try.prog 32 0 q = q 0 30 := by simp only [goFld, und32]; rfl
@[simp ↓] theorem bld32 {q : List Value → List (Nat × Nat) → Prop} : goBld Try.prog 32 q = q [Go.Value.slice none 0 0] [(0, 1)] := by simp [goBld, und32, zer32, placesL, Value.cells]
theorem agg33 : aggT Try.prog 33 = some false := by unfold aggT; rw [Try.underlying33]; rfl
@[simp] theorem siz33 : szT Try.prog 33 = some 1 := by unfold szT; rw [show Try.prog.info? 33 = some Try.t33 from Try.type33]; rfl
@[simp ↓] theorem ty33 {q : Bool → Nat → Prop} : goTy Try.prog 33 q = q false 1 := by simp only [goTy, agg33, siz33]
@[simp ↓] theorem sz33 {q : Nat → Prop} : goSz Try.prog 33 q = q 1 := by simp only [goSz, siz33]
theorem zer33 : zero? Try.prog 33 = some Go.Value.nilFunc := by unfold zero?; rw [show Try.prog.info? 33 = some Try.t33 from Try.type33]; rfl
@[simp ↓] theorem z33 {q : List Value → Prop} : goZ Try.prog 33 q = q [Go.Value.nilFunc] := by simp [goZ, zer33, Value.cells]
theorem agg34 : aggT Try.prog 34 = some false := by unfold aggT; rw [Try.underlying34]; rfl
@[simp] theorem siz34 : szT Try.prog 34 = some 1 := by unfold szT; rw [show Try.prog.info? 34 = some Try.t34 from Try.type34]; rfl
@[simp ↓] theorem ty34 {q : Bool → Nat → Prop} : goTy Try.prog 34 q = q false 1 := by simp only [goTy, agg34, siz34]
@[simp ↓] theorem sz34 {q : Nat → Prop} : goSz Try.prog 34 q = q 1 := by simp only [goSz, siz34]
theorem zer34 : zero? Try.prog 34 = some Go.Value.nilFunc := by unfold zero?; rw [show Try.prog.info? 34 = some Try.t34 from Try.type34]; rfl
@[simp ↓] theorem z34 {q : List Value → Prop} : goZ Try.prog 34 q = q [Go.Value.nilFunc] := by simp [goZ, zer34, Value.cells]
theorem agg35 : aggT Try.prog 35 = some false := by unfold aggT; rw [Try.underlying35]; rfl
@[simp] theorem siz35 : szT Try.prog 35 = some 1 := by unfold szT; rw [show Try.prog.info? 35 = some Try.t35 from Try.type35]; rfl
@[simp ↓] theorem ty35 {q : Bool → Nat → Prop} : goTy Try.prog 35 q = q false 1 := by simp only [goTy, agg35, siz35]
@[simp ↓] theorem sz35 {q : Nat → Prop} : goSz Try.prog 35 q = q 1 := by simp only [goSz, siz35]
theorem zer35 : zero? Try.prog 35 = some (Go.Value.slice none 0 0) := by unfold zero?; rw [show Try.prog.info? 35 = some Try.t35 from Try.type35]; rfl
@[simp ↓] theorem z35 {q : List Value → Prop} : goZ Try.prog 35 q = q [(Go.Value.slice none 0 0)] := by simp [goZ, zer35, Value.cells]
@[simp] theorem und35 : Try.prog.underlying 35 = some (Go.TypeDesc.slice 46) := opq Try.underlying35
@[simp ↓] theorem un35 {q : TypeDesc → Prop} : goUnd Try.prog 35 q = q (Go.TypeDesc.slice 46) := by simp only [goUnd, und35]
theorem slt35 : SlT Try.prog 35 46 3 32 := ⟨Try.underlying35, ⟨Try.t46, _, Try.type46, rfl, rfl, rfl, by simp, rfl⟩, by decide⟩
@[simp ↓] theorem sl35 {q : TypeId → Nat → List Value → Prop} : goSl Try.prog 35 q = q 46 3 [Go.Value.int Go.IntKind.i64 0, Go.Value.string { data := #[] }, Go.Value.int Go.IntKind.i64 0] := by simp [goSl, und35, show zero? Try.prog 46 = some (Go.Value.agg #[Go.Value.int Go.IntKind.i64 0, Go.Value.string { data := #[] }, Go.Value.int Go.IntKind.i64 0]) from by unfold zero?; rw [show Try.prog.info? 46 = some Try.t46 from Try.type46]; rfl, show szT Try.prog 46 = some 3 from by unfold szT; rw [show Try.prog.info? 46 = some Try.t46 from Try.type46]; rfl, Value.cells]
theorem agg36 : aggT Try.prog 36 = some true := by unfold aggT; rw [Try.underlying36]; rfl
@[simp] theorem siz36 : szT Try.prog 36 = some 1 := by unfold szT; rw [show Try.prog.info? 36 = some Try.t36 from Try.type36]; rfl
@[simp ↓] theorem ty36 {q : Bool → Nat → Prop} : goTy Try.prog 36 q = q true 1 := by simp only [goTy, agg36, siz36]
@[simp ↓] theorem sz36 {q : Nat → Prop} : goSz Try.prog 36 q = q 1 := by simp only [goSz, siz36]
theorem zer36 : zero? Try.prog 36 = some (Go.Value.agg #[Go.Value.slice none 0 0]) := by unfold zero?; rw [show Try.prog.info? 36 = some Try.t36 from Try.type36]; rfl
@[simp ↓] theorem z36 {q : List Value → Prop} : goZ Try.prog 36 q = q [Go.Value.slice none 0 0] := by simp [goZ, zer36, Value.cells]
@[simp] theorem und36 : Try.prog.underlying 36 = some (Go.TypeDesc.struct
  #[{ name := "Code", type := 35, offset := 0, embedded := false, tag := "", pkgPath := "", byteOffset := 0 }]) := opq Try.underlying36
@[simp ↓] theorem fld36_0 {q : Nat → TypeId → Prop} : goFld Try.prog 36 0 q = q 0 35 := by simp only [goFld, und36]; rfl
@[simp ↓] theorem bld36 {q : List Value → List (Nat × Nat) → Prop} : goBld Try.prog 36 q = q [Go.Value.slice none 0 0] [(0, 1)] := by simp [goBld, und36, zer36, placesL, Value.cells]
theorem agg37 : aggT Try.prog 37 = some true := by unfold aggT; rw [Try.underlying37]; rfl
@[simp] theorem siz37 : szT Try.prog 37 = some 1 := by unfold szT; rw [show Try.prog.info? 37 = some Try.t37 from Try.type37]; rfl
@[simp ↓] theorem ty37 {q : Bool → Nat → Prop} : goTy Try.prog 37 q = q true 1 := by simp only [goTy, agg37, siz37]
@[simp ↓] theorem sz37 {q : Nat → Prop} : goSz Try.prog 37 q = q 1 := by simp only [goSz, siz37]
theorem zer37 : zero? Try.prog 37 = some (Go.Value.agg #[Go.Value.slice none 0 0]) := by unfold zero?; rw [show Try.prog.info? 37 = some Try.t37 from Try.type37]; rfl
@[simp ↓] theorem z37 {q : List Value → Prop} : goZ Try.prog 37 q = q [Go.Value.slice none 0 0] := by simp [goZ, zer37, Value.cells]
@[simp] theorem und37 : Try.prog.underlying 37 = some (Go.TypeDesc.struct
  #[{ name := "Code", type := 35, offset := 0, embedded := false, tag := "", pkgPath := "", byteOffset := 0 }]) := opq Try.underlying37
@[simp ↓] theorem fld37_0 {q : Nat → TypeId → Prop} : goFld Try.prog 37 0 q = q 0 35 := by simp only [goFld, und37]; rfl
@[simp ↓] theorem bld37 {q : List Value → List (Nat × Nat) → Prop} : goBld Try.prog 37 q = q [Go.Value.slice none 0 0] [(0, 1)] := by simp [goBld, und37, zer37, placesL, Value.cells]
theorem agg38 : aggT Try.prog 38 = some false := by unfold aggT; rw [Try.underlying38]; rfl
@[simp] theorem siz38 : szT Try.prog 38 = some 1 := by unfold szT; rw [show Try.prog.info? 38 = some Try.t38 from Try.type38]; rfl
@[simp ↓] theorem ty38 {q : Bool → Nat → Prop} : goTy Try.prog 38 q = q false 1 := by simp only [goTy, agg38, siz38]
@[simp ↓] theorem sz38 {q : Nat → Prop} : goSz Try.prog 38 q = q 1 := by simp only [goSz, siz38]
theorem zer38 : zero? Try.prog 38 = some Go.Value.nilFunc := by unfold zero?; rw [show Try.prog.info? 38 = some Try.t38 from Try.type38]; rfl
@[simp ↓] theorem z38 {q : List Value → Prop} : goZ Try.prog 38 q = q [Go.Value.nilFunc] := by simp [goZ, zer38, Value.cells]
theorem agg39 : aggT Try.prog 39 = some false := by unfold aggT; rw [Try.underlying39]; rfl
@[simp] theorem siz39 : szT Try.prog 39 = some 1 := by unfold szT; rw [show Try.prog.info? 39 = some Try.t39 from Try.type39]; rfl
@[simp ↓] theorem ty39 {q : Bool → Nat → Prop} : goTy Try.prog 39 q = q false 1 := by simp only [goTy, agg39, siz39]
@[simp ↓] theorem sz39 {q : Nat → Prop} : goSz Try.prog 39 q = q 1 := by simp only [goSz, siz39]
theorem zer39 : zero? Try.prog 39 = some Go.Value.nilFunc := by unfold zero?; rw [show Try.prog.info? 39 = some Try.t39 from Try.type39]; rfl
@[simp ↓] theorem z39 {q : List Value → Prop} : goZ Try.prog 39 q = q [Go.Value.nilFunc] := by simp [goZ, zer39, Value.cells]
theorem agg40 : aggT Try.prog 40 = some false := by unfold aggT; rw [Try.underlying40]; rfl
@[simp] theorem siz40 : szT Try.prog 40 = some 1 := by unfold szT; rw [show Try.prog.info? 40 = some Try.t40 from Try.type40]; rfl
@[simp ↓] theorem ty40 {q : Bool → Nat → Prop} : goTy Try.prog 40 q = q false 1 := by simp only [goTy, agg40, siz40]
@[simp ↓] theorem sz40 {q : Nat → Prop} : goSz Try.prog 40 q = q 1 := by simp only [goSz, siz40]
theorem zer40 : zero? Try.prog 40 = some Go.Value.nilFunc := by unfold zero?; rw [show Try.prog.info? 40 = some Try.t40 from Try.type40]; rfl
@[simp ↓] theorem z40 {q : List Value → Prop} : goZ Try.prog 40 q = q [Go.Value.nilFunc] := by simp [goZ, zer40, Value.cells]
theorem agg41 : aggT Try.prog 41 = some false := by unfold aggT; rw [Try.underlying41]; rfl
@[simp] theorem siz41 : szT Try.prog 41 = some 1 := by unfold szT; rw [show Try.prog.info? 41 = some Try.t41 from Try.type41]; rfl
@[simp ↓] theorem ty41 {q : Bool → Nat → Prop} : goTy Try.prog 41 q = q false 1 := by simp only [goTy, agg41, siz41]
@[simp ↓] theorem sz41 {q : Nat → Prop} : goSz Try.prog 41 q = q 1 := by simp only [goSz, siz41]
theorem zer41 : zero? Try.prog 41 = some Go.Value.nilFunc := by unfold zero?; rw [show Try.prog.info? 41 = some Try.t41 from Try.type41]; rfl
@[simp ↓] theorem z41 {q : List Value → Prop} : goZ Try.prog 41 q = q [Go.Value.nilFunc] := by simp [goZ, zer41, Value.cells]
theorem agg42 : aggT Try.prog 42 = some false := by unfold aggT; rw [Try.underlying42]; rfl
@[simp] theorem siz42 : szT Try.prog 42 = some 1 := by unfold szT; rw [show Try.prog.info? 42 = some Try.t42 from Try.type42]; rfl
@[simp ↓] theorem ty42 {q : Bool → Nat → Prop} : goTy Try.prog 42 q = q false 1 := by simp only [goTy, agg42, siz42]
@[simp ↓] theorem sz42 {q : Nat → Prop} : goSz Try.prog 42 q = q 1 := by simp only [goSz, siz42]
theorem zer42 : zero? Try.prog 42 = some Go.Value.nilFunc := by unfold zero?; rw [show Try.prog.info? 42 = some Try.t42 from Try.type42]; rfl
@[simp ↓] theorem z42 {q : List Value → Prop} : goZ Try.prog 42 q = q [Go.Value.nilFunc] := by simp [goZ, zer42, Value.cells]
theorem agg43 : aggT Try.prog 43 = some false := by unfold aggT; rw [Try.underlying43]; rfl
@[simp] theorem siz43 : szT Try.prog 43 = some 1 := by unfold szT; rw [show Try.prog.info? 43 = some Try.t43 from Try.type43]; rfl
@[simp ↓] theorem ty43 {q : Bool → Nat → Prop} : goTy Try.prog 43 q = q false 1 := by simp only [goTy, agg43, siz43]
@[simp ↓] theorem sz43 {q : Nat → Prop} : goSz Try.prog 43 q = q 1 := by simp only [goSz, siz43]
theorem zer43 : zero? Try.prog 43 = some Go.Value.nilFunc := by unfold zero?; rw [show Try.prog.info? 43 = some Try.t43 from Try.type43]; rfl
@[simp ↓] theorem z43 {q : List Value → Prop} : goZ Try.prog 43 q = q [Go.Value.nilFunc] := by simp [goZ, zer43, Value.cells]
theorem agg44 : aggT Try.prog 44 = some false := by unfold aggT; rw [Try.underlying44]; rfl
@[simp] theorem siz44 : szT Try.prog 44 = some 1 := by unfold szT; rw [show Try.prog.info? 44 = some Try.t44 from Try.type44]; rfl
@[simp ↓] theorem ty44 {q : Bool → Nat → Prop} : goTy Try.prog 44 q = q false 1 := by simp only [goTy, agg44, siz44]
@[simp ↓] theorem sz44 {q : Nat → Prop} : goSz Try.prog 44 q = q 1 := by simp only [goSz, siz44]
theorem zer44 : zero? Try.prog 44 = some Go.Value.nilFunc := by unfold zero?; rw [show Try.prog.info? 44 = some Try.t44 from Try.type44]; rfl
@[simp ↓] theorem z44 {q : List Value → Prop} : goZ Try.prog 44 q = q [Go.Value.nilFunc] := by simp [goZ, zer44, Value.cells]
theorem agg45 : aggT Try.prog 45 = some true := by unfold aggT; rw [Try.underlying45]; rfl
@[simp] theorem siz45 : szT Try.prog 45 = some 3 := by unfold szT; rw [show Try.prog.info? 45 = some Try.t45 from Try.type45]; rfl
@[simp ↓] theorem ty45 {q : Bool → Nat → Prop} : goTy Try.prog 45 q = q true 3 := by simp only [goTy, agg45, siz45]
@[simp ↓] theorem sz45 {q : Nat → Prop} : goSz Try.prog 45 q = q 3 := by simp only [goSz, siz45]
theorem zer45 : zero? Try.prog 45 = some (Go.Value.agg #[Go.Value.int Go.IntKind.i64 0, Go.Value.string { data := #[] }, Go.Value.int Go.IntKind.i64 0]) := by unfold zero?; rw [show Try.prog.info? 45 = some Try.t45 from Try.type45]; rfl
@[simp ↓] theorem z45 {q : List Value → Prop} : goZ Try.prog 45 q = q [Go.Value.int Go.IntKind.i64 0, Go.Value.string { data := #[] }, Go.Value.int Go.IntKind.i64 0] := by simp [goZ, zer45, Value.cells]
@[simp] theorem und45 : Try.prog.underlying 45 = some (Go.TypeDesc.struct
  #[{ name := "Op", type := 3, offset := 0, embedded := false, tag := "", pkgPath := "", byteOffset := 0 },
    { name := "Text", type := 9, offset := 1, embedded := false, tag := "", pkgPath := "", byteOffset := 8 },
    { name := "N", type := 3, offset := 2, embedded := false, tag := "", pkgPath := "", byteOffset := 24 }]) := opq Try.underlying45
@[simp ↓] theorem fld45_0 {q : Nat → TypeId → Prop} : goFld Try.prog 45 0 q = q 0 3 := by simp only [goFld, und45]; rfl
@[simp ↓] theorem fld45_1 {q : Nat → TypeId → Prop} : goFld Try.prog 45 1 q = q 1 9 := by simp only [goFld, und45]; rfl
@[simp ↓] theorem fld45_2 {q : Nat → TypeId → Prop} : goFld Try.prog 45 2 q = q 2 3 := by simp only [goFld, und45]; rfl
@[simp ↓] theorem bld45 {q : List Value → List (Nat × Nat) → Prop} : goBld Try.prog 45 q = q [Go.Value.int Go.IntKind.i64 0, Go.Value.string { data := #[] }, Go.Value.int Go.IntKind.i64 0] [(0, 1), (1, 1), (2, 1)] := by simp [goBld, und45, zer45, placesL, Value.cells]
theorem agg46 : aggT Try.prog 46 = some true := by unfold aggT; rw [Try.underlying46]; rfl
@[simp] theorem siz46 : szT Try.prog 46 = some 3 := by unfold szT; rw [show Try.prog.info? 46 = some Try.t46 from Try.type46]; rfl
@[simp ↓] theorem ty46 {q : Bool → Nat → Prop} : goTy Try.prog 46 q = q true 3 := by simp only [goTy, agg46, siz46]
@[simp ↓] theorem sz46 {q : Nat → Prop} : goSz Try.prog 46 q = q 3 := by simp only [goSz, siz46]
theorem zer46 : zero? Try.prog 46 = some (Go.Value.agg #[Go.Value.int Go.IntKind.i64 0, Go.Value.string { data := #[] }, Go.Value.int Go.IntKind.i64 0]) := by unfold zero?; rw [show Try.prog.info? 46 = some Try.t46 from Try.type46]; rfl
@[simp ↓] theorem z46 {q : List Value → Prop} : goZ Try.prog 46 q = q [Go.Value.int Go.IntKind.i64 0, Go.Value.string { data := #[] }, Go.Value.int Go.IntKind.i64 0] := by simp [goZ, zer46, Value.cells]
@[simp] theorem und46 : Try.prog.underlying 46 = some (Go.TypeDesc.struct
  #[{ name := "Op", type := 3, offset := 0, embedded := false, tag := "", pkgPath := "", byteOffset := 0 },
    { name := "Text", type := 9, offset := 1, embedded := false, tag := "", pkgPath := "", byteOffset := 8 },
    { name := "N", type := 3, offset := 2, embedded := false, tag := "", pkgPath := "", byteOffset := 24 }]) := opq Try.underlying46
@[simp ↓] theorem fld46_0 {q : Nat → TypeId → Prop} : goFld Try.prog 46 0 q = q 0 3 := by simp only [goFld, und46]; rfl
@[simp ↓] theorem fld46_1 {q : Nat → TypeId → Prop} : goFld Try.prog 46 1 q = q 1 9 := by simp only [goFld, und46]; rfl
@[simp ↓] theorem fld46_2 {q : Nat → TypeId → Prop} : goFld Try.prog 46 2 q = q 2 3 := by simp only [goFld, und46]; rfl
@[simp ↓] theorem bld46 {q : List Value → List (Nat × Nat) → Prop} : goBld Try.prog 46 q = q [Go.Value.int Go.IntKind.i64 0, Go.Value.string { data := #[] }, Go.Value.int Go.IntKind.i64 0] [(0, 1), (1, 1), (2, 1)] := by simp [goBld, und46, zer46, placesL, Value.cells]
theorem agg47 : aggT Try.prog 47 = some false := by unfold aggT; rw [Try.underlying47]; rfl
@[simp] theorem siz47 : szT Try.prog 47 = some 1 := by unfold szT; rw [show Try.prog.info? 47 = some Try.t47 from Try.type47]; rfl
@[simp ↓] theorem ty47 {q : Bool → Nat → Prop} : goTy Try.prog 47 q = q false 1 := by simp only [goTy, agg47, siz47]
@[simp ↓] theorem sz47 {q : Nat → Prop} : goSz Try.prog 47 q = q 1 := by simp only [goSz, siz47]
theorem zer47 : zero? Try.prog 47 = some Go.Value.nilFunc := by unfold zero?; rw [show Try.prog.info? 47 = some Try.t47 from Try.type47]; rfl
@[simp ↓] theorem z47 {q : List Value → Prop} : goZ Try.prog 47 q = q [Go.Value.nilFunc] := by simp [goZ, zer47, Value.cells]
theorem agg48 : aggT Try.prog 48 = some false := by unfold aggT; rw [Try.underlying48]; rfl
@[simp] theorem siz48 : szT Try.prog 48 = some 1 := by unfold szT; rw [show Try.prog.info? 48 = some Try.t48 from Try.type48]; rfl
@[simp ↓] theorem ty48 {q : Bool → Nat → Prop} : goTy Try.prog 48 q = q false 1 := by simp only [goTy, agg48, siz48]
@[simp ↓] theorem sz48 {q : Nat → Prop} : goSz Try.prog 48 q = q 1 := by simp only [goSz, siz48]
theorem zer48 : zero? Try.prog 48 = some Go.Value.nilFunc := by unfold zero?; rw [show Try.prog.info? 48 = some Try.t48 from Try.type48]; rfl
@[simp ↓] theorem z48 {q : List Value → Prop} : goZ Try.prog 48 q = q [Go.Value.nilFunc] := by simp [goZ, zer48, Value.cells]
theorem agg49 : aggT Try.prog 49 = some false := by unfold aggT; rw [Try.underlying49]; rfl
@[simp] theorem siz49 : szT Try.prog 49 = some 1 := by unfold szT; rw [show Try.prog.info? 49 = some Try.t49 from Try.type49]; rfl
@[simp ↓] theorem ty49 {q : Bool → Nat → Prop} : goTy Try.prog 49 q = q false 1 := by simp only [goTy, agg49, siz49]
@[simp ↓] theorem sz49 {q : Nat → Prop} : goSz Try.prog 49 q = q 1 := by simp only [goSz, siz49]
theorem zer49 : zero? Try.prog 49 = some Go.Value.nilFunc := by unfold zero?; rw [show Try.prog.info? 49 = some Try.t49 from Try.type49]; rfl
@[simp ↓] theorem z49 {q : List Value → Prop} : goZ Try.prog 49 q = q [Go.Value.nilFunc] := by simp [goZ, zer49, Value.cells]
theorem agg50 : aggT Try.prog 50 = some false := by unfold aggT; rw [Try.underlying50]; rfl
@[simp] theorem siz50 : szT Try.prog 50 = some 1 := by unfold szT; rw [show Try.prog.info? 50 = some Try.t50 from Try.type50]; rfl
@[simp ↓] theorem ty50 {q : Bool → Nat → Prop} : goTy Try.prog 50 q = q false 1 := by simp only [goTy, agg50, siz50]
@[simp ↓] theorem sz50 {q : Nat → Prop} : goSz Try.prog 50 q = q 1 := by simp only [goSz, siz50]
theorem zer50 : zero? Try.prog 50 = some Go.Value.nilFunc := by unfold zero?; rw [show Try.prog.info? 50 = some Try.t50 from Try.type50]; rfl
@[simp ↓] theorem z50 {q : List Value → Prop} : goZ Try.prog 50 q = q [Go.Value.nilFunc] := by simp [goZ, zer50, Value.cells]
theorem agg51 : aggT Try.prog 51 = some false := by unfold aggT; rw [Try.underlying51]; rfl
@[simp] theorem siz51 : szT Try.prog 51 = some 1 := by unfold szT; rw [show Try.prog.info? 51 = some Try.t51 from Try.type51]; rfl
@[simp ↓] theorem ty51 {q : Bool → Nat → Prop} : goTy Try.prog 51 q = q false 1 := by simp only [goTy, agg51, siz51]
@[simp ↓] theorem sz51 {q : Nat → Prop} : goSz Try.prog 51 q = q 1 := by simp only [goSz, siz51]
theorem zer51 : zero? Try.prog 51 = some Go.Value.nilFunc := by unfold zero?; rw [show Try.prog.info? 51 = some Try.t51 from Try.type51]; rfl
@[simp ↓] theorem z51 {q : List Value → Prop} : goZ Try.prog 51 q = q [Go.Value.nilFunc] := by simp [goZ, zer51, Value.cells]
theorem agg52 : aggT Try.prog 52 = some true := by unfold aggT; rw [Try.underlying52]; rfl
@[simp] theorem siz52 : szT Try.prog 52 = some 3 := by unfold szT; rw [show Try.prog.info? 52 = some Try.t52 from Try.type52]; rfl
@[simp ↓] theorem ty52 {q : Bool → Nat → Prop} : goTy Try.prog 52 q = q true 3 := by simp only [goTy, agg52, siz52]
@[simp ↓] theorem sz52 {q : Nat → Prop} : goSz Try.prog 52 q = q 3 := by simp only [goSz, siz52]
theorem zer52 : zero? Try.prog 52 = some (Go.Value.agg #[Go.Value.int Go.IntKind.i64 0, Go.Value.string { data := #[] }, Go.Value.int Go.IntKind.i64 0]) := by unfold zero?; rw [show Try.prog.info? 52 = some Try.t52 from Try.type52]; rfl
@[simp ↓] theorem z52 {q : List Value → Prop} : goZ Try.prog 52 q = q [Go.Value.int Go.IntKind.i64 0, Go.Value.string { data := #[] }, Go.Value.int Go.IntKind.i64 0] := by simp [goZ, zer52, Value.cells]
@[simp] theorem und52 : Try.prog.underlying 52 = some (Go.TypeDesc.struct
  #[{ name := "Op", type := 3, offset := 0, embedded := false, tag := "", pkgPath := "", byteOffset := 0 },
    { name := "Text", type := 9, offset := 1, embedded := false, tag := "", pkgPath := "", byteOffset := 8 },
    { name := "N", type := 3, offset := 2, embedded := false, tag := "", pkgPath := "", byteOffset := 24 }]) := opq Try.underlying52
@[simp ↓] theorem fld52_0 {q : Nat → TypeId → Prop} : goFld Try.prog 52 0 q = q 0 3 := by simp only [goFld, und52]; rfl
@[simp ↓] theorem fld52_1 {q : Nat → TypeId → Prop} : goFld Try.prog 52 1 q = q 1 9 := by simp only [goFld, und52]; rfl
@[simp ↓] theorem fld52_2 {q : Nat → TypeId → Prop} : goFld Try.prog 52 2 q = q 2 3 := by simp only [goFld, und52]; rfl
@[simp ↓] theorem bld52 {q : List Value → List (Nat × Nat) → Prop} : goBld Try.prog 52 q = q [Go.Value.int Go.IntKind.i64 0, Go.Value.string { data := #[] }, Go.Value.int Go.IntKind.i64 0] [(0, 1), (1, 1), (2, 1)] := by simp [goBld, und52, zer52, placesL, Value.cells]
theorem agg54 : aggT Try.prog 54 = some false := by unfold aggT; rw [Try.underlying54]; rfl
@[simp] theorem siz54 : szT Try.prog 54 = some 1 := by unfold szT; rw [show Try.prog.info? 54 = some Try.t54 from Try.type54]; rfl
@[simp ↓] theorem ty54 {q : Bool → Nat → Prop} : goTy Try.prog 54 q = q false 1 := by simp only [goTy, agg54, siz54]
@[simp ↓] theorem sz54 {q : Nat → Prop} : goSz Try.prog 54 q = q 1 := by simp only [goSz, siz54]
theorem zer54 : zero? Try.prog 54 = some Go.Value.nilFunc := by unfold zero?; rw [show Try.prog.info? 54 = some Try.t54 from Try.type54]; rfl
@[simp ↓] theorem z54 {q : List Value → Prop} : goZ Try.prog 54 q = q [Go.Value.nilFunc] := by simp [goZ, zer54, Value.cells]
theorem agg55 : aggT Try.prog 55 = some false := by unfold aggT; rw [Try.underlying55]; rfl
@[simp] theorem siz55 : szT Try.prog 55 = some 1 := by unfold szT; rw [show Try.prog.info? 55 = some Try.t55 from Try.type55]; rfl
@[simp ↓] theorem ty55 {q : Bool → Nat → Prop} : goTy Try.prog 55 q = q false 1 := by simp only [goTy, agg55, siz55]
@[simp ↓] theorem sz55 {q : Nat → Prop} : goSz Try.prog 55 q = q 1 := by simp only [goSz, siz55]
theorem zer55 : zero? Try.prog 55 = some Go.Value.nilFunc := by unfold zero?; rw [show Try.prog.info? 55 = some Try.t55 from Try.type55]; rfl
@[simp ↓] theorem z55 {q : List Value → Prop} : goZ Try.prog 55 q = q [Go.Value.nilFunc] := by simp [goZ, zer55, Value.cells]
theorem agg56 : aggT Try.prog 56 = some false := by unfold aggT; rw [Try.underlying56]; rfl
@[simp] theorem siz56 : szT Try.prog 56 = some 1 := by unfold szT; rw [show Try.prog.info? 56 = some Try.t56 from Try.type56]; rfl
@[simp ↓] theorem ty56 {q : Bool → Nat → Prop} : goTy Try.prog 56 q = q false 1 := by simp only [goTy, agg56, siz56]
@[simp ↓] theorem sz56 {q : Nat → Prop} : goSz Try.prog 56 q = q 1 := by simp only [goSz, siz56]
theorem zer56 : zero? Try.prog 56 = some Go.Value.nilFunc := by unfold zero?; rw [show Try.prog.info? 56 = some Try.t56 from Try.type56]; rfl
@[simp ↓] theorem z56 {q : List Value → Prop} : goZ Try.prog 56 q = q [Go.Value.nilFunc] := by simp [goZ, zer56, Value.cells]
theorem agg57 : aggT Try.prog 57 = some false := by unfold aggT; rw [Try.underlying57]; rfl
@[simp] theorem siz57 : szT Try.prog 57 = some 1 := by unfold szT; rw [show Try.prog.info? 57 = some Try.t57 from Try.type57]; rfl
@[simp ↓] theorem ty57 {q : Bool → Nat → Prop} : goTy Try.prog 57 q = q false 1 := by simp only [goTy, agg57, siz57]
@[simp ↓] theorem sz57 {q : Nat → Prop} : goSz Try.prog 57 q = q 1 := by simp only [goSz, siz57]
theorem zer57 : zero? Try.prog 57 = some Go.Value.nilFunc := by unfold zero?; rw [show Try.prog.info? 57 = some Try.t57 from Try.type57]; rfl
@[simp ↓] theorem z57 {q : List Value → Prop} : goZ Try.prog 57 q = q [Go.Value.nilFunc] := by simp [goZ, zer57, Value.cells]
theorem agg58 : aggT Try.prog 58 = some false := by unfold aggT; rw [Try.underlying58]; rfl
@[simp] theorem siz58 : szT Try.prog 58 = some 1 := by unfold szT; rw [show Try.prog.info? 58 = some Try.t58 from Try.type58]; rfl
@[simp ↓] theorem ty58 {q : Bool → Nat → Prop} : goTy Try.prog 58 q = q false 1 := by simp only [goTy, agg58, siz58]
@[simp ↓] theorem sz58 {q : Nat → Prop} : goSz Try.prog 58 q = q 1 := by simp only [goSz, siz58]
theorem zer58 : zero? Try.prog 58 = some (Go.Value.slice none 0 0) := by unfold zero?; rw [show Try.prog.info? 58 = some Try.t58 from Try.type58]; rfl
@[simp ↓] theorem z58 {q : List Value → Prop} : goZ Try.prog 58 q = q [(Go.Value.slice none 0 0)] := by simp [goZ, zer58, Value.cells]
@[simp] theorem und58 : Try.prog.underlying 58 = some (Go.TypeDesc.slice 5) := opq Try.underlying58
@[simp ↓] theorem un58 {q : TypeDesc → Prop} : goUnd Try.prog 58 q = q (Go.TypeDesc.slice 5) := by simp only [goUnd, und58]
theorem slt58 : SlT Try.prog 58 5 1 1 := ⟨Try.underlying58, ⟨Try.t5, _, Try.type5, rfl, rfl, rfl, by simp, rfl⟩, by decide⟩
@[simp ↓] theorem sl58 {q : TypeId → Nat → List Value → Prop} : goSl Try.prog 58 q = q 5 1 [(Go.Value.int Go.IntKind.u8 0)] := by simp [goSl, und58, show zero? Try.prog 5 = some (Go.Value.int Go.IntKind.u8 0) from by unfold zero?; rw [show Try.prog.info? 5 = some Try.t5 from Try.type5]; rfl, show szT Try.prog 5 = some 1 from by unfold szT; rw [show Try.prog.info? 5 = some Try.t5 from Try.type5]; rfl, Value.cells]
theorem agg59 : aggT Try.prog 59 = some false := by unfold aggT; rw [Try.underlying59]; rfl
@[simp] theorem siz59 : szT Try.prog 59 = some 1 := by unfold szT; rw [show Try.prog.info? 59 = some Try.t59 from Try.type59]; rfl
@[simp ↓] theorem ty59 {q : Bool → Nat → Prop} : goTy Try.prog 59 q = q false 1 := by simp only [goTy, agg59, siz59]
@[simp ↓] theorem sz59 {q : Nat → Prop} : goSz Try.prog 59 q = q 1 := by simp only [goSz, siz59]
theorem zer59 : zero? Try.prog 59 = some Go.Value.nilFunc := by unfold zero?; rw [show Try.prog.info? 59 = some Try.t59 from Try.type59]; rfl
@[simp ↓] theorem z59 {q : List Value → Prop} : goZ Try.prog 59 q = q [Go.Value.nilFunc] := by simp [goZ, zer59, Value.cells]
theorem agg60 : aggT Try.prog 60 = some true := by unfold aggT; rw [Try.underlying60]; rfl
@[simp] theorem siz60 : szT Try.prog 60 = some 4 := by unfold szT; rw [show Try.prog.info? 60 = some Try.t60 from Try.type60]; rfl
@[simp ↓] theorem ty60 {q : Bool → Nat → Prop} : goTy Try.prog 60 q = q true 4 := by simp only [goTy, agg60, siz60]
@[simp ↓] theorem sz60 {q : Nat → Prop} : goSz Try.prog 60 q = q 4 := by simp only [goSz, siz60]
theorem zer60 : zero? Try.prog 60 = some
  (Go.Value.agg #[Go.Value.pointer none, Go.Value.pointer none, Go.Value.pointer none, Go.Value.string { data := #[] }]) := by unfold zero?; rw [show Try.prog.info? 60 = some Try.t60 from Try.type60]; rfl
@[simp ↓] theorem z60 {q : List Value → Prop} : goZ Try.prog 60 q = q [Go.Value.pointer none, Go.Value.pointer none, Go.Value.pointer none, Go.Value.string { data := #[] }] := by simp [goZ, zer60, Value.cells]
@[simp] theorem und60 : Try.prog.underlying 60 = some (Go.TypeDesc.struct
  #[{ name := "_interface", type := 17, offset := 0, embedded := false, tag := "", pkgPath := "runtime",
      byteOffset := 0 },
    { name := "concrete", type := 17, offset := 1, embedded := false, tag := "", pkgPath := "runtime",
      byteOffset := 8 },
    { name := "asserted", type := 17, offset := 2, embedded := false, tag := "", pkgPath := "runtime",
      byteOffset := 16 },
    { name := "missingMethod", type := 9, offset := 3, embedded := false, tag := "", pkgPath := "runtime",
      byteOffset := 24 }]) := opq Try.underlying60
@[simp ↓] theorem fld60_0 {q : Nat → TypeId → Prop} : goFld Try.prog 60 0 q = q 0 17 := by simp only [goFld, und60]; rfl
@[simp ↓] theorem fld60_1 {q : Nat → TypeId → Prop} : goFld Try.prog 60 1 q = q 1 17 := by simp only [goFld, und60]; rfl
@[simp ↓] theorem fld60_2 {q : Nat → TypeId → Prop} : goFld Try.prog 60 2 q = q 2 17 := by simp only [goFld, und60]; rfl
@[simp ↓] theorem fld60_3 {q : Nat → TypeId → Prop} : goFld Try.prog 60 3 q = q 3 9 := by simp only [goFld, und60]; rfl
@[simp ↓] theorem bld60 {q : List Value → List (Nat × Nat) → Prop} : goBld Try.prog 60 q = q [Go.Value.pointer none, Go.Value.pointer none, Go.Value.pointer none, Go.Value.string { data := #[] }] [(0, 1), (1, 1), (2, 1), (3, 1)] := by simp [goBld, und60, zer60, placesL, Value.cells]
theorem agg61 : aggT Try.prog 61 = some true := by unfold aggT; rw [Try.underlying61]; rfl
@[simp] theorem siz61 : szT Try.prog 61 = some 4 := by unfold szT; rw [show Try.prog.info? 61 = some Try.t61 from Try.type61]; rfl
@[simp ↓] theorem ty61 {q : Bool → Nat → Prop} : goTy Try.prog 61 q = q true 4 := by simp only [goTy, agg61, siz61]
@[simp ↓] theorem sz61 {q : Nat → Prop} : goSz Try.prog 61 q = q 4 := by simp only [goSz, siz61]
theorem zer61 : zero? Try.prog 61 = some
  (Go.Value.agg #[Go.Value.pointer none, Go.Value.pointer none, Go.Value.pointer none, Go.Value.string { data := #[] }]) := by unfold zero?; rw [show Try.prog.info? 61 = some Try.t61 from Try.type61]; rfl
@[simp ↓] theorem z61 {q : List Value → Prop} : goZ Try.prog 61 q = q [Go.Value.pointer none, Go.Value.pointer none, Go.Value.pointer none, Go.Value.string { data := #[] }] := by simp [goZ, zer61, Value.cells]
@[simp] theorem und61 : Try.prog.underlying 61 = some (Go.TypeDesc.struct
  #[{ name := "_interface", type := 17, offset := 0, embedded := false, tag := "", pkgPath := "runtime",
      byteOffset := 0 },
    { name := "concrete", type := 17, offset := 1, embedded := false, tag := "", pkgPath := "runtime",
      byteOffset := 8 },
    { name := "asserted", type := 17, offset := 2, embedded := false, tag := "", pkgPath := "runtime",
      byteOffset := 16 },
    { name := "missingMethod", type := 9, offset := 3, embedded := false, tag := "", pkgPath := "runtime",
      byteOffset := 24 }]) := opq Try.underlying61
@[simp ↓] theorem fld61_0 {q : Nat → TypeId → Prop} : goFld Try.prog 61 0 q = q 0 17 := by simp only [goFld, und61]; rfl
@[simp ↓] theorem fld61_1 {q : Nat → TypeId → Prop} : goFld Try.prog 61 1 q = q 1 17 := by simp only [goFld, und61]; rfl
@[simp ↓] theorem fld61_2 {q : Nat → TypeId → Prop} : goFld Try.prog 61 2 q = q 2 17 := by simp only [goFld, und61]; rfl
@[simp ↓] theorem fld61_3 {q : Nat → TypeId → Prop} : goFld Try.prog 61 3 q = q 3 9 := by simp only [goFld, und61]; rfl
@[simp ↓] theorem bld61 {q : List Value → List (Nat × Nat) → Prop} : goBld Try.prog 61 q = q [Go.Value.pointer none, Go.Value.pointer none, Go.Value.pointer none, Go.Value.string { data := #[] }] [(0, 1), (1, 1), (2, 1), (3, 1)] := by simp [goBld, und61, zer61, placesL, Value.cells]
theorem agg62 : aggT Try.prog 62 = some true := by unfold aggT; rw [Try.underlying62]; rfl
@[simp] theorem siz62 : szT Try.prog 62 = some 0 := by unfold szT; rw [show Try.prog.info? 62 = some Try.t62 from Try.type62]; rfl
@[simp ↓] theorem ty62 {q : Bool → Nat → Prop} : goTy Try.prog 62 q = q true 0 := by simp only [goTy, agg62, siz62]
@[simp ↓] theorem sz62 {q : Nat → Prop} : goSz Try.prog 62 q = q 0 := by simp only [goSz, siz62]
theorem zer62 : zero? Try.prog 62 = some (Go.Value.agg #[]) := by unfold zero?; rw [show Try.prog.info? 62 = some Try.t62 from Try.type62]; rfl
@[simp ↓] theorem z62 {q : List Value → Prop} : goZ Try.prog 62 q = q [] := by simp [goZ, zer62, Value.cells]
@[simp] theorem und62 : Try.prog.underlying 62 = some (Go.TypeDesc.array 0 16) := opq Try.underlying62
@[simp ↓] theorem un62 {q : TypeDesc → Prop} : goUnd Try.prog 62 q = q (Go.TypeDesc.array 0 16) := by simp only [goUnd, und62]
theorem agg63 : aggT Try.prog 63 = some true := by unfold aggT; rw [Try.underlying63]; rfl
@[simp] theorem siz63 : szT Try.prog 63 = some 0 := by unfold szT; rw [show Try.prog.info? 63 = some Try.t63 from Try.type63]; rfl
@[simp ↓] theorem ty63 {q : Bool → Nat → Prop} : goTy Try.prog 63 q = q true 0 := by simp only [goTy, agg63, siz63]
@[simp ↓] theorem sz63 {q : Nat → Prop} : goSz Try.prog 63 q = q 0 := by simp only [goSz, siz63]
theorem zer63 : zero? Try.prog 63 = some (Go.Value.agg #[]) := by unfold zero?; rw [show Try.prog.info? 63 = some Try.t63 from Try.type63]; rfl
@[simp ↓] theorem z63 {q : List Value → Prop} : goZ Try.prog 63 q = q [] := by simp [goZ, zer63, Value.cells]
@[simp] theorem und63 : Try.prog.underlying 63 = some (Go.TypeDesc.struct
  #[{ name := "_", type := 62, offset := 0, embedded := false, tag := "", pkgPath := "runtime", byteOffset := 0 }]) := opq Try.underlying63
@[simp ↓] theorem fld63_0 {q : Nat → TypeId → Prop} : goFld Try.prog 63 0 q = q 0 62 := by simp only [goFld, und63]; rfl
@[simp ↓] theorem bld63 {q : List Value → List (Nat × Nat) → Prop} : goBld Try.prog 63 q = q [] [(0, 0)] := by simp [goBld, und63, zer63, placesL, Value.cells]
theorem agg64 : aggT Try.prog 64 = some true := by unfold aggT; rw [Try.underlying64]; rfl
@[simp] theorem siz64 : szT Try.prog 64 = some 0 := by unfold szT; rw [show Try.prog.info? 64 = some Try.t64 from Try.type64]; rfl
@[simp ↓] theorem ty64 {q : Bool → Nat → Prop} : goTy Try.prog 64 q = q true 0 := by simp only [goTy, agg64, siz64]
@[simp ↓] theorem sz64 {q : Nat → Prop} : goSz Try.prog 64 q = q 0 := by simp only [goSz, siz64]
theorem zer64 : zero? Try.prog 64 = some (Go.Value.agg #[]) := by unfold zero?; rw [show Try.prog.info? 64 = some Try.t64 from Try.type64]; rfl
@[simp ↓] theorem z64 {q : List Value → Prop} : goZ Try.prog 64 q = q [] := by simp [goZ, zer64, Value.cells]
@[simp] theorem und64 : Try.prog.underlying 64 = some (Go.TypeDesc.struct
  #[{ name := "_", type := 62, offset := 0, embedded := false, tag := "", pkgPath := "runtime", byteOffset := 0 }]) := opq Try.underlying64
@[simp ↓] theorem fld64_0 {q : Nat → TypeId → Prop} : goFld Try.prog 64 0 q = q 0 62 := by simp only [goFld, und64]; rfl
@[simp ↓] theorem bld64 {q : List Value → List (Nat × Nat) → Prop} : goBld Try.prog 64 q = q [] [(0, 0)] := by simp [goBld, und64, zer64, placesL, Value.cells]
theorem agg65 : aggT Try.prog 65 = some false := by unfold aggT; rw [Try.underlying65]; rfl
@[simp] theorem siz65 : szT Try.prog 65 = some 1 := by unfold szT; rw [show Try.prog.info? 65 = some Try.t65 from Try.type65]; rfl
@[simp ↓] theorem ty65 {q : Bool → Nat → Prop} : goTy Try.prog 65 q = q false 1 := by simp only [goTy, agg65, siz65]
@[simp ↓] theorem sz65 {q : Nat → Prop} : goSz Try.prog 65 q = q 1 := by simp only [goSz, siz65]
theorem zer65 : zero? Try.prog 65 = some Go.Value.nilFunc := by unfold zero?; rw [show Try.prog.info? 65 = some Try.t65 from Try.type65]; rfl
@[simp ↓] theorem z65 {q : List Value → Prop} : goZ Try.prog 65 q = q [Go.Value.nilFunc] := by simp [goZ, zer65, Value.cells]
theorem agg66 : aggT Try.prog 66 = some false := by unfold aggT; rw [Try.underlying66]; rfl
@[simp] theorem siz66 : szT Try.prog 66 = some 1 := by unfold szT; rw [show Try.prog.info? 66 = some Try.t66 from Try.type66]; rfl
@[simp ↓] theorem ty66 {q : Bool → Nat → Prop} : goTy Try.prog 66 q = q false 1 := by simp only [goTy, agg66, siz66]
@[simp ↓] theorem sz66 {q : Nat → Prop} : goSz Try.prog 66 q = q 1 := by simp only [goSz, siz66]
theorem zer66 : zero? Try.prog 66 = some (Go.Value.int Go.IntKind.u32 0) := by unfold zero?; rw [show Try.prog.info? 66 = some Try.t66 from Try.type66]; rfl
@[simp ↓] theorem z66 {q : List Value → Prop} : goZ Try.prog 66 q = q [(Go.Value.int Go.IntKind.u32 0)] := by simp [goZ, zer66, Value.cells]
@[simp] theorem und66 : Try.prog.underlying 66 = some (Go.TypeDesc.int Go.IntKind.u32) := opq Try.underlying66
@[simp ↓] theorem un66 {q : TypeDesc → Prop} : goUnd Try.prog 66 q = q (Go.TypeDesc.int Go.IntKind.u32) := by simp only [goUnd, und66]
theorem agg67 : aggT Try.prog 67 = some false := by unfold aggT; rw [Try.underlying67]; rfl
@[simp] theorem siz67 : szT Try.prog 67 = some 1 := by unfold szT; rw [show Try.prog.info? 67 = some Try.t67 from Try.type67]; rfl
@[simp ↓] theorem ty67 {q : Bool → Nat → Prop} : goTy Try.prog 67 q = q false 1 := by simp only [goTy, agg67, siz67]
@[simp ↓] theorem sz67 {q : Nat → Prop} : goSz Try.prog 67 q = q 1 := by simp only [goSz, siz67]
theorem zer67 : zero? Try.prog 67 = some (Go.Value.int Go.IntKind.u8 0) := by unfold zero?; rw [show Try.prog.info? 67 = some Try.t67 from Try.type67]; rfl
@[simp ↓] theorem z67 {q : List Value → Prop} : goZ Try.prog 67 q = q [(Go.Value.int Go.IntKind.u8 0)] := by simp [goZ, zer67, Value.cells]
@[simp] theorem und67 : Try.prog.underlying 67 = some (Go.TypeDesc.int Go.IntKind.u8) := opq Try.underlying67
@[simp ↓] theorem un67 {q : TypeDesc → Prop} : goUnd Try.prog 67 q = q (Go.TypeDesc.int Go.IntKind.u8) := by simp only [goUnd, und67]
theorem agg68 : aggT Try.prog 68 = some false := by unfold aggT; rw [Try.underlying68]; rfl
@[simp] theorem siz68 : szT Try.prog 68 = some 1 := by unfold szT; rw [show Try.prog.info? 68 = some Try.t68 from Try.type68]; rfl
@[simp ↓] theorem ty68 {q : Bool → Nat → Prop} : goTy Try.prog 68 q = q false 1 := by simp only [goTy, agg68, siz68]
@[simp ↓] theorem sz68 {q : Nat → Prop} : goSz Try.prog 68 q = q 1 := by simp only [goSz, siz68]
theorem zer68 : zero? Try.prog 68 = some (Go.Value.int Go.IntKind.u8 0) := by unfold zero?; rw [show Try.prog.info? 68 = some Try.t68 from Try.type68]; rfl
@[simp ↓] theorem z68 {q : List Value → Prop} : goZ Try.prog 68 q = q [(Go.Value.int Go.IntKind.u8 0)] := by simp [goZ, zer68, Value.cells]
@[simp] theorem und68 : Try.prog.underlying 68 = some (Go.TypeDesc.int Go.IntKind.u8) := opq Try.underlying68
@[simp ↓] theorem un68 {q : TypeDesc → Prop} : goUnd Try.prog 68 q = q (Go.TypeDesc.int Go.IntKind.u8) := by simp only [goUnd, und68]
theorem agg69 : aggT Try.prog 69 = some false := by unfold aggT; rw [Try.underlying69]; rfl
@[simp] theorem siz69 : szT Try.prog 69 = some 1 := by unfold szT; rw [show Try.prog.info? 69 = some Try.t69 from Try.type69]; rfl
@[simp ↓] theorem ty69 {q : Bool → Nat → Prop} : goTy Try.prog 69 q = q false 1 := by simp only [goTy, agg69, siz69]
@[simp ↓] theorem sz69 {q : Nat → Prop} : goSz Try.prog 69 q = q 1 := by simp only [goSz, siz69]
theorem zer69 : zero? Try.prog 69 = some Go.Value.nilFunc := by unfold zero?; rw [show Try.prog.info? 69 = some Try.t69 from Try.type69]; rfl
@[simp ↓] theorem z69 {q : List Value → Prop} : goZ Try.prog 69 q = q [Go.Value.nilFunc] := by simp [goZ, zer69, Value.cells]
theorem agg70 : aggT Try.prog 70 = some false := by unfold aggT; rw [Try.underlying70]; rfl
@[simp] theorem siz70 : szT Try.prog 70 = some 1 := by unfold szT; rw [show Try.prog.info? 70 = some Try.t70 from Try.type70]; rfl
@[simp ↓] theorem ty70 {q : Bool → Nat → Prop} : goTy Try.prog 70 q = q false 1 := by simp only [goTy, agg70, siz70]
@[simp ↓] theorem sz70 {q : Nat → Prop} : goSz Try.prog 70 q = q 1 := by simp only [goSz, siz70]
theorem zer70 : zero? Try.prog 70 = some (Go.Value.pointer none) := by unfold zero?; rw [show Try.prog.info? 70 = some Try.t70 from Try.type70]; rfl
@[simp ↓] theorem z70 {q : List Value → Prop} : goZ Try.prog 70 q = q [(Go.Value.pointer none)] := by simp [goZ, zer70, Value.cells]
@[simp] theorem und70 : Try.prog.underlying 70 = some (Go.TypeDesc.pointer 5) := opq Try.underlying70
@[simp ↓] theorem un70 {q : TypeDesc → Prop} : goUnd Try.prog 70 q = q (Go.TypeDesc.pointer 5) := by simp only [goUnd, und70]
theorem agg71 : aggT Try.prog 71 = some false := by unfold aggT; rw [Try.underlying71]; rfl
@[simp] theorem siz71 : szT Try.prog 71 = some 1 := by unfold szT; rw [show Try.prog.info? 71 = some Try.t71 from Try.type71]; rfl
@[simp ↓] theorem ty71 {q : Bool → Nat → Prop} : goTy Try.prog 71 q = q false 1 := by simp only [goTy, agg71, siz71]
@[simp ↓] theorem sz71 {q : Nat → Prop} : goSz Try.prog 71 q = q 1 := by simp only [goSz, siz71]
theorem zer71 : zero? Try.prog 71 = some (Go.Value.int Go.IntKind.i32 0) := by unfold zero?; rw [show Try.prog.info? 71 = some Try.t71 from Try.type71]; rfl
@[simp ↓] theorem z71 {q : List Value → Prop} : goZ Try.prog 71 q = q [(Go.Value.int Go.IntKind.i32 0)] := by simp [goZ, zer71, Value.cells]
@[simp] theorem und71 : Try.prog.underlying 71 = some (Go.TypeDesc.int Go.IntKind.i32) := opq Try.underlying71
@[simp ↓] theorem un71 {q : TypeDesc → Prop} : goUnd Try.prog 71 q = q (Go.TypeDesc.int Go.IntKind.i32) := by simp only [goUnd, und71]
theorem agg72 : aggT Try.prog 72 = some false := by unfold aggT; rw [Try.underlying72]; rfl
@[simp] theorem siz72 : szT Try.prog 72 = some 1 := by unfold szT; rw [show Try.prog.info? 72 = some Try.t72 from Try.type72]; rfl
@[simp ↓] theorem ty72 {q : Bool → Nat → Prop} : goTy Try.prog 72 q = q false 1 := by simp only [goTy, agg72, siz72]
@[simp ↓] theorem sz72 {q : Nat → Prop} : goSz Try.prog 72 q = q 1 := by simp only [goSz, siz72]
theorem zer72 : zero? Try.prog 72 = some (Go.Value.int Go.IntKind.i32 0) := by unfold zero?; rw [show Try.prog.info? 72 = some Try.t72 from Try.type72]; rfl
@[simp ↓] theorem z72 {q : List Value → Prop} : goZ Try.prog 72 q = q [(Go.Value.int Go.IntKind.i32 0)] := by simp [goZ, zer72, Value.cells]
@[simp] theorem und72 : Try.prog.underlying 72 = some (Go.TypeDesc.int Go.IntKind.i32) := opq Try.underlying72
@[simp ↓] theorem un72 {q : TypeDesc → Prop} : goUnd Try.prog 72 q = q (Go.TypeDesc.int Go.IntKind.i32) := by simp only [goUnd, und72]
theorem agg73 : aggT Try.prog 73 = some true := by unfold aggT; rw [Try.underlying73]; rfl
@[simp] theorem siz73 : szT Try.prog 73 = some 11 := by unfold szT; rw [show Try.prog.info? 73 = some Try.t73 from Try.type73]; rfl
@[simp ↓] theorem ty73 {q : Bool → Nat → Prop} : goTy Try.prog 73 q = q true 11 := by simp only [goTy, agg73, siz73]
@[simp ↓] theorem sz73 {q : Nat → Prop} : goSz Try.prog 73 q = q 11 := by simp only [goSz, siz73]
theorem zer73 : zero? Try.prog 73 = some
  (Go.Value.agg
    #[Go.Value.int Go.IntKind.u64 0, Go.Value.int Go.IntKind.u64 0, Go.Value.int Go.IntKind.u32 0,
      Go.Value.int Go.IntKind.u8 0, Go.Value.int Go.IntKind.u8 0, Go.Value.int Go.IntKind.u8 0,
      Go.Value.int Go.IntKind.u8 0, Go.Value.nilFunc, Go.Value.pointer none, Go.Value.int Go.IntKind.i32 0,
      Go.Value.int Go.IntKind.i32 0]) := by unfold zero?; rw [show Try.prog.info? 73 = some Try.t73 from Try.type73]; rfl
@[simp ↓] theorem z73 {q : List Value → Prop} : goZ Try.prog 73 q = q [Go.Value.int Go.IntKind.u64 0, Go.Value.int Go.IntKind.u64 0, Go.Value.int Go.IntKind.u32 0,
      Go.Value.int Go.IntKind.u8 0, Go.Value.int Go.IntKind.u8 0, Go.Value.int Go.IntKind.u8 0,
      Go.Value.int Go.IntKind.u8 0, Go.Value.nilFunc, Go.Value.pointer none, Go.Value.int Go.IntKind.i32 0,
      Go.Value.int Go.IntKind.i32 0] := by simp [goZ, zer73, Value.cells]
@[simp] theorem und73 : Try.prog.underlying 73 = some (Go.TypeDesc.struct
  #[{ name := "Size_", type := 12, offset := 0, embedded := false, tag := "", pkgPath := "", byteOffset := 0 },
    { name := "PtrBytes", type := 12, offset := 1, embedded := false, tag := "", pkgPath := "", byteOffset := 8 },
    { name := "Hash", type := 66, offset := 2, embedded := false, tag := "", pkgPath := "", byteOffset := 16 },
    { name := "TFlag", type := 67, offset := 3, embedded := false, tag := "", pkgPath := "", byteOffset := 20 },
    { name := "Align_", type := 5, offset := 4, embedded := false, tag := "", pkgPath := "", byteOffset := 21 },
    { name := "FieldAlign_", type := 5, offset := 5, embedded := false, tag := "", pkgPath := "", byteOffset := 22 },
    { name := "Kind_", type := 68, offset := 6, embedded := false, tag := "", pkgPath := "", byteOffset := 23 },
    { name := "Equal", type := 69, offset := 7, embedded := false, tag := "", pkgPath := "", byteOffset := 24 },
    { name := "GCData", type := 70, offset := 8, embedded := false, tag := "", pkgPath := "", byteOffset := 32 },
    { name := "Str", type := 71, offset := 9, embedded := false, tag := "", pkgPath := "", byteOffset := 40 },
    { name := "PtrToThis", type := 72, offset := 10, embedded := false, tag := "", pkgPath := "", byteOffset := 44 }]) := opq Try.underlying73
@[simp ↓] theorem fld73_0 {q : Nat → TypeId → Prop} : goFld Try.prog 73 0 q = q 0 12 := by simp only [goFld, und73]; rfl
@[simp ↓] theorem fld73_1 {q : Nat → TypeId → Prop} : goFld Try.prog 73 1 q = q 1 12 := by simp only [goFld, und73]; rfl
@[simp ↓] theorem fld73_2 {q : Nat → TypeId → Prop} : goFld Try.prog 73 2 q = q 2 66 := by simp only [goFld, und73]; rfl
@[simp ↓] theorem fld73_3 {q : Nat → TypeId → Prop} : goFld Try.prog 73 3 q = q 3 67 := by simp only [goFld, und73]; rfl
@[simp ↓] theorem fld73_4 {q : Nat → TypeId → Prop} : goFld Try.prog 73 4 q = q 4 5 := by simp only [goFld, und73]; rfl
@[simp ↓] theorem fld73_5 {q : Nat → TypeId → Prop} : goFld Try.prog 73 5 q = q 5 5 := by simp only [goFld, und73]; rfl
@[simp ↓] theorem fld73_6 {q : Nat → TypeId → Prop} : goFld Try.prog 73 6 q = q 6 68 := by simp only [goFld, und73]; rfl
@[simp ↓] theorem fld73_7 {q : Nat → TypeId → Prop} : goFld Try.prog 73 7 q = q 7 69 := by simp only [goFld, und73]; rfl
@[simp ↓] theorem fld73_8 {q : Nat → TypeId → Prop} : goFld Try.prog 73 8 q = q 8 70 := by simp only [goFld, und73]; rfl
@[simp ↓] theorem fld73_9 {q : Nat → TypeId → Prop} : goFld Try.prog 73 9 q = q 9 71 := by simp only [goFld, und73]; rfl
@[simp ↓] theorem fld73_10 {q : Nat → TypeId → Prop} : goFld Try.prog 73 10 q = q 10 72 := by simp only [goFld, und73]; rfl
@[simp ↓] theorem bld73 {q : List Value → List (Nat × Nat) → Prop} : goBld Try.prog 73 q = q [Go.Value.int Go.IntKind.u64 0, Go.Value.int Go.IntKind.u64 0, Go.Value.int Go.IntKind.u32 0,
      Go.Value.int Go.IntKind.u8 0, Go.Value.int Go.IntKind.u8 0, Go.Value.int Go.IntKind.u8 0,
      Go.Value.int Go.IntKind.u8 0, Go.Value.nilFunc, Go.Value.pointer none, Go.Value.int Go.IntKind.i32 0,
      Go.Value.int Go.IntKind.i32 0] [(0, 1), (1, 1), (2, 1), (3, 1), (4, 1), (5, 1), (6, 1), (7, 1), (8, 1), (9, 1), (10, 1)] := by simp [goBld, und73, zer73, placesL, Value.cells]
theorem agg74 : aggT Try.prog 74 = some true := by unfold aggT; rw [Try.underlying74]; rfl
@[simp] theorem siz74 : szT Try.prog 74 = some 11 := by unfold szT; rw [show Try.prog.info? 74 = some Try.t74 from Try.type74]; rfl
@[simp ↓] theorem ty74 {q : Bool → Nat → Prop} : goTy Try.prog 74 q = q true 11 := by simp only [goTy, agg74, siz74]
@[simp ↓] theorem sz74 {q : Nat → Prop} : goSz Try.prog 74 q = q 11 := by simp only [goSz, siz74]
theorem zer74 : zero? Try.prog 74 = some
  (Go.Value.agg
    #[Go.Value.int Go.IntKind.u64 0, Go.Value.int Go.IntKind.u64 0, Go.Value.int Go.IntKind.u32 0,
      Go.Value.int Go.IntKind.u8 0, Go.Value.int Go.IntKind.u8 0, Go.Value.int Go.IntKind.u8 0,
      Go.Value.int Go.IntKind.u8 0, Go.Value.nilFunc, Go.Value.pointer none, Go.Value.int Go.IntKind.i32 0,
      Go.Value.int Go.IntKind.i32 0]) := by unfold zero?; rw [show Try.prog.info? 74 = some Try.t74 from Try.type74]; rfl
@[simp ↓] theorem z74 {q : List Value → Prop} : goZ Try.prog 74 q = q [Go.Value.int Go.IntKind.u64 0, Go.Value.int Go.IntKind.u64 0, Go.Value.int Go.IntKind.u32 0,
      Go.Value.int Go.IntKind.u8 0, Go.Value.int Go.IntKind.u8 0, Go.Value.int Go.IntKind.u8 0,
      Go.Value.int Go.IntKind.u8 0, Go.Value.nilFunc, Go.Value.pointer none, Go.Value.int Go.IntKind.i32 0,
      Go.Value.int Go.IntKind.i32 0] := by simp [goZ, zer74, Value.cells]
@[simp] theorem und74 : Try.prog.underlying 74 = some (Go.TypeDesc.struct
  #[{ name := "Size_", type := 12, offset := 0, embedded := false, tag := "", pkgPath := "", byteOffset := 0 },
    { name := "PtrBytes", type := 12, offset := 1, embedded := false, tag := "", pkgPath := "", byteOffset := 8 },
    { name := "Hash", type := 66, offset := 2, embedded := false, tag := "", pkgPath := "", byteOffset := 16 },
    { name := "TFlag", type := 67, offset := 3, embedded := false, tag := "", pkgPath := "", byteOffset := 20 },
    { name := "Align_", type := 5, offset := 4, embedded := false, tag := "", pkgPath := "", byteOffset := 21 },
    { name := "FieldAlign_", type := 5, offset := 5, embedded := false, tag := "", pkgPath := "", byteOffset := 22 },
    { name := "Kind_", type := 68, offset := 6, embedded := false, tag := "", pkgPath := "", byteOffset := 23 },
    { name := "Equal", type := 69, offset := 7, embedded := false, tag := "", pkgPath := "", byteOffset := 24 },
    { name := "GCData", type := 70, offset := 8, embedded := false, tag := "", pkgPath := "", byteOffset := 32 },
    { name := "Str", type := 71, offset := 9, embedded := false, tag := "", pkgPath := "", byteOffset := 40 },
    { name := "PtrToThis", type := 72, offset := 10, embedded := false, tag := "", pkgPath := "", byteOffset := 44 }]) := opq Try.underlying74
@[simp ↓] theorem fld74_0 {q : Nat → TypeId → Prop} : goFld Try.prog 74 0 q = q 0 12 := by simp only [goFld, und74]; rfl
@[simp ↓] theorem fld74_1 {q : Nat → TypeId → Prop} : goFld Try.prog 74 1 q = q 1 12 := by simp only [goFld, und74]; rfl
@[simp ↓] theorem fld74_2 {q : Nat → TypeId → Prop} : goFld Try.prog 74 2 q = q 2 66 := by simp only [goFld, und74]; rfl
@[simp ↓] theorem fld74_3 {q : Nat → TypeId → Prop} : goFld Try.prog 74 3 q = q 3 67 := by simp only [goFld, und74]; rfl
@[simp ↓] theorem fld74_4 {q : Nat → TypeId → Prop} : goFld Try.prog 74 4 q = q 4 5 := by simp only [goFld, und74]; rfl
@[simp ↓] theorem fld74_5 {q : Nat → TypeId → Prop} : goFld Try.prog 74 5 q = q 5 5 := by simp only [goFld, und74]; rfl
@[simp ↓] theorem fld74_6 {q : Nat → TypeId → Prop} : goFld Try.prog 74 6 q = q 6 68 := by simp only [goFld, und74]; rfl
@[simp ↓] theorem fld74_7 {q : Nat → TypeId → Prop} : goFld Try.prog 74 7 q = q 7 69 := by simp only [goFld, und74]; rfl
@[simp ↓] theorem fld74_8 {q : Nat → TypeId → Prop} : goFld Try.prog 74 8 q = q 8 70 := by simp only [goFld, und74]; rfl
@[simp ↓] theorem fld74_9 {q : Nat → TypeId → Prop} : goFld Try.prog 74 9 q = q 9 71 := by simp only [goFld, und74]; rfl
@[simp ↓] theorem fld74_10 {q : Nat → TypeId → Prop} : goFld Try.prog 74 10 q = q 10 72 := by simp only [goFld, und74]; rfl
@[simp ↓] theorem bld74 {q : List Value → List (Nat × Nat) → Prop} : goBld Try.prog 74 q = q [Go.Value.int Go.IntKind.u64 0, Go.Value.int Go.IntKind.u64 0, Go.Value.int Go.IntKind.u32 0,
      Go.Value.int Go.IntKind.u8 0, Go.Value.int Go.IntKind.u8 0, Go.Value.int Go.IntKind.u8 0,
      Go.Value.int Go.IntKind.u8 0, Go.Value.nilFunc, Go.Value.pointer none, Go.Value.int Go.IntKind.i32 0,
      Go.Value.int Go.IntKind.i32 0] [(0, 1), (1, 1), (2, 1), (3, 1), (4, 1), (5, 1), (6, 1), (7, 1), (8, 1), (9, 1), (10, 1)] := by simp [goBld, und74, zer74, placesL, Value.cells]
theorem agg75 : aggT Try.prog 75 = some false := by unfold aggT; rw [Try.underlying75]; rfl
@[simp] theorem siz75 : szT Try.prog 75 = some 1 := by unfold szT; rw [show Try.prog.info? 75 = some Try.t75 from Try.type75]; rfl
@[simp ↓] theorem ty75 {q : Bool → Nat → Prop} : goTy Try.prog 75 q = q false 1 := by simp only [goTy, agg75, siz75]
@[simp ↓] theorem sz75 {q : Nat → Prop} : goSz Try.prog 75 q = q 1 := by simp only [goSz, siz75]
theorem zer75 : zero? Try.prog 75 = some Go.Value.nilFunc := by unfold zero?; rw [show Try.prog.info? 75 = some Try.t75 from Try.type75]; rfl
@[simp ↓] theorem z75 {q : List Value → Prop} : goZ Try.prog 75 q = q [Go.Value.nilFunc] := by simp [goZ, zer75, Value.cells]
theorem agg76 : aggT Try.prog 76 = some false := by unfold aggT; rw [Try.underlying76]; rfl
@[simp] theorem siz76 : szT Try.prog 76 = some 1 := by unfold szT; rw [show Try.prog.info? 76 = some Try.t76 from Try.type76]; rfl
@[simp ↓] theorem ty76 {q : Bool → Nat → Prop} : goTy Try.prog 76 q = q false 1 := by simp only [goTy, agg76, siz76]
@[simp ↓] theorem sz76 {q : Nat → Prop} : goSz Try.prog 76 q = q 1 := by simp only [goSz, siz76]
theorem zer76 : zero? Try.prog 76 = some (Go.Value.pointer none) := by unfold zero?; rw [show Try.prog.info? 76 = some Try.t76 from Try.type76]; rfl
@[simp ↓] theorem z76 {q : List Value → Prop} : goZ Try.prog 76 q = q [(Go.Value.pointer none)] := by simp [goZ, zer76, Value.cells]
@[simp] theorem und76 : Try.prog.underlying 76 = some (Go.TypeDesc.unsafePointer) := opq Try.underlying76
@[simp ↓] theorem un76 {q : TypeDesc → Prop} : goUnd Try.prog 76 q = q (Go.TypeDesc.unsafePointer) := by simp only [goUnd, und76]
end Go.Proofs.Ytiimabmdokpmbaa
