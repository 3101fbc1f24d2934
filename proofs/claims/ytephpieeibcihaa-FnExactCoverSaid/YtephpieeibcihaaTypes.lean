/- Facts about the seat's types, for the abstract machine. No condition. -/
import Derived.Test.YtephpieeibcihaaProg
import Derived.Test.YtephpieeibcihaaAm20
namespace Go.Proofs.Ytephpieeibcihaa
open Go Go.Am Go.Proofs
set_option linter.unusedSimpArgs false
set_option maxRecDepth 100000
theorem agg1 : aggT Try.prog 1 = some false := by unfold aggT; rw [Try.underlying1]; rfl
@[simp] theorem siz1 : szT Try.prog 1 = some 1 := by unfold szT; rw [show Try.prog.info? 1 = some Try.t1 from Try.type1]; rfl
@[simp ↓] theorem ty1 {q : Bool → Nat → Prop} : goTy Try.prog 1 q = q false 1 := by simp only [goTy, agg1, siz1]
@[simp ↓] theorem sz1 {q : Nat → Prop} : goSz Try.prog 1 q = q 1 := by simp only [goSz, siz1]
theorem zer1 : zero? Try.prog 1 = some Go.Value.nilFunc := by unfold zero?; rw [show Try.prog.info? 1 = some Try.t1 from Try.type1]; rfl
@[simp ↓] theorem z1 {q : List Value → Prop} : goZ Try.prog 1 q = q [Go.Value.nilFunc] := by simp [goZ, zer1, Value.cells]
theorem agg2 : aggT Try.prog 2 = some false := by unfold aggT; rw [Try.underlying2]; rfl
@[simp] theorem siz2 : szT Try.prog 2 = some 1 := by unfold szT; rw [show Try.prog.info? 2 = some Try.t2 from Try.type2]; rfl
@[simp ↓] theorem ty2 {q : Bool → Nat → Prop} : goTy Try.prog 2 q = q false 1 := by simp only [goTy, agg2, siz2]
@[simp ↓] theorem sz2 {q : Nat → Prop} : goSz Try.prog 2 q = q 1 := by simp only [goSz, siz2]
theorem zer2 : zero? Try.prog 2 = some (Go.Value.int Go.IntKind.i64 0) := by unfold zero?; rw [show Try.prog.info? 2 = some Try.t2 from Try.type2]; rfl
@[simp ↓] theorem z2 {q : List Value → Prop} : goZ Try.prog 2 q = q [(Go.Value.int Go.IntKind.i64 0)] := by simp [goZ, zer2, Value.cells]
@[simp] theorem und2 : Try.prog.underlying 2 = some (Go.TypeDesc.int Go.IntKind.i64) := opq Try.underlying2
@[simp ↓] theorem un2 {q : TypeDesc → Prop} : goUnd Try.prog 2 q = q (Go.TypeDesc.int Go.IntKind.i64) := by simp only [goUnd, und2]
theorem agg3 : aggT Try.prog 3 = some false := by unfold aggT; rw [Try.underlying3]; rfl
@[simp] theorem siz3 : szT Try.prog 3 = some 1 := by unfold szT; rw [show Try.prog.info? 3 = some Try.t3 from Try.type3]; rfl
@[simp ↓] theorem ty3 {q : Bool → Nat → Prop} : goTy Try.prog 3 q = q false 1 := by simp only [goTy, agg3, siz3]
@[simp ↓] theorem sz3 {q : Nat → Prop} : goSz Try.prog 3 q = q 1 := by simp only [goSz, siz3]
theorem zer3 : zero? Try.prog 3 = some (Go.Value.int Go.IntKind.i64 0) := by unfold zero?; rw [show Try.prog.info? 3 = some Try.t3 from Try.type3]; rfl
@[simp ↓] theorem z3 {q : List Value → Prop} : goZ Try.prog 3 q = q [(Go.Value.int Go.IntKind.i64 0)] := by simp [goZ, zer3, Value.cells]
@[simp] theorem und3 : Try.prog.underlying 3 = some (Go.TypeDesc.int Go.IntKind.i64) := opq Try.underlying3
@[simp ↓] theorem un3 {q : TypeDesc → Prop} : goUnd Try.prog 3 q = q (Go.TypeDesc.int Go.IntKind.i64) := by simp only [goUnd, und3]
theorem agg4 : aggT Try.prog 4 = some false := by unfold aggT; rw [Try.underlying4]; rfl
@[simp] theorem siz4 : szT Try.prog 4 = some 1 := by unfold szT; rw [show Try.prog.info? 4 = some Try.t4 from Try.type4]; rfl
@[simp ↓] theorem ty4 {q : Bool → Nat → Prop} : goTy Try.prog 4 q = q false 1 := by simp only [goTy, agg4, siz4]
@[simp ↓] theorem sz4 {q : Nat → Prop} : goSz Try.prog 4 q = q 1 := by simp only [goSz, siz4]
theorem zer4 : zero? Try.prog 4 = some (Go.Value.bool false) := by unfold zero?; rw [show Try.prog.info? 4 = some Try.t4 from Try.type4]; rfl
@[simp ↓] theorem z4 {q : List Value → Prop} : goZ Try.prog 4 q = q [(Go.Value.bool false)] := by simp [goZ, zer4, Value.cells]
@[simp] theorem und4 : Try.prog.underlying 4 = some (Go.TypeDesc.bool) := opq Try.underlying4
@[simp ↓] theorem un4 {q : TypeDesc → Prop} : goUnd Try.prog 4 q = q (Go.TypeDesc.bool) := by simp only [goUnd, und4]
theorem agg5 : aggT Try.prog 5 = some false := by unfold aggT; rw [Try.underlying5]; rfl
@[simp] theorem siz5 : szT Try.prog 5 = some 1 := by unfold szT; rw [show Try.prog.info? 5 = some Try.t5 from Try.type5]; rfl
@[simp ↓] theorem ty5 {q : Bool → Nat → Prop} : goTy Try.prog 5 q = q false 1 := by simp only [goTy, agg5, siz5]
@[simp ↓] theorem sz5 {q : Nat → Prop} : goSz Try.prog 5 q = q 1 := by simp only [goSz, siz5]
theorem zer5 : zero? Try.prog 5 = some (Go.Value.int Go.IntKind.u8 0) := by unfold zero?; rw [show Try.prog.info? 5 = some Try.t5 from Try.type5]; rfl
@[simp ↓] theorem z5 {q : List Value → Prop} : goZ Try.prog 5 q = q [(Go.Value.int Go.IntKind.u8 0)] := by simp [goZ, zer5, Value.cells]
@[simp] theorem und5 : Try.prog.underlying 5 = some (Go.TypeDesc.int Go.IntKind.u8) := opq Try.underlying5
@[simp ↓] theorem un5 {q : TypeDesc → Prop} : goUnd Try.prog 5 q = q (Go.TypeDesc.int Go.IntKind.u8) := by simp only [goUnd, und5]
theorem agg6 : aggT Try.prog 6 = some false := by unfold aggT; rw [Try.underlying6]; rfl
@[simp] theorem siz6 : szT Try.prog 6 = some 1 := by unfold szT; rw [show Try.prog.info? 6 = some Try.t6 from Try.type6]; rfl
@[simp ↓] theorem ty6 {q : Bool → Nat → Prop} : goTy Try.prog 6 q = q false 1 := by simp only [goTy, agg6, siz6]
@[simp ↓] theorem sz6 {q : Nat → Prop} : goSz Try.prog 6 q = q 1 := by simp only [goSz, siz6]
theorem zer6 : zero? Try.prog 6 = some (Go.Value.int Go.IntKind.u8 0) := by unfold zero?; rw [show Try.prog.info? 6 = some Try.t6 from Try.type6]; rfl
@[simp ↓] theorem z6 {q : List Value → Prop} : goZ Try.prog 6 q = q [(Go.Value.int Go.IntKind.u8 0)] := by simp [goZ, zer6, Value.cells]
@[simp] theorem und6 : Try.prog.underlying 6 = some (Go.TypeDesc.int Go.IntKind.u8) := opq Try.underlying6
@[simp ↓] theorem un6 {q : TypeDesc → Prop} : goUnd Try.prog 6 q = q (Go.TypeDesc.int Go.IntKind.u8) := by simp only [goUnd, und6]
theorem agg7 : aggT Try.prog 7 = some true := by unfold aggT; rw [Try.underlying7]; rfl
@[simp] theorem siz7 : szT Try.prog 7 = some 4 := by unfold szT; rw [show Try.prog.info? 7 = some Try.t7 from Try.type7]; rfl
@[simp ↓] theorem ty7 {q : Bool → Nat → Prop} : goTy Try.prog 7 q = q true 4 := by simp only [goTy, agg7, siz7]
@[simp ↓] theorem sz7 {q : Nat → Prop} : goSz Try.prog 7 q = q 4 := by simp only [goSz, siz7]
theorem zer7 : zero? Try.prog 7 = some
  (Go.Value.agg
    #[Go.Value.int Go.IntKind.i64 0, Go.Value.int Go.IntKind.i64 0, Go.Value.bool false, Go.Value.int Go.IntKind.u8 0]) := by unfold zero?; rw [show Try.prog.info? 7 = some Try.t7 from Try.type7]; rfl
@[simp ↓] theorem z7 {q : List Value → Prop} : goZ Try.prog 7 q = q [Go.Value.int Go.IntKind.i64 0, Go.Value.int Go.IntKind.i64 0, Go.Value.bool false, Go.Value.int Go.IntKind.u8 0] := by simp [goZ, zer7, Value.cells]
@[simp] theorem und7 : Try.prog.underlying 7 = some (Go.TypeDesc.struct
  #[{ name := "x", type := 2, offset := 0, embedded := false, tag := "", pkgPath := "runtime", byteOffset := 0 },
    { name := "y", type := 3, offset := 1, embedded := false, tag := "", pkgPath := "runtime", byteOffset := 8 },
    { name := "signed", type := 4, offset := 2, embedded := false, tag := "", pkgPath := "runtime", byteOffset := 16 },
    { name := "code", type := 6, offset := 3, embedded := false, tag := "", pkgPath := "runtime", byteOffset := 17 }]) := opq Try.underlying7
@[simp ↓] theorem fld7_0 {q : Nat → TypeId → Prop} : goFld Try.prog 7 0 q = q 0 2 := by simp only [goFld, und7]; rfl
@[simp ↓] theorem fld7_1 {q : Nat → TypeId → Prop} : goFld Try.prog 7 1 q = q 1 3 := by simp only [goFld, und7]; rfl
@[simp ↓] theorem fld7_2 {q : Nat → TypeId → Prop} : goFld Try.prog 7 2 q = q 2 4 := by simp only [goFld, und7]; rfl
@[simp ↓] theorem fld7_3 {q : Nat → TypeId → Prop} : goFld Try.prog 7 3 q = q 3 6 := by simp only [goFld, und7]; rfl
@[simp ↓] theorem bld7 {q : List Value → List (Nat × Nat) → Prop} : goBld Try.prog 7 q = q [Go.Value.int Go.IntKind.i64 0, Go.Value.int Go.IntKind.i64 0, Go.Value.bool false, Go.Value.int Go.IntKind.u8 0] [(0, 1), (1, 1), (2, 1), (3, 1)] := by simp [goBld, und7, zer7, placesL, Value.cells]
theorem agg8 : aggT Try.prog 8 = some true := by unfold aggT; rw [Try.underlying8]; rfl
@[simp] theorem siz8 : szT Try.prog 8 = some 4 := by unfold szT; rw [show Try.prog.info? 8 = some Try.t8 from Try.type8]; rfl
@[simp ↓] theorem ty8 {q : Bool → Nat → Prop} : goTy Try.prog 8 q = q true 4 := by simp only [goTy, agg8, siz8]
@[simp ↓] theorem sz8 {q : Nat → Prop} : goSz Try.prog 8 q = q 4 := by simp only [goSz, siz8]
theorem zer8 : zero? Try.prog 8 = some
  (Go.Value.agg
    #[Go.Value.int Go.IntKind.i64 0, Go.Value.int Go.IntKind.i64 0, Go.Value.bool false, Go.Value.int Go.IntKind.u8 0]) := by unfold zero?; rw [show Try.prog.info? 8 = some Try.t8 from Try.type8]; rfl
@[simp ↓] theorem z8 {q : List Value → Prop} : goZ Try.prog 8 q = q [Go.Value.int Go.IntKind.i64 0, Go.Value.int Go.IntKind.i64 0, Go.Value.bool false, Go.Value.int Go.IntKind.u8 0] := by simp [goZ, zer8, Value.cells]
@[simp] theorem und8 : Try.prog.underlying 8 = some (Go.TypeDesc.struct
  #[{ name := "x", type := 2, offset := 0, embedded := false, tag := "", pkgPath := "runtime", byteOffset := 0 },
    { name := "y", type := 3, offset := 1, embedded := false, tag := "", pkgPath := "runtime", byteOffset := 8 },
    { name := "signed", type := 4, offset := 2, embedded := false, tag := "", pkgPath := "runtime", byteOffset := 16 },
    { name := "code", type := 6, offset := 3, embedded := false, tag := "", pkgPath := "runtime", byteOffset := 17 }]) := opq Try.underlying8
@[simp ↓] theorem fld8_0 {q : Nat → TypeId → Prop} : goFld Try.prog 8 0 q = q 0 2 := by simp only [goFld, und8]; rfl
@[simp ↓] theorem fld8_1 {q : Nat → TypeId → Prop} : goFld Try.prog 8 1 q = q 1 3 := by simp only [goFld, und8]; rfl
@[simp ↓] theorem fld8_2 {q : Nat → TypeId → Prop} : goFld Try.prog 8 2 q = q 2 4 := by simp only [goFld, und8]; rfl
@[simp ↓] theorem fld8_3 {q : Nat → TypeId → Prop} : goFld Try.prog 8 3 q = q 3 6 := by simp only [goFld, und8]; rfl
@[simp ↓] theorem bld8 {q : List Value → List (Nat × Nat) → Prop} : goBld Try.prog 8 q = q [Go.Value.int Go.IntKind.i64 0, Go.Value.int Go.IntKind.i64 0, Go.Value.bool false, Go.Value.int Go.IntKind.u8 0] [(0, 1), (1, 1), (2, 1), (3, 1)] := by simp [goBld, und8, zer8, placesL, Value.cells]
theorem agg9 : aggT Try.prog 9 = some false := by unfold aggT; rw [Try.underlying9]; rfl
@[simp] theorem siz9 : szT Try.prog 9 = some 1 := by unfold szT; rw [show Try.prog.info? 9 = some Try.t9 from Try.type9]; rfl
@[simp ↓] theorem ty9 {q : Bool → Nat → Prop} : goTy Try.prog 9 q = q false 1 := by simp only [goTy, agg9, siz9]
@[simp ↓] theorem sz9 {q : Nat → Prop} : goSz Try.prog 9 q = q 1 := by simp only [goSz, siz9]
theorem zer9 : zero? Try.prog 9 = some (Go.Value.string { data := #[] }) := by unfold zero?; rw [show Try.prog.info? 9 = some Try.t9 from Try.type9]; rfl
@[simp ↓] theorem z9 {q : List Value → Prop} : goZ Try.prog 9 q = q [(Go.Value.string { data := #[] })] := by simp [goZ, zer9, Value.cells]
@[simp] theorem und9 : Try.prog.underlying 9 = some (Go.TypeDesc.string) := opq Try.underlying9
@[simp ↓] theorem un9 {q : TypeDesc → Prop} : goUnd Try.prog 9 q = q (Go.TypeDesc.string) := by simp only [goUnd, und9]
theorem agg10 : aggT Try.prog 10 = some false := by unfold aggT; rw [Try.underlying10]; rfl
@[simp] theorem siz10 : szT Try.prog 10 = some 1 := by unfold szT; rw [show Try.prog.info? 10 = some Try.t10 from Try.type10]; rfl
@[simp ↓] theorem ty10 {q : Bool → Nat → Prop} : goTy Try.prog 10 q = q false 1 := by simp only [goTy, agg10, siz10]
@[simp ↓] theorem sz10 {q : Nat → Prop} : goSz Try.prog 10 q = q 1 := by simp only [goSz, siz10]
theorem zer10 : zero? Try.prog 10 = some (Go.Value.string { data := #[] }) := by unfold zero?; rw [show Try.prog.info? 10 = some Try.t10 from Try.type10]; rfl
@[simp ↓] theorem z10 {q : List Value → Prop} : goZ Try.prog 10 q = q [(Go.Value.string { data := #[] })] := by simp [goZ, zer10, Value.cells]
@[simp] theorem und10 : Try.prog.underlying 10 = some (Go.TypeDesc.string) := opq Try.underlying10
@[simp ↓] theorem un10 {q : TypeDesc → Prop} : goUnd Try.prog 10 q = q (Go.TypeDesc.string) := by simp only [goUnd, und10]
theorem agg11 : aggT Try.prog 11 = some false := by unfold aggT; rw [Try.underlying11]; rfl
@[simp] theorem siz11 : szT Try.prog 11 = some 1 := by unfold szT; rw [show Try.prog.info? 11 = some Try.t11 from Try.type11]; rfl
@[simp ↓] theorem ty11 {q : Bool → Nat → Prop} : goTy Try.prog 11 q = q false 1 := by simp only [goTy, agg11, siz11]
@[simp ↓] theorem sz11 {q : Nat → Prop} : goSz Try.prog 11 q = q 1 := by simp only [goSz, siz11]
theorem zer11 : zero? Try.prog 11 = some (Go.Value.string { data := #[] }) := by unfold zero?; rw [show Try.prog.info? 11 = some Try.t11 from Try.type11]; rfl
@[simp ↓] theorem z11 {q : List Value → Prop} : goZ Try.prog 11 q = q [(Go.Value.string { data := #[] })] := by simp [goZ, zer11, Value.cells]
@[simp] theorem und11 : Try.prog.underlying 11 = some (Go.TypeDesc.string) := opq Try.underlying11
@[simp ↓] theorem un11 {q : TypeDesc → Prop} : goUnd Try.prog 11 q = q (Go.TypeDesc.string) := by simp only [goUnd, und11]
theorem agg12 : aggT Try.prog 12 = some false := by unfold aggT; rw [Try.underlying12]; rfl
@[simp] theorem siz12 : szT Try.prog 12 = some 1 := by unfold szT; rw [show Try.prog.info? 12 = some Try.t12 from Try.type12]; rfl
@[simp ↓] theorem ty12 {q : Bool → Nat → Prop} : goTy Try.prog 12 q = q false 1 := by simp only [goTy, agg12, siz12]
@[simp ↓] theorem sz12 {q : Nat → Prop} : goSz Try.prog 12 q = q 1 := by simp only [goSz, siz12]
theorem zer12 : zero? Try.prog 12 = some (Go.Value.int Go.IntKind.u64 0) := by unfold zero?; rw [show Try.prog.info? 12 = some Try.t12 from Try.type12]; rfl
@[simp ↓] theorem z12 {q : List Value → Prop} : goZ Try.prog 12 q = q [(Go.Value.int Go.IntKind.u64 0)] := by simp [goZ, zer12, Value.cells]
@[simp] theorem und12 : Try.prog.underlying 12 = some (Go.TypeDesc.int Go.IntKind.u64) := opq Try.underlying12
@[simp ↓] theorem un12 {q : TypeDesc → Prop} : goUnd Try.prog 12 q = q (Go.TypeDesc.int Go.IntKind.u64) := by simp only [goUnd, und12]
theorem agg13 : aggT Try.prog 13 = some true := by unfold aggT; rw [Try.underlying13]; rfl
@[simp] theorem siz13 : szT Try.prog 13 = some 2 := by unfold szT; rw [show Try.prog.info? 13 = some Try.t13 from Try.type13]; rfl
@[simp ↓] theorem ty13 {q : Bool → Nat → Prop} : goTy Try.prog 13 q = q true 2 := by simp only [goTy, agg13, siz13]
@[simp ↓] theorem sz13 {q : Nat → Prop} : goSz Try.prog 13 q = q 2 := by simp only [goSz, siz13]
theorem zer13 : zero? Try.prog 13 = some (Go.Value.agg #[Go.Value.string { data := #[] }, Go.Value.int Go.IntKind.u64 0]) := by unfold zero?; rw [show Try.prog.info? 13 = some Try.t13 from Try.type13]; rfl
@[simp ↓] theorem z13 {q : List Value → Prop} : goZ Try.prog 13 q = q [Go.Value.string { data := #[] }, Go.Value.int Go.IntKind.u64 0] := by simp [goZ, zer13, Value.cells]
@[simp] theorem und13 : Try.prog.underlying 13 = some (Go.TypeDesc.struct
  #[{ name := "msg", type := 9, offset := 0, embedded := false, tag := "", pkgPath := "runtime", byteOffset := 0 },
    { name := "addr", type := 12, offset := 1, embedded := false, tag := "", pkgPath := "runtime", byteOffset := 16 }]) := opq Try.underlying13
@[simp ↓] theorem fld13_0 {q : Nat → TypeId → Prop} : goFld Try.prog 13 0 q = q 0 9 := by simp only [goFld, und13]; rfl
@[simp ↓] theorem fld13_1 {q : Nat → TypeId → Prop} : goFld Try.prog 13 1 q = q 1 12 := by simp only [goFld, und13]; rfl
@[simp ↓] theorem bld13 {q : List Value → List (Nat × Nat) → Prop} : goBld Try.prog 13 q = q [Go.Value.string { data := #[] }, Go.Value.int Go.IntKind.u64 0] [(0, 1), (1, 1)] := by simp [goBld, und13, zer13, placesL, Value.cells]
theorem agg14 : aggT Try.prog 14 = some true := by unfold aggT; rw [Try.underlying14]; rfl
@[simp] theorem siz14 : szT Try.prog 14 = some 2 := by unfold szT; rw [show Try.prog.info? 14 = some Try.t14 from Try.type14]; rfl
@[simp ↓] theorem ty14 {q : Bool → Nat → Prop} : goTy Try.prog 14 q = q true 2 := by simp only [goTy, agg14, siz14]
@[simp ↓] theorem sz14 {q : Nat → Prop} : goSz Try.prog 14 q = q 2 := by simp only [goSz, siz14]
theorem zer14 : zero? Try.prog 14 = some (Go.Value.agg #[Go.Value.string { data := #[] }, Go.Value.int Go.IntKind.u64 0]) := by unfold zero?; rw [show Try.prog.info? 14 = some Try.t14 from Try.type14]; rfl
@[simp ↓] theorem z14 {q : List Value → Prop} : goZ Try.prog 14 q = q [Go.Value.string { data := #[] }, Go.Value.int Go.IntKind.u64 0] := by simp [goZ, zer14, Value.cells]
@[simp] theorem und14 : Try.prog.underlying 14 = some (Go.TypeDesc.struct
  #[{ name := "msg", type := 9, offset := 0, embedded := false, tag := "", pkgPath := "runtime", byteOffset := 0 },
    { name := "addr", type := 12, offset := 1, embedded := false, tag := "", pkgPath := "runtime", byteOffset := 16 }]) := opq Try.underlying14
@[simp ↓] theorem fld14_0 {q : Nat → TypeId → Prop} : goFld Try.prog 14 0 q = q 0 9 := by simp only [goFld, und14]; rfl
@[simp ↓] theorem fld14_1 {q : Nat → TypeId → Prop} : goFld Try.prog 14 1 q = q 1 12 := by simp only [goFld, und14]; rfl
@[simp ↓] theorem bld14 {q : List Value → List (Nat × Nat) → Prop} : goBld Try.prog 14 q = q [Go.Value.string { data := #[] }, Go.Value.int Go.IntKind.u64 0] [(0, 1), (1, 1)] := by simp [goBld, und14, zer14, placesL, Value.cells]
theorem agg15 : aggT Try.prog 15 = some false := by unfold aggT; rw [Try.underlying15]; rfl
@[simp] theorem siz15 : szT Try.prog 15 = some 1 := by unfold szT; rw [show Try.prog.info? 15 = some Try.t15 from Try.type15]; rfl
@[simp ↓] theorem ty15 {q : Bool → Nat → Prop} : goTy Try.prog 15 q = q false 1 := by simp only [goTy, agg15, siz15]
@[simp ↓] theorem sz15 {q : Nat → Prop} : goSz Try.prog 15 q = q 1 := by simp only [goSz, siz15]
theorem zer15 : zero? Try.prog 15 = some (Go.Value.pointer none) := by unfold zero?; rw [show Try.prog.info? 15 = some Try.t15 from Try.type15]; rfl
@[simp ↓] theorem z15 {q : List Value → Prop} : goZ Try.prog 15 q = q [(Go.Value.pointer none)] := by simp [goZ, zer15, Value.cells]
@[simp] theorem und15 : Try.prog.underlying 15 = some (Go.TypeDesc.pointer 143) := opq Try.underlying15
@[simp ↓] theorem un15 {q : TypeDesc → Prop} : goUnd Try.prog 15 q = q (Go.TypeDesc.pointer 143) := by simp only [goUnd, und15]
theorem agg16 : aggT Try.prog 16 = some false := by unfold aggT; rw [Try.underlying16]; rfl
@[simp] theorem siz16 : szT Try.prog 16 = some 1 := by unfold szT; rw [show Try.prog.info? 16 = some Try.t16 from Try.type16]; rfl
@[simp ↓] theorem ty16 {q : Bool → Nat → Prop} : goTy Try.prog 16 q = q false 1 := by simp only [goTy, agg16, siz16]
@[simp ↓] theorem sz16 {q : Nat → Prop} : goSz Try.prog 16 q = q 1 := by simp only [goSz, siz16]
theorem zer16 : zero? Try.prog 16 = some (Go.Value.pointer none) := by unfold zero?; rw [show Try.prog.info? 16 = some Try.t16 from Try.type16]; rfl
@[simp ↓] theorem z16 {q : List Value → Prop} : goZ Try.prog 16 q = q [(Go.Value.pointer none)] := by simp [goZ, zer16, Value.cells]
@[simp] theorem und16 : Try.prog.underlying 16 = some (Go.TypeDesc.pointer 146) := opq Try.underlying16
@[simp ↓] theorem un16 {q : TypeDesc → Prop} : goUnd Try.prog 16 q = q (Go.TypeDesc.pointer 146) := by simp only [goUnd, und16]
theorem agg17 : aggT Try.prog 17 = some false := by unfold aggT; rw [Try.underlying17]; rfl
@[simp] theorem siz17 : szT Try.prog 17 = some 1 := by unfold szT; rw [show Try.prog.info? 17 = some Try.t17 from Try.type17]; rfl
@[simp ↓] theorem ty17 {q : Bool → Nat → Prop} : goTy Try.prog 17 q = q false 1 := by simp only [goTy, agg17, siz17]
@[simp ↓] theorem sz17 {q : Nat → Prop} : goSz Try.prog 17 q = q 1 := by simp only [goSz, siz17]
theorem zer17 : zero? Try.prog 17 = some (Go.Value.pointer none) := by unfold zero?; rw [show Try.prog.info? 17 = some Try.t17 from Try.type17]; rfl
@[simp ↓] theorem z17 {q : List Value → Prop} : goZ Try.prog 17 q = q [(Go.Value.pointer none)] := by simp [goZ, zer17, Value.cells]
@[simp] theorem und17 : Try.prog.underlying 17 = some (Go.TypeDesc.pointer 155) := opq Try.underlying17
@[simp ↓] theorem un17 {q : TypeDesc → Prop} : goUnd Try.prog 17 q = q (Go.TypeDesc.pointer 155) := by simp only [goUnd, und17]
theorem agg18 : aggT Try.prog 18 = some true := by unfold aggT; rw [Try.underlying18]; rfl
@[simp] theorem siz18 : szT Try.prog 18 = some 1 := by unfold szT; rw [show Try.prog.info? 18 = some Try.t18 from Try.type18]; rfl
@[simp ↓] theorem ty18 {q : Bool → Nat → Prop} : goTy Try.prog 18 q = q true 1 := by simp only [goTy, agg18, siz18]
@[simp ↓] theorem sz18 {q : Nat → Prop} : goSz Try.prog 18 q = q 1 := by simp only [goSz, siz18]
theorem zer18 : zero? Try.prog 18 = some (Go.Value.agg #[Go.Value.pointer none]) := by unfold zero?; rw [show Try.prog.info? 18 = some Try.t18 from Try.type18]; rfl
@[simp ↓] theorem z18 {q : List Value → Prop} : goZ Try.prog 18 q = q [Go.Value.pointer none] := by simp [goZ, zer18, Value.cells]
@[simp] theorem und18 : Try.prog.underlying 18 = some (Go.TypeDesc.struct
  #[{ name := "typ", type := 17, offset := 0, embedded := false, tag := "", pkgPath := "internal/runtime/maps",
      byteOffset := 0 }]) := opq Try.underlying18
@[simp ↓] theorem fld18_0 {q : Nat → TypeId → Prop} : goFld Try.prog 18 0 q = q 0 17 := by simp only [goFld, und18]; rfl
@[simp ↓] theorem bld18 {q : List Value → List (Nat × Nat) → Prop} : goBld Try.prog 18 q = q [Go.Value.pointer none] [(0, 1)] := by simp [goBld, und18, zer18, placesL, Value.cells]
theorem agg19 : aggT Try.prog 19 = some true := by unfold aggT; rw [Try.underlying19]; rfl
@[simp] theorem siz19 : szT Try.prog 19 = some 1 := by unfold szT; rw [show Try.prog.info? 19 = some Try.t19 from Try.type19]; rfl
@[simp ↓] theorem ty19 {q : Bool → Nat → Prop} : goTy Try.prog 19 q = q true 1 := by simp only [goTy, agg19, siz19]
@[simp ↓] theorem sz19 {q : Nat → Prop} : goSz Try.prog 19 q = q 1 := by simp only [goSz, siz19]
theorem zer19 : zero? Try.prog 19 = some (Go.Value.agg #[Go.Value.pointer none]) := by unfold zero?; rw [show Try.prog.info? 19 = some Try.t19 from Try.type19]; rfl
@[simp ↓] theorem z19 {q : List Value → Prop} : goZ Try.prog 19 q = q [Go.Value.pointer none] := by simp [goZ, zer19, Value.cells]
@[simp] theorem und19 : Try.prog.underlying 19 = some (Go.TypeDesc.struct
  #[{ name := "typ", type := 17, offset := 0, embedded := false, tag := "", pkgPath := "internal/runtime/maps",
      byteOffset := 0 }]) := opq Try.underlying19
@[simp ↓] theorem fld19_0 {q : Nat → TypeId → Prop} : goFld Try.prog 19 0 q = q 0 17 := by simp only [goFld, und19]; rfl
@[simp ↓] theorem bld19 {q : List Value → List (Nat × Nat) → Prop} : goBld Try.prog 19 q = q [Go.Value.pointer none] [(0, 1)] := by simp [goBld, und19, zer19, placesL, Value.cells]
theorem agg20 : aggT Try.prog 20 = some false := by unfold aggT; rw [Try.underlying20]; rfl
@[simp] theorem siz20 : szT Try.prog 20 = some 1 := by unfold szT; rw [show Try.prog.info? 20 = some Try.t20 from Try.type20]; rfl
@[simp ↓] theorem ty20 {q : Bool → Nat → Prop} : goTy Try.prog 20 q = q false 1 := by simp only [goTy, agg20, siz20]
@[simp ↓] theorem sz20 {q : Nat → Prop} : goSz Try.prog 20 q = q 1 := by simp only [goSz, siz20]
theorem zer20 : zero? Try.prog 20 = some Go.Value.nilIface := by unfold zero?; rw [show Try.prog.info? 20 = some Try.t20 from Try.type20]; rfl
@[simp ↓] theorem z20 {q : List Value → Prop} : goZ Try.prog 20 q = q [Go.Value.nilIface] := by simp [goZ, zer20, Value.cells]
theorem agg21 : aggT Try.prog 21 = some false := by unfold aggT; rw [Try.underlying21]; rfl
@[simp] theorem siz21 : szT Try.prog 21 = some 1 := by unfold szT; rw [show Try.prog.info? 21 = some Try.t21 from Try.type21]; rfl
@[simp ↓] theorem ty21 {q : Bool → Nat → Prop} : goTy Try.prog 21 q = q false 1 := by simp only [goTy, agg21, siz21]
@[simp ↓] theorem sz21 {q : Nat → Prop} : goSz Try.prog 21 q = q 1 := by simp only [goSz, siz21]
theorem zer21 : zero? Try.prog 21 = some (Go.Value.int Go.IntKind.i32 0) := by unfold zero?; rw [show Try.prog.info? 21 = some Try.t21 from Try.type21]; rfl
@[simp ↓] theorem z21 {q : List Value → Prop} : goZ Try.prog 21 q = q [(Go.Value.int Go.IntKind.i32 0)] := by simp [goZ, zer21, Value.cells]
@[simp] theorem und21 : Try.prog.underlying 21 = some (Go.TypeDesc.int Go.IntKind.i32) := opq Try.underlying21
@[simp ↓] theorem un21 {q : TypeDesc → Prop} : goUnd Try.prog 21 q = q (Go.TypeDesc.int Go.IntKind.i32) := by simp only [goUnd, und21]
theorem agg22 : aggT Try.prog 22 = some false := by unfold aggT; rw [Try.underlying22]; rfl
@[simp] theorem siz22 : szT Try.prog 22 = some 1 := by unfold szT; rw [show Try.prog.info? 22 = some Try.t22 from Try.type22]; rfl
@[simp ↓] theorem ty22 {q : Bool → Nat → Prop} : goTy Try.prog 22 q = q false 1 := by simp only [goTy, agg22, siz22]
@[simp ↓] theorem sz22 {q : Nat → Prop} : goSz Try.prog 22 q = q 1 := by simp only [goSz, siz22]
theorem zer22 : zero? Try.prog 22 = some (Go.Value.slice none 0 0) := by unfold zero?; rw [show Try.prog.info? 22 = some Try.t22 from Try.type22]; rfl
@[simp ↓] theorem z22 {q : List Value → Prop} : goZ Try.prog 22 q = q [(Go.Value.slice none 0 0)] := by simp [goZ, zer22, Value.cells]
@[simp] theorem und22 : Try.prog.underlying 22 = some (Go.TypeDesc.slice 36) := opq Try.underlying22
@[simp ↓] theorem un22 {q : TypeDesc → Prop} : goUnd Try.prog 22 q = q (Go.TypeDesc.slice 36) := by simp only [goUnd, und22]
theorem slt22 : SlT Try.prog 22 36 1 24 := ⟨Try.underlying22, ⟨Try.t36, _, Try.type36, rfl, rfl, rfl, by simp, rfl⟩, by decide⟩
@[simp ↓] theorem sl22 {q : TypeId → Nat → List Value → Prop} : goSl Try.prog 22 q = q 36 1 [Go.Value.slice none 0 0] := by simp [goSl, und22, show zero? Try.prog 36 = some (Go.Value.agg #[Go.Value.slice none 0 0]) from by unfold zero?; rw [show Try.prog.info? 36 = some Try.t36 from Try.type36]; rfl, show szT Try.prog 36 = some 1 from by unfold szT; rw [show Try.prog.info? 36 = some Try.t36 from Try.type36]; rfl, Value.cells]
theorem agg23 : aggT Try.prog 23 = some false := by unfold aggT; rw [Try.underlying23]; rfl
@[simp] theorem siz23 : szT Try.prog 23 = some 1 := by unfold szT; rw [show Try.prog.info? 23 = some Try.t23 from Try.type23]; rfl
@[simp ↓] theorem ty23 {q : Bool → Nat → Prop} : goTy Try.prog 23 q = q false 1 := by simp only [goTy, agg23, siz23]
@[simp ↓] theorem sz23 {q : Nat → Prop} : goSz Try.prog 23 q = q 1 := by simp only [goSz, siz23]
theorem zer23 : zero? Try.prog 23 = some Go.Value.nilFunc := by unfold zero?; rw [show Try.prog.info? 23 = some Try.t23 from Try.type23]; rfl
@[simp ↓] theorem z23 {q : List Value → Prop} : goZ Try.prog 23 q = q [Go.Value.nilFunc] := by simp [goZ, zer23, Value.cells]
theorem agg24 : aggT Try.prog 24 = some false := by unfold aggT; rw [Try.underlying24]; rfl
@[simp] theorem siz24 : szT Try.prog 24 = some 1 := by unfold szT; rw [show Try.prog.info? 24 = some Try.t24 from Try.type24]; rfl
@[simp ↓] theorem ty24 {q : Bool → Nat → Prop} : goTy Try.prog 24 q = q false 1 := by simp only [goTy, agg24, siz24]
@[simp ↓] theorem sz24 {q : Nat → Prop} : goSz Try.prog 24 q = q 1 := by simp only [goSz, siz24]
theorem zer24 : zero? Try.prog 24 = some (Go.Value.slice none 0 0) := by unfold zero?; rw [show Try.prog.info? 24 = some Try.t24 from Try.type24]; rfl
@[simp ↓] theorem z24 {q : List Value → Prop} : goZ Try.prog 24 q = q [(Go.Value.slice none 0 0)] := by simp [goZ, zer24, Value.cells]
@[simp] theorem und24 : Try.prog.underlying 24 = some (Go.TypeDesc.slice 3) := opq Try.underlying24
@[simp ↓] theorem un24 {q : TypeDesc → Prop} : goUnd Try.prog 24 q = q (Go.TypeDesc.slice 3) := by simp only [goUnd, und24]
theorem slt24 : SlT Try.prog 24 3 1 8 := ⟨Try.underlying24, ⟨Try.t3, _, Try.type3, rfl, rfl, rfl, by simp, rfl⟩, by decide⟩
@[simp ↓] theorem sl24 {q : TypeId → Nat → List Value → Prop} : goSl Try.prog 24 q = q 3 1 [(Go.Value.int Go.IntKind.i64 0)] := by simp [goSl, und24, show zero? Try.prog 3 = some (Go.Value.int Go.IntKind.i64 0) from by unfold zero?; rw [show Try.prog.info? 3 = some Try.t3 from Try.type3]; rfl, show szT Try.prog 3 = some 1 from by unfold szT; rw [show Try.prog.info? 3 = some Try.t3 from Try.type3]; rfl, Value.cells]
theorem agg25 : aggT Try.prog 25 = some false := by unfold aggT; rw [Try.underlying25]; rfl
@[simp] theorem siz25 : szT Try.prog 25 = some 1 := by unfold szT; rw [show Try.prog.info? 25 = some Try.t25 from Try.type25]; rfl
@[simp ↓] theorem ty25 {q : Bool → Nat → Prop} : goTy Try.prog 25 q = q false 1 := by simp only [goTy, agg25, siz25]
@[simp ↓] theorem sz25 {q : Nat → Prop} : goSz Try.prog 25 q = q 1 := by simp only [goSz, siz25]
theorem zer25 : zero? Try.prog 25 = some Go.Value.nilFunc := by unfold zero?; rw [show Try.prog.info? 25 = some Try.t25 from Try.type25]; rfl
@[simp ↓] theorem z25 {q : List Value → Prop} : goZ Try.prog 25 q = q [Go.Value.nilFunc] := by simp [goZ, zer25, Value.cells]
theorem agg26 : aggT Try.prog 26 = some false := by unfold aggT; rw [Try.underlying26]; rfl
@[simp] theorem siz26 : szT Try.prog 26 = some 1 := by unfold szT; rw [show Try.prog.info? 26 = some Try.t26 from Try.type26]; rfl
@[simp ↓] theorem ty26 {q : Bool → Nat → Prop} : goTy Try.prog 26 q = q false 1 := by simp only [goTy, agg26, siz26]
@[simp ↓] theorem sz26 {q : Nat → Prop} : goSz Try.prog 26 q = q 1 := by simp only [goSz, siz26]
theorem zer26 : zero? Try.prog 26 = some (Go.Value.slice none 0 0) := by unfold zero?; rw [show Try.prog.info? 26 = some Try.t26 from Try.type26]; rfl
@[simp ↓] theorem z26 {q : List Value → Prop} : goZ Try.prog 26 q = q [(Go.Value.slice none 0 0)] := by simp [goZ, zer26, Value.cells]
@[simp] theorem und26 : Try.prog.underlying 26 = some (Go.TypeDesc.slice 41) := opq Try.underlying26
@[simp ↓] theorem un26 {q : TypeDesc → Prop} : goUnd Try.prog 26 q = q (Go.TypeDesc.slice 41) := by simp only [goUnd, und26]
theorem slt26 : SlT Try.prog 26 41 1 24 := ⟨Try.underlying26, ⟨Try.t41, _, Try.type41, rfl, rfl, rfl, by simp, rfl⟩, by decide⟩
@[simp ↓] theorem sl26 {q : TypeId → Nat → List Value → Prop} : goSl Try.prog 26 q = q 41 1 [Go.Value.slice none 0 0] := by simp [goSl, und26, show zero? Try.prog 41 = some (Go.Value.agg #[Go.Value.slice none 0 0]) from by unfold zero?; rw [show Try.prog.info? 41 = some Try.t41 from Try.type41]; rfl, show szT Try.prog 41 = some 1 from by unfold szT; rw [show Try.prog.info? 41 = some Try.t41 from Try.type41]; rfl, Value.cells]
theorem agg27 : aggT Try.prog 27 = some false := by unfold aggT; rw [Try.underlying27]; rfl
@[simp] theorem siz27 : szT Try.prog 27 = some 1 := by unfold szT; rw [show Try.prog.info? 27 = some Try.t27 from Try.type27]; rfl
@[simp ↓] theorem ty27 {q : Bool → Nat → Prop} : goTy Try.prog 27 q = q false 1 := by simp only [goTy, agg27, siz27]
@[simp ↓] theorem sz27 {q : Nat → Prop} : goSz Try.prog 27 q = q 1 := by simp only [goSz, siz27]
theorem zer27 : zero? Try.prog 27 = some Go.Value.nilFunc := by unfold zero?; rw [show Try.prog.info? 27 = some Try.t27 from Try.type27]; rfl
@[simp ↓] theorem z27 {q : List Value → Prop} : goZ Try.prog 27 q = q [Go.Value.nilFunc] := by simp [goZ, zer27, Value.cells]
theorem agg28 : aggT Try.prog 28 = some false := by unfold aggT; rw [Try.underlying28]; rfl
@[simp] theorem siz28 : szT Try.prog 28 = some 1 := by unfold szT; rw [show Try.prog.info? 28 = some Try.t28 from Try.type28]; rfl
@[simp ↓] theorem ty28 {q : Bool → Nat → Prop} : goTy Try.prog 28 q = q false 1 := by simp only [goTy, agg28, siz28]
@[simp ↓] theorem sz28 {q : Nat → Prop} : goSz Try.prog 28 q = q 1 := by simp only [goSz, siz28]
theorem zer28 : zero? Try.prog 28 = some Go.Value.nilFunc := by unfold zero?; rw [show Try.prog.info? 28 = some Try.t28 from Try.type28]; rfl
@[simp ↓] theorem z28 {q : List Value → Prop} : goZ Try.prog 28 q = q [Go.Value.nilFunc] := by simp [goZ, zer28, Value.cells]
theorem agg29 : aggT Try.prog 29 = some false := by unfold aggT; rw [Try.underlying29]; rfl
@[simp] theorem siz29 : szT Try.prog 29 = some 1 := by unfold szT; rw [show Try.prog.info? 29 = some Try.t29 from Try.type29]; rfl
@[simp ↓] theorem ty29 {q : Bool → Nat → Prop} : goTy Try.prog 29 q = q false 1 := by simp only [goTy, agg29, siz29]
@[simp ↓] theorem sz29 {q : Nat → Prop} : goSz Try.prog 29 q = q 1 := by simp only [goSz, siz29]
theorem zer29 : zero? Try.prog 29 = some Go.Value.nilFunc := by unfold zero?; rw [show Try.prog.info? 29 = some Try.t29 from Try.type29]; rfl
@[simp ↓] theorem z29 {q : List Value → Prop} : goZ Try.prog 29 q = q [Go.Value.nilFunc] := by simp [goZ, zer29, Value.cells]
theorem agg30 : aggT Try.prog 30 = some false := by unfold aggT; rw [Try.underlying30]; rfl
@[simp] theorem siz30 : szT Try.prog 30 = some 1 := by unfold szT; rw [show Try.prog.info? 30 = some Try.t30 from Try.type30]; rfl
@[simp ↓] theorem ty30 {q : Bool → Nat → Prop} : goTy Try.prog 30 q = q false 1 := by simp only [goTy, agg30, siz30]
@[simp ↓] theorem sz30 {q : Nat → Prop} : goSz Try.prog 30 q = q 1 := by simp only [goSz, siz30]
theorem zer30 : zero? Try.prog 30 = some Go.Value.nilFunc := by unfold zero?; rw [show Try.prog.info? 30 = some Try.t30 from Try.type30]; rfl
@[simp ↓] theorem z30 {q : List Value → Prop} : goZ Try.prog 30 q = q [Go.Value.nilFunc] := by simp [goZ, zer30, Value.cells]
theorem agg31 : aggT Try.prog 31 = some false := by unfold aggT; rw [Try.underlying31]; rfl
@[simp] theorem siz31 : szT Try.prog 31 = some 1 := by unfold szT; rw [show Try.prog.info? 31 = some Try.t31 from Try.type31]; rfl
@[simp ↓] theorem ty31 {q : Bool → Nat → Prop} : goTy Try.prog 31 q = q false 1 := by simp only [goTy, agg31, siz31]
@[simp ↓] theorem sz31 {q : Nat → Prop} : goSz Try.prog 31 q = q 1 := by simp only [goSz, siz31]
theorem zer31 : zero? Try.prog 31 = some Go.Value.nilFunc := by unfold zero?; rw [show Try.prog.info? 31 = some Try.t31 from Try.type31]; rfl
@[simp ↓] theorem z31 {q : List Value → Prop} : goZ Try.prog 31 q = q [Go.Value.nilFunc] := by simp [goZ, zer31, Value.cells]
theorem agg32 : aggT Try.prog 32 = some false := by unfold aggT; rw [Try.underlying32]; rfl
@[simp] theorem siz32 : szT Try.prog 32 = some 1 := by unfold szT; rw [show Try.prog.info? 32 = some Try.t32 from Try.type32]; rfl
@[simp ↓] theorem ty32 {q : Bool → Nat → Prop} : goTy Try.prog 32 q = q false 1 := by simp only [goTy, agg32, siz32]
@[simp ↓] theorem sz32 {q : Nat → Prop} : goSz Try.prog 32 q = q 1 := by simp only [goSz, siz32]
theorem zer32 : zero? Try.prog 32 = some Go.Value.nilFunc := by unfold zero?; rw [show Try.prog.info? 32 = some Try.t32 from Try.type32]; rfl
@[simp ↓] theorem z32 {q : List Value → Prop} : goZ Try.prog 32 q = q [Go.Value.nilFunc] := by simp [goZ, zer32, Value.cells]
theorem agg33 : aggT Try.prog 33 = some false := by unfold aggT; rw [Try.underlying33]; rfl
@[simp] theorem siz33 : szT Try.prog 33 = some 1 := by unfold szT; rw [show Try.prog.info? 33 = some Try.t33 from Try.type33]; rfl
@[simp ↓] theorem ty33 {q : Bool → Nat → Prop} : goTy Try.prog 33 q = q false 1 := by simp only [goTy, agg33, siz33]
@[simp ↓] theorem sz33 {q : Nat → Prop} : goSz Try.prog 33 q = q 1 := by simp only [goSz, siz33]
theorem zer33 : zero? Try.prog 33 = some Go.Value.nilFunc := by unfold zero?; rw [show Try.prog.info? 33 = some Try.t33 from Try.type33]; rfl
@[simp ↓] theorem z33 {q : List Value → Prop} : goZ Try.prog 33 q = q [Go.Value.nilFunc] := by simp [goZ, zer33, Value.cells]
theorem agg34 : aggT Try.prog 34 = some false := by unfold aggT; rw [Try.underlying34]; rfl
@[simp] theorem siz34 : szT Try.prog 34 = some 1 := by unfold szT; rw [show Try.prog.info? 34 = some Try.t34 from Try.type34]; rfl
@[simp ↓] theorem ty34 {q : Bool → Nat → Prop} : goTy Try.prog 34 q = q false 1 := by simp only [goTy, agg34, siz34]
@[simp ↓] theorem sz34 {q : Nat → Prop} : goSz Try.prog 34 q = q 1 := by simp only [goSz, siz34]
theorem zer34 : zero? Try.prog 34 = some (Go.Value.slice none 0 0) := by unfold zero?; rw [show Try.prog.info? 34 = some Try.t34 from Try.type34]; rfl
@[simp ↓] theorem z34 {q : List Value → Prop} : goZ Try.prog 34 q = q [(Go.Value.slice none 0 0)] := by simp [goZ, zer34, Value.cells]
@[simp] theorem und34 : Try.prog.underlying 34 = some (Go.TypeDesc.slice 73) := opq Try.underlying34
@[simp ↓] theorem un34 {q : TypeDesc → Prop} : goUnd Try.prog 34 q = q (Go.TypeDesc.slice 73) := by simp only [goUnd, und34]
theorem slt34 : SlT Try.prog 34 73 6 96 := ⟨Try.underlying34, ⟨Try.t73, _, Try.type73, rfl, rfl, rfl, by simp, rfl⟩, by decide⟩
@[simp ↓] theorem sl34 {q : TypeId → Nat → List Value → Prop} : goSl Try.prog 34 q = q 73 6 [Go.Value.string { data := #[] }, Go.Value.int Go.IntKind.i64 0, Go.Value.int Go.IntKind.i64 0,
      Go.Value.string { data := #[] }, Go.Value.slice none 0 0, Go.Value.slice none 0 0] := by simp [goSl, und34, show zero? Try.prog 73 = some
  (Go.Value.agg
    #[Go.Value.string { data := #[] }, Go.Value.int Go.IntKind.i64 0, Go.Value.int Go.IntKind.i64 0,
      Go.Value.string { data := #[] }, Go.Value.slice none 0 0, Go.Value.slice none 0 0]) from by unfold zero?; rw [show Try.prog.info? 73 = some Try.t73 from Try.type73]; rfl, show szT Try.prog 73 = some 6 from by unfold szT; rw [show Try.prog.info? 73 = some Try.t73 from Try.type73]; rfl, Value.cells]
theorem agg35 : aggT Try.prog 35 = some true := by unfold aggT; rw [Try.underlying35]; rfl
@[simp] theorem siz35 : szT Try.prog 35 = some 1 := by unfold szT; rw [show Try.prog.info? 35 = some Try.t35 from Try.type35]; rfl
@[simp ↓] theorem ty35 {q : Bool → Nat → Prop} : goTy Try.prog 35 q = q true 1 := by simp only [goTy, agg35, siz35]
@[simp ↓] theorem sz35 {q : Nat → Prop} : goSz Try.prog 35 q = q 1 := by simp only [goSz, siz35]
theorem zer35 : zero? Try.prog 35 = some (Go.Value.agg #[Go.Value.slice none 0 0]) := by unfold zero?; rw [show Try.prog.info? 35 = some Try.t35 from Try.type35]; rfl
@[simp ↓] theorem z35 {q : List Value → Prop} : goZ Try.prog 35 q = q [Go.Value.slice none 0 0] := by simp [goZ, zer35, Value.cells]
@[simp] theorem und35 : Try.prog.underlying 35 = some (Go.TypeDesc.struct
  #[{ name := "Deeds", type := 34, offset := 0, embedded := false, tag := "", pkgPath := "", byteOffset := 0 }]) := opq Try.underlying35
@[simp ↓] theorem fld35_0 {q : Nat → TypeId → Prop} : goFld Try.prog 35 0 q = q 0 34 := by simp only [goFld, und35]; rfl
@[simp ↓] theorem bld35 {q : List Value → List (Nat × Nat) → Prop} : goBld Try.prog 35 q = q [Go.Value.slice none 0 0] [(0, 1)] := by simp [goBld, und35, zer35, placesL, Value.cells]
theorem agg36 : aggT Try.prog 36 = some true := by unfold aggT; rw [Try.underlying36]; rfl
@[simp] theorem siz36 : szT Try.prog 36 = some 1 := by unfold szT; rw [show Try.prog.info? 36 = some Try.t36 from Try.type36]; rfl
@[simp ↓] theorem ty36 {q : Bool → Nat → Prop} : goTy Try.prog 36 q = q true 1 := by simp only [goTy, agg36, siz36]
@[simp ↓] theorem sz36 {q : Nat → Prop} : goSz Try.prog 36 q = q 1 := by simp only [goSz, siz36]
theorem zer36 : zero? Try.prog 36 = some (Go.Value.agg #[Go.Value.slice none 0 0]) := by unfold zero?; rw [show Try.prog.info? 36 = some Try.t36 from Try.type36]; rfl
@[simp ↓] theorem z36 {q : List Value → Prop} : goZ Try.prog 36 q = q [Go.Value.slice none 0 0] := by simp [goZ, zer36, Value.cells]
@[simp] theorem und36 : Try.prog.underlying 36 = some (Go.TypeDesc.struct
  #[{ name := "Deeds", type := 34, offset := 0, embedded := false, tag := "", pkgPath := "", byteOffset := 0 }]) := opq Try.underlying36
@[simp ↓] theorem fld36_0 {q : Nat → TypeId → Prop} : goFld Try.prog 36 0 q = q 0 34 := by simp only [goFld, und36]; rfl
@[simp ↓] theorem bld36 {q : List Value → List (Nat × Nat) → Prop} : goBld Try.prog 36 q = q [Go.Value.slice none 0 0] [(0, 1)] := by simp [goBld, und36, zer36, placesL, Value.cells]
theorem agg37 : aggT Try.prog 37 = some false := by unfold aggT; rw [Try.underlying37]; rfl
@[simp] theorem siz37 : szT Try.prog 37 = some 1 := by unfold szT; rw [show Try.prog.info? 37 = some Try.t37 from Try.type37]; rfl
@[simp ↓] theorem ty37 {q : Bool → Nat → Prop} : goTy Try.prog 37 q = q false 1 := by simp only [goTy, agg37, siz37]
@[simp ↓] theorem sz37 {q : Nat → Prop} : goSz Try.prog 37 q = q 1 := by simp only [goSz, siz37]
theorem zer37 : zero? Try.prog 37 = some (Go.Value.slice none 0 0) := by unfold zero?; rw [show Try.prog.info? 37 = some Try.t37 from Try.type37]; rfl
@[simp ↓] theorem z37 {q : List Value → Prop} : goZ Try.prog 37 q = q [(Go.Value.slice none 0 0)] := by simp [goZ, zer37, Value.cells]
@[simp] theorem und37 : Try.prog.underlying 37 = some (Go.TypeDesc.slice 9) := opq Try.underlying37
@[simp ↓] theorem un37 {q : TypeDesc → Prop} : goUnd Try.prog 37 q = q (Go.TypeDesc.slice 9) := by simp only [goUnd, und37]
theorem slt37 : SlT Try.prog 37 9 1 16 := ⟨Try.underlying37, ⟨Try.t9, _, Try.type9, rfl, rfl, rfl, by simp, rfl⟩, by decide⟩
@[simp ↓] theorem sl37 {q : TypeId → Nat → List Value → Prop} : goSl Try.prog 37 q = q 9 1 [(Go.Value.string { data := #[] })] := by simp [goSl, und37, show zero? Try.prog 9 = some (Go.Value.string { data := #[] }) from by unfold zero?; rw [show Try.prog.info? 9 = some Try.t9 from Try.type9]; rfl, show szT Try.prog 9 = some 1 from by unfold szT; rw [show Try.prog.info? 9 = some Try.t9 from Try.type9]; rfl, Value.cells]
theorem agg39 : aggT Try.prog 39 = some false := by unfold aggT; rw [Try.underlying39]; rfl
@[simp] theorem siz39 : szT Try.prog 39 = some 1 := by unfold szT; rw [show Try.prog.info? 39 = some Try.t39 from Try.type39]; rfl
@[simp ↓] theorem ty39 {q : Bool → Nat → Prop} : goTy Try.prog 39 q = q false 1 := by simp only [goTy, agg39, siz39]
@[simp ↓] theorem sz39 {q : Nat → Prop} : goSz Try.prog 39 q = q 1 := by simp only [goSz, siz39]
theorem zer39 : zero? Try.prog 39 = some (Go.Value.slice none 0 0) := by unfold zero?; rw [show Try.prog.info? 39 = some Try.t39 from Try.type39]; rfl
@[simp ↓] theorem z39 {q : List Value → Prop} : goZ Try.prog 39 q = q [(Go.Value.slice none 0 0)] := by simp [goZ, zer39, Value.cells]
@[simp] theorem und39 : Try.prog.underlying 39 = some (Go.TypeDesc.slice 55) := opq Try.underlying39
@[simp ↓] theorem un39 {q : TypeDesc → Prop} : goUnd Try.prog 39 q = q (Go.TypeDesc.slice 55) := by simp only [goUnd, und39]
theorem slt39 : SlT Try.prog 39 55 6 96 := ⟨Try.underlying39, ⟨Try.t55, _, Try.type55, rfl, rfl, rfl, by simp, rfl⟩, by decide⟩
@[simp ↓] theorem sl39 {q : TypeId → Nat → List Value → Prop} : goSl Try.prog 39 q = q 55 6 [Go.Value.string { data := #[] }, Go.Value.int Go.IntKind.i64 0, Go.Value.int Go.IntKind.i64 0,
      Go.Value.string { data := #[] }, Go.Value.slice none 0 0, Go.Value.slice none 0 0] := by simp [goSl, und39, show zero? Try.prog 55 = some
  (Go.Value.agg
    #[Go.Value.string { data := #[] }, Go.Value.int Go.IntKind.i64 0, Go.Value.int Go.IntKind.i64 0,
      Go.Value.string { data := #[] }, Go.Value.slice none 0 0, Go.Value.slice none 0 0]) from by unfold zero?; rw [show Try.prog.info? 55 = some Try.t55 from Try.type55]; rfl, show szT Try.prog 55 = some 6 from by unfold szT; rw [show Try.prog.info? 55 = some Try.t55 from Try.type55]; rfl, Value.cells]
theorem agg41 : aggT Try.prog 41 = some true := by unfold aggT; rw [Try.underlying41]; rfl
@[simp] theorem siz41 : szT Try.prog 41 = some 1 := by unfold szT; rw [show Try.prog.info? 41 = some Try.t41 from Try.type41]; rfl
@[simp ↓] theorem ty41 {q : Bool → Nat → Prop} : goTy Try.prog 41 q = q true 1 := by simp only [goTy, agg41, siz41]
@[simp ↓] theorem sz41 {q : Nat → Prop} : goSz Try.prog 41 q = q 1 := by simp only [goSz, siz41]
theorem zer41 : zero? Try.prog 41 = some (Go.Value.agg #[Go.Value.slice none 0 0]) := by unfold zero?; rw [show Try.prog.info? 41 = some Try.t41 from Try.type41]; rfl
@[simp ↓] theorem z41 {q : List Value → Prop} : goZ Try.prog 41 q = q [Go.Value.slice none 0 0] := by simp [goZ, zer41, Value.cells]
@[simp] theorem und41 : Try.prog.underlying 41 = some (Go.TypeDesc.struct
  #[{ name := "Deeds", type := 39, offset := 0, embedded := false, tag := "", pkgPath := "", byteOffset := 0 }]) := opq Try.underlying41
@[simp ↓] theorem fld41_0 {q : Nat → TypeId → Prop} : goFld Try.prog 41 0 q = q 0 39 := by simp only [goFld, und41]; rfl
@[simp ↓] theorem bld41 {q : List Value → List (Nat × Nat) → Prop} : goBld Try.prog 41 q = q [Go.Value.slice none 0 0] [(0, 1)] := by simp [goBld, und41, zer41, placesL, Value.cells]
theorem agg42 : aggT Try.prog 42 = some false := by unfold aggT; rw [Try.underlying42]; rfl
@[simp] theorem siz42 : szT Try.prog 42 = some 1 := by unfold szT; rw [show Try.prog.info? 42 = some Try.t42 from Try.type42]; rfl
@[simp ↓] theorem ty42 {q : Bool → Nat → Prop} : goTy Try.prog 42 q = q false 1 := by simp only [goTy, agg42, siz42]
@[simp ↓] theorem sz42 {q : Nat → Prop} : goSz Try.prog 42 q = q 1 := by simp only [goSz, siz42]
theorem zer42 : zero? Try.prog 42 = some Go.Value.nilFunc := by unfold zero?; rw [show Try.prog.info? 42 = some Try.t42 from Try.type42]; rfl
@[simp ↓] theorem z42 {q : List Value → Prop} : goZ Try.prog 42 q = q [Go.Value.nilFunc] := by simp [goZ, zer42, Value.cells]
theorem agg45 : aggT Try.prog 45 = some false := by unfold aggT; rw [Try.underlying45]; rfl
@[simp] theorem siz45 : szT Try.prog 45 = some 1 := by unfold szT; rw [show Try.prog.info? 45 = some Try.t45 from Try.type45]; rfl
@[simp ↓] theorem ty45 {q : Bool → Nat → Prop} : goTy Try.prog 45 q = q false 1 := by simp only [goTy, agg45, siz45]
@[simp ↓] theorem sz45 {q : Nat → Prop} : goSz Try.prog 45 q = q 1 := by simp only [goSz, siz45]
theorem zer45 : zero? Try.prog 45 = some Go.Value.nilFunc := by unfold zero?; rw [show Try.prog.info? 45 = some Try.t45 from Try.type45]; rfl
@[simp ↓] theorem z45 {q : List Value → Prop} : goZ Try.prog 45 q = q [Go.Value.nilFunc] := by simp [goZ, zer45, Value.cells]
theorem agg46 : aggT Try.prog 46 = some false := by unfold aggT; rw [Try.underlying46]; rfl
@[simp] theorem siz46 : szT Try.prog 46 = some 1 := by unfold szT; rw [show Try.prog.info? 46 = some Try.t46 from Try.type46]; rfl
@[simp ↓] theorem ty46 {q : Bool → Nat → Prop} : goTy Try.prog 46 q = q false 1 := by simp only [goTy, agg46, siz46]
@[simp ↓] theorem sz46 {q : Nat → Prop} : goSz Try.prog 46 q = q 1 := by simp only [goSz, siz46]
theorem zer46 : zero? Try.prog 46 = some Go.Value.nilFunc := by unfold zero?; rw [show Try.prog.info? 46 = some Try.t46 from Try.type46]; rfl
@[simp ↓] theorem z46 {q : List Value → Prop} : goZ Try.prog 46 q = q [Go.Value.nilFunc] := by simp [goZ, zer46, Value.cells]
theorem agg47 : aggT Try.prog 47 = some false := by unfold aggT; rw [Try.underlying47]; rfl
@[simp] theorem siz47 : szT Try.prog 47 = some 1 := by unfold szT; rw [show Try.prog.info? 47 = some Try.t47 from Try.type47]; rfl
@[simp ↓] theorem ty47 {q : Bool → Nat → Prop} : goTy Try.prog 47 q = q false 1 := by simp only [goTy, agg47, siz47]
@[simp ↓] theorem sz47 {q : Nat → Prop} : goSz Try.prog 47 q = q 1 := by simp only [goSz, siz47]
theorem zer47 : zero? Try.prog 47 = some Go.Value.nilFunc := by unfold zero?; rw [show Try.prog.info? 47 = some Try.t47 from Try.type47]; rfl
@[simp ↓] theorem z47 {q : List Value → Prop} : goZ Try.prog 47 q = q [Go.Value.nilFunc] := by simp [goZ, zer47, Value.cells]
theorem agg48 : aggT Try.prog 48 = some false := by unfold aggT; rw [Try.underlying48]; rfl
@[simp] theorem siz48 : szT Try.prog 48 = some 1 := by unfold szT; rw [show Try.prog.info? 48 = some Try.t48 from Try.type48]; rfl
@[simp ↓] theorem ty48 {q : Bool → Nat → Prop} : goTy Try.prog 48 q = q false 1 := by simp only [goTy, agg48, siz48]
@[simp ↓] theorem sz48 {q : Nat → Prop} : goSz Try.prog 48 q = q 1 := by simp only [goSz, siz48]
theorem zer48 : zero? Try.prog 48 = some Go.Value.nilFunc := by unfold zero?; rw [show Try.prog.info? 48 = some Try.t48 from Try.type48]; rfl
@[simp ↓] theorem z48 {q : List Value → Prop} : goZ Try.prog 48 q = q [Go.Value.nilFunc] := by simp [goZ, zer48, Value.cells]
theorem agg49 : aggT Try.prog 49 = some false := by unfold aggT; rw [Try.underlying49]; rfl
@[simp] theorem siz49 : szT Try.prog 49 = some 1 := by unfold szT; rw [show Try.prog.info? 49 = some Try.t49 from Try.type49]; rfl
@[simp ↓] theorem ty49 {q : Bool → Nat → Prop} : goTy Try.prog 49 q = q false 1 := by simp only [goTy, agg49, siz49]
@[simp ↓] theorem sz49 {q : Nat → Prop} : goSz Try.prog 49 q = q 1 := by simp only [goSz, siz49]
theorem zer49 : zero? Try.prog 49 = some Go.Value.nilFunc := by unfold zero?; rw [show Try.prog.info? 49 = some Try.t49 from Try.type49]; rfl
@[simp ↓] theorem z49 {q : List Value → Prop} : goZ Try.prog 49 q = q [Go.Value.nilFunc] := by simp [goZ, zer49, Value.cells]
theorem agg50 : aggT Try.prog 50 = some false := by unfold aggT; rw [Try.underlying50]; rfl
@[simp] theorem siz50 : szT Try.prog 50 = some 1 := by unfold szT; rw [show Try.prog.info? 50 = some Try.t50 from Try.type50]; rfl
@[simp ↓] theorem ty50 {q : Bool → Nat → Prop} : goTy Try.prog 50 q = q false 1 := by simp only [goTy, agg50, siz50]
@[simp ↓] theorem sz50 {q : Nat → Prop} : goSz Try.prog 50 q = q 1 := by simp only [goSz, siz50]
theorem zer50 : zero? Try.prog 50 = some (Go.Value.slice none 0 0) := by unfold zero?; rw [show Try.prog.info? 50 = some Try.t50 from Try.type50]; rfl
@[simp ↓] theorem z50 {q : List Value → Prop} : goZ Try.prog 50 q = q [(Go.Value.slice none 0 0)] := by simp [goZ, zer50, Value.cells]
@[simp] theorem und50 : Try.prog.underlying 50 = some (Go.TypeDesc.slice 81) := opq Try.underlying50
@[simp ↓] theorem un50 {q : TypeDesc → Prop} : goUnd Try.prog 50 q = q (Go.TypeDesc.slice 81) := by simp only [goUnd, und50]
theorem slt50 : SlT Try.prog 50 81 3 32 := ⟨Try.underlying50, ⟨Try.t81, _, Try.type81, rfl, rfl, rfl, by simp, rfl⟩, by decide⟩
@[simp ↓] theorem sl50 {q : TypeId → Nat → List Value → Prop} : goSl Try.prog 50 q = q 81 3 [Go.Value.int Go.IntKind.i64 0, Go.Value.string { data := #[] }, Go.Value.int Go.IntKind.i64 0] := by simp [goSl, und50, show zero? Try.prog 81 = some (Go.Value.agg #[Go.Value.int Go.IntKind.i64 0, Go.Value.string { data := #[] }, Go.Value.int Go.IntKind.i64 0]) from by unfold zero?; rw [show Try.prog.info? 81 = some Try.t81 from Try.type81]; rfl, show szT Try.prog 81 = some 3 from by unfold szT; rw [show Try.prog.info? 81 = some Try.t81 from Try.type81]; rfl, Value.cells]
theorem agg52 : aggT Try.prog 52 = some true := by unfold aggT; rw [Try.underlying52]; rfl
@[simp] theorem siz52 : szT Try.prog 52 = some 1 := by unfold szT; rw [show Try.prog.info? 52 = some Try.t52 from Try.type52]; rfl
@[simp ↓] theorem ty52 {q : Bool → Nat → Prop} : goTy Try.prog 52 q = q true 1 := by simp only [goTy, agg52, siz52]
@[simp ↓] theorem sz52 {q : Nat → Prop} : goSz Try.prog 52 q = q 1 := by simp only [goSz, siz52]
theorem zer52 : zero? Try.prog 52 = some (Go.Value.agg #[Go.Value.slice none 0 0]) := by unfold zero?; rw [show Try.prog.info? 52 = some Try.t52 from Try.type52]; rfl
@[simp ↓] theorem z52 {q : List Value → Prop} : goZ Try.prog 52 q = q [Go.Value.slice none 0 0] := by simp [goZ, zer52, Value.cells]
@[simp] theorem und52 : Try.prog.underlying 52 = some (Go.TypeDesc.struct
  #[{ name := "Code", type := 50, offset := 0, embedded := false, tag := "", pkgPath := "", byteOffset := 0 }]) := opq Try.underlying52
@[simp ↓] theorem fld52_0 {q : Nat → TypeId → Prop} : goFld Try.prog 52 0 q = q 0 50 := by simp only [goFld, und52]; rfl
@[simp ↓] theorem bld52 {q : List Value → List (Nat × Nat) → Prop} : goBld Try.prog 52 q = q [Go.Value.slice none 0 0] [(0, 1)] := by simp [goBld, und52, zer52, placesL, Value.cells]
theorem agg53 : aggT Try.prog 53 = some false := by unfold aggT; rw [Try.underlying53]; rfl
@[simp] theorem siz53 : szT Try.prog 53 = some 1 := by unfold szT; rw [show Try.prog.info? 53 = some Try.t53 from Try.type53]; rfl
@[simp ↓] theorem ty53 {q : Bool → Nat → Prop} : goTy Try.prog 53 q = q false 1 := by simp only [goTy, agg53, siz53]
@[simp ↓] theorem sz53 {q : Nat → Prop} : goSz Try.prog 53 q = q 1 := by simp only [goSz, siz53]
theorem zer53 : zero? Try.prog 53 = some (Go.Value.slice none 0 0) := by unfold zero?; rw [show Try.prog.info? 53 = some Try.t53 from Try.type53]; rfl
@[simp ↓] theorem z53 {q : List Value → Prop} : goZ Try.prog 53 q = q [(Go.Value.slice none 0 0)] := by simp [goZ, zer53, Value.cells]
@[simp] theorem und53 : Try.prog.underlying 53 = some (Go.TypeDesc.slice 57) := opq Try.underlying53
@[simp ↓] theorem un53 {q : TypeDesc → Prop} : goUnd Try.prog 53 q = q (Go.TypeDesc.slice 57) := by simp only [goUnd, und53]
theorem slt53 : SlT Try.prog 53 57 4 32 := ⟨Try.underlying53, ⟨Try.t57, _, Try.type57, rfl, rfl, rfl, by simp, rfl⟩, by decide⟩
@[simp ↓] theorem sl53 {q : TypeId → Nat → List Value → Prop} : goSl Try.prog 53 q = q 57 4 [Go.Value.string { data := #[] }, Go.Value.bool false, Go.Value.bool false, Go.Value.int Go.IntKind.i64 0] := by simp [goSl, und53, show zero? Try.prog 57 = some
  (Go.Value.agg
    #[Go.Value.string { data := #[] }, Go.Value.bool false, Go.Value.bool false, Go.Value.int Go.IntKind.i64 0]) from by unfold zero?; rw [show Try.prog.info? 57 = some Try.t57 from Try.type57]; rfl, show szT Try.prog 57 = some 4 from by unfold szT; rw [show Try.prog.info? 57 = some Try.t57 from Try.type57]; rfl, Value.cells]
theorem agg55 : aggT Try.prog 55 = some true := by unfold aggT; rw [Try.underlying55]; rfl
@[simp] theorem siz55 : szT Try.prog 55 = some 6 := by unfold szT; rw [show Try.prog.info? 55 = some Try.t55 from Try.type55]; rfl
@[simp ↓] theorem ty55 {q : Bool → Nat → Prop} : goTy Try.prog 55 q = q true 6 := by simp only [goTy, agg55, siz55]
@[simp ↓] theorem sz55 {q : Nat → Prop} : goSz Try.prog 55 q = q 6 := by simp only [goSz, siz55]
theorem zer55 : zero? Try.prog 55 = some
  (Go.Value.agg
    #[Go.Value.string { data := #[] }, Go.Value.int Go.IntKind.i64 0, Go.Value.int Go.IntKind.i64 0,
      Go.Value.string { data := #[] }, Go.Value.slice none 0 0, Go.Value.slice none 0 0]) := by unfold zero?; rw [show Try.prog.info? 55 = some Try.t55 from Try.type55]; rfl
@[simp ↓] theorem z55 {q : List Value → Prop} : goZ Try.prog 55 q = q [Go.Value.string { data := #[] }, Go.Value.int Go.IntKind.i64 0, Go.Value.int Go.IntKind.i64 0,
      Go.Value.string { data := #[] }, Go.Value.slice none 0 0, Go.Value.slice none 0 0] := by simp [goZ, zer55, Value.cells]
@[simp] theorem und55 : Try.prog.underlying 55 = some (Go.TypeDesc.struct
  #[{ name := "Name", type := 9, offset := 0, embedded := false, tag := "", pkgPath := "", byteOffset := 0 },
    { name := "Kind", type := 3, offset := 1, embedded := false, tag := "", pkgPath := "", byteOffset := 16 },
    { name := "Code", type := 3, offset := 2, embedded := false, tag := "", pkgPath := "", byteOffset := 24 },
    { name := "Text", type := 9, offset := 3, embedded := false, tag := "", pkgPath := "", byteOffset := 32 },
    { name := "Action", type := 52, offset := 4, embedded := false, tag := "", pkgPath := "", byteOffset := 48 },
    { name := "Links", type := 53, offset := 5, embedded := false, tag := "", pkgPath := "", byteOffset := 72 }]) := opq Try.underlying55
@[simp ↓] theorem fld55_0 {q : Nat → TypeId → Prop} : goFld Try.prog 55 0 q = q 0 9 := by simp only [goFld, und55]; rfl
@[simp ↓] theorem fld55_1 {q : Nat → TypeId → Prop} : goFld Try.prog 55 1 q = q 1 3 := by simp only [goFld, und55]; rfl
@[simp ↓] theorem fld55_2 {q : Nat → TypeId → Prop} : goFld Try.prog 55 2 q = q 2 3 := by simp only [goFld, und55]; rfl
@[simp ↓] theorem fld55_3 {q : Nat → TypeId → Prop} : goFld Try.prog 55 3 q = q 3 9 := by simp only [goFld, und55]; rfl
@[simp ↓] theorem fld55_4 {q : Nat → TypeId → Prop} : goFld Try.prog 55 4 q = q 4 52 := by simp only [goFld, und55]; rfl
@[simp ↓] theorem fld55_5 {q : Nat → TypeId → Prop} : goFld Try.prog 55 5 q = q 5 53 := by simp only [goFld, und55]; rfl
@[simp ↓] theorem bld55 {q : List Value → List (Nat × Nat) → Prop} : goBld Try.prog 55 q = q [Go.Value.string { data := #[] }, Go.Value.int Go.IntKind.i64 0, Go.Value.int Go.IntKind.i64 0,
      Go.Value.string { data := #[] }, Go.Value.slice none 0 0, Go.Value.slice none 0 0] [(0, 1), (1, 1), (2, 1), (3, 1), (4, 1), (5, 1)] := by simp [goBld, und55, zer55, placesL, Value.cells]
theorem agg57 : aggT Try.prog 57 = some true := by unfold aggT; rw [Try.underlying57]; rfl
@[simp] theorem siz57 : szT Try.prog 57 = some 4 := by unfold szT; rw [show Try.prog.info? 57 = some Try.t57 from Try.type57]; rfl
@[simp ↓] theorem ty57 {q : Bool → Nat → Prop} : goTy Try.prog 57 q = q true 4 := by simp only [goTy, agg57, siz57]
@[simp ↓] theorem sz57 {q : Nat → Prop} : goSz Try.prog 57 q = q 4 := by simp only [goSz, siz57]
theorem zer57 : zero? Try.prog 57 = some
  (Go.Value.agg
    #[Go.Value.string { data := #[] }, Go.Value.bool false, Go.Value.bool false, Go.Value.int Go.IntKind.i64 0]) := by unfold zero?; rw [show Try.prog.info? 57 = some Try.t57 from Try.type57]; rfl
@[simp ↓] theorem z57 {q : List Value → Prop} : goZ Try.prog 57 q = q [Go.Value.string { data := #[] }, Go.Value.bool false, Go.Value.bool false, Go.Value.int Go.IntKind.i64 0] := by simp [goZ, zer57, Value.cells]
@[simp] theorem und57 : Try.prog.underlying 57 = some (Go.TypeDesc.struct
  #[{ name := "Name", type := 9, offset := 0, embedded := false, tag := "", pkgPath := "", byteOffset := 0 },
    { name := "Ask", type := 4, offset := 1, embedded := false, tag := "", pkgPath := "", byteOffset := 16 },
    { name := "Has", type := 4, offset := 2, embedded := false, tag := "", pkgPath := "", byteOffset := 17 },
    { name := "At", type := 3, offset := 3, embedded := false, tag := "", pkgPath := "", byteOffset := 24 }]) := opq Try.underlying57
@[simp ↓] theorem fld57_0 {q : Nat → TypeId → Prop} : goFld Try.prog 57 0 q = q 0 9 := by simp only [goFld, und57]; rfl
@[simp ↓] theorem fld57_1 {q : Nat → TypeId → Prop} : goFld Try.prog 57 1 q = q 1 4 := by simp only [goFld, und57]; rfl
@[simp ↓] theorem fld57_2 {q : Nat → TypeId → Prop} : goFld Try.prog 57 2 q = q 2 4 := by simp only [goFld, und57]; rfl
@[simp ↓] theorem fld57_3 {q : Nat → TypeId → Prop} : goFld Try.prog 57 3 q = q 3 3 := by simp only [goFld, und57]; rfl
@[simp ↓] theorem bld57 {q : List Value → List (Nat × Nat) → Prop} : goBld Try.prog 57 q = q [Go.Value.string { data := #[] }, Go.Value.bool false, Go.Value.bool false, Go.Value.int Go.IntKind.i64 0] [(0, 1), (1, 1), (2, 1), (3, 1)] := by simp [goBld, und57, zer57, placesL, Value.cells]
theorem agg58 : aggT Try.prog 58 = some false := by unfold aggT; rw [Try.underlying58]; rfl
@[simp] theorem siz58 : szT Try.prog 58 = some 1 := by unfold szT; rw [show Try.prog.info? 58 = some Try.t58 from Try.type58]; rfl
@[simp ↓] theorem ty58 {q : Bool → Nat → Prop} : goTy Try.prog 58 q = q false 1 := by simp only [goTy, agg58, siz58]
@[simp ↓] theorem sz58 {q : Nat → Prop} : goSz Try.prog 58 q = q 1 := by simp only [goSz, siz58]
theorem zer58 : zero? Try.prog 58 = some Go.Value.nilFunc := by unfold zero?; rw [show Try.prog.info? 58 = some Try.t58 from Try.type58]; rfl
@[simp ↓] theorem z58 {q : List Value → Prop} : goZ Try.prog 58 q = q [Go.Value.nilFunc] := by simp [goZ, zer58, Value.cells]
theorem agg60 : aggT Try.prog 60 = some false := by unfold aggT; rw [Try.underlying60]; rfl
@[simp] theorem siz60 : szT Try.prog 60 = some 1 := by unfold szT; rw [show Try.prog.info? 60 = some Try.t60 from Try.type60]; rfl
@[simp ↓] theorem ty60 {q : Bool → Nat → Prop} : goTy Try.prog 60 q = q false 1 := by simp only [goTy, agg60, siz60]
@[simp ↓] theorem sz60 {q : Nat → Prop} : goSz Try.prog 60 q = q 1 := by simp only [goSz, siz60]
theorem zer60 : zero? Try.prog 60 = some Go.Value.nilFunc := by unfold zero?; rw [show Try.prog.info? 60 = some Try.t60 from Try.type60]; rfl
@[simp ↓] theorem z60 {q : List Value → Prop} : goZ Try.prog 60 q = q [Go.Value.nilFunc] := by simp [goZ, zer60, Value.cells]
theorem agg61 : aggT Try.prog 61 = some false := by unfold aggT; rw [Try.underlying61]; rfl
@[simp] theorem siz61 : szT Try.prog 61 = some 1 := by unfold szT; rw [show Try.prog.info? 61 = some Try.t61 from Try.type61]; rfl
@[simp ↓] theorem ty61 {q : Bool → Nat → Prop} : goTy Try.prog 61 q = q false 1 := by simp only [goTy, agg61, siz61]
@[simp ↓] theorem sz61 {q : Nat → Prop} : goSz Try.prog 61 q = q 1 := by simp only [goSz, siz61]
theorem zer61 : zero? Try.prog 61 = some (Go.Value.map none) := by unfold zero?; rw [show Try.prog.info? 61 = some Try.t61 from Try.type61]; rfl
@[simp ↓] theorem z61 {q : List Value → Prop} : goZ Try.prog 61 q = q [(Go.Value.map none)] := by simp [goZ, zer61, Value.cells]
@[simp] theorem und61 : Try.prog.underlying 61 = some (Go.TypeDesc.map 9 4) := opq Try.underlying61
@[simp ↓] theorem un61 {q : TypeDesc → Prop} : goUnd Try.prog 61 q = q (Go.TypeDesc.map 9 4) := by simp only [goUnd, und61]
theorem agg68 : aggT Try.prog 68 = some false := by unfold aggT; rw [Try.underlying68]; rfl
@[simp] theorem siz68 : szT Try.prog 68 = some 1 := by unfold szT; rw [show Try.prog.info? 68 = some Try.t68 from Try.type68]; rfl
@[simp ↓] theorem ty68 {q : Bool → Nat → Prop} : goTy Try.prog 68 q = q false 1 := by simp only [goTy, agg68, siz68]
@[simp ↓] theorem sz68 {q : Nat → Prop} : goSz Try.prog 68 q = q 1 := by simp only [goSz, siz68]
theorem zer68 : zero? Try.prog 68 = some (Go.Value.slice none 0 0) := by unfold zero?; rw [show Try.prog.info? 68 = some Try.t68 from Try.type68]; rfl
@[simp ↓] theorem z68 {q : List Value → Prop} : goZ Try.prog 68 q = q [(Go.Value.slice none 0 0)] := by simp [goZ, zer68, Value.cells]
@[simp] theorem und68 : Try.prog.underlying 68 = some (Go.TypeDesc.slice 126) := opq Try.underlying68
@[simp ↓] theorem un68 {q : TypeDesc → Prop} : goUnd Try.prog 68 q = q (Go.TypeDesc.slice 126) := by simp only [goUnd, und68]
theorem slt68 : SlT Try.prog 68 126 3 32 := ⟨Try.underlying68, ⟨Try.t126, _, Try.type126, rfl, rfl, rfl, by simp, rfl⟩, by decide⟩
@[simp ↓] theorem sl68 {q : TypeId → Nat → List Value → Prop} : goSl Try.prog 68 q = q 126 3 [Go.Value.int Go.IntKind.i64 0, Go.Value.string { data := #[] }, Go.Value.int Go.IntKind.i64 0] := by simp [goSl, und68, show zero? Try.prog 126 = some (Go.Value.agg #[Go.Value.int Go.IntKind.i64 0, Go.Value.string { data := #[] }, Go.Value.int Go.IntKind.i64 0]) from by unfold zero?; rw [show Try.prog.info? 126 = some Try.t126 from Try.type126]; rfl, show szT Try.prog 126 = some 3 from by unfold szT; rw [show Try.prog.info? 126 = some Try.t126 from Try.type126]; rfl, Value.cells]
theorem agg69 : aggT Try.prog 69 = some true := by unfold aggT; rw [Try.underlying69]; rfl
@[simp] theorem siz69 : szT Try.prog 69 = some 1 := by unfold szT; rw [show Try.prog.info? 69 = some Try.t69 from Try.type69]; rfl
@[simp ↓] theorem ty69 {q : Bool → Nat → Prop} : goTy Try.prog 69 q = q true 1 := by simp only [goTy, agg69, siz69]
@[simp ↓] theorem sz69 {q : Nat → Prop} : goSz Try.prog 69 q = q 1 := by simp only [goSz, siz69]
theorem zer69 : zero? Try.prog 69 = some (Go.Value.agg #[Go.Value.slice none 0 0]) := by unfold zero?; rw [show Try.prog.info? 69 = some Try.t69 from Try.type69]; rfl
@[simp ↓] theorem z69 {q : List Value → Prop} : goZ Try.prog 69 q = q [Go.Value.slice none 0 0] := by simp [goZ, zer69, Value.cells]
@[simp] theorem und69 : Try.prog.underlying 69 = some (Go.TypeDesc.struct
  #[{ name := "Code", type := 68, offset := 0, embedded := false, tag := "", pkgPath := "", byteOffset := 0 }]) := opq Try.underlying69
@[simp ↓] theorem fld69_0 {q : Nat → TypeId → Prop} : goFld Try.prog 69 0 q = q 0 68 := by simp only [goFld, und69]; rfl
@[simp ↓] theorem bld69 {q : List Value → List (Nat × Nat) → Prop} : goBld Try.prog 69 q = q [Go.Value.slice none 0 0] [(0, 1)] := by simp [goBld, und69, zer69, placesL, Value.cells]
theorem agg70 : aggT Try.prog 70 = some true := by unfold aggT; rw [Try.underlying70]; rfl
@[simp] theorem siz70 : szT Try.prog 70 = some 1 := by unfold szT; rw [show Try.prog.info? 70 = some Try.t70 from Try.type70]; rfl
@[simp ↓] theorem ty70 {q : Bool → Nat → Prop} : goTy Try.prog 70 q = q true 1 := by simp only [goTy, agg70, siz70]
@[simp ↓] theorem sz70 {q : Nat → Prop} : goSz Try.prog 70 q = q 1 := by simp only [goSz, siz70]
theorem zer70 : zero? Try.prog 70 = some (Go.Value.agg #[Go.Value.slice none 0 0]) := by unfold zero?; rw [show Try.prog.info? 70 = some Try.t70 from Try.type70]; rfl
@[simp ↓] theorem z70 {q : List Value → Prop} : goZ Try.prog 70 q = q [Go.Value.slice none 0 0] := by simp [goZ, zer70, Value.cells]
@[simp] theorem und70 : Try.prog.underlying 70 = some (Go.TypeDesc.struct
  #[{ name := "Code", type := 68, offset := 0, embedded := false, tag := "", pkgPath := "", byteOffset := 0 }]) := opq Try.underlying70
@[simp ↓] theorem fld70_0 {q : Nat → TypeId → Prop} : goFld Try.prog 70 0 q = q 0 68 := by simp only [goFld, und70]; rfl
@[simp ↓] theorem bld70 {q : List Value → List (Nat × Nat) → Prop} : goBld Try.prog 70 q = q [Go.Value.slice none 0 0] [(0, 1)] := by simp [goBld, und70, zer70, placesL, Value.cells]
theorem agg71 : aggT Try.prog 71 = some false := by unfold aggT; rw [Try.underlying71]; rfl
@[simp] theorem siz71 : szT Try.prog 71 = some 1 := by unfold szT; rw [show Try.prog.info? 71 = some Try.t71 from Try.type71]; rfl
@[simp ↓] theorem ty71 {q : Bool → Nat → Prop} : goTy Try.prog 71 q = q false 1 := by simp only [goTy, agg71, siz71]
@[simp ↓] theorem sz71 {q : Nat → Prop} : goSz Try.prog 71 q = q 1 := by simp only [goSz, siz71]
theorem zer71 : zero? Try.prog 71 = some (Go.Value.slice none 0 0) := by unfold zero?; rw [show Try.prog.info? 71 = some Try.t71 from Try.type71]; rfl
@[simp ↓] theorem z71 {q : List Value → Prop} : goZ Try.prog 71 q = q [(Go.Value.slice none 0 0)] := by simp [goZ, zer71, Value.cells]
@[simp] theorem und71 : Try.prog.underlying 71 = some (Go.TypeDesc.slice 103) := opq Try.underlying71
@[simp ↓] theorem un71 {q : TypeDesc → Prop} : goUnd Try.prog 71 q = q (Go.TypeDesc.slice 103) := by simp only [goUnd, und71]
theorem slt71 : SlT Try.prog 71 103 4 32 := ⟨Try.underlying71, ⟨Try.t103, _, Try.type103, rfl, rfl, rfl, by simp, rfl⟩, by decide⟩
@[simp ↓] theorem sl71 {q : TypeId → Nat → List Value → Prop} : goSl Try.prog 71 q = q 103 4 [Go.Value.string { data := #[] }, Go.Value.bool false, Go.Value.bool false, Go.Value.int Go.IntKind.i64 0] := by simp [goSl, und71, show zero? Try.prog 103 = some
  (Go.Value.agg
    #[Go.Value.string { data := #[] }, Go.Value.bool false, Go.Value.bool false, Go.Value.int Go.IntKind.i64 0]) from by unfold zero?; rw [show Try.prog.info? 103 = some Try.t103 from Try.type103]; rfl, show szT Try.prog 103 = some 4 from by unfold szT; rw [show Try.prog.info? 103 = some Try.t103 from Try.type103]; rfl, Value.cells]
theorem agg73 : aggT Try.prog 73 = some true := by unfold aggT; rw [Try.underlying73]; rfl
@[simp] theorem siz73 : szT Try.prog 73 = some 6 := by unfold szT; rw [show Try.prog.info? 73 = some Try.t73 from Try.type73]; rfl
@[simp ↓] theorem ty73 {q : Bool → Nat → Prop} : goTy Try.prog 73 q = q true 6 := by simp only [goTy, agg73, siz73]
@[simp ↓] theorem sz73 {q : Nat → Prop} : goSz Try.prog 73 q = q 6 := by simp only [goSz, siz73]
theorem zer73 : zero? Try.prog 73 = some
  (Go.Value.agg
    #[Go.Value.string { data := #[] }, Go.Value.int Go.IntKind.i64 0, Go.Value.int Go.IntKind.i64 0,
      Go.Value.string { data := #[] }, Go.Value.slice none 0 0, Go.Value.slice none 0 0]) := by unfold zero?; rw [show Try.prog.info? 73 = some Try.t73 from Try.type73]; rfl
@[simp ↓] theorem z73 {q : List Value → Prop} : goZ Try.prog 73 q = q [Go.Value.string { data := #[] }, Go.Value.int Go.IntKind.i64 0, Go.Value.int Go.IntKind.i64 0,
      Go.Value.string { data := #[] }, Go.Value.slice none 0 0, Go.Value.slice none 0 0] := by simp [goZ, zer73, Value.cells]
@[simp] theorem und73 : Try.prog.underlying 73 = some (Go.TypeDesc.struct
  #[{ name := "Name", type := 9, offset := 0, embedded := false, tag := "", pkgPath := "", byteOffset := 0 },
    { name := "Kind", type := 3, offset := 1, embedded := false, tag := "", pkgPath := "", byteOffset := 16 },
    { name := "Code", type := 3, offset := 2, embedded := false, tag := "", pkgPath := "", byteOffset := 24 },
    { name := "Text", type := 9, offset := 3, embedded := false, tag := "", pkgPath := "", byteOffset := 32 },
    { name := "Action", type := 70, offset := 4, embedded := false, tag := "", pkgPath := "", byteOffset := 48 },
    { name := "Links", type := 71, offset := 5, embedded := false, tag := "", pkgPath := "", byteOffset := 72 }]) := opq Try.underlying73
@[simp ↓] theorem fld73_0 {q : Nat → TypeId → Prop} : goFld Try.prog 73 0 q = q 0 9 := by simp only [goFld, und73]; rfl
@[simp ↓] theorem fld73_1 {q : Nat → TypeId → Prop} : goFld Try.prog 73 1 q = q 1 3 := by simp only [goFld, und73]; rfl
@[simp ↓] theorem fld73_2 {q : Nat → TypeId → Prop} : goFld Try.prog 73 2 q = q 2 3 := by simp only [goFld, und73]; rfl
@[simp ↓] theorem fld73_3 {q : Nat → TypeId → Prop} : goFld Try.prog 73 3 q = q 3 9 := by simp only [goFld, und73]; rfl
@[simp ↓] theorem fld73_4 {q : Nat → TypeId → Prop} : goFld Try.prog 73 4 q = q 4 70 := by simp only [goFld, und73]; rfl
@[simp ↓] theorem fld73_5 {q : Nat → TypeId → Prop} : goFld Try.prog 73 5 q = q 5 71 := by simp only [goFld, und73]; rfl
@[simp ↓] theorem bld73 {q : List Value → List (Nat × Nat) → Prop} : goBld Try.prog 73 q = q [Go.Value.string { data := #[] }, Go.Value.int Go.IntKind.i64 0, Go.Value.int Go.IntKind.i64 0,
      Go.Value.string { data := #[] }, Go.Value.slice none 0 0, Go.Value.slice none 0 0] [(0, 1), (1, 1), (2, 1), (3, 1), (4, 1), (5, 1)] := by simp [goBld, und73, zer73, placesL, Value.cells]
theorem agg79 : aggT Try.prog 79 = some false := by unfold aggT; rw [Try.underlying79]; rfl
@[simp] theorem siz79 : szT Try.prog 79 = some 1 := by unfold szT; rw [show Try.prog.info? 79 = some Try.t79 from Try.type79]; rfl
@[simp ↓] theorem ty79 {q : Bool → Nat → Prop} : goTy Try.prog 79 q = q false 1 := by simp only [goTy, agg79, siz79]
@[simp ↓] theorem sz79 {q : Nat → Prop} : goSz Try.prog 79 q = q 1 := by simp only [goSz, siz79]
theorem zer79 : zero? Try.prog 79 = some (Go.Value.slice none 0 0) := by unfold zero?; rw [show Try.prog.info? 79 = some Try.t79 from Try.type79]; rfl
@[simp ↓] theorem z79 {q : List Value → Prop} : goZ Try.prog 79 q = q [(Go.Value.slice none 0 0)] := by simp [goZ, zer79, Value.cells]
@[simp] theorem und79 : Try.prog.underlying 79 = some (Go.TypeDesc.slice 5) := opq Try.underlying79
@[simp ↓] theorem un79 {q : TypeDesc → Prop} : goUnd Try.prog 79 q = q (Go.TypeDesc.slice 5) := by simp only [goUnd, und79]
theorem slt79 : SlT Try.prog 79 5 1 1 := ⟨Try.underlying79, ⟨Try.t5, _, Try.type5, rfl, rfl, rfl, by simp, rfl⟩, by decide⟩
@[simp ↓] theorem sl79 {q : TypeId → Nat → List Value → Prop} : goSl Try.prog 79 q = q 5 1 [(Go.Value.int Go.IntKind.u8 0)] := by simp [goSl, und79, show zero? Try.prog 5 = some (Go.Value.int Go.IntKind.u8 0) from by unfold zero?; rw [show Try.prog.info? 5 = some Try.t5 from Try.type5]; rfl, show szT Try.prog 5 = some 1 from by unfold szT; rw [show Try.prog.info? 5 = some Try.t5 from Try.type5]; rfl, Value.cells]
theorem agg81 : aggT Try.prog 81 = some true := by unfold aggT; rw [Try.underlying81]; rfl
@[simp] theorem siz81 : szT Try.prog 81 = some 3 := by unfold szT; rw [show Try.prog.info? 81 = some Try.t81 from Try.type81]; rfl
@[simp ↓] theorem ty81 {q : Bool → Nat → Prop} : goTy Try.prog 81 q = q true 3 := by simp only [goTy, agg81, siz81]
@[simp ↓] theorem sz81 {q : Nat → Prop} : goSz Try.prog 81 q = q 3 := by simp only [goSz, siz81]
theorem zer81 : zero? Try.prog 81 = some (Go.Value.agg #[Go.Value.int Go.IntKind.i64 0, Go.Value.string { data := #[] }, Go.Value.int Go.IntKind.i64 0]) := by unfold zero?; rw [show Try.prog.info? 81 = some Try.t81 from Try.type81]; rfl
@[simp ↓] theorem z81 {q : List Value → Prop} : goZ Try.prog 81 q = q [Go.Value.int Go.IntKind.i64 0, Go.Value.string { data := #[] }, Go.Value.int Go.IntKind.i64 0] := by simp [goZ, zer81, Value.cells]
@[simp] theorem und81 : Try.prog.underlying 81 = some (Go.TypeDesc.struct
  #[{ name := "Op", type := 3, offset := 0, embedded := false, tag := "", pkgPath := "", byteOffset := 0 },
    { name := "Text", type := 9, offset := 1, embedded := false, tag := "", pkgPath := "", byteOffset := 8 },
    { name := "N", type := 3, offset := 2, embedded := false, tag := "", pkgPath := "", byteOffset := 24 }]) := opq Try.underlying81
@[simp ↓] theorem fld81_0 {q : Nat → TypeId → Prop} : goFld Try.prog 81 0 q = q 0 3 := by simp only [goFld, und81]; rfl
@[simp ↓] theorem fld81_1 {q : Nat → TypeId → Prop} : goFld Try.prog 81 1 q = q 1 9 := by simp only [goFld, und81]; rfl
@[simp ↓] theorem fld81_2 {q : Nat → TypeId → Prop} : goFld Try.prog 81 2 q = q 2 3 := by simp only [goFld, und81]; rfl
@[simp ↓] theorem bld81 {q : List Value → List (Nat × Nat) → Prop} : goBld Try.prog 81 q = q [Go.Value.int Go.IntKind.i64 0, Go.Value.string { data := #[] }, Go.Value.int Go.IntKind.i64 0] [(0, 1), (1, 1), (2, 1)] := by simp [goBld, und81, zer81, placesL, Value.cells]
theorem agg85 : aggT Try.prog 85 = some false := by unfold aggT; rw [Try.underlying85]; rfl
@[simp] theorem siz85 : szT Try.prog 85 = some 1 := by unfold szT; rw [show Try.prog.info? 85 = some Try.t85 from Try.type85]; rfl
@[simp ↓] theorem ty85 {q : Bool → Nat → Prop} : goTy Try.prog 85 q = q false 1 := by simp only [goTy, agg85, siz85]
@[simp ↓] theorem sz85 {q : Nat → Prop} : goSz Try.prog 85 q = q 1 := by simp only [goSz, siz85]
theorem zer85 : zero? Try.prog 85 = some (Go.Value.pointer none) := by unfold zero?; rw [show Try.prog.info? 85 = some Try.t85 from Try.type85]; rfl
@[simp ↓] theorem z85 {q : List Value → Prop} : goZ Try.prog 85 q = q [(Go.Value.pointer none)] := by simp [goZ, zer85, Value.cells]
@[simp] theorem und85 : Try.prog.underlying 85 = some (Go.TypeDesc.pointer 89) := opq Try.underlying85
@[simp ↓] theorem un85 {q : TypeDesc → Prop} : goUnd Try.prog 85 q = q (Go.TypeDesc.pointer 89) := by simp only [goUnd, und85]
theorem agg87 : aggT Try.prog 87 = some false := by unfold aggT; rw [Try.underlying87]; rfl
@[simp] theorem siz87 : szT Try.prog 87 = some 1 := by unfold szT; rw [show Try.prog.info? 87 = some Try.t87 from Try.type87]; rfl
@[simp ↓] theorem ty87 {q : Bool → Nat → Prop} : goTy Try.prog 87 q = q false 1 := by simp only [goTy, agg87, siz87]
@[simp ↓] theorem sz87 {q : Nat → Prop} : goSz Try.prog 87 q = q 1 := by simp only [goSz, siz87]
theorem zer87 : zero? Try.prog 87 = some (Go.Value.slice none 0 0) := by unfold zero?; rw [show Try.prog.info? 87 = some Try.t87 from Try.type87]; rfl
@[simp ↓] theorem z87 {q : List Value → Prop} : goZ Try.prog 87 q = q [(Go.Value.slice none 0 0)] := by simp [goZ, zer87, Value.cells]
@[simp] theorem und87 : Try.prog.underlying 87 = some (Go.TypeDesc.slice 4) := opq Try.underlying87
@[simp ↓] theorem un87 {q : TypeDesc → Prop} : goUnd Try.prog 87 q = q (Go.TypeDesc.slice 4) := by simp only [goUnd, und87]
theorem slt87 : SlT Try.prog 87 4 1 1 := ⟨Try.underlying87, ⟨Try.t4, _, Try.type4, rfl, rfl, rfl, by simp, rfl⟩, by decide⟩
@[simp ↓] theorem sl87 {q : TypeId → Nat → List Value → Prop} : goSl Try.prog 87 q = q 4 1 [(Go.Value.bool false)] := by simp [goSl, und87, show zero? Try.prog 4 = some (Go.Value.bool false) from by unfold zero?; rw [show Try.prog.info? 4 = some Try.t4 from Try.type4]; rfl, show szT Try.prog 4 = some 1 from by unfold szT; rw [show Try.prog.info? 4 = some Try.t4 from Try.type4]; rfl, Value.cells]
theorem agg89 : aggT Try.prog 89 = some true := by unfold aggT; rw [Try.underlying89]; rfl
@[simp] theorem siz89 : szT Try.prog 89 = some 4 := by unfold szT; rw [show Try.prog.info? 89 = some Try.t89 from Try.type89]; rfl
@[simp ↓] theorem ty89 {q : Bool → Nat → Prop} : goTy Try.prog 89 q = q true 4 := by simp only [goTy, agg89, siz89]
@[simp ↓] theorem sz89 {q : Nat → Prop} : goSz Try.prog 89 q = q 4 := by simp only [goSz, siz89]
theorem zer89 : zero? Try.prog 89 = some
  (Go.Value.agg
    #[Go.Value.slice none 0 0, Go.Value.slice none 0 0, Go.Value.slice none 0 0, Go.Value.int Go.IntKind.i64 0]) := by unfold zero?; rw [show Try.prog.info? 89 = some Try.t89 from Try.type89]; rfl
@[simp ↓] theorem z89 {q : List Value → Prop} : goZ Try.prog 89 q = q [Go.Value.slice none 0 0, Go.Value.slice none 0 0, Go.Value.slice none 0 0, Go.Value.int Go.IntKind.i64 0] := by simp [goZ, zer89, Value.cells]
@[simp] theorem und89 : Try.prog.underlying 89 = some (Go.TypeDesc.struct
  #[{ name := "a", type := 41, offset := 0, embedded := false, tag := "", pkgPath := "loop.example/kilndeed/spec",
      byteOffset := 0 },
    { name := "listed", type := 87, offset := 1, embedded := false, tag := "", pkgPath := "loop.example/kilndeed/spec",
      byteOffset := 24 },
    { name := "order", type := 24, offset := 2, embedded := false, tag := "", pkgPath := "loop.example/kilndeed/spec",
      byteOffset := 48 },
    { name := "deep", type := 3, offset := 3, embedded := false, tag := "", pkgPath := "loop.example/kilndeed/spec",
      byteOffset := 72 }]) := opq Try.underlying89
@[simp ↓] theorem fld89_0 {q : Nat → TypeId → Prop} : goFld Try.prog 89 0 q = q 0 41 := by simp only [goFld, und89]; rfl
@[simp ↓] theorem fld89_1 {q : Nat → TypeId → Prop} : goFld Try.prog 89 1 q = q 1 87 := by simp only [goFld, und89]; rfl
@[simp ↓] theorem fld89_2 {q : Nat → TypeId → Prop} : goFld Try.prog 89 2 q = q 2 24 := by simp only [goFld, und89]; rfl
@[simp ↓] theorem fld89_3 {q : Nat → TypeId → Prop} : goFld Try.prog 89 3 q = q 3 3 := by simp only [goFld, und89]; rfl
@[simp ↓] theorem bld89 {q : List Value → List (Nat × Nat) → Prop} : goBld Try.prog 89 q = q [Go.Value.slice none 0 0, Go.Value.slice none 0 0, Go.Value.slice none 0 0, Go.Value.int Go.IntKind.i64 0] [(0, 1), (1, 1), (2, 1), (3, 1)] := by simp [goBld, und89, zer89, placesL, Value.cells]
theorem agg90 : aggT Try.prog 90 = some false := by unfold aggT; rw [Try.underlying90]; rfl
@[simp] theorem siz90 : szT Try.prog 90 = some 1 := by unfold szT; rw [show Try.prog.info? 90 = some Try.t90 from Try.type90]; rfl
@[simp ↓] theorem ty90 {q : Bool → Nat → Prop} : goTy Try.prog 90 q = q false 1 := by simp only [goTy, agg90, siz90]
@[simp ↓] theorem sz90 {q : Nat → Prop} : goSz Try.prog 90 q = q 1 := by simp only [goSz, siz90]
theorem zer90 : zero? Try.prog 90 = some Go.Value.nilFunc := by unfold zero?; rw [show Try.prog.info? 90 = some Try.t90 from Try.type90]; rfl
@[simp ↓] theorem z90 {q : List Value → Prop} : goZ Try.prog 90 q = q [Go.Value.nilFunc] := by simp [goZ, zer90, Value.cells]
theorem agg92 : aggT Try.prog 92 = some false := by unfold aggT; rw [Try.underlying92]; rfl
@[simp] theorem siz92 : szT Try.prog 92 = some 1 := by unfold szT; rw [show Try.prog.info? 92 = some Try.t92 from Try.type92]; rfl
@[simp ↓] theorem ty92 {q : Bool → Nat → Prop} : goTy Try.prog 92 q = q false 1 := by simp only [goTy, agg92, siz92]
@[simp ↓] theorem sz92 {q : Nat → Prop} : goSz Try.prog 92 q = q 1 := by simp only [goSz, siz92]
theorem zer92 : zero? Try.prog 92 = some Go.Value.nilFunc := by unfold zero?; rw [show Try.prog.info? 92 = some Try.t92 from Try.type92]; rfl
@[simp ↓] theorem z92 {q : List Value → Prop} : goZ Try.prog 92 q = q [Go.Value.nilFunc] := by simp [goZ, zer92, Value.cells]
theorem agg93 : aggT Try.prog 93 = some false := by unfold aggT; rw [Try.underlying93]; rfl
@[simp] theorem siz93 : szT Try.prog 93 = some 1 := by unfold szT; rw [show Try.prog.info? 93 = some Try.t93 from Try.type93]; rfl
@[simp ↓] theorem ty93 {q : Bool → Nat → Prop} : goTy Try.prog 93 q = q false 1 := by simp only [goTy, agg93, siz93]
@[simp ↓] theorem sz93 {q : Nat → Prop} : goSz Try.prog 93 q = q 1 := by simp only [goSz, siz93]
theorem zer93 : zero? Try.prog 93 = some (Go.Value.map none) := by unfold zero?; rw [show Try.prog.info? 93 = some Try.t93 from Try.type93]; rfl
@[simp ↓] theorem z93 {q : List Value → Prop} : goZ Try.prog 93 q = q [(Go.Value.map none)] := by simp [goZ, zer93, Value.cells]
@[simp] theorem und93 : Try.prog.underlying 93 = some (Go.TypeDesc.map 3 3) := opq Try.underlying93
@[simp ↓] theorem un93 {q : TypeDesc → Prop} : goUnd Try.prog 93 q = q (Go.TypeDesc.map 3 3) := by simp only [goUnd, und93]
theorem agg98 : aggT Try.prog 98 = some false := by unfold aggT; rw [Try.underlying98]; rfl
@[simp] theorem siz98 : szT Try.prog 98 = some 1 := by unfold szT; rw [show Try.prog.info? 98 = some Try.t98 from Try.type98]; rfl
@[simp ↓] theorem ty98 {q : Bool → Nat → Prop} : goTy Try.prog 98 q = q false 1 := by simp only [goTy, agg98, siz98]
@[simp ↓] theorem sz98 {q : Nat → Prop} : goSz Try.prog 98 q = q 1 := by simp only [goSz, siz98]
theorem zer98 : zero? Try.prog 98 = some (Go.Value.int Go.IntKind.u64 0) := by unfold zero?; rw [show Try.prog.info? 98 = some Try.t98 from Try.type98]; rfl
@[simp ↓] theorem z98 {q : List Value → Prop} : goZ Try.prog 98 q = q [(Go.Value.int Go.IntKind.u64 0)] := by simp [goZ, zer98, Value.cells]
@[simp] theorem und98 : Try.prog.underlying 98 = some (Go.TypeDesc.int Go.IntKind.u64) := opq Try.underlying98
@[simp ↓] theorem un98 {q : TypeDesc → Prop} : goUnd Try.prog 98 q = q (Go.TypeDesc.int Go.IntKind.u64) := by simp only [goUnd, und98]
theorem agg100 : aggT Try.prog 100 = some false := by unfold aggT; rw [Try.underlying100]; rfl
@[simp] theorem siz100 : szT Try.prog 100 = some 1 := by unfold szT; rw [show Try.prog.info? 100 = some Try.t100 from Try.type100]; rfl
@[simp ↓] theorem ty100 {q : Bool → Nat → Prop} : goTy Try.prog 100 q = q false 1 := by simp only [goTy, agg100, siz100]
@[simp ↓] theorem sz100 {q : Nat → Prop} : goSz Try.prog 100 q = q 1 := by simp only [goSz, siz100]
theorem zer100 : zero? Try.prog 100 = some Go.Value.nilFunc := by unfold zero?; rw [show Try.prog.info? 100 = some Try.t100 from Try.type100]; rfl
@[simp ↓] theorem z100 {q : List Value → Prop} : goZ Try.prog 100 q = q [Go.Value.nilFunc] := by simp [goZ, zer100, Value.cells]
theorem agg103 : aggT Try.prog 103 = some true := by unfold aggT; rw [Try.underlying103]; rfl
@[simp] theorem siz103 : szT Try.prog 103 = some 4 := by unfold szT; rw [show Try.prog.info? 103 = some Try.t103 from Try.type103]; rfl
@[simp ↓] theorem ty103 {q : Bool → Nat → Prop} : goTy Try.prog 103 q = q true 4 := by simp only [goTy, agg103, siz103]
@[simp ↓] theorem sz103 {q : Nat → Prop} : goSz Try.prog 103 q = q 4 := by simp only [goSz, siz103]
theorem zer103 : zero? Try.prog 103 = some
  (Go.Value.agg
    #[Go.Value.string { data := #[] }, Go.Value.bool false, Go.Value.bool false, Go.Value.int Go.IntKind.i64 0]) := by unfold zero?; rw [show Try.prog.info? 103 = some Try.t103 from Try.type103]; rfl
@[simp ↓] theorem z103 {q : List Value → Prop} : goZ Try.prog 103 q = q [Go.Value.string { data := #[] }, Go.Value.bool false, Go.Value.bool false, Go.Value.int Go.IntKind.i64 0] := by simp [goZ, zer103, Value.cells]
@[simp] theorem und103 : Try.prog.underlying 103 = some (Go.TypeDesc.struct
  #[{ name := "Name", type := 9, offset := 0, embedded := false, tag := "", pkgPath := "", byteOffset := 0 },
    { name := "Ask", type := 4, offset := 1, embedded := false, tag := "", pkgPath := "", byteOffset := 16 },
    { name := "Has", type := 4, offset := 2, embedded := false, tag := "", pkgPath := "", byteOffset := 17 },
    { name := "At", type := 3, offset := 3, embedded := false, tag := "", pkgPath := "", byteOffset := 24 }]) := opq Try.underlying103
@[simp ↓] theorem fld103_0 {q : Nat → TypeId → Prop} : goFld Try.prog 103 0 q = q 0 9 := by simp only [goFld, und103]; rfl
@[simp ↓] theorem fld103_1 {q : Nat → TypeId → Prop} : goFld Try.prog 103 1 q = q 1 4 := by simp only [goFld, und103]; rfl
@[simp ↓] theorem fld103_2 {q : Nat → TypeId → Prop} : goFld Try.prog 103 2 q = q 2 4 := by simp only [goFld, und103]; rfl
@[simp ↓] theorem fld103_3 {q : Nat → TypeId → Prop} : goFld Try.prog 103 3 q = q 3 3 := by simp only [goFld, und103]; rfl
@[simp ↓] theorem bld103 {q : List Value → List (Nat × Nat) → Prop} : goBld Try.prog 103 q = q [Go.Value.string { data := #[] }, Go.Value.bool false, Go.Value.bool false, Go.Value.int Go.IntKind.i64 0] [(0, 1), (1, 1), (2, 1), (3, 1)] := by simp [goBld, und103, zer103, placesL, Value.cells]
theorem agg106 : aggT Try.prog 106 = some false := by unfold aggT; rw [Try.underlying106]; rfl
@[simp] theorem siz106 : szT Try.prog 106 = some 1 := by unfold szT; rw [show Try.prog.info? 106 = some Try.t106 from Try.type106]; rfl
@[simp ↓] theorem ty106 {q : Bool → Nat → Prop} : goTy Try.prog 106 q = q false 1 := by simp only [goTy, agg106, siz106]
@[simp ↓] theorem sz106 {q : Nat → Prop} : goSz Try.prog 106 q = q 1 := by simp only [goSz, siz106]
theorem zer106 : zero? Try.prog 106 = some Go.Value.nilFunc := by unfold zero?; rw [show Try.prog.info? 106 = some Try.t106 from Try.type106]; rfl
@[simp ↓] theorem z106 {q : List Value → Prop} : goZ Try.prog 106 q = q [Go.Value.nilFunc] := by simp [goZ, zer106, Value.cells]
theorem agg120 : aggT Try.prog 120 = some false := by unfold aggT; rw [Try.underlying120]; rfl
@[simp] theorem siz120 : szT Try.prog 120 = some 1 := by unfold szT; rw [show Try.prog.info? 120 = some Try.t120 from Try.type120]; rfl
@[simp ↓] theorem ty120 {q : Bool → Nat → Prop} : goTy Try.prog 120 q = q false 1 := by simp only [goTy, agg120, siz120]
@[simp ↓] theorem sz120 {q : Nat → Prop} : goSz Try.prog 120 q = q 1 := by simp only [goSz, siz120]
theorem zer120 : zero? Try.prog 120 = some (Go.Value.int Go.IntKind.u32 0) := by unfold zero?; rw [show Try.prog.info? 120 = some Try.t120 from Try.type120]; rfl
@[simp ↓] theorem z120 {q : List Value → Prop} : goZ Try.prog 120 q = q [(Go.Value.int Go.IntKind.u32 0)] := by simp [goZ, zer120, Value.cells]
@[simp] theorem und120 : Try.prog.underlying 120 = some (Go.TypeDesc.int Go.IntKind.u32) := opq Try.underlying120
@[simp ↓] theorem un120 {q : TypeDesc → Prop} : goUnd Try.prog 120 q = q (Go.TypeDesc.int Go.IntKind.u32) := by simp only [goUnd, und120]
theorem agg121 : aggT Try.prog 121 = some false := by unfold aggT; rw [Try.underlying121]; rfl
@[simp] theorem siz121 : szT Try.prog 121 = some 1 := by unfold szT; rw [show Try.prog.info? 121 = some Try.t121 from Try.type121]; rfl
@[simp ↓] theorem ty121 {q : Bool → Nat → Prop} : goTy Try.prog 121 q = q false 1 := by simp only [goTy, agg121, siz121]
@[simp ↓] theorem sz121 {q : Nat → Prop} : goSz Try.prog 121 q = q 1 := by simp only [goSz, siz121]
theorem zer121 : zero? Try.prog 121 = some Go.Value.nilFunc := by unfold zero?; rw [show Try.prog.info? 121 = some Try.t121 from Try.type121]; rfl
@[simp ↓] theorem z121 {q : List Value → Prop} : goZ Try.prog 121 q = q [Go.Value.nilFunc] := by simp [goZ, zer121, Value.cells]
theorem agg126 : aggT Try.prog 126 = some true := by unfold aggT; rw [Try.underlying126]; rfl
@[simp] theorem siz126 : szT Try.prog 126 = some 3 := by unfold szT; rw [show Try.prog.info? 126 = some Try.t126 from Try.type126]; rfl
@[simp ↓] theorem ty126 {q : Bool → Nat → Prop} : goTy Try.prog 126 q = q true 3 := by simp only [goTy, agg126, siz126]
@[simp ↓] theorem sz126 {q : Nat → Prop} : goSz Try.prog 126 q = q 3 := by simp only [goSz, siz126]
theorem zer126 : zero? Try.prog 126 = some (Go.Value.agg #[Go.Value.int Go.IntKind.i64 0, Go.Value.string { data := #[] }, Go.Value.int Go.IntKind.i64 0]) := by unfold zero?; rw [show Try.prog.info? 126 = some Try.t126 from Try.type126]; rfl
@[simp ↓] theorem z126 {q : List Value → Prop} : goZ Try.prog 126 q = q [Go.Value.int Go.IntKind.i64 0, Go.Value.string { data := #[] }, Go.Value.int Go.IntKind.i64 0] := by simp [goZ, zer126, Value.cells]
@[simp] theorem und126 : Try.prog.underlying 126 = some (Go.TypeDesc.struct
  #[{ name := "Op", type := 3, offset := 0, embedded := false, tag := "", pkgPath := "", byteOffset := 0 },
    { name := "Text", type := 9, offset := 1, embedded := false, tag := "", pkgPath := "", byteOffset := 8 },
    { name := "N", type := 3, offset := 2, embedded := false, tag := "", pkgPath := "", byteOffset := 24 }]) := opq Try.underlying126
@[simp ↓] theorem fld126_0 {q : Nat → TypeId → Prop} : goFld Try.prog 126 0 q = q 0 3 := by simp only [goFld, und126]; rfl
@[simp ↓] theorem fld126_1 {q : Nat → TypeId → Prop} : goFld Try.prog 126 1 q = q 1 9 := by simp only [goFld, und126]; rfl
@[simp ↓] theorem fld126_2 {q : Nat → TypeId → Prop} : goFld Try.prog 126 2 q = q 2 3 := by simp only [goFld, und126]; rfl
@[simp ↓] theorem bld126 {q : List Value → List (Nat × Nat) → Prop} : goBld Try.prog 126 q = q [Go.Value.int Go.IntKind.i64 0, Go.Value.string { data := #[] }, Go.Value.int Go.IntKind.i64 0] [(0, 1), (1, 1), (2, 1)] := by simp [goBld, und126, zer126, placesL, Value.cells]
theorem agg143 : aggT Try.prog 143 = some true := by unfold aggT; rw [Try.underlying143]; rfl
@[simp] theorem siz143 : szT Try.prog 143 = some 4 := by unfold szT; rw [show Try.prog.info? 143 = some Try.t143 from Try.type143]; rfl
@[simp ↓] theorem ty143 {q : Bool → Nat → Prop} : goTy Try.prog 143 q = q true 4 := by simp only [goTy, agg143, siz143]
@[simp ↓] theorem sz143 {q : Nat → Prop} : goSz Try.prog 143 q = q 4 := by simp only [goSz, siz143]
theorem zer143 : zero? Try.prog 143 = some
  (Go.Value.agg #[Go.Value.pointer none, Go.Value.pointer none, Go.Value.pointer none, Go.Value.string { data := #[] }]) := by unfold zero?; rw [show Try.prog.info? 143 = some Try.t143 from Try.type143]; rfl
@[simp ↓] theorem z143 {q : List Value → Prop} : goZ Try.prog 143 q = q [Go.Value.pointer none, Go.Value.pointer none, Go.Value.pointer none, Go.Value.string { data := #[] }] := by simp [goZ, zer143, Value.cells]
@[simp] theorem und143 : Try.prog.underlying 143 = some (Go.TypeDesc.struct
  #[{ name := "_interface", type := 17, offset := 0, embedded := false, tag := "", pkgPath := "runtime",
      byteOffset := 0 },
    { name := "concrete", type := 17, offset := 1, embedded := false, tag := "", pkgPath := "runtime",
      byteOffset := 8 },
    { name := "asserted", type := 17, offset := 2, embedded := false, tag := "", pkgPath := "runtime",
      byteOffset := 16 },
    { name := "missingMethod", type := 9, offset := 3, embedded := false, tag := "", pkgPath := "runtime",
      byteOffset := 24 }]) := opq Try.underlying143
@[simp ↓] theorem fld143_0 {q : Nat → TypeId → Prop} : goFld Try.prog 143 0 q = q 0 17 := by simp only [goFld, und143]; rfl
@[simp ↓] theorem fld143_1 {q : Nat → TypeId → Prop} : goFld Try.prog 143 1 q = q 1 17 := by simp only [goFld, und143]; rfl
@[simp ↓] theorem fld143_2 {q : Nat → TypeId → Prop} : goFld Try.prog 143 2 q = q 2 17 := by simp only [goFld, und143]; rfl
@[simp ↓] theorem fld143_3 {q : Nat → TypeId → Prop} : goFld Try.prog 143 3 q = q 3 9 := by simp only [goFld, und143]; rfl
@[simp ↓] theorem bld143 {q : List Value → List (Nat × Nat) → Prop} : goBld Try.prog 143 q = q [Go.Value.pointer none, Go.Value.pointer none, Go.Value.pointer none, Go.Value.string { data := #[] }] [(0, 1), (1, 1), (2, 1), (3, 1)] := by simp [goBld, und143, zer143, placesL, Value.cells]
theorem agg144 : aggT Try.prog 144 = some true := by unfold aggT; rw [Try.underlying144]; rfl
@[simp] theorem siz144 : szT Try.prog 144 = some 0 := by unfold szT; rw [show Try.prog.info? 144 = some Try.t144 from Try.type144]; rfl
@[simp ↓] theorem ty144 {q : Bool → Nat → Prop} : goTy Try.prog 144 q = q true 0 := by simp only [goTy, agg144, siz144]
@[simp ↓] theorem sz144 {q : Nat → Prop} : goSz Try.prog 144 q = q 0 := by simp only [goSz, siz144]
theorem zer144 : zero? Try.prog 144 = some (Go.Value.agg #[]) := by unfold zero?; rw [show Try.prog.info? 144 = some Try.t144 from Try.type144]; rfl
@[simp ↓] theorem z144 {q : List Value → Prop} : goZ Try.prog 144 q = q [] := by simp [goZ, zer144, Value.cells]
@[simp] theorem und144 : Try.prog.underlying 144 = some (Go.TypeDesc.array 0 16) := opq Try.underlying144
@[simp ↓] theorem un144 {q : TypeDesc → Prop} : goUnd Try.prog 144 q = q (Go.TypeDesc.array 0 16) := by simp only [goUnd, und144]
theorem agg146 : aggT Try.prog 146 = some true := by unfold aggT; rw [Try.underlying146]; rfl
@[simp] theorem siz146 : szT Try.prog 146 = some 0 := by unfold szT; rw [show Try.prog.info? 146 = some Try.t146 from Try.type146]; rfl
@[simp ↓] theorem ty146 {q : Bool → Nat → Prop} : goTy Try.prog 146 q = q true 0 := by simp only [goTy, agg146, siz146]
@[simp ↓] theorem sz146 {q : Nat → Prop} : goSz Try.prog 146 q = q 0 := by simp only [goSz, siz146]
theorem zer146 : zero? Try.prog 146 = some (Go.Value.agg #[]) := by unfold zero?; rw [show Try.prog.info? 146 = some Try.t146 from Try.type146]; rfl
@[simp ↓] theorem z146 {q : List Value → Prop} : goZ Try.prog 146 q = q [] := by simp [goZ, zer146, Value.cells]
@[simp] theorem und146 : Try.prog.underlying 146 = some (Go.TypeDesc.struct
  #[{ name := "_", type := 144, offset := 0, embedded := false, tag := "", pkgPath := "runtime", byteOffset := 0 }]) := opq Try.underlying146
@[simp ↓] theorem fld146_0 {q : Nat → TypeId → Prop} : goFld Try.prog 146 0 q = q 0 144 := by simp only [goFld, und146]; rfl
@[simp ↓] theorem bld146 {q : List Value → List (Nat × Nat) → Prop} : goBld Try.prog 146 q = q [] [(0, 0)] := by simp [goBld, und146, zer146, placesL, Value.cells]
theorem agg148 : aggT Try.prog 148 = some false := by unfold aggT; rw [Try.underlying148]; rfl
@[simp] theorem siz148 : szT Try.prog 148 = some 1 := by unfold szT; rw [show Try.prog.info? 148 = some Try.t148 from Try.type148]; rfl
@[simp ↓] theorem ty148 {q : Bool → Nat → Prop} : goTy Try.prog 148 q = q false 1 := by simp only [goTy, agg148, siz148]
@[simp ↓] theorem sz148 {q : Nat → Prop} : goSz Try.prog 148 q = q 1 := by simp only [goSz, siz148]
theorem zer148 : zero? Try.prog 148 = some (Go.Value.int Go.IntKind.u8 0) := by unfold zero?; rw [show Try.prog.info? 148 = some Try.t148 from Try.type148]; rfl
@[simp ↓] theorem z148 {q : List Value → Prop} : goZ Try.prog 148 q = q [(Go.Value.int Go.IntKind.u8 0)] := by simp [goZ, zer148, Value.cells]
@[simp] theorem und148 : Try.prog.underlying 148 = some (Go.TypeDesc.int Go.IntKind.u8) := opq Try.underlying148
@[simp ↓] theorem un148 {q : TypeDesc → Prop} : goUnd Try.prog 148 q = q (Go.TypeDesc.int Go.IntKind.u8) := by simp only [goUnd, und148]
theorem agg149 : aggT Try.prog 149 = some false := by unfold aggT; rw [Try.underlying149]; rfl
@[simp] theorem siz149 : szT Try.prog 149 = some 1 := by unfold szT; rw [show Try.prog.info? 149 = some Try.t149 from Try.type149]; rfl
@[simp ↓] theorem ty149 {q : Bool → Nat → Prop} : goTy Try.prog 149 q = q false 1 := by simp only [goTy, agg149, siz149]
@[simp ↓] theorem sz149 {q : Nat → Prop} : goSz Try.prog 149 q = q 1 := by simp only [goSz, siz149]
theorem zer149 : zero? Try.prog 149 = some (Go.Value.int Go.IntKind.u8 0) := by unfold zero?; rw [show Try.prog.info? 149 = some Try.t149 from Try.type149]; rfl
@[simp ↓] theorem z149 {q : List Value → Prop} : goZ Try.prog 149 q = q [(Go.Value.int Go.IntKind.u8 0)] := by simp [goZ, zer149, Value.cells]
@[simp] theorem und149 : Try.prog.underlying 149 = some (Go.TypeDesc.int Go.IntKind.u8) := opq Try.underlying149
@[simp ↓] theorem un149 {q : TypeDesc → Prop} : goUnd Try.prog 149 q = q (Go.TypeDesc.int Go.IntKind.u8) := by simp only [goUnd, und149]
theorem agg150 : aggT Try.prog 150 = some false := by unfold aggT; rw [Try.underlying150]; rfl
@[simp] theorem siz150 : szT Try.prog 150 = some 1 := by unfold szT; rw [show Try.prog.info? 150 = some Try.t150 from Try.type150]; rfl
@[simp ↓] theorem ty150 {q : Bool → Nat → Prop} : goTy Try.prog 150 q = q false 1 := by simp only [goTy, agg150, siz150]
@[simp ↓] theorem sz150 {q : Nat → Prop} : goSz Try.prog 150 q = q 1 := by simp only [goSz, siz150]
theorem zer150 : zero? Try.prog 150 = some Go.Value.nilFunc := by unfold zero?; rw [show Try.prog.info? 150 = some Try.t150 from Try.type150]; rfl
@[simp ↓] theorem z150 {q : List Value → Prop} : goZ Try.prog 150 q = q [Go.Value.nilFunc] := by simp [goZ, zer150, Value.cells]
theorem agg151 : aggT Try.prog 151 = some false := by unfold aggT; rw [Try.underlying151]; rfl
@[simp] theorem siz151 : szT Try.prog 151 = some 1 := by unfold szT; rw [show Try.prog.info? 151 = some Try.t151 from Try.type151]; rfl
@[simp ↓] theorem ty151 {q : Bool → Nat → Prop} : goTy Try.prog 151 q = q false 1 := by simp only [goTy, agg151, siz151]
@[simp ↓] theorem sz151 {q : Nat → Prop} : goSz Try.prog 151 q = q 1 := by simp only [goSz, siz151]
theorem zer151 : zero? Try.prog 151 = some (Go.Value.pointer none) := by unfold zero?; rw [show Try.prog.info? 151 = some Try.t151 from Try.type151]; rfl
@[simp ↓] theorem z151 {q : List Value → Prop} : goZ Try.prog 151 q = q [(Go.Value.pointer none)] := by simp [goZ, zer151, Value.cells]
@[simp] theorem und151 : Try.prog.underlying 151 = some (Go.TypeDesc.pointer 5) := opq Try.underlying151
@[simp ↓] theorem un151 {q : TypeDesc → Prop} : goUnd Try.prog 151 q = q (Go.TypeDesc.pointer 5) := by simp only [goUnd, und151]
theorem agg152 : aggT Try.prog 152 = some false := by unfold aggT; rw [Try.underlying152]; rfl
@[simp] theorem siz152 : szT Try.prog 152 = some 1 := by unfold szT; rw [show Try.prog.info? 152 = some Try.t152 from Try.type152]; rfl
@[simp ↓] theorem ty152 {q : Bool → Nat → Prop} : goTy Try.prog 152 q = q false 1 := by simp only [goTy, agg152, siz152]
@[simp ↓] theorem sz152 {q : Nat → Prop} : goSz Try.prog 152 q = q 1 := by simp only [goSz, siz152]
theorem zer152 : zero? Try.prog 152 = some (Go.Value.int Go.IntKind.i32 0) := by unfold zero?; rw [show Try.prog.info? 152 = some Try.t152 from Try.type152]; rfl
@[simp ↓] theorem z152 {q : List Value → Prop} : goZ Try.prog 152 q = q [(Go.Value.int Go.IntKind.i32 0)] := by simp [goZ, zer152, Value.cells]
@[simp] theorem und152 : Try.prog.underlying 152 = some (Go.TypeDesc.int Go.IntKind.i32) := opq Try.underlying152
@[simp ↓] theorem un152 {q : TypeDesc → Prop} : goUnd Try.prog 152 q = q (Go.TypeDesc.int Go.IntKind.i32) := by simp only [goUnd, und152]
theorem agg153 : aggT Try.prog 153 = some false := by unfold aggT; rw [Try.underlying153]; rfl
@[simp] theorem siz153 : szT Try.prog 153 = some 1 := by unfold szT; rw [show Try.prog.info? 153 = some Try.t153 from Try.type153]; rfl
@[simp ↓] theorem ty153 {q : Bool → Nat → Prop} : goTy Try.prog 153 q = q false 1 := by simp only [goTy, agg153, siz153]
@[simp ↓] theorem sz153 {q : Nat → Prop} : goSz Try.prog 153 q = q 1 := by simp only [goSz, siz153]
theorem zer153 : zero? Try.prog 153 = some (Go.Value.int Go.IntKind.i32 0) := by unfold zero?; rw [show Try.prog.info? 153 = some Try.t153 from Try.type153]; rfl
@[simp ↓] theorem z153 {q : List Value → Prop} : goZ Try.prog 153 q = q [(Go.Value.int Go.IntKind.i32 0)] := by simp [goZ, zer153, Value.cells]
@[simp] theorem und153 : Try.prog.underlying 153 = some (Go.TypeDesc.int Go.IntKind.i32) := opq Try.underlying153
@[simp ↓] theorem un153 {q : TypeDesc → Prop} : goUnd Try.prog 153 q = q (Go.TypeDesc.int Go.IntKind.i32) := by simp only [goUnd, und153]
theorem agg155 : aggT Try.prog 155 = some true := by unfold aggT; rw [Try.underlying155]; rfl
@[simp] theorem siz155 : szT Try.prog 155 = some 11 := by unfold szT; rw [show Try.prog.info? 155 = some Try.t155 from Try.type155]; rfl
@[simp ↓] theorem ty155 {q : Bool → Nat → Prop} : goTy Try.prog 155 q = q true 11 := by simp only [goTy, agg155, siz155]
@[simp ↓] theorem sz155 {q : Nat → Prop} : goSz Try.prog 155 q = q 11 := by simp only [goSz, siz155]
theorem zer155 : zero? Try.prog 155 = some
  (Go.Value.agg
    #[Go.Value.int Go.IntKind.u64 0, Go.Value.int Go.IntKind.u64 0, Go.Value.int Go.IntKind.u32 0,
      Go.Value.int Go.IntKind.u8 0, Go.Value.int Go.IntKind.u8 0, Go.Value.int Go.IntKind.u8 0,
      Go.Value.int Go.IntKind.u8 0, Go.Value.nilFunc, Go.Value.pointer none, Go.Value.int Go.IntKind.i32 0,
      Go.Value.int Go.IntKind.i32 0]) := by unfold zero?; rw [show Try.prog.info? 155 = some Try.t155 from Try.type155]; rfl
@[simp ↓] theorem z155 {q : List Value → Prop} : goZ Try.prog 155 q = q [Go.Value.int Go.IntKind.u64 0, Go.Value.int Go.IntKind.u64 0, Go.Value.int Go.IntKind.u32 0,
      Go.Value.int Go.IntKind.u8 0, Go.Value.int Go.IntKind.u8 0, Go.Value.int Go.IntKind.u8 0,
      Go.Value.int Go.IntKind.u8 0, Go.Value.nilFunc, Go.Value.pointer none, Go.Value.int Go.IntKind.i32 0,
      Go.Value.int Go.IntKind.i32 0] := by simp [goZ, zer155, Value.cells]
@[simp] theorem und155 : Try.prog.underlying 155 = some (Go.TypeDesc.struct
  #[{ name := "Size_", type := 12, offset := 0, embedded := false, tag := "", pkgPath := "", byteOffset := 0 },
    { name := "PtrBytes", type := 12, offset := 1, embedded := false, tag := "", pkgPath := "", byteOffset := 8 },
    { name := "Hash", type := 120, offset := 2, embedded := false, tag := "", pkgPath := "", byteOffset := 16 },
    { name := "TFlag", type := 148, offset := 3, embedded := false, tag := "", pkgPath := "", byteOffset := 20 },
    { name := "Align_", type := 5, offset := 4, embedded := false, tag := "", pkgPath := "", byteOffset := 21 },
    { name := "FieldAlign_", type := 5, offset := 5, embedded := false, tag := "", pkgPath := "", byteOffset := 22 },
    { name := "Kind_", type := 149, offset := 6, embedded := false, tag := "", pkgPath := "", byteOffset := 23 },
    { name := "Equal", type := 150, offset := 7, embedded := false, tag := "", pkgPath := "", byteOffset := 24 },
    { name := "GCData", type := 151, offset := 8, embedded := false, tag := "", pkgPath := "", byteOffset := 32 },
    { name := "Str", type := 152, offset := 9, embedded := false, tag := "", pkgPath := "", byteOffset := 40 },
    { name := "PtrToThis", type := 153, offset := 10, embedded := false, tag := "", pkgPath := "", byteOffset := 44 }]) := opq Try.underlying155
@[simp ↓] theorem fld155_0 {q : Nat → TypeId → Prop} : goFld Try.prog 155 0 q = q 0 12 := by simp only [goFld, und155]; rfl
@[simp ↓] theorem fld155_1 {q : Nat → TypeId → Prop} : goFld Try.prog 155 1 q = q 1 12 := by simp only [goFld, und155]; rfl
@[simp ↓] theorem fld155_2 {q : Nat → TypeId → Prop} : goFld Try.prog 155 2 q = q 2 120 := by simp only [goFld, und155]; rfl
@[simp ↓] theorem fld155_3 {q : Nat → TypeId → Prop} : goFld Try.prog 155 3 q = q 3 148 := by simp only [goFld, und155]; rfl
@[simp ↓] theorem fld155_4 {q : Nat → TypeId → Prop} : goFld Try.prog 155 4 q = q 4 5 := by simp only [goFld, und155]; rfl
@[simp ↓] theorem fld155_5 {q : Nat → TypeId → Prop} : goFld Try.prog 155 5 q = q 5 5 := by simp only [goFld, und155]; rfl
@[simp ↓] theorem fld155_6 {q : Nat → TypeId → Prop} : goFld Try.prog 155 6 q = q 6 149 := by simp only [goFld, und155]; rfl
@[simp ↓] theorem fld155_7 {q : Nat → TypeId → Prop} : goFld Try.prog 155 7 q = q 7 150 := by simp only [goFld, und155]; rfl
@[simp ↓] theorem fld155_8 {q : Nat → TypeId → Prop} : goFld Try.prog 155 8 q = q 8 151 := by simp only [goFld, und155]; rfl
@[simp ↓] theorem fld155_9 {q : Nat → TypeId → Prop} : goFld Try.prog 155 9 q = q 9 152 := by simp only [goFld, und155]; rfl
@[simp ↓] theorem fld155_10 {q : Nat → TypeId → Prop} : goFld Try.prog 155 10 q = q 10 153 := by simp only [goFld, und155]; rfl
@[simp ↓] theorem bld155 {q : List Value → List (Nat × Nat) → Prop} : goBld Try.prog 155 q = q [Go.Value.int Go.IntKind.u64 0, Go.Value.int Go.IntKind.u64 0, Go.Value.int Go.IntKind.u32 0,
      Go.Value.int Go.IntKind.u8 0, Go.Value.int Go.IntKind.u8 0, Go.Value.int Go.IntKind.u8 0,
      Go.Value.int Go.IntKind.u8 0, Go.Value.nilFunc, Go.Value.pointer none, Go.Value.int Go.IntKind.i32 0,
      Go.Value.int Go.IntKind.i32 0] [(0, 1), (1, 1), (2, 1), (3, 1), (4, 1), (5, 1), (6, 1), (7, 1), (8, 1), (9, 1), (10, 1)] := by simp [goBld, und155, zer155, placesL, Value.cells]
end Go.Proofs.Ytephpieeibcihaa
