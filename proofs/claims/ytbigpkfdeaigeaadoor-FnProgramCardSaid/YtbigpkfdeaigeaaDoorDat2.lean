/- The rest of the program's data as records, how they lie in memory, their marks. No condition. -/
import Derived.Test.YtbigpkfdeaigeaaDoorDat
namespace Go.Am
open Go
set_option linter.unusedVariables false
set_option linter.unusedSimpArgs false

def Ins.m (x : Ins) : Nat := 3
structure Sou where
  name : List UInt8
  text : List UInt8
deriving DecidableEq
def Sou.c (x : Sou) : List Value := [.string ⟨⟨x.name⟩⟩, .string ⟨⟨x.text⟩⟩]
def Sou.ok (x : Sou) : Prop := okS x.name ∧ okS x.text
abbrev SouR : RepT Sou := flatR Sou.c Sou.ok
instance : Rp SouR 2 := .flat (fun _ => rfl) (fun _ => rfl)
def Sou.zero : Sou := ⟨[], []⟩
abbrev SousR (own : Bool) : RepT (List Sou) := SlR own 2 SouR
def Sou.w (x : Sou) : Nat := x.name.length + x.text.length
def Sou.m (x : Sou) : Nat := 2
structure Lnk where
  name : List UInt8
  ask : Bool
  has : Bool
  at_ : Int
deriving DecidableEq
def Lnk.c (x : Lnk) : List Value := [.string ⟨⟨x.name⟩⟩, .bool x.ask, .bool x.has, .int .i64 x.at_]
def Lnk.ok (x : Lnk) : Prop := okS x.name ∧ i64 x.at_
abbrev LnkR : RepT Lnk := flatR Lnk.c Lnk.ok
instance : Rp LnkR 4 := .flat (fun _ => rfl) (fun _ => rfl)
def Lnk.zero : Lnk := ⟨[], false, false, 0⟩
abbrev LnksR (own : Bool) : RepT (List Lnk) := SlR own 4 LnkR
def Lnk.w (x : Lnk) : Nat := x.name.length
def Lnk.m (x : Lnk) : Nat := 4
structure Rpl where
  has : Bool
  code : Int
  text : List UInt8
deriving DecidableEq
def Rpl.c (x : Rpl) : List Value := [.bool x.has, .int .i64 x.code, .string ⟨⟨x.text⟩⟩]
def Rpl.ok (x : Rpl) : Prop := i64 x.code ∧ okS x.text
abbrev RplR : RepT Rpl := flatR Rpl.c Rpl.ok
instance : Rp RplR 3 := .flat (fun _ => rfl) (fun _ => rfl)
def Rpl.zero : Rpl := ⟨false, 0, []⟩
def Rpl.w (x : Rpl) : Nat := x.text.length
def Rpl.m (x : Rpl) : Nat := 3
structure Tgt where
  name : List UInt8
  action : List Ins
deriving DecidableEq
def Tgt.ok (x : Tgt) : Prop := okS x.name
def TgtR (own : Bool) : RepT Tgt := fun H x c F => Tgt.ok x ∧ ∃ s1, c = [.string ⟨⟨x.name⟩⟩, s1] ∧ CodeR own H x.action [s1] F
instance {own : Bool} : Rp (TgtR own) 2 where
  fr := by
    rintro H H' x c F ⟨hk, s1, rfl, h1⟩ hf
    exact ⟨hk, _, rfl, Rp.fr h1 fun i hi => hf i hi⟩
  lt := by
    rintro H x c F ⟨hk, s1, rfl, h1⟩ i hi
    exact Rp.lt h1 i hi
  one := by
    rintro H x c F ⟨hk, s1, rfl, h1⟩
    have o1 := Rp.one h1
    simp [ones, Value.oneCell'] at o1 ⊢
    exact o1
  len := by
    rintro H x c F ⟨hk, s1, rfl, h1⟩
    rfl
def Tgt.zero : Tgt := ⟨[], []⟩
abbrev TgtsR (own : Bool) : RepT (List Tgt) := SlR own 2 (TgtR own)
def Tgt.w (x : Tgt) : Nat := x.name.length + wL Ins.w x.action
def Tgt.m (x : Tgt) : Nat := 1 + sumN Ins.m x.action
structure Deed where
  name : List UInt8
  kind : Int
  code : Int
  text : List UInt8
  action : List Ins
  links : List Lnk
deriving DecidableEq
def Deed.ok (x : Deed) : Prop := okS x.name ∧ i64 x.kind ∧ i64 x.code ∧ okS x.text
def DeedR (own : Bool) : RepT Deed := fun H x c F => Deed.ok x ∧ ∃ s1 s2 F1 F2, c = [.string ⟨⟨x.name⟩⟩, .int .i64 x.kind, .int .i64 x.code, .string ⟨⟨x.text⟩⟩, s1, s2] ∧ F = F1 ++ F2 ∧ CodeR own H x.action [s1] F1 ∧ LnksR own H x.links [s2] F2
instance {own : Bool} : Rp (DeedR own) 6 where
  fr := by
    rintro H H' x c F ⟨hk, s1, s2, F1, F2, rfl, rfl, h1, h2⟩ hf
    exact ⟨hk, _, _, _, _, rfl, rfl, Rp.fr h1 fun i hi => hf i (by simp [hi]), Rp.fr h2 fun i hi => hf i (by simp [hi])⟩
  lt := by
    rintro H x c F ⟨hk, s1, s2, F1, F2, rfl, rfl, h1, h2⟩ i hi
    rcases List.mem_append.1 hi with hi | hi
    · exact Rp.lt h1 i hi
    · exact Rp.lt h2 i hi
  one := by
    rintro H x c F ⟨hk, s1, s2, F1, F2, rfl, rfl, h1, h2⟩
    have o1 := Rp.one h1
    have o2 := Rp.one h2
    simp [ones, Value.oneCell'] at o1 o2 ⊢
    exact ⟨o1, o2⟩
  len := by
    rintro H x c F ⟨hk, s1, s2, F1, F2, rfl, rfl, h1, h2⟩
    rfl
def Deed.zero : Deed := ⟨[], 0, 0, [], [], []⟩
def Deed.w (x : Deed) : Nat := x.name.length + x.text.length + wL Ins.w x.action + wL Lnk.w x.links
def Deed.m (x : Deed) : Nat := 4 + sumN Ins.m x.action + sumN Lnk.m x.links
structure Spc where
  sources : List Sou
  targets : List Tgt
deriving DecidableEq
def SpcR (own : Bool) : RepT Spc := fun H x c F => ∃ s1 s2 F1 F2, c = [s1, s2] ∧ F = F1 ++ F2 ∧ SousR own H x.sources [s1] F1 ∧ TgtsR own H x.targets [s2] F2
instance {own : Bool} : Rp (SpcR own) 2 where
  fr := by
    rintro H H' x c F ⟨s1, s2, F1, F2, rfl, rfl, h1, h2⟩ hf
    exact ⟨_, _, _, _, rfl, rfl, Rp.fr h1 fun i hi => hf i (by simp [hi]), Rp.fr h2 fun i hi => hf i (by simp [hi])⟩
  lt := by
    rintro H x c F ⟨s1, s2, F1, F2, rfl, rfl, h1, h2⟩ i hi
    rcases List.mem_append.1 hi with hi | hi
    · exact Rp.lt h1 i hi
    · exact Rp.lt h2 i hi
  one := by
    rintro H x c F ⟨s1, s2, F1, F2, rfl, rfl, h1, h2⟩
    have o1 := Rp.one h1
    have o2 := Rp.one h2
    simp [ones, Value.oneCell'] at o1 o2 ⊢
    exact ⟨o1, o2⟩
  len := by
    rintro H x c F ⟨s1, s2, F1, F2, rfl, rfl, h1, h2⟩
    rfl
def Spc.w (x : Spc) : Nat := wL Sou.w x.sources + wL Tgt.w x.targets
def Spc.m (x : Spc) : Nat := sumN Sou.m x.sources + sumN Tgt.m x.targets
/-- Turns. -/
structure Trn where
  over : Bool
  code : Int
  text : List UInt8
  ask : Bool
  name : List UInt8
  steps : Int
deriving DecidableEq
def Trn.c (x : Trn) : List Value := [.bool x.over, .int .i64 x.code, .string ⟨⟨x.text⟩⟩, .bool x.ask, .string ⟨⟨x.name⟩⟩, .int .i64 x.steps]
abbrev intR' : RepT Int := flatR (fun n => [.int .i64 n]) i64
instance : Rp intR' 1 := .flat (fun _ => rfl) (fun _ => rfl)
theorem SlR.same {α : Type} {R : RepT α} {sz : Nat} [Rp R sz] {own : Bool} {H H' : Heap} {l : List α} {s : Value} {F : List Nat} {i : Nat} {x x' : α} {id o : Nat} {c : Array Value} {e : TypeId} {f : Nat × Nat} {ow : Bool} {cs : List Value} {Fi : List Nat}
    (E : Elt R sz own H l s F i x id o c e f ow cs Fi) (hn : F.Nodup) (hR : R H' x' cs Fi) (hf : ∀ j ∈ F, j ∉ Fi → H'[j]? = H[j]?) : SlR own sz R H' (l.set i x') [s] F := by
  obtain ⟨F', h1, h2, -⟩ := E.upd hn E.own' H' c x' cs Fi (by rw [hf id E.mem (E.notin hn), E.blk]) rfl E.len E.cell (fun k _ => rfl) hR (fun j hj hne => hf j hj)
  rw [h2 rfl] at h1
  exact h1
end Go.Am
