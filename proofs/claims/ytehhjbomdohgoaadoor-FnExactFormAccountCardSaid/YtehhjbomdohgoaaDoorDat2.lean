/- The rest of the program's data as records, how they lie in memory, their marks. No condition. -/
import Derived.Test.YtehhjbomdohgoaaDoorDat
namespace Go.Am
open Go
set_option linter.unusedVariables false
set_option linter.unusedSimpArgs false

def Ins.m (x : Ins) : Nat := 3
def Ins.mk' (k : Nat) (x : Ins) : Ins := ⟨((k : Nat) : Int), mText (k + 1), ((k + 2 : Nat) : Int)⟩
structure Sou where
  name : List UInt8
  text : List UInt8
deriving DecidableEq
def Sou.c (x : Sou) : List Value := [.string ⟨⟨x.name⟩⟩, .string ⟨⟨x.text⟩⟩]
def Sou.ok (x : Sou) : Prop := okS x.name ∧ okS x.text
abbrev SouR : RepT Sou := flatR Sou.c Sou.ok
instance : Rp SouR 2 := .flat (fun _ => rfl) (fun _ => rfl)
def Sou.zero : Sou := ⟨[], []⟩
theorem Sou.zero_ok : Sou.zero.ok := by simp [Sou.ok, Sou.zero, okS, i64]
abbrev SousR (own : Bool) : RepT (List Sou) := SlR own 2 SouR
def Sou.w (x : Sou) : Nat := x.name.length + x.text.length
def Sou.m (x : Sou) : Nat := 2
def Sou.mk' (k : Nat) (x : Sou) : Sou := ⟨mText (k), mText (k + 1)⟩
structure Lnk where
  name : List UInt8
  ask : Bool
  has : Bool
  at_ : Int
deriving DecidableEq
def Lnk.c (x : Lnk) : List Value := [.string ⟨⟨x.name⟩⟩, .bool x.ask, .bool x.has, .int .i64 x.at_]
def Lnk.ok (x : Lnk) : Prop := okS x.name ∧ i64 x.at_
abbrev LnkR : RepT Lnk := flatR Lnk.c Lnk.ok
instance : Rp LnkR 4 := .flat (fun _ => rfl) (fun _ => rfl)
def Lnk.zero : Lnk := ⟨[], false, false, 0⟩
theorem Lnk.zero_ok : Lnk.zero.ok := by simp [Lnk.ok, Lnk.zero, okS, i64]
abbrev LnksR (own : Bool) : RepT (List Lnk) := SlR own 4 LnkR
def Lnk.w (x : Lnk) : Nat := x.name.length
def Lnk.m (x : Lnk) : Nat := 4
def Lnk.mk' (k : Nat) (x : Lnk) : Lnk := ⟨mText (k), decide ((k + 1) % 3 = 0), decide ((k + 2) % 3 = 0), ((k + 3 : Nat) : Int)⟩
structure Rpl where
  has : Bool
  code : Int
  text : List UInt8
deriving DecidableEq
def Rpl.c (x : Rpl) : List Value := [.bool x.has, .int .i64 x.code, .string ⟨⟨x.text⟩⟩]
def Rpl.ok (x : Rpl) : Prop := i64 x.code ∧ okS x.text
abbrev RplR : RepT Rpl := flatR Rpl.c Rpl.ok
instance : Rp RplR 3 := .flat (fun _ => rfl) (fun _ => rfl)
def Rpl.zero : Rpl := ⟨false, 0, []⟩
theorem Rpl.zero_ok : Rpl.zero.ok := by simp [Rpl.ok, Rpl.zero, okS, i64]
abbrev RplsR (own : Bool) : RepT (List Rpl) := SlR own 3 RplR
def Rpl.w (x : Rpl) : Nat := x.text.length
def Rpl.m (x : Rpl) : Nat := 3
def Rpl.mk' (k : Nat) (x : Rpl) : Rpl := ⟨decide ((k) % 3 = 0), ((k + 1 : Nat) : Int), mText (k + 2)⟩
structure Tgt where
  name : List UInt8
  action : List Ins
deriving DecidableEq
def Tgt.ok (x : Tgt) : Prop := okS x.name
def TgtR (own : Bool) : RepT Tgt := fun H x c F => Tgt.ok x ∧ ∃ s1, c = [.string ⟨⟨x.name⟩⟩, s1] ∧ CodeR own H x.action [s1] F
instance {own : Bool} : Rp (TgtR own) 2 where
  fr := by
    rintro H H' x c F ⟨hk, s1, rfl, h1⟩ hf
    exact ⟨hk, _, rfl, Rp.fr h1 fun i hi => hf i hi⟩
  lt := by
    rintro H x c F ⟨hk, s1, rfl, h1⟩ i hi
    exact Rp.lt h1 i hi
  one := by
    rintro H x c F ⟨hk, s1, rfl, h1⟩
    have o1 := Rp.one h1
    simp [ones, Value.oneCell'] at o1 ⊢
    exact o1
  len := by
    rintro H x c F ⟨hk, s1, rfl, h1⟩
    rfl
def Tgt.zero : Tgt := ⟨[], []⟩
theorem Tgt.zero_rep {own : Bool} (H : Heap) : TgtR own H Tgt.zero [.string ⟨⟨[]⟩⟩, .slice none 0 0] [] := ⟨by simp [Tgt.ok, Tgt.zero, okS, i64], _, rfl, SlR.nil⟩
abbrev TgtsR (own : Bool) : RepT (List Tgt) := SlR own 2 (TgtR own)
def Tgt.w (x : Tgt) : Nat := x.name.length + wL Ins.w x.action
def Tgt.m (x : Tgt) : Nat := 1 + sumN Ins.m x.action
def Tgt.mk' (k : Nat) (x : Tgt) : Tgt := ⟨mText (k), mkL Ins.mk' Ins.m (k + 1) x.action⟩
structure Deed where
  name : List UInt8
  kind : Int
  code : Int
  text : List UInt8
  action : List Ins
  links : List Lnk
deriving DecidableEq
def Deed.ok (x : Deed) : Prop := okS x.name ∧ i64 x.kind ∧ i64 x.code ∧ okS x.text
def DeedR (own : Bool) : RepT Deed := fun H x c F => Deed.ok x ∧ ∃ s1 s2 F1 F2, c = [.string ⟨⟨x.name⟩⟩, .int .i64 x.kind, .int .i64 x.code, .string ⟨⟨x.text⟩⟩, s1, s2] ∧ F = F1 ++ F2 ∧ CodeR own H x.action [s1] F1 ∧ LnksR own H x.links [s2] F2
instance {own : Bool} : Rp (DeedR own) 6 where
  fr := by
    rintro H H' x c F ⟨hk, s1, s2, F1, F2, rfl, rfl, h1, h2⟩ hf
    exact ⟨hk, _, _, _, _, rfl, rfl, Rp.fr h1 fun i hi => hf i (by simp [hi]), Rp.fr h2 fun i hi => hf i (by simp [hi])⟩
  lt := by
    rintro H x c F ⟨hk, s1, s2, F1, F2, rfl, rfl, h1, h2⟩ i hi
    rcases List.mem_append.1 hi with hi | hi
    · exact Rp.lt h1 i hi
    · exact Rp.lt h2 i hi
  one := by
    rintro H x c F ⟨hk, s1, s2, F1, F2, rfl, rfl, h1, h2⟩
    have o1 := Rp.one h1
    have o2 := Rp.one h2
    simp [ones, Value.oneCell'] at o1 o2 ⊢
    exact ⟨o1, o2⟩
  len := by
    rintro H x c F ⟨hk, s1, s2, F1, F2, rfl, rfl, h1, h2⟩
    rfl
def Deed.zero : Deed := ⟨[], 0, 0, [], [], []⟩
theorem Deed.zero_rep {own : Bool} (H : Heap) : DeedR own H Deed.zero [.string ⟨⟨[]⟩⟩, .int .i64 0, .int .i64 0, .string ⟨⟨[]⟩⟩, .slice none 0 0, .slice none 0 0] [] := ⟨by simp [Deed.ok, Deed.zero, okS, i64], _, _, [], [], rfl, rfl, SlR.nil, SlR.nil⟩
abbrev DeedsR (own : Bool) : RepT (List Deed) := SlR own 6 (DeedR own)
def Deed.w (x : Deed) : Nat := x.name.length + x.text.length + wL Ins.w x.action + wL Lnk.w x.links
def Deed.m (x : Deed) : Nat := 4 + sumN Ins.m x.action + sumN Lnk.m x.links
def Deed.mk' (k : Nat) (x : Deed) : Deed := ⟨mText (k), ((k + 1 : Nat) : Int), ((k + 2 : Nat) : Int), mText (k + 3), mkL Ins.mk' Ins.m (k + 4) x.action, mkL Lnk.mk' Lnk.m (k + 4 + sumN Ins.m x.action) x.links⟩

structure Spc where
  sources : List Sou
  targets : List Tgt
deriving DecidableEq
def SpcR (own : Bool) : RepT Spc := fun H x c F => ∃ s1 s2 F1 F2, c = [s1, s2] ∧ F = F1 ++ F2 ∧ SousR own H x.sources [s1] F1 ∧ TgtsR own H x.targets [s2] F2
instance {own : Bool} : Rp (SpcR own) 2 where
  fr := by
    rintro H H' x c F ⟨s1, s2, F1, F2, rfl, rfl, h1, h2⟩ hf
    exact ⟨_, _, _, _, rfl, rfl, Rp.fr h1 fun i hi => hf i (by simp [hi]), Rp.fr h2 fun i hi => hf i (by simp [hi])⟩
  lt := by
    rintro H x c F ⟨s1, s2, F1, F2, rfl, rfl, h1, h2⟩ i hi
    rcases List.mem_append.1 hi with hi | hi
    · exact Rp.lt h1 i hi
    · exact Rp.lt h2 i hi
  one := by
    rintro H x c F ⟨s1, s2, F1, F2, rfl, rfl, h1, h2⟩
    have o1 := Rp.one h1
    have o2 := Rp.one h2
    simp [ones, Value.oneCell'] at o1 o2 ⊢
    exact ⟨o1, o2⟩
  len := by
    rintro H x c F ⟨s1, s2, F1, F2, rfl, rfl, h1, h2⟩
    rfl
def Spc.w (x : Spc) : Nat := wL Sou.w x.sources + wL Tgt.w x.targets
def Spc.m (x : Spc) : Nat := sumN Sou.m x.sources + sumN Tgt.m x.targets
def Spc.mk' (k : Nat) (x : Spc)   : Spc := ⟨mkL Sou.mk' Sou.m k x.sources, mkL Tgt.mk' Tgt.m (k + sumN Sou.m x.sources) x.targets⟩
/-- Turns. -/
structure Trn where
  over : Bool
  code : Int
  text : List UInt8
  ask : Bool
  name : List UInt8
  steps : Int
deriving DecidableEq
def Trn.c (x : Trn) : List Value := [.bool x.over, .int .i64 x.code, .string ⟨⟨x.text⟩⟩, .bool x.ask, .string ⟨⟨x.name⟩⟩, .int .i64 x.steps]
abbrev AccsR (own : Bool) : RepT (List (List Deed)) := SlR own 1 (DeedsR own)
abbrev intR' : RepT Int := flatR (fun n => [.int .i64 n]) i64
instance : Rp intR' 1 := .flat (fun _ => rfl) (fun _ => rfl)
abbrev IntsR (own : Bool) : RepT (List Int) := SlR own 1 intR'
theorem SlR.same {α : Type} {R : RepT α} {sz : Nat} [Rp R sz] {own : Bool} {H H' : Heap} {l : List α} {s : Value} {F : List Nat} {i : Nat} {x x' : α} {id o : Nat} {c : Array Value} {e : TypeId} {f : Nat × Nat} {ow : Bool} {cs : List Value} {Fi : List Nat}
    (E : Elt R sz own H l s F i x id o c e f ow cs Fi) (hn : F.Nodup) (hR : R H' x' cs Fi) (hf : ∀ j ∈ F, j ∉ Fi → H'[j]? = H[j]?) : SlR own sz R H' (l.set i x') [s] F := by
  obtain ⟨F', h1, h2, -⟩ := E.upd hn E.own' H' c x' cs Fi (by rw [hf id E.mem (E.notin hn), E.blk]) rfl E.len E.cell (fun k _ => rfl) hR (fun j hj hne => hf j hj)
  rw [h2 rfl] at h1
  exact h1
theorem wL_le {α : Type} (w : α → Nat) (l : List α) : l.length ≤ wL w l := by unfold wL; omega
theorem wL_mem {α : Type} (w : α → Nat) {l : List α} {x : α} (h : x ∈ l) : w x + l.length ≤ wL w l := by
  have := sumN_le w l x h
  unfold sumN at this
  unfold wL
  omega
theorem sumN_wL {α : Type} (w : α → Nat) (l : List α) : wL w l = l.length + sumN w l := rfl
theorem setL_fill {c : Array Value} {o sz : Nat} {cs l : List Value} (hle : o + sz ≤ c.size) (hlen : cs.length = sz) (hcell : ∀ j, j < sz → c[o + j]? = cs[j]?) (hl : l.length ≤ sz) : setL c o l = setL c o (l ++ cs.drop l.length) := by
  have hd : (cs.drop l.length).length = sz - l.length := by simp [hlen]
  apply Array.ext_getElem?
  intro k
  rw [setL_get _ _ _ _ (by omega), setL_get _ _ _ _ (by simp; omega)]
  simp only [List.length_append, hd]
  by_cases h1 : o ≤ k ∧ k < o + l.length
  · rw [if_pos h1, if_pos (by omega), List.getElem?_append_left (by omega)]
  · rw [if_neg h1]
    by_cases h2 : o ≤ k ∧ k < o + (l.length + (sz - l.length))
    · rw [if_pos h2, List.getElem?_append_right (by omega), List.getElem?_drop]
      have := hcell (k - o) (by omega)
      rw [show o + (k - o) = k by omega] at this
      rw [this]
      congr 1; omega
    · rw [if_neg h2]
end Go.Am
