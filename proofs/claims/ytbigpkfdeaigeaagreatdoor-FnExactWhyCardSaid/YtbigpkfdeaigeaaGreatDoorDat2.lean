import Derived.Test.YtbigpkfdeaigeaaGreatDoorAm26
import Derived.Laws.BitsLemmas
/- The program's data as lists and records, and how they lie in memory. No condition. -/
namespace Go.Am
open Go
set_option linter.unusedVariables false

def i64 (n : Int) : Prop := -9223372036854775808 ≤ n ∧ n < 9223372036854775808
def okS (l : List UInt8) : Prop := l.length ≤ 140737488355328
/-- A string's value. -/
abbrev str (l : List UInt8) : Value := .string ⟨⟨l⟩⟩
abbrev int (n : Int) : Value := .int .i64 n

structure Ins where
  op : Int
  text : List UInt8
  n : Int
deriving DecidableEq

def Ins.c (x : Ins) : List Value := [.int .i64 x.op, .string ⟨⟨x.text⟩⟩, .int .i64 x.n]
def Ins.ok (x : Ins) : Prop := i64 x.op ∧ okS x.text ∧ i64 x.n
abbrev InsR : RepT Ins := flatR Ins.c Ins.ok
instance : Rp InsR 3 := .flat (fun _ => rfl) (fun _ => rfl)
def Ins.zero : Ins := ⟨0, [], 0⟩
theorem Ins.zero_ok : Ins.zero.ok := ⟨⟨by decide, by decide⟩, by simp [okS, Ins.zero], ⟨by decide, by decide⟩⟩
/-- A program's slice. -/
abbrev CodeR (own : Bool) : RepT (List Ins) := SlR own 3 InsR

def topN (op : Int) : Int := if op = 3 ∨ op = 4 ∨ op = 5 then 2000 else if op = 10 ∨ op = 11 then 200 else -1
def Ins.valid (x : Ins) : Bool :=
  decide (1 ≤ x.op) && decide (x.op ≤ 15) && decide (x.text.length ≤ 2000) && (decide (x.op = 1) || x.text.isEmpty) && decide (0 ≤ x.n) && decide (x.n ≤ max 0 (topN x.op))
def wordOf (op : Int) : List UInt8 × Int :=
  if op = 1 then ([108, 105, 116], 1) else
  if op = 2 then ([99, 97, 116], 0) else
  if op = 3 then ([99, 117, 116], 2) else
  if op = 4 then ([114, 101, 115, 116], 2) else
  if op = 5 then ([119, 111, 114, 100], 2) else
  if op = 6 then ([115, 97, 109, 101], 0) else
  if op = 7 then ([100, 117, 112], 0) else
  if op = 8 then ([115, 119, 97, 112], 0) else
  if op = 9 then ([100, 114, 111, 112], 0) else
  if op = 10 then ([106, 117, 109, 112], 3) else
  if op = 11 then ([117, 110, 108, 101, 115, 115], 3) else
  if op = 12 then ([97, 115, 107], 0) else
  if op = 13 then ([104, 97, 115], 0) else
  if op = 14 then ([102, 97, 105, 108], 0) else
  if op = 15 then ([101, 110, 100], 0) else ([], 0)
def validP (p : List Ins) : Bool := decide (1 ≤ p.length) && decide (p.length ≤ 200) && p.all Ins.valid

/-! ### The laws' weights -/
/-- What is left of `left` behind a weight, -1 if it does not last. -/
def szR (left : Int) (w : Nat) : Int := if left < w then -1 else left - w
theorem szR_lt {left : Int} {w : Nat} (h : 0 ≤ left) : szR left w < 0 ↔ left < w := by unfold szR; split <;> omega
theorem szR_ge {left : Int} {w : Nat} (h : (w : Int) ≤ left) : szR left w = left - w := by unfold szR; rw [if_neg (by omega)]
theorem szR_neg {left : Int} {w : Nat} (h : left < w) : szR left w = -1 := by unfold szR; rw [if_pos h]
def Ins.w (x : Ins) : Nat := x.text.length
def wL {α : Type} (w : α → Nat) (l : List α) : Nat := l.length + (l.map w).sum
/-- The weight of the first i. -/
def wS {α : Type} (w : α → Nat) (l : List α) (i : Nat) : Nat := ((l.take i).map w).sum
theorem wS_z {α : Type} (w : α → Nat) (l : List α) : wS w l 0 = 0 := by simp [wS]
theorem wS_s {α : Type} (w : α → Nat) (l : List α) (i : Nat) (h : i < l.length) : wS w l (i + 1) = wS w l i + w l[i] := by
  unfold wS
  rw [List.take_succ_eq_append_getElem h, List.map_append, List.sum_append]
  simp
theorem wS_le {α : Type} (w : α → Nat) (l : List α) (i : Nat) : l.length + wS w l i ≤ wL w l := by
  unfold wS wL
  have : (l.map w).sum = ((l.take i).map w).sum + ((l.drop i).map w).sum := by
    rw [← List.sum_append, ← List.map_append, List.take_append_drop]
  omega
theorem wS_all {α : Type} (w : α → Nat) (l : List α) (i : Nat) (h : l.length ≤ i) : l.length + wS w l i = wL w l := by
  unfold wS wL
  rw [List.take_of_length_le h]
attribute [simp] wS_z


/-! ### Answers -/
structure Res where
  code : Int
  text : List UInt8
  chain : List (List UInt8)
deriving DecidableEq
/-- A list of strings. -/
abbrev strR : RepT (List UInt8) := flatR (fun s => [str s]) okS
instance : Rp strR 1 := .flat (fun _ => rfl) (fun _ => rfl)
abbrev StrsR (own : Bool) : RepT (List (List UInt8)) := SlR own 1 strR
def ResR (own : Bool) : RepT Res := fun H x c F => ∃ s, c = [.int .i64 x.code, .string ⟨⟨x.text⟩⟩, s] ∧ StrsR own H x.chain [s] F
theorem ResR.ext {own : Bool} {H H' : Heap} {x : Res} {c : List Value} {F : List Nat} (h : ResR own H x c F) (he : Ext H H') : ResR own H' x c F := by
  obtain ⟨s, rfl, h⟩ := h
  exact ⟨s, rfl, Rp.ext h he⟩
/-- A result that was read. -/
def ResOkR (own : Bool) : RepT Res := fun H x c F => ResR own H x c F ∧ okS x.text
instance {own : Bool} : Rp (ResR own) 3 where
  fr := by
    rintro H H' x c F ⟨s, rfl, h⟩ hf
    exact ⟨s, rfl, Rp.fr h hf⟩
  lt := by
    rintro H x c F ⟨s, rfl, h⟩
    exact Rp.lt h
  one := by
    rintro H x c F ⟨s, rfl, h⟩
    have := Rp.one h
    simp [ones, Value.oneCell'] at this ⊢
    exact this
  len := by
    rintro H x c F ⟨s, rfl, h⟩
    rfl
instance {own : Bool} : Rp (ResOkR own) 3 where
  fr h hf := ⟨Rp.fr h.1 hf, h.2⟩
  lt h := Rp.lt h.1
  one h := Rp.one h.1
  len h := Rp.len h.1
/-- Without a chain. -/
def Res.c (x : Res) : List Value := [.int .i64 x.code, .string ⟨⟨x.text⟩⟩, .slice none 0 0]
theorem Res.of {x : Res} {H : Heap} {own : Bool} (h : x.chain = []) : ResR own H x x.c [] := ⟨_, rfl, by rw [h]; exact SlR.nil⟩
theorem wrap_u8 {n : Int} (h1 : 0 ≤ n) (h2 : n < 256) : IntKind.u8.wrap n = n := by
  rw [IntKind.wrap_u8]; omega

/-! ### Marks -/
/-- The last digit. -/
def dig (k : Nat) : UInt8 := UInt8.ofNat (48 + k % 10)
def mDig (k : Nat) (o : List UInt8) : List UInt8 := if h : k = 0 then o else mDig (k / 10) (dig k :: o)
termination_by k
decreasing_by omega
theorem mDig_z (o : List UInt8) : mDig 0 o = o := by rw [mDig]; simp
theorem mDig_s {k : Nat} (h : k ≠ 0) (o : List UInt8) : mDig k o = mDig (k / 10) (dig k :: o) := by rw [mDig]; simp [h]
theorem mDig_len : ∀ (k : Nat) (o : List UInt8), (mDig k o).length ≤ k + o.length := by
  intro k
  induction k using Nat.strongRecOn with
  | _ k ih =>
    intro o
    by_cases h : k = 0
    · subst h; rw [mDig_z]; omega
    · rw [mDig_s h]
      have := ih (k / 10) (by omega) (dig k :: o)
      simp only [List.length_cons] at this
      omega
/-- The mark of number k. -/
def mText (k : Nat) : List UInt8 := if k = 0 then [109, 48] else 109 :: mDig k []
/-- The marks from number k on. -/
def mList (k : Nat) : Nat → List (List UInt8)
  | 0 => []
  | n + 1 => mText k :: mList (k + 1) n

theorem mList_length (k n : Nat) : (mList k n).length = n := by
  induction n generalizing k with
  | zero => rfl
  | succ n ih => simp [mList, ih]
theorem mList_app (k n m : Nat) : mList k (n + m) = mList k n ++ mList (k + n) m := by
  induction n generalizing k with
  | zero => simp [mList]
  | succ n ih => rw [show n + 1 + m = (n + m) + 1 by omega]; simp [mList, ih, Nat.add_assoc, Nat.add_comm 1 n]
theorem mList_one (k : Nat) : mList k 1 = [mText k] := rfl
/-- The first i marked. -/
def mPart (l : List (List UInt8)) (k i : Nat) : List (List UInt8) := mList k i ++ l.drop i
theorem mPart_z (l : List (List UInt8)) (k : Nat) : mPart l k 0 = l := by simp [mPart, mList]
theorem mPart_length (l : List (List UInt8)) (k i : Nat) (h : i ≤ l.length) : (mPart l k i).length = l.length := by simp [mPart, mList_length]; omega
theorem mPart_s (l : List (List UInt8)) (k i : Nat) (h : i < l.length) : (mPart l k i).set i (mText (k + i)) = mPart l k (i + 1) := by
  unfold mPart
  rw [List.set_append_right _ _ (by rw [mList_length]; exact Nat.le_refl _), mList_length, Nat.sub_self, mList_app, mList_one, List.append_assoc, List.drop_eq_getElem_cons h]
  rfl
theorem mPart_all (l : List (List UInt8)) (k i : Nat) (h : l.length ≤ i) (hi : i ≤ l.length) : mPart l k i = mList k l.length := by
  obtain rfl : i = l.length := by omega
  simp [mPart]
theorem mList_get (k n i : Nat) (h : i < n) : (mList k n)[i]'(by rw [mList_length]; exact h) = mText (k + i) := by
  induction n generalizing k i with
  | zero => omega
  | succ n ih =>
    cases i with
    | zero => rfl
    | succ i =>
      simp only [mList, List.getElem_cons_succ]
      rw [ih (k + 1) i (by omega)]
      congr 1
      omega

theorem mText_ok {k : Nat} (h : k ≤ 1000000000) : okS (mText k) := by
  unfold mText okS
  split
  · simp
  · have := mDig_len k []
    simp at this ⊢
    omega

abbrev byteR : RepT UInt8 := flatR (fun b => [.int .u8 (b.toNat : Int)]) fun _ => True
instance : Rp byteR 1 := .flat (fun _ => rfl) (fun _ => rfl)
abbrev BytesR (own : Bool) : RepT (List UInt8) := SlR own 1 byteR

end Go.Am

/- The rest of the program's data as records, how they lie in memory, their marks. No condition. -/
namespace Go.Am
open Go
set_option linter.unusedVariables false
set_option linter.unusedSimpArgs false

def Ins.m (x : Ins) : Nat := 3
def Ins.mk' (k : Nat) (x : Ins) : Ins := ⟨((k : Nat) : Int), mText (k + 1), ((k + 2 : Nat) : Int)⟩
structure Sou where
  name : List UInt8
  text : List UInt8
deriving DecidableEq
def Sou.c (x : Sou) : List Value := [.string ⟨⟨x.name⟩⟩, .string ⟨⟨x.text⟩⟩]
def Sou.ok (x : Sou) : Prop := okS x.name ∧ okS x.text
abbrev SouR : RepT Sou := flatR Sou.c Sou.ok
instance : Rp SouR 2 := .flat (fun _ => rfl) (fun _ => rfl)
def Sou.zero : Sou := ⟨[], []⟩
theorem Sou.zero_ok : Sou.zero.ok := by simp [Sou.ok, Sou.zero, okS, i64]
abbrev SousR (own : Bool) : RepT (List Sou) := SlR own 2 SouR
def Sou.w (x : Sou) : Nat := x.name.length + x.text.length
def Sou.m (x : Sou) : Nat := 2
def Sou.mk' (k : Nat) (x : Sou) : Sou := ⟨mText (k), mText (k + 1)⟩
structure Lnk where
  name : List UInt8
  ask : Bool
  has : Bool
  at_ : Int
deriving DecidableEq
def Lnk.c (x : Lnk) : List Value := [.string ⟨⟨x.name⟩⟩, .bool x.ask, .bool x.has, .int .i64 x.at_]
def Lnk.ok (x : Lnk) : Prop := okS x.name ∧ i64 x.at_
abbrev LnkR : RepT Lnk := flatR Lnk.c Lnk.ok
instance : Rp LnkR 4 := .flat (fun _ => rfl) (fun _ => rfl)
def Lnk.zero : Lnk := ⟨[], false, false, 0⟩
theorem Lnk.zero_ok : Lnk.zero.ok := by simp [Lnk.ok, Lnk.zero, okS, i64]
abbrev LnksR (own : Bool) : RepT (List Lnk) := SlR own 4 LnkR
def Lnk.w (x : Lnk) : Nat := x.name.length
def Lnk.m (x : Lnk) : Nat := 4
def Lnk.mk' (k : Nat) (x : Lnk) : Lnk := ⟨mText (k), decide ((k + 1) % 3 = 0), decide ((k + 2) % 3 = 0), ((k + 3 : Nat) : Int)⟩
structure Rpl where
  has : Bool
  code : Int
  text : List UInt8
deriving DecidableEq
def Rpl.c (x : Rpl) : List Value := [.bool x.has, .int .i64 x.code, .string ⟨⟨x.text⟩⟩]
def Rpl.ok (x : Rpl) : Prop := i64 x.code ∧ okS x.text
abbrev RplR : RepT Rpl := flatR Rpl.c Rpl.ok
instance : Rp RplR 3 := .flat (fun _ => rfl) (fun _ => rfl)
def Rpl.zero : Rpl := ⟨false, 0, []⟩
theorem Rpl.zero_ok : Rpl.zero.ok := by simp [Rpl.ok, Rpl.zero, okS, i64]
def Rpl.w (x : Rpl) : Nat := x.text.length
def Rpl.m (x : Rpl) : Nat := 3
def Rpl.mk' (k : Nat) (x : Rpl) : Rpl := ⟨decide ((k) % 3 = 0), ((k + 1 : Nat) : Int), mText (k + 2)⟩
structure Tgt where
  name : List UInt8
  action : List Ins
deriving DecidableEq
def Tgt.ok (x : Tgt) : Prop := okS x.name
def TgtR (own : Bool) : RepT Tgt := fun H x c F => Tgt.ok x ∧ ∃ s1, c = [.string ⟨⟨x.name⟩⟩, s1] ∧ CodeR own H x.action [s1] F
instance {own : Bool} : Rp (TgtR own) 2 where
  fr := by
    rintro H H' x c F ⟨hk, s1, rfl, h1⟩ hf
    exact ⟨hk, _, rfl, Rp.fr h1 fun i hi => hf i hi⟩
  lt := by
    rintro H x c F ⟨hk, s1, rfl, h1⟩ i hi
    exact Rp.lt h1 i hi
  one := by
    rintro H x c F ⟨hk, s1, rfl, h1⟩
    have o1 := Rp.one h1
    simp [ones, Value.oneCell'] at o1 ⊢
    exact o1
  len := by
    rintro H x c F ⟨hk, s1, rfl, h1⟩
    rfl
def Tgt.zero : Tgt := ⟨[], []⟩
theorem Tgt.zero_rep {own : Bool} (H : Heap) : TgtR own H Tgt.zero [.string ⟨⟨[]⟩⟩, .slice none 0 0] [] := ⟨by simp [Tgt.ok, Tgt.zero, okS, i64], _, rfl, SlR.nil⟩
abbrev TgtsR (own : Bool) : RepT (List Tgt) := SlR own 2 (TgtR own)
def Tgt.w (x : Tgt) : Nat := x.name.length + wL Ins.w x.action
def Tgt.m (x : Tgt) : Nat := 1 + sumN Ins.m x.action
def Tgt.mk' (k : Nat) (x : Tgt) : Tgt := ⟨mText (k), mkL Ins.mk' Ins.m (k + 1) x.action⟩
structure Deed where
  name : List UInt8
  kind : Int
  code : Int
  text : List UInt8
  action : List Ins
  links : List Lnk
deriving DecidableEq
def Deed.ok (x : Deed) : Prop := okS x.name ∧ i64 x.kind ∧ i64 x.code ∧ okS x.text
def DeedR (own : Bool) : RepT Deed := fun H x c F => Deed.ok x ∧ ∃ s1 s2 F1 F2, c = [.string ⟨⟨x.name⟩⟩, .int .i64 x.kind, .int .i64 x.code, .string ⟨⟨x.text⟩⟩, s1, s2] ∧ F = F1 ++ F2 ∧ CodeR own H x.action [s1] F1 ∧ LnksR own H x.links [s2] F2
instance {own : Bool} : Rp (DeedR own) 6 where
  fr := by
    rintro H H' x c F ⟨hk, s1, s2, F1, F2, rfl, rfl, h1, h2⟩ hf
    exact ⟨hk, _, _, _, _, rfl, rfl, Rp.fr h1 fun i hi => hf i (by simp [hi]), Rp.fr h2 fun i hi => hf i (by simp [hi])⟩
  lt := by
    rintro H x c F ⟨hk, s1, s2, F1, F2, rfl, rfl, h1, h2⟩ i hi
    rcases List.mem_append.1 hi with hi | hi
    · exact Rp.lt h1 i hi
    · exact Rp.lt h2 i hi
  one := by
    rintro H x c F ⟨hk, s1, s2, F1, F2, rfl, rfl, h1, h2⟩
    have o1 := Rp.one h1
    have o2 := Rp.one h2
    simp [ones, Value.oneCell'] at o1 o2 ⊢
    exact ⟨o1, o2⟩
  len := by
    rintro H x c F ⟨hk, s1, s2, F1, F2, rfl, rfl, h1, h2⟩
    rfl
def Deed.zero : Deed := ⟨[], 0, 0, [], [], []⟩
theorem Deed.zero_rep {own : Bool} (H : Heap) : DeedR own H Deed.zero [.string ⟨⟨[]⟩⟩, .int .i64 0, .int .i64 0, .string ⟨⟨[]⟩⟩, .slice none 0 0, .slice none 0 0] [] := ⟨by simp [Deed.ok, Deed.zero, okS, i64], _, _, [], [], rfl, rfl, SlR.nil, SlR.nil⟩
abbrev DeedsR (own : Bool) : RepT (List Deed) := SlR own 6 (DeedR own)
def Deed.w (x : Deed) : Nat := x.name.length + x.text.length + wL Ins.w x.action + wL Lnk.w x.links
def Deed.m (x : Deed) : Nat := 4 + sumN Ins.m x.action + sumN Lnk.m x.links
def Deed.mk' (k : Nat) (x : Deed) : Deed := ⟨mText (k), ((k + 1 : Nat) : Int), ((k + 2 : Nat) : Int), mText (k + 3), mkL Ins.mk' Ins.m (k + 4) x.action, mkL Lnk.mk' Lnk.m (k + 4 + sumN Ins.m x.action) x.links⟩

structure Spc where
  sources : List Sou
  targets : List Tgt
deriving DecidableEq
def SpcR (own : Bool) : RepT Spc := fun H x c F => ∃ s1 s2 F1 F2, c = [s1, s2] ∧ F = F1 ++ F2 ∧ SousR own H x.sources [s1] F1 ∧ TgtsR own H x.targets [s2] F2
instance {own : Bool} : Rp (SpcR own) 2 where
  fr := by
    rintro H H' x c F ⟨s1, s2, F1, F2, rfl, rfl, h1, h2⟩ hf
    exact ⟨_, _, _, _, rfl, rfl, Rp.fr h1 fun i hi => hf i (by simp [hi]), Rp.fr h2 fun i hi => hf i (by simp [hi])⟩
  lt := by
    rintro H x c F ⟨s1, s2, F1, F2, rfl, rfl, h1, h2⟩ i hi
    rcases List.mem_append.1 hi with hi | hi
    · exact Rp.lt h1 i hi
    · exact Rp.lt h2 i hi
  one := by
    rintro H x c F ⟨s1, s2, F1, F2, rfl, rfl, h1, h2⟩
    have o1 := Rp.one h1
    have o2 := Rp.one h2
    simp [ones, Value.oneCell'] at o1 o2 ⊢
    exact ⟨o1, o2⟩
  len := by
    rintro H x c F ⟨s1, s2, F1, F2, rfl, rfl, h1, h2⟩
    rfl
def Spc.w (x : Spc) : Nat := wL Sou.w x.sources + wL Tgt.w x.targets
def Spc.m (x : Spc) : Nat := sumN Sou.m x.sources + sumN Tgt.m x.targets
def Spc.mk' (k : Nat) (x : Spc)   : Spc := ⟨mkL Sou.mk' Sou.m k x.sources, mkL Tgt.mk' Tgt.m (k + sumN Sou.m x.sources) x.targets⟩
/-- Turns. -/
structure Trn where
  over : Bool
  code : Int
  text : List UInt8
  ask : Bool
  name : List UInt8
  steps : Int
deriving DecidableEq
def Trn.c (x : Trn) : List Value := [.bool x.over, .int .i64 x.code, .string ⟨⟨x.text⟩⟩, .bool x.ask, .string ⟨⟨x.name⟩⟩, .int .i64 x.steps]
abbrev intR' : RepT Int := flatR (fun n => [.int .i64 n]) i64
instance : Rp intR' 1 := .flat (fun _ => rfl) (fun _ => rfl)
abbrev IntsR (own : Bool) : RepT (List Int) := SlR own 1 intR'
theorem SlR.same {α : Type} {R : RepT α} {sz : Nat} [Rp R sz] {own : Bool} {H H' : Heap} {l : List α} {s : Value} {F : List Nat} {i : Nat} {x x' : α} {id o : Nat} {c : Array Value} {e : TypeId} {f : Nat × Nat} {ow : Bool} {cs : List Value} {Fi : List Nat}
    (E : Elt R sz own H l s F i x id o c e f ow cs Fi) (hn : F.Nodup) (hR : R H' x' cs Fi) (hf : ∀ j ∈ F, j ∉ Fi → H'[j]? = H[j]?) : SlR own sz R H' (l.set i x') [s] F := by
  obtain ⟨F', h1, h2, -⟩ := E.upd hn E.own' H' c x' cs Fi (by rw [hf id E.mem (E.notin hn), E.blk]) rfl E.len E.cell (fun k _ => rfl) hR (fun j hj hne => hf j hj)
  rw [h2 rfl] at h1
  exact h1
theorem wL_le {α : Type} (w : α → Nat) (l : List α) : l.length ≤ wL w l := by unfold wL; omega
theorem wL_mem {α : Type} (w : α → Nat) {l : List α} {x : α} (h : x ∈ l) : w x + l.length ≤ wL w l := by
  have := sumN_le w l x h
  unfold sumN at this
  unfold wL
  omega
end Go.Am
