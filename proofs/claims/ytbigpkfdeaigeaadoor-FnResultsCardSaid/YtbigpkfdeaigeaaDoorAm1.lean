/- An abstract heap that describes a world of the model: definitions and first lemmas. No condition. -/
import Derived.Deep.AppendSrc
import Derived.Deep.MidRow
import Derived.Below
namespace Go.Am
open Go
set_option linter.unusedSimpArgs false
set_option linter.unusedVariables false

/-- Where an abstract block lies: the block, its first cell, how many cells the real block has. -/
structure Loc where
  blk : Nat
  base : Nat
  room : Nat

abbrev Emb := Nat → Option Loc

/-- An abstract block: what it holds, whether it may be read, whether it may be written. -/
structure Blk where
  obj : Obj
  live : Bool
  own : Bool

abbrev Heap := List Blk

/-- An abstract value and a real one. `.tuple #[]` is 'not known'. A slice's third number is the size of its element in cells. -/
inductive VR (E : Emb) : Value → Value → Prop
  | any (v : Value) : VR E (.tuple #[]) v
  | skipped : VR E (.tuple #[.nilFunc]) (.tuple #[])
  | bool (b : Bool) : VR E (.bool b) (.bool b)
  | int (k : IntKind) (n : Int) : VR E (.int k n) (.int k n)
  | string (s : ByteArray) : VR E (.string s) (.string s)
  | nilPtr : VR E (.pointer none) (.pointer none)
  | ptr {id : Nat} {l : Loc} (off : Nat) (h : E id = some l) : VR E (.pointer (some ⟨id, off, none⟩)) (.pointer (some ⟨l.blk, l.base + off, none⟩))
  | nilSlice : VR E (.slice none 0 0) (.slice none 0 0)
  | hollow (a : Option Addr) (c : Nat) : VR E (.slice (some ⟨0, 0, some 1⟩) 0 0) (.slice a 0 c)
  | zero (a : Option Addr) : VR E (.slice (some ⟨0, 0, some 0⟩) 0 0) (.slice a 0 0)
  | slice {id : Nat} {l : Loc} (off n sz c : Nat) (h : E id = some l) (hc : n ≤ c) (hr : l.base + off + c * sz ≤ l.room) :
      VR E (.slice (some ⟨id, off, none⟩) n sz) (.slice (some ⟨l.blk, l.base + off, none⟩) n c)
  | nilMap : VR E (.map none) (.map none)
  | map {id : Nat} {l : Loc} (h : E id = some l) : VR E (.map (some id)) (.map (some l.blk))
  | nilFunc : VR E .nilFunc .nilFunc
  | func (fn : Fn) {xs ys : Array Value} (hs : xs.size = ys.size) (h : ∀ (i : Nat) (hx : i < xs.size) (hy : i < ys.size), VR E xs[i] ys[i]) :
      VR E (.func fn #[] xs) (.func fn #[] ys)
  | nilIface : VR E .nilIface .nilIface
  | iface (t : TypeId) {x y : Value} (h : VR E x y) : VR E (.iface t x) (.iface t y)
  | agg {xs ys : Array Value} (hs : xs.size = ys.size) (h : ∀ (i : Nat) (hx : i < xs.size) (hy : i < ys.size), VR E xs[i] ys[i]) :
      VR E (.agg xs) (.agg ys)
  | tuple {xs ys : Array Value} (hs : xs.size = ys.size) (h : ∀ (i : Nat) (hx : i < xs.size) (hy : i < ys.size), VR E xs[i] ys[i]) :
      VR E (.tuple xs) (.tuple ys)

theorem VR.mono {E E' : Emb} (hE : ∀ id l, E id = some l → E' id = some l) {v v' : Value} (h : VR E v v') : VR E' v v' := by
  induction h with
  | any v => exact .any v
  | skipped => exact .skipped
  | bool b => exact .bool b
  | int k n => exact .int k n
  | string s => exact .string s
  | nilPtr => exact .nilPtr
  | ptr off h => exact .ptr off (hE _ _ h)
  | nilSlice => exact .nilSlice
  | hollow a c => exact .hollow a c
  | zero a => exact .zero a
  | slice off n sz c h hc hr => exact .slice off n sz c (hE _ _ h) hc hr
  | nilMap => exact .nilMap
  | map h => exact .map (hE _ _ h)
  | nilFunc => exact .nilFunc
  | func fn hs _ ih => exact .func fn hs ih
  | nilIface => exact .nilIface
  | iface t _ ih => exact .iface t ih
  | agg hs _ ih => exact .agg hs ih
  | tuple hs _ ih => exact .tuple hs ih

/-- One cell's value without an address. -/
def flat0 : Value → Bool
  | .bool _ | .int _ _ | .string _ | .pointer none | .slice none 0 0 | .map none | .nilFunc | .nilIface => true
  | .func _ first captured => first.isEmpty && captured.isEmpty
  | _ => false

/-- A value without an address. -/
def flat : Value → Bool
  | .agg cs => cs.all flat0
  | v => flat0 v

theorem VR.refl0 (E : Emb) {v : Value} (h : flat0 v = true) : VR E v v := by
  cases v with
  | bool b => exact .bool b
  | int k n => exact .int k n
  | string s => exact .string s
  | pointer a => cases a with
    | none => exact .nilPtr
    | some a => simp [flat0] at h
  | slice a n c => cases a with
    | none => cases n with
      | zero => cases c with
        | zero => exact .nilSlice
        | succ c => simp [flat0] at h
      | succ n => simp [flat0] at h
    | some a => simp [flat0] at h
  | map r => cases r with
    | none => exact .nilMap
    | some r => simp [flat0] at h
  | nilFunc => exact .nilFunc
  | nilIface => exact .nilIface
  | func fn first captured =>
    simp [flat0] at h
    obtain ⟨rfl, rfl⟩ := h
    exact .func fn rfl (fun i hx => by simp at hx)
  | _ => simp [flat0] at h

theorem VR.refl (E : Emb) {v : Value} (h : flat v = true) : VR E v v := by
  cases v with
  | agg cs =>
    refine .agg rfl fun i hx _ => VR.refl0 E ?_
    exact (Array.all_eq_true.1 h) i hx
  | bool b => exact .refl0 E h
  | int k n => exact .refl0 E h
  | float k b => exact .refl0 E h
  | complex k a b => exact .refl0 E h
  | string s => exact .refl0 E h
  | pointer a => exact .refl0 E h
  | slice a n c => exact .refl0 E h
  | map r => exact .refl0 E h
  | chan r => exact .refl0 E h
  | func fn f c => exact .refl0 E h
  | nilFunc => exact .refl0 E h
  | iface t v => exact .refl0 E h
  | nilIface => exact .refl0 E h
  | tuple vs => exact .refl0 E h

theorem VR.eq0 {E : Emb} {v v' : Value} (h : VR E v v') (hf : flat0 v = true) : v' = v := by
  cases h <;> first | rfl | (simp [flat0] at hf; done) | skip
  next fn xs ys hs h =>
    simp [flat0] at hf
    subst hf
    have : ys = #[] := by apply Array.eq_empty_of_size_eq_zero; simpa using hs.symm
    rw [this]

theorem VR.eq {E : Emb} {v v' : Value} (h : VR E v v') (hf : flat v = true) : v' = v := by
  cases v with
  | agg cs =>
    cases h with
    | agg hs h =>
      congr 1
      apply Array.ext hs.symm
      intro i h1 h2
      exact (h i h2 h1).eq0 (Array.all_eq_true.1 hf i h2)
  | bool b => exact h.eq0 hf
  | int k n => exact h.eq0 hf
  | float k b => exact h.eq0 hf
  | complex k a b => exact h.eq0 hf
  | string s => exact h.eq0 hf
  | pointer a => exact h.eq0 hf
  | slice a n c => exact h.eq0 hf
  | map r => exact h.eq0 hf
  | chan r => exact h.eq0 hf
  | func fn f c => exact h.eq0 hf
  | nilFunc => exact h.eq0 hf
  | iface t v => exact h.eq0 hf
  | nilIface => exact h.eq0 hf
  | tuple vs => exact h.eq0 hf

/-- One-celled abstract values stand for one-celled real ones. -/
theorem VR.oneCell {E : Emb} {v v' : Value} (h : VR E v v') (h1 : v.oneCell' = true) : v'.oneCell' = true := by
  cases h <;> first | rfl | (simp [Value.oneCell'] at h1; done) | exact h1

/-- Is the value known to be one value (not 'not known', not several results)? -/
def known : Value → Bool
  | .tuple _ => false
  | _ => true

theorem VR.cells {E : Emb} {v v' : Value} (h : VR E v v') (hk : known v = true) : v.cells.size = v'.cells.size ∧
    ∀ (j : Nat) (h1 : j < v.cells.size) (h2 : j < v'.cells.size), VR E v.cells[j] v'.cells[j] := by
  have h0 := h
  cases h with
  | agg hs hv => exact ⟨hs, hv⟩
  | any v => simp [known] at hk
  | skipped => simp [known] at hk
  | tuple hs hv => simp [known] at hk
  | _ =>
    refine ⟨rfl, fun j h1 h2 => ?_⟩
    have : j = 0 := by simp only [Value.cells, List.size_toArray, List.length_cons, List.length_nil] at h1; omega
    subst this
    exact h0

/-- What an abstract block's content says of the world. A block of cells whose third part begins with 0 tells the type of the real block's cells; where it is (0, 0) it is a real block whole. -/
def ObjR (E : Emb) (own : Bool) (l : Loc) (w : World) : Obj → Prop
  | .cells c t q => ∃ c' e fr, w.heap[l.blk]? = some (.cells c' e fr) ∧ l.room = c'.size ∧ l.base + c.size ≤ l.room ∧
      (∀ (i : Nat) (hi : i < c.size), ∃ v', c'[l.base + i]? = some v' ∧ VR E c[i] v') ∧ (own = true → ∀ o, o < l.room → ¬ (fr.1 ≤ o ∧ o < fr.2)) ∧ (q.1 = 0 → e = t) ∧ (q = (0, 0) → l.base = 0 ∧ c'.size = c.size)
  | .map es clock => ∃ es', w.heap[l.blk]? = some (.map es' clock) ∧ l.base = 0 ∧ es.size = es'.size ∧
      ∀ (i : Nat) (h : i < es.size) (h' : i < es'.size), flat es[i].key = true ∧ es'[i].key = es[i].key ∧ es'[i].born = es[i].born ∧ VR E es[i].val es'[i].val
  | .mapIter m since seen last => ∃ m', w.heap[l.blk]? = some (.mapIter m' since seen last) ∧ l.base = 0 ∧ VR E (.map m) (.map m')
  | .stringIter s pos => w.heap[l.blk]? = some (.stringIter s pos) ∧ l.base = 0
  | _ => False

/-- A variable's block, where it is told and not written, is told whole. -/
def WholeV (S : Heap) (g room : Nat) : Prop := ∀ c e f, S[g]? = some ⟨.cells c e f, true, false⟩ → c.size = room

/-- The heap `S`, laid at `E`, describes the world `w`; `ng` package-level variables lie at their own numbers. -/
structure Rel (ng : Nat) (E : Emb) (S : Heap) (w : World) : Prop where
  blk : ∀ id l, E id = some l → ∃ b, S[id]? = some b ∧ l.blk < w.heap.size ∧ (b.live = true → ObjR E b.own l w b.obj)
  apart : ∀ i j li lj bi bj, E i = some li → E j = some lj → S[i]? = some bi → S[j]? = some bj → bi.live = true → bj.live = true → bi.own = true → i ≠ j → li.blk ≠ lj.blk
  glob : ∀ g, g < ng → ∃ room, E g = some ⟨g, 0, room⟩ ∧ WholeV S g room

/-- From one described world to a later one: the first `n` blocks lie where they lay; no block has gone; what was not owned is as it was; what is owned was owned or is new. -/
structure Grow (n : Nat) (E : Emb) (S : Heap) (w : World) (E' : Emb) (S' : Heap) (w' : World) : Prop where
  keep : ∀ id, id < n → E' id = E id
  os : w'.os = w.os
  tape : w'.tape = w.tape
  output : w'.output = w.output
  size : w.heap.size ≤ w'.heap.size
  frame : ∀ b, b < w.heap.size → (∀ id l bl, E id = some l → S[id]? = some bl → bl.live = true → bl.own = true → l.blk ≠ b) → w'.heap[b]? = w.heap[b]?
  owned : ∀ id l bl, E' id = some l → S'[id]? = some bl → bl.live = true → bl.own = true → l.blk < w.heap.size →
    ∃ id0 l0 b0, E id0 = some l0 ∧ S[id0]? = some b0 ∧ b0.live = true ∧ b0.own = true ∧ l0.blk = l.blk

theorem Grow.refl (n : Nat) (E : Emb) (S : Heap) (w : World) : Grow n E S w E S w :=
  ⟨fun _ _ => rfl, rfl, rfl, rfl, Nat.le_refl _, fun _ _ _ => rfl, fun id l bl h1 h2 h3 h4 _ => ⟨id, l, bl, h1, h2, h3, h4, rfl⟩⟩

theorem Grow.trans {n m : Nat} {E E1 E2 : Emb} {S S1 S2 : Heap} {w w1 w2 : World} (hn : n ≤ m) (h : Grow n E S w E1 S1 w1) (h' : Grow m E1 S1 w1 E2 S2 w2) : Grow n E S w E2 S2 w2 where
  keep id hid := (h'.keep id (by omega)).trans (h.keep id hid)
  os := h'.os.trans h.os
  tape := h'.tape.trans h.tape
  output := h'.output.trans h.output
  size := Nat.le_trans h.size h'.size
  frame b hb hno := by
    rw [h'.frame b (Nat.lt_of_lt_of_le hb h.size) ?_, h.frame b hb hno]
    intro id l bl h1 h2 h3 h4 e
    obtain ⟨id0, l0, b0, g1, g2, g3, g4, g5⟩ := h.owned id l bl h1 h2 h3 h4 (e ▸ hb)
    exact hno id0 l0 b0 g1 g2 g3 g4 (g5.trans e)
  owned id l bl h1 h2 h3 h4 hlt := by
    obtain ⟨id0, l0, b0, g1, g2, g3, g4, g5⟩ := h'.owned id l bl h1 h2 h3 h4 (Nat.lt_of_lt_of_le hlt h.size)
    obtain ⟨id1, l1, b1, k1, k2, k3, k4, k5⟩ := h.owned id0 l0 b0 g1 g2 g3 g4 (g5 ▸ hlt)
    exact ⟨id1, l1, b1, k1, k2, k3, k4, k5.trans g5⟩

/-- The abstract frame of a call. -/
structure St where
  tm : List Value
  hp : Heap

def St.get (s : St) (t : Nat) : Value := s.tm.getD t (.tuple #[])

/-- An operand's abstract value; constants with addresses and unknown variables do not occur. -/
def St.ev (ng : Nat) (s : St) : Operand → Value
  | .tmp t => s.tm.getD t (.tuple #[])
  | .const v => if flat v then v else .tuple #[]
  | .global g => if g < ng then .pointer (some ⟨g, 0, none⟩) else .tuple #[]
  | .func f => .func (.func f) #[] #[]

/-- The slots of an abstract frame stand for those of a real one. -/
structure RelT (E : Emb) (tm : List Value) (a : Act) : Prop where
  size : a.tmps.size = tm.length
  slot : ∀ t, VR E (tm.getD t (.tuple #[])) (a.tmps.getD t undef)
  defers : a.defers = []

theorem RelT.ev {ng : Nat} {E : Emb} {S : Heap} {w : World} {s : St} {a : Act} (h : RelT E s.tm a) (hr : Rel ng E S w) (x : Operand) : VR E (s.ev ng x) (a.eval x) := by
  cases x with
  | tmp t => exact h.slot t
  | const v =>
    simp only [St.ev, Act.eval]
    split
    · rename_i hf; exact VR.refl E hf
    · exact .any _
  | global g =>
    simp only [St.ev, Act.eval]
    split
    · rename_i hg
      obtain ⟨room, hE, _⟩ := hr.glob g hg
      have := VR.ptr (E := E) (l := ⟨g, 0, room⟩) 0 hE
      simpa using this
    · exact .any _
  | func f => exact .func _ rfl (fun i hx => by simp at hx)

/-- `tmps` with one slot written. -/
def putT (tm : List Value) (d : Option Nat) (v : Value) : List Value :=
  match d with
  | some d => tm.set d v
  | none => tm

theorem RelT.put {E : Emb} {tm : List Value} {a : Act} (h : RelT E tm a) (d : Option Nat) {v v' : Value} (hv : VR E v v') : RelT E (putT tm d v) (a.put d v') := by
  cases d with
  | none => exact h
  | some d =>
    refine ⟨by simp [Act.put, putT, h.size], fun t => ?_, h.defers⟩
    have hs := h.slot t
    by_cases htd : t = d
    · subst htd
      by_cases hlt : t < tm.length
      · have hlt' : t < a.tmps.size := by rw [h.size]; exact hlt
        simp [Act.put, putT, Array.getD, List.getD, hlt, hlt']
        exact hv
      · have hlt' : ¬ t < a.tmps.size := by rw [h.size]; exact hlt
        simp [Act.put, putT, Array.getD, List.getD, hlt, hlt']
        exact .any _
    · have e1 : (tm.set d v).getD t (.tuple #[]) = tm.getD t (.tuple #[]) := by
        simp [List.getD, Ne.symm htd]
      have e2 : (a.tmps.setIfInBounds d v').getD t undef = a.tmps.getD t undef := by
        simp only [Array.getD_eq_getD_getElem?, Array.getElem?_setIfInBounds, if_neg (Ne.symm htd)]
      simp only [Act.put, putT, e1, e2]
      exact hs

theorem RelT.mono {E E' : Emb} (hE : ∀ id l, E id = some l → E' id = some l) {tm : List Value} {a : Act} (h : RelT E tm a) : RelT E' tm a :=
  ⟨h.size, fun t => (h.slot t).mono hE, h.defers⟩

end Go.Am
