import Derived.Deep.AppendSrc
import Derived.Deep.MidRow
import Derived.Below
import Derived.Deep.Upon
/- An abstract heap that describes a world of the model: definitions and first lemmas. No condition. -/
namespace Go.Am
open Go
set_option linter.unusedSimpArgs false
set_option linter.unusedVariables false

/-- Where an abstract block lies: the block, its first cell, how many cells the real block has. -/
structure Loc where
  blk : Nat
  base : Nat
  room : Nat

abbrev Emb := Nat → Option Loc

/-- An abstract block: what it holds, whether it may be read, whether it may be written. -/
structure Blk where
  obj : Obj
  live : Bool
  own : Bool

abbrev Heap := List Blk

/-- An abstract value and a real one. `.tuple #[]` is 'not known'. A slice's third number is the size of its element in cells. -/
inductive VR (E : Emb) : Value → Value → Prop
  | any (v : Value) : VR E (.tuple #[]) v
  | skipped : VR E (.tuple #[.nilFunc]) (.tuple #[])
  | bool (b : Bool) : VR E (.bool b) (.bool b)
  | int (k : IntKind) (n : Int) : VR E (.int k n) (.int k n)
  | string (s : ByteArray) : VR E (.string s) (.string s)
  | nilPtr : VR E (.pointer none) (.pointer none)
  | ptr {id : Nat} {l : Loc} (off : Nat) (h : E id = some l) : VR E (.pointer (some ⟨id, off, none⟩)) (.pointer (some ⟨l.blk, l.base + off, none⟩))
  | nilSlice : VR E (.slice none 0 0) (.slice none 0 0)
  | hollow (a : Option Addr) (c : Nat) : VR E (.slice (some ⟨0, 0, some 1⟩) 0 0) (.slice a 0 c)
  | zero (a : Option Addr) : VR E (.slice (some ⟨0, 0, some 0⟩) 0 0) (.slice a 0 0)
  | slice {id : Nat} {l : Loc} (off n sz c : Nat) (h : E id = some l) (hc : n ≤ c) (hr : l.base + off + c * sz ≤ l.room) :
      VR E (.slice (some ⟨id, off, none⟩) n sz) (.slice (some ⟨l.blk, l.base + off, none⟩) n c)
  | nilMap : VR E (.map none) (.map none)
  | map {id : Nat} {l : Loc} (h : E id = some l) : VR E (.map (some id)) (.map (some l.blk))
  | nilFunc : VR E .nilFunc .nilFunc
  | func (fn : Fn) {xs ys : Array Value} (hs : xs.size = ys.size) (h : ∀ (i : Nat) (hx : i < xs.size) (hy : i < ys.size), VR E xs[i] ys[i]) :
      VR E (.func fn #[] xs) (.func fn #[] ys)
  | nilIface : VR E .nilIface .nilIface
  | iface (t : TypeId) {x y : Value} (h : VR E x y) : VR E (.iface t x) (.iface t y)
  | agg {xs ys : Array Value} (hs : xs.size = ys.size) (h : ∀ (i : Nat) (hx : i < xs.size) (hy : i < ys.size), VR E xs[i] ys[i]) :
      VR E (.agg xs) (.agg ys)
  | tuple {xs ys : Array Value} (hs : xs.size = ys.size) (h : ∀ (i : Nat) (hx : i < xs.size) (hy : i < ys.size), VR E xs[i] ys[i]) :
      VR E (.tuple xs) (.tuple ys)

theorem VR.mono {E E' : Emb} (hE : ∀ id l, E id = some l → E' id = some l) {v v' : Value} (h : VR E v v') : VR E' v v' := by
  induction h with
  | any v => exact .any v
  | skipped => exact .skipped
  | bool b => exact .bool b
  | int k n => exact .int k n
  | string s => exact .string s
  | nilPtr => exact .nilPtr
  | ptr off h => exact .ptr off (hE _ _ h)
  | nilSlice => exact .nilSlice
  | hollow a c => exact .hollow a c
  | zero a => exact .zero a
  | slice off n sz c h hc hr => exact .slice off n sz c (hE _ _ h) hc hr
  | nilMap => exact .nilMap
  | map h => exact .map (hE _ _ h)
  | nilFunc => exact .nilFunc
  | func fn hs _ ih => exact .func fn hs ih
  | nilIface => exact .nilIface
  | iface t _ ih => exact .iface t ih
  | agg hs _ ih => exact .agg hs ih
  | tuple hs _ ih => exact .tuple hs ih

/-- One cell's value without an address. -/
def flat0 : Value → Bool
  | .bool _ | .int _ _ | .string _ | .pointer none | .slice none 0 0 | .map none | .nilFunc | .nilIface => true
  | .func _ first captured => first.isEmpty && captured.isEmpty
  | _ => false

/-- A value without an address. -/
def flat : Value → Bool
  | .agg cs => cs.all flat0
  | v => flat0 v

theorem VR.refl0 (E : Emb) {v : Value} (h : flat0 v = true) : VR E v v := by
  cases v with
  | bool b => exact .bool b
  | int k n => exact .int k n
  | string s => exact .string s
  | pointer a => cases a with
    | none => exact .nilPtr
    | some a => simp [flat0] at h
  | slice a n c => cases a with
    | none => cases n with
      | zero => cases c with
        | zero => exact .nilSlice
        | succ c => simp [flat0] at h
      | succ n => simp [flat0] at h
    | some a => simp [flat0] at h
  | map r => cases r with
    | none => exact .nilMap
    | some r => simp [flat0] at h
  | nilFunc => exact .nilFunc
  | nilIface => exact .nilIface
  | func fn first captured =>
    simp [flat0] at h
    obtain ⟨rfl, rfl⟩ := h
    exact .func fn rfl (fun i hx => by simp at hx)
  | _ => simp [flat0] at h

theorem VR.refl (E : Emb) {v : Value} (h : flat v = true) : VR E v v := by
  cases v with
  | agg cs =>
    refine .agg rfl fun i hx _ => VR.refl0 E ?_
    exact (Array.all_eq_true.1 h) i hx
  | bool b => exact .refl0 E h
  | int k n => exact .refl0 E h
  | float k b => exact .refl0 E h
  | complex k a b => exact .refl0 E h
  | string s => exact .refl0 E h
  | pointer a => exact .refl0 E h
  | slice a n c => exact .refl0 E h
  | map r => exact .refl0 E h
  | chan r => exact .refl0 E h
  | func fn f c => exact .refl0 E h
  | nilFunc => exact .refl0 E h
  | iface t v => exact .refl0 E h
  | nilIface => exact .refl0 E h
  | tuple vs => exact .refl0 E h

theorem VR.eq0 {E : Emb} {v v' : Value} (h : VR E v v') (hf : flat0 v = true) : v' = v := by
  cases h <;> first | rfl | (simp [flat0] at hf; done) | skip
  next fn xs ys hs h =>
    simp [flat0] at hf
    subst hf
    have : ys = #[] := by apply Array.eq_empty_of_size_eq_zero; simpa using hs.symm
    rw [this]

theorem VR.eq {E : Emb} {v v' : Value} (h : VR E v v') (hf : flat v = true) : v' = v := by
  cases v with
  | agg cs =>
    cases h with
    | agg hs h =>
      congr 1
      apply Array.ext hs.symm
      intro i h1 h2
      exact (h i h2 h1).eq0 (Array.all_eq_true.1 hf i h2)
  | bool b => exact h.eq0 hf
  | int k n => exact h.eq0 hf
  | float k b => exact h.eq0 hf
  | complex k a b => exact h.eq0 hf
  | string s => exact h.eq0 hf
  | pointer a => exact h.eq0 hf
  | slice a n c => exact h.eq0 hf
  | map r => exact h.eq0 hf
  | chan r => exact h.eq0 hf
  | func fn f c => exact h.eq0 hf
  | nilFunc => exact h.eq0 hf
  | iface t v => exact h.eq0 hf
  | nilIface => exact h.eq0 hf
  | tuple vs => exact h.eq0 hf

/-- One-celled abstract values stand for one-celled real ones. -/
theorem VR.oneCell {E : Emb} {v v' : Value} (h : VR E v v') (h1 : v.oneCell' = true) : v'.oneCell' = true := by
  cases h <;> first | rfl | (simp [Value.oneCell'] at h1; done) | exact h1

/-- Is the value known to be one value (not 'not known', not several results)? -/
def known : Value → Bool
  | .tuple _ => false
  | _ => true

theorem VR.cells {E : Emb} {v v' : Value} (h : VR E v v') (hk : known v = true) : v.cells.size = v'.cells.size ∧
    ∀ (j : Nat) (h1 : j < v.cells.size) (h2 : j < v'.cells.size), VR E v.cells[j] v'.cells[j] := by
  have h0 := h
  cases h with
  | agg hs hv => exact ⟨hs, hv⟩
  | any v => simp [known] at hk
  | skipped => simp [known] at hk
  | tuple hs hv => simp [known] at hk
  | _ =>
    refine ⟨rfl, fun j h1 h2 => ?_⟩
    have : j = 0 := by simp only [Value.cells, List.size_toArray, List.length_cons, List.length_nil] at h1; omega
    subst this
    exact h0

/-- What an abstract block's content says of the world. A block of cells whose third part begins with 0 tells the type of the real block's cells; where it is (0, 0) it is a real block whole. -/
def ObjR (E : Emb) (own : Bool) (l : Loc) (w : World) : Obj → Prop
  | .cells c t q => ∃ c' e fr, w.heap[l.blk]? = some (.cells c' e fr) ∧ l.room = c'.size ∧ l.base + c.size ≤ l.room ∧
      (∀ (i : Nat) (hi : i < c.size), ∃ v', c'[l.base + i]? = some v' ∧ VR E c[i] v') ∧ (own = true → ∀ o, o < l.room → ¬ (fr.1 ≤ o ∧ o < fr.2)) ∧ (q.1 = 0 → e = t) ∧ (q = (0, 0) → l.base = 0 ∧ c'.size = c.size)
  | .map es clock => ∃ es', w.heap[l.blk]? = some (.map es' clock) ∧ l.base = 0 ∧ es.size = es'.size ∧
      ∀ (i : Nat) (h : i < es.size) (h' : i < es'.size), flat es[i].key = true ∧ es'[i].key = es[i].key ∧ es'[i].born = es[i].born ∧ VR E es[i].val es'[i].val
  | .mapIter m since seen last => ∃ m', w.heap[l.blk]? = some (.mapIter m' since seen last) ∧ l.base = 0 ∧ VR E (.map m) (.map m')
  | .stringIter s pos => w.heap[l.blk]? = some (.stringIter s pos) ∧ l.base = 0
  | _ => False

/-- A variable's block, where it is told and not written, is told whole. -/
def WholeV (S : Heap) (g room : Nat) : Prop := ∀ c e f, S[g]? = some ⟨.cells c e f, true, false⟩ → c.size = room

/-- The heap `S`, laid at `E`, describes the world `w`; `ng` package-level variables lie at their own numbers. -/
structure Rel (ng : Nat) (E : Emb) (S : Heap) (w : World) : Prop where
  blk : ∀ id l, E id = some l → ∃ b, S[id]? = some b ∧ l.blk < w.heap.size ∧ (b.live = true → ObjR E b.own l w b.obj)
  apart : ∀ i j li lj bi bj, E i = some li → E j = some lj → S[i]? = some bi → S[j]? = some bj → bi.live = true → bj.live = true → bi.own = true → i ≠ j → li.blk ≠ lj.blk
  glob : ∀ g, g < ng → ∃ room, E g = some ⟨g, 0, room⟩ ∧ WholeV S g room

/-- From one described world to a later one: the first `n` blocks lie where they lay; no block has gone; what was not owned is as it was; what is owned was owned or is new. -/
structure Grow (n : Nat) (E : Emb) (S : Heap) (w : World) (E' : Emb) (S' : Heap) (w' : World) : Prop where
  keep : ∀ id, id < n → E' id = E id
  os : w'.os = w.os
  tape : w'.tape = w.tape
  output : w'.output = w.output
  size : w.heap.size ≤ w'.heap.size
  frame : ∀ b, b < w.heap.size → (∀ id l bl, E id = some l → S[id]? = some bl → bl.live = true → bl.own = true → l.blk ≠ b) → w'.heap[b]? = w.heap[b]?
  owned : ∀ id l bl, E' id = some l → S'[id]? = some bl → bl.live = true → bl.own = true → l.blk < w.heap.size →
    ∃ id0 l0 b0, E id0 = some l0 ∧ S[id0]? = some b0 ∧ b0.live = true ∧ b0.own = true ∧ l0.blk = l.blk

theorem Grow.refl (n : Nat) (E : Emb) (S : Heap) (w : World) : Grow n E S w E S w :=
  ⟨fun _ _ => rfl, rfl, rfl, rfl, Nat.le_refl _, fun _ _ _ => rfl, fun id l bl h1 h2 h3 h4 _ => ⟨id, l, bl, h1, h2, h3, h4, rfl⟩⟩

theorem Grow.trans {n m : Nat} {E E1 E2 : Emb} {S S1 S2 : Heap} {w w1 w2 : World} (hn : n ≤ m) (h : Grow n E S w E1 S1 w1) (h' : Grow m E1 S1 w1 E2 S2 w2) : Grow n E S w E2 S2 w2 where
  keep id hid := (h'.keep id (by omega)).trans (h.keep id hid)
  os := h'.os.trans h.os
  tape := h'.tape.trans h.tape
  output := h'.output.trans h.output
  size := Nat.le_trans h.size h'.size
  frame b hb hno := by
    rw [h'.frame b (Nat.lt_of_lt_of_le hb h.size) ?_, h.frame b hb hno]
    intro id l bl h1 h2 h3 h4 e
    obtain ⟨id0, l0, b0, g1, g2, g3, g4, g5⟩ := h.owned id l bl h1 h2 h3 h4 (e ▸ hb)
    exact hno id0 l0 b0 g1 g2 g3 g4 (g5.trans e)
  owned id l bl h1 h2 h3 h4 hlt := by
    obtain ⟨id0, l0, b0, g1, g2, g3, g4, g5⟩ := h'.owned id l bl h1 h2 h3 h4 (Nat.lt_of_lt_of_le hlt h.size)
    obtain ⟨id1, l1, b1, k1, k2, k3, k4, k5⟩ := h.owned id0 l0 b0 g1 g2 g3 g4 (g5 ▸ hlt)
    exact ⟨id1, l1, b1, k1, k2, k3, k4, k5.trans g5⟩

/-- The abstract frame of a call. -/
structure St where
  tm : List Value
  hp : Heap

def St.get (s : St) (t : Nat) : Value := s.tm.getD t (.tuple #[])

/-- An operand's abstract value; constants with addresses and unknown variables do not occur. -/
def St.ev (ng : Nat) (s : St) : Operand → Value
  | .tmp t => s.tm.getD t (.tuple #[])
  | .const v => if flat v then v else .tuple #[]
  | .global g => if g < ng then .pointer (some ⟨g, 0, none⟩) else .tuple #[]
  | .func f => .func (.func f) #[] #[]

/-- The slots of an abstract frame stand for those of a real one. -/
structure RelT (E : Emb) (tm : List Value) (a : Act) : Prop where
  size : a.tmps.size = tm.length
  slot : ∀ t, VR E (tm.getD t (.tuple #[])) (a.tmps.getD t undef)
  defers : a.defers = []

theorem RelT.ev {ng : Nat} {E : Emb} {S : Heap} {w : World} {s : St} {a : Act} (h : RelT E s.tm a) (hr : Rel ng E S w) (x : Operand) : VR E (s.ev ng x) (a.eval x) := by
  cases x with
  | tmp t => exact h.slot t
  | const v =>
    simp only [St.ev, Act.eval]
    split
    · rename_i hf; exact VR.refl E hf
    · exact .any _
  | global g =>
    simp only [St.ev, Act.eval]
    split
    · rename_i hg
      obtain ⟨room, hE, _⟩ := hr.glob g hg
      have := VR.ptr (E := E) (l := ⟨g, 0, room⟩) 0 hE
      simpa using this
    · exact .any _
  | func f => exact .func _ rfl (fun i hx => by simp at hx)

/-- `tmps` with one slot written. -/
def putT (tm : List Value) (d : Option Nat) (v : Value) : List Value :=
  match d with
  | some d => tm.set d v
  | none => tm

theorem RelT.put {E : Emb} {tm : List Value} {a : Act} (h : RelT E tm a) (d : Option Nat) {v v' : Value} (hv : VR E v v') : RelT E (putT tm d v) (a.put d v') := by
  cases d with
  | none => exact h
  | some d =>
    refine ⟨by simp [Act.put, putT, h.size], fun t => ?_, h.defers⟩
    have hs := h.slot t
    by_cases htd : t = d
    · subst htd
      by_cases hlt : t < tm.length
      · have hlt' : t < a.tmps.size := by rw [h.size]; exact hlt
        simp [Act.put, putT, Array.getD, List.getD, hlt, hlt']
        exact hv
      · have hlt' : ¬ t < a.tmps.size := by rw [h.size]; exact hlt
        simp [Act.put, putT, Array.getD, List.getD, hlt, hlt']
        exact .any _
    · have e1 : (tm.set d v).getD t (.tuple #[]) = tm.getD t (.tuple #[]) := by
        simp [List.getD, Ne.symm htd]
      have e2 : (a.tmps.setIfInBounds d v').getD t undef = a.tmps.getD t undef := by
        simp only [Array.getD_eq_getD_getElem?, Array.getElem?_setIfInBounds, if_neg (Ne.symm htd)]
      simp only [Act.put, putT, e1, e2]
      exact hs

theorem RelT.mono {E E' : Emb} (hE : ∀ id l, E id = some l → E' id = some l) {tm : List Value} {a : Act} (h : RelT E tm a) : RelT E' tm a :=
  ⟨h.size, fun t => (h.slot t).mono hE, h.defers⟩

end Go.Am

/- The abstract heap's three moves (a new block, a store, a block put in another's place) and reading, each with what the world does. No condition. -/
namespace Go.Am
open Go
set_option linter.unusedSimpArgs false
set_option linter.unusedVariables false

variable {P : Program} {ng : Nat}

/-- What a pure step of the model comes to. -/
def pur (P : Program) {α : Type} : Sem α → Option α
  | .pure a => some a
  | .program k => pur P (k P)
  | _ => none

theorem pur_run {α : Type} : ∀ (m : Sem α) {a : α}, pur P m = some a → ∀ w, m.run P w = .ok a w
  | .pure _, _, h, w => by simp [pur] at h; subst h; rfl
  | .program k, _, h, w => by simp only [pur] at h; exact pur_run (k P) h w
  | .load .., _, h, _ => by simp [pur] at h
  | .store .., _, h, _ => by simp [pur] at h
  | .new .., _, h, _ => by simp [pur] at h
  | .shape .., _, h, _ => by simp [pur] at h
  | .freeze .., _, h, _ => by simp [pur] at h
  | .frozen .., _, h, _ => by simp [pur] at h
  | .getObj .., _, h, _ => by simp [pur] at h
  | .setObj .., _, h, _ => by simp [pur] at h
  | .choose .., _, h, _ => by simp [pur] at h
  | .sys .., _, h, _ => by simp [pur] at h
  | .mark .., _, h, _ => by simp [pur] at h
  | .halt .., _, h, _ => by simp [pur] at h

theorem ObjR.congr {E : Emb} {own : Bool} {l : Loc} {w w' : World} {o : Obj} (h : ObjR E own l w o) (hw : w'.heap[l.blk]? = w.heap[l.blk]?) : ObjR E own l w' o := by
  cases o <;> simp only [ObjR, hw] at h ⊢ <;> exact h

theorem ObjR.mono {E E' : Emb} (hE : ∀ id l, E id = some l → E' id = some l) {own : Bool} {l : Loc} {w : World} {o : Obj} (h : ObjR E own l w o) : ObjR E' own l w o := by
  cases o with
  | cells c e f =>
    obtain ⟨c', e', fr, h1, h2, h3, h4, h5⟩ := h
    exact ⟨c', e', fr, h1, h2, h3, fun i hi => let ⟨v', a, b⟩ := h4 i hi; ⟨v', a, b.mono hE⟩, h5⟩
  | map es clock =>
    obtain ⟨es', h1, h2, h3, h4⟩ := h
    exact ⟨es', h1, h2, h3, fun i a b => let ⟨p, q, r, s⟩ := h4 i a b; ⟨p, q, r, s.mono hE⟩⟩
  | mapIter m a b c =>
    obtain ⟨m', h1, h2, h3⟩ := h
    exact ⟨m', h1, h2, h3.mono hE⟩
  | stringIter s pos => exact h
  | _ => exact h.elim

theorem Rel.lt {E : Emb} {S : Heap} {w : World} (h : Rel ng E S w) {id : Nat} {l : Loc} (he : E id = some l) : id < S.length := by
  obtain ⟨b, hb, _⟩ := h.blk id l he
  exact (List.getElem?_eq_some_iff.1 hb).1

/-- A world with the same blocks. -/
theorem Rel.same {E : Emb} {S : Heap} {w w' : World} (h : Rel ng E S w) (hw : w'.heap = w.heap) : Rel ng E S w' where
  blk id l he := by
    obtain ⟨b, h1, h2, h3⟩ := h.blk id l he
    exact ⟨b, h1, by rw [hw]; exact h2, fun hl => (h3 hl).congr (by rw [hw])⟩
  apart := h.apart
  glob := h.glob

theorem Rel.drew {E : Emb} {S : Heap} {w : World} (h : Rel ng E S w) : Rel ng E S w.drew := h.same rfl

theorem Grow.drew (n : Nat) (E : Emb) (S : Heap) (w : World) : Grow n E S w E S w.drew :=
  ⟨fun _ _ => rfl, rfl, rfl, rfl, Nat.le_refl _, fun _ _ _ => rfl, fun id l bl h1 h2 h3 h4 _ => ⟨id, l, bl, h1, h2, h3, h4, rfl⟩⟩

/-- The embedding with one new block behind `n`. -/
def Emb.push (E : Emb) (n : Nat) (l : Loc) : Emb := fun id => if id = n then some l else E id

theorem Emb.push_mono {E : Emb} {S : Heap} {w : World} (h : Rel ng E S w) (l : Loc) : ∀ id l0, E id = some l0 → Emb.push E S.length l id = some l0 := by
  intro id l0 he
  have := h.lt he
  simp only [Emb.push]
  rw [if_neg (by omega)]
  exact he

/-- A NEW BLOCK. -/
theorem Rel.push {E : Emb} {S : Heap} {w : World} (h : Rel ng E S w) (b : Blk) (o : Obj) (room : Nat)
    (ho : b.live = true → ObjR (Emb.push E S.length ⟨w.heap.size, 0, room⟩) b.own ⟨w.heap.size, 0, room⟩ (w.alloc o) b.obj) :
    Rel ng (Emb.push E S.length ⟨w.heap.size, 0, room⟩) (S ++ [b]) (w.alloc o) where
  blk id l he := by
    simp only [Emb.push] at he
    split at he
    · rename_i hid
      subst hid
      obtain rfl := Option.some.inj he
      exact ⟨b, by simp, by simp, ho⟩
    · rename_i hid
      obtain ⟨b0, h1, h2, h3⟩ := h.blk id l he
      refine ⟨b0, by rw [List.getElem?_append_left (h.lt he)]; exact h1, by simp; omega, fun hl => ?_⟩
      exact ((h3 hl).mono (Emb.push_mono h _)).congr (RowKit.Below.heap_alloc w o l.blk h2)
  apart i j li lj bi bj hi hj gi gj hli hlj hoi hij := by
    simp only [Emb.push] at hi hj
    split at hi <;> split at hj
    · omega
    · rename_i e1 e2
      obtain rfl := Option.some.inj hi
      obtain ⟨b0, h1, h2, h3⟩ := h.blk j lj hj
      show w.heap.size ≠ lj.blk
      omega
    · rename_i e1 e2
      obtain rfl := Option.some.inj hj
      obtain ⟨b0, h1, h2, h3⟩ := h.blk i li hi
      show li.blk ≠ w.heap.size
      omega
    · rw [List.getElem?_append_left (h.lt hi)] at gi
      rw [List.getElem?_append_left (h.lt hj)] at gj
      exact h.apart i j li lj bi bj hi hj gi gj hli hlj hoi hij
  glob g hg := by
    obtain ⟨r, hr, hw⟩ := h.glob g hg
    exact ⟨r, Emb.push_mono h _ _ _ hr, fun c e f hc => hw c e f (by rw [List.getElem?_append_left (h.lt hr)] at hc; exact hc)⟩

theorem Grow.push {E : Emb} {S : Heap} {w : World} (h : Rel ng E S w) (b : Blk) (o : Obj) (l : Loc) (hl : l.blk = w.heap.size) :
    Grow S.length E S w (Emb.push E S.length l) (S ++ [b]) (w.alloc o) where
  keep id hid := by simp only [Emb.push]; rw [if_neg (by omega)]
  os := rfl
  tape := rfl
  output := rfl
  size := by simp
  frame k hk _ := RowKit.Below.heap_alloc w o k hk
  owned id l0 bl he hs h1 h2 hlt := by
    simp only [Emb.push] at he
    split at he
    · obtain rfl := Option.some.inj he
      omega
    · rw [List.getElem?_append_left (h.lt he)] at hs
      exact ⟨id, l0, bl, he, hs, h1, h2, rfl⟩

/-- A block's content replaced, in the abstract heap and in the world (the real block keeps its size). -/
theorem Rel.set {E : Emb} {S : Heap} {w w' : World} (h : Rel ng E S w) {id : Nat} {l : Loc} {b b' : Blk} (he : E id = some l) (hb : S[id]? = some b)
    (hlive : b.live = true) (hown : b.own = true) (hsz : w'.heap.size = w.heap.size) (hw : ∀ k, k ≠ l.blk → w'.heap[k]? = w.heap[k]?)
    (hown' : b'.own = true) (ho : b'.live = true → ObjR E true l w' b'.obj) : Rel ng E (S.set id b') w' where
  blk i li hi := by
    obtain ⟨b0, h1, h2, h3⟩ := h.blk i li hi
    by_cases hid : i = id
    · subst hid
      obtain rfl : l = li := Option.some.inj (he.symm.trans hi)
      refine ⟨b', by rw [List.getElem?_set_self (h.lt he)], by rw [hsz]; exact h2, fun hl => ?_⟩
      rw [hown']
      exact ho hl
    · refine ⟨b0, by rw [List.getElem?_set_ne (Ne.symm hid)]; exact h1, by rw [hsz]; exact h2, fun hl => (h3 hl).congr ?_⟩
      refine hw _ (Ne.symm ?_)
      exact h.apart id i l li b b0 he hi hb h1 hlive hl hown (Ne.symm hid)
  apart i j li lj bi bj hi hj gi gj hli hlj hoi hij := by
    rcases Decidable.em (i = id) with hii | hii <;> rcases Decidable.em (j = id) with hjj | hjj
    · omega
    · subst hii
      obtain rfl : l = li := Option.some.inj (he.symm.trans hi)
      rw [List.getElem?_set_ne (Ne.symm hjj)] at gj
      exact h.apart i j l lj b bj he hj hb gj hlive hlj hown hij
    · subst hjj
      obtain rfl : l = lj := Option.some.inj (he.symm.trans hj)
      rw [List.getElem?_set_ne (Ne.symm hii)] at gi
      exact h.apart i j li l bi b hi he gi hb hli hlive hoi hij
    · rw [List.getElem?_set_ne (Ne.symm hii)] at gi
      rw [List.getElem?_set_ne (Ne.symm hjj)] at gj
      exact h.apart i j li lj bi bj hi hj gi gj hli hlj hoi hij
  glob g hg := by
    obtain ⟨r, hr, hwv⟩ := h.glob g hg
    refine ⟨r, hr, fun c e f hc => ?_⟩
    by_cases hid : id = g
    · subst hid
      rw [List.getElem?_set_self (h.lt he)] at hc
      obtain rfl := Option.some.inj hc
      cases hown'
    · rw [List.getElem?_set_ne hid] at hc
      exact hwv c e f hc

theorem Grow.set {E : Emb} {S : Heap} {w w' : World} (n : Nat) {id : Nat} {l : Loc} {b b' : Blk} (he : E id = some l) (hb : S[id]? = some b)
    (hlive : b.live = true) (hown : b.own = true) (hsz : w'.heap.size = w.heap.size) (hw : ∀ k, k ≠ l.blk → w'.heap[k]? = w.heap[k]?)
    (hos : w'.os = w.os) (htape : w'.tape = w.tape) (hout : w'.output = w.output) :
    Grow n E S w E (S.set id b') w' where
  keep _ _ := rfl
  os := hos
  tape := htape
  output := hout
  size := by omega
  frame k _ hno := hw k (fun e => hno id l b he hb hlive hown e.symm)
  owned i li bl hi hs h1 h2 hlt := by
    by_cases hid : i = id
    · subst hid
      exact ⟨i, l, b, he, hb, hlive, hown, by rw [Option.some.inj (he.symm.trans hi)]⟩
    · rw [List.getElem?_set_ne (Ne.symm hid)] at hs
      exact ⟨i, li, bl, hi, hs, h1, h2, rfl⟩

/-- A block that is read no more. -/
theorem Rel.kill {E : Emb} {S : Heap} {w : World} (h : Rel ng E S w) (id : Nat) (b' : Blk) (hd : b'.live = false) : Rel ng E (S.set id b') w where
  blk i li hi := by
    obtain ⟨b0, h1, h2, h3⟩ := h.blk i li hi
    by_cases hid : i = id
    · subst hid
      exact ⟨b', by rw [List.getElem?_set_self (h.lt hi)], h2, fun hl => by rw [hd] at hl; cases hl⟩
    · exact ⟨b0, by rw [List.getElem?_set_ne (Ne.symm hid)]; exact h1, h2, h3⟩
  apart i j li lj bi bj hi hj gi gj hli hlj hoi hij := by
    have hii : i ≠ id := by
      rintro rfl
      rw [List.getElem?_set_self (h.lt hi)] at gi
      obtain rfl := Option.some.inj gi
      rw [hd] at hli; cases hli
    have hjj : j ≠ id := by
      rintro rfl
      rw [List.getElem?_set_self (h.lt hj)] at gj
      obtain rfl := Option.some.inj gj
      rw [hd] at hlj; cases hlj
    rw [List.getElem?_set_ne (Ne.symm hii)] at gi
    rw [List.getElem?_set_ne (Ne.symm hjj)] at gj
    exact h.apart i j li lj bi bj hi hj gi gj hli hlj hoi hij
  glob g hg := by
    obtain ⟨r, hr, hwv⟩ := h.glob g hg
    refine ⟨r, hr, fun c e f hc => ?_⟩
    by_cases hid : id = g
    · subst hid
      rw [List.getElem?_set_self (h.lt hr)] at hc
      obtain rfl := Option.some.inj hc
      cases hd
    · rw [List.getElem?_set_ne hid] at hc
      exact hwv c e f hc

theorem Grow.kill {E : Emb} {S : Heap} {w : World} (n : Nat) (id : Nat) (b' : Blk) (hd : b'.live = false) : Grow n E S w E (S.set id b') w where
  keep _ _ := rfl
  os := rfl
  tape := rfl
  output := rfl
  size := Nat.le_refl _
  frame _ _ _ := rfl
  owned i li bl hi hs h1 h2 _ := by
    have hid : i ≠ id := by
      rintro rfl
      rcases Nat.lt_or_ge i S.length with hlt | hge
      · rw [List.getElem?_set_self hlt] at hs
        obtain rfl := Option.some.inj hs
        rw [hd] at h1; cases h1
      · rw [List.getElem?_eq_none (by simpa using hge)] at hs; cases hs
    rw [List.getElem?_set_ne (Ne.symm hid)] at hs
    exact ⟨i, li, bl, hi, hs, h1, h2, rfl⟩

/-! ### Types -/
def aggT (P : Program) (t : TypeId) : Option Bool := (P.underlying t).map fun d => match d with | .struct _ | .array _ _ => true | _ => false
def szT (P : Program) (t : TypeId) : Option Nat := (P.info? t).map (·.size)

theorem run_isAgg {t : TypeId} {b : Bool} (h : aggT P t = some b) (w : World) : (isAgg t).run P w = .ok b w := by
  unfold aggT at h
  cases hu : P.underlying t with
  | none => simp [hu] at h
  | some d =>
    simp only [hu, Option.map_some, Option.some.injEq] at h
    unfold isAgg
    rw [Sem.run_bind, run_underlying hu w]
    cases d <;> simp_all

theorem run_sizeOf {t : TypeId} {n : Nat} (h : szT P t = some n) (w : World) : (sizeOf t).run P w = .ok n w := by
  unfold szT at h
  cases hu : P.info? t with
  | none => simp [hu] at h
  | some d => simp [hu] at h; simp [sizeOf, typeInfo, hu, h]

/-- A part of an aggregate's cells, as a value of type t. -/
def part? (P : Program) (t : TypeId) (cs : Array Value) (off : Nat) : Option Value :=
  match aggT P t, szT P t with
  | some true, some n => if off + n ≤ cs.size then some (.agg (cs.extract off (off + n))) else none
  | some false, some _ => cs[off]?
  | _, _ => none

theorem part_run {E : Emb} {t : TypeId} {cs cs' : Array Value} {off : Nat} {v : Value} (h : part? P t cs off = some v) (hs : cs.size = cs'.size)
    (hv : ∀ (i : Nat) (hx : i < cs.size) (hy : i < cs'.size), VR E cs[i] cs'[i]) : ∃ v', (∀ w, (part t cs' off).run P w = .ok v' w) ∧ VR E v v' := by
  unfold part? at h
  cases ha : aggT P t with
  | none => simp [ha] at h
  | some b =>
    cases hz : szT P t with
    | none => cases b <;> simp [ha, hz] at h
    | some n =>
      cases b with
      | true =>
        simp only [ha, hz] at h
        split at h
        · rename_i hle
          obtain rfl := Option.some.inj h
          refine ⟨.agg (cs'.extract off (off + n)), fun w => by simp [part, Sem.run_bind, run_isAgg ha, run_sizeOf hz], .agg (by simp [hs]) fun i hx hy => ?_⟩
          simp only [Array.getElem_extract]
          exact hv _ _ _
        · cases h
      | false =>
        simp only [ha, hz] at h
        obtain ⟨hlt, rfl⟩ := Array.getElem?_eq_some_iff.1 h
        refine ⟨cs'[off]'(by omega), fun w => ?_, hv _ _ _⟩
        simp [part, Sem.run_bind, run_isAgg ha, Array.getElem?_eq_getElem (show off < cs'.size by omega)]

/-- Reading a variable of type t through a pointer. -/
def load? (P : Program) (S : Heap) (t : TypeId) : Value → Option Value
  | .pointer (some ⟨id, off, none⟩) =>
    match S[id]? with
    | some ⟨.cells c _ _, true, _⟩ => part? P t c off
    | _ => none
  | _ => none

theorem load_run {E : Emb} {S : Heap} {w : World} {t : TypeId} {p p' v : Value} (h : load? P S t p = some v) (hr : Rel ng E S w) (hp : VR E p p') :
    ∃ v', (Instr.loadAt t p').run P w = .ok v' w ∧ VR E v v' := by
  unfold load? at h
  split at h
  · rename_i id off
    split at h
    · rename_i c e f own hb
      cases hp with
      | ptr _ he =>
        rename_i l
        obtain ⟨b, hb', hlt, ho⟩ := hr.blk id l he
        rw [hb] at hb'
        obtain rfl := Option.some.inj hb'
        obtain ⟨c', e', fr, hw, hroom, hbase, hcell, _⟩ := ho rfl
        have hc : ∀ i (hi : i < c.size), ∃ v', w.cell? ⟨l.blk, l.base + i, none⟩ = some v' ∧ VR E c[i] v' := by
          intro i hi
          obtain ⟨v', h1, h2⟩ := hcell i hi
          exact ⟨v', by simp [World.cell?, hw, h1], h2⟩
        unfold part? at h
        cases ha : aggT P t with
        | none => simp [ha] at h
        | some b =>
          cases hz : szT P t with
          | none => cases b <;> simp [ha, hz] at h
          | some n =>
            cases b with
            | false =>
              simp only [ha, hz] at h
              obtain ⟨hi, rfl⟩ := Array.getElem?_eq_some_iff.1 h
              obtain ⟨v', h1, h2⟩ := hc off hi
              refine ⟨v', ?_, h2⟩
              simp [Instr.loadAt, Instr.sureAddr, loadVar, Sem.run_bind, run_isAgg ha, h1]
            | true =>
              simp only [ha, hz] at h
              split at h
              · rename_i hle
                obtain rfl := Option.some.inj h
                have hlen : (c'.extract (l.base + off) (l.base + off + n)).size = n := by simp; omega
                refine ⟨.agg (c'.extract (l.base + off) (l.base + off + n)), ?_, .agg (by simp; omega) ?_⟩
                · have hu : ∃ d, P.underlying t = some d ∧ d.isRow = true := by
                    unfold aggT at ha
                    cases hu : P.underlying t with
                    | none => simp [hu] at ha
                    | some d => refine ⟨d, rfl, ?_⟩; simp [hu] at ha; cases d <;> simp_all
                  obtain ⟨d, hu, hd⟩ := hu
                  have := run_loadAt_mid (P := P) w l.blk (l.base + off) t (c'.extract (l.base + off) (l.base + off + n)).toList d ?_ hu hd ?_
                  · rw [Array.toArray_toList] at this; exact this
                  · intro j v hj
                    have : c'[l.base + off + j]? = some v := by
                      have hj' : (c'.extract (l.base + off) (l.base + off + n))[j]? = some v := by rw [Array.getElem?_toList] at hj; exact hj
                      rw [Array.getElem?_extract] at hj'
                      split at hj'
                      · exact hj'
                      · cases hj'
                    simp [World.cell?, hw, this]
                  · rw [Array.length_toList, hlen]; exact hz
                · intro i hx hy
                  simp only [Array.getElem_extract]
                  have hi : off + i < c.size := by simp at hx; omega
                  obtain ⟨v', h1, h2⟩ := hcell (off + i) hi
                  have : c'[l.base + off + i]'(by simp at hy; omega) = v' := by
                    have := (Array.getElem?_eq_some_iff.1 h1).2
                    rw [← this]; congr 1; omega
                  rw [this]; exact h2
              · cases h
    · cases h
  · cases h

end Go.Am

/- The abstract meaning of operations that touch no memory, and those that make or write blocks of known cells. No condition. -/
namespace Go.Am
open Go
set_option linter.unusedSimpArgs false
set_option linter.unusedVariables false

variable {P : Program} {ng : Nat}

/-- What running one operation comes to. -/
def Does (P : Program) (ng : Nat) (E : Emb) (S : Heap) (w : World) (m : Sem Next) (v : Value) (S' : Heap) : Prop :=
  ∃ nx v' E' w', m.run P w = .ok nx w' ∧ (nx = .value v' ∨ (nx = .skip ∧ v' = undef)) ∧ Rel ng E' S' w' ∧ VR E' v v' ∧ Grow S.length E S w E' S' w'

theorem Does.same {E : Emb} {S : Heap} {w : World} {m : Sem Value} {v v' : Value} (hr : Rel ng E S w) (hm : m.run P w = .ok v' w) (hv : VR E v v') :
    Does P ng E S w (do pure (Next.value (← m))) v S :=
  ⟨_, v', E, w, by simp [hm], .inl rfl, hr, hv, Grow.refl _ _ _ _⟩

theorem Does.value {E E' : Emb} {S S' : Heap} {w w' : World} {m : Sem Value} {v v' : Value} (hr : Rel ng E' S' w') (hm : m.run P w = .ok v' w') (hv : VR E' v v') (hg : Grow S.length E S w E' S' w') :
    Does P ng E S w (do pure (Next.value (← m))) v S' :=
  ⟨_, v', E', w', by simp [hm], .inl rfl, hr, hv, hg⟩

theorem Does.unit {E E' : Emb} {S S' : Heap} {w w' : World} {m : Sem Unit} (hr : Rel ng E' S' w') (hm : m.run P w = .ok () w') (hg : Grow S.length E S w E' S' w') :
    Does P ng E S w (do m; pure Next.skip) (.tuple #[]) S' :=
  ⟨_, undef, E', w', by simp [hm], .inr ⟨rfl, rfl⟩, hr, .any _, hg⟩

/-- A pure step whose answer has no address. -/
def purF (P : Program) (m : Sem Value) : Option Value :=
  match pur P m with
  | some v => if flat v then some v else none
  | none => none

theorem purF_run {m : Sem Value} {v : Value} (h : purF P m = some v) (w : World) : m.run P w = .ok v w ∧ flat v = true := by
  unfold purF at h
  split at h
  · rename_i u hu
    split at h
    · rename_i hf; obtain rfl := Option.some.inj h; exact ⟨pur_run m hu w, hf⟩
    · cases h
  · cases h

/-! ### Binary operators -/
def bin? (P : Program) (op : BinOp) (t : TypeId) (x y : Operand) (a b : Value) : Option Value :=
  if flat a && flat b then purF P (do eqGuard op t x y a b; binOp op t a b)
  else match op, P.underlying t, a, b with
    | .eql, some (.pointer _), .pointer (some _), .pointer none => some (.bool false)
    | .neq, some (.pointer _), .pointer (some _), .pointer none => some (.bool true)
    | .eql, some (.interface _), .iface _ _, .nilIface => some (.bool false)
    | .neq, some (.interface _), .iface _ _, .nilIface => some (.bool true)
    | .eql, some (.slice _), .slice (some ⟨_, _, none⟩) _ _, .slice none _ _ => some (.bool false)
    | .neq, some (.slice _), .slice (some ⟨_, _, none⟩) _ _, .slice none _ _ => some (.bool true)
    | _, _, _, _ => none

theorem eqIn_ptr_nil {t e : TypeId} (hu : P.underlying t = some (.pointer e)) (d : Nat) (a : Addr) (w : World) : (Op.equalIn (d + 1) t (.pointer (some a)) (.pointer none)).run P w = .ok false w := by
  simp [Op.equalIn, run_underlying hu]
theorem eqIn_iface_nil {t : TypeId} {ms : Array (String × TypeId)} (hu : P.underlying t = some (.interface ms)) (d : Nat) (u : TypeId) (x : Value) (w : World) : (Op.equalIn (d + 1) t (.iface u x) .nilIface).run P w = .ok false w := by
  simp [Op.equalIn, run_underlying hu]
theorem eqIn_slice_nil {t e : TypeId} (hu : P.underlying t = some (.slice e)) (d : Nat) (a : Addr) (n c n' c' : Nat) (w : World) : (Op.equalIn (d + 1) t (.slice (some a) n c) (.slice none n' c')).run P w = .ok false w := by
  simp [Op.equalIn, run_underlying hu]

theorem run_eql_of {t : TypeId} {a b : Value} {w : World} (h : ∀ d, (Op.equalIn (d + 1) t a b).run P w = .ok false w) : (Op.equal t a b).run P w = .ok false w := h 9999

theorem bin_run {E : Emb} {op : BinOp} {t : TypeId} {x y : Operand} {a b a' b' v : Value} (h : bin? P op t x y a b = some v) (ha : VR E a a') (hb : VR E b b') (w : World) :
    (do eqGuard op t x y a' b'; binOp op t a' b' : Sem Value).run P w = .ok v w ∧ VR E v v := by
  unfold bin? at h
  split at h
  · rename_i hf
    simp only [Bool.and_eq_true] at hf
    obtain rfl := ha.eq hf.1
    obtain rfl := hb.eq hf.2
    exact ⟨(purF_run h w).1, VR.refl E (purF_run h w).2⟩
  · split at h
    · rename_i e ad hu hnf
      obtain rfl := Option.some.inj h
      refine ⟨?_, .bool _⟩
      cases ha with | ptr off he =>
      cases hb
      show (Sem.bind (.pure ()) fun _ => (do pure (.bool (← Op.equal t _ _)) : Sem Value)).run P w = _
      simp only [Sem.bind, Sem.run_bind, run_eql_of (fun d => eqIn_ptr_nil (P := P) hu d _ w), Result.andThen_ok, Sem.run_pure]
    · rename_i e ad hu hnf
      obtain rfl := Option.some.inj h
      refine ⟨?_, .bool _⟩
      cases ha with | ptr off he =>
      cases hb
      show (Sem.bind (.pure ()) fun _ => (do pure (.bool (!(← Op.equal t _ _))) : Sem Value)).run P w = _
      simp only [Sem.bind, Sem.run_bind, run_eql_of (fun d => eqIn_ptr_nil (P := P) hu d _ w), Result.andThen_ok, Sem.run_pure, Bool.not_false]
    · rename_i ms u z hu hnf
      obtain rfl := Option.some.inj h
      refine ⟨?_, .bool _⟩
      cases ha with | iface _ hz =>
      cases hb
      show (Sem.bind (.pure ()) fun _ => (do pure (.bool (← Op.equal t _ _)) : Sem Value)).run P w = _
      simp only [Sem.bind, Sem.run_bind, run_eql_of (fun d => eqIn_iface_nil (P := P) hu d _ _ w), Result.andThen_ok, Sem.run_pure]
    · rename_i ms u z hu hnf
      obtain rfl := Option.some.inj h
      refine ⟨?_, .bool _⟩
      cases ha with | iface _ hz =>
      cases hb
      show (Sem.bind (.pure ()) fun _ => (do pure (.bool (!(← Op.equal t _ _))) : Sem Value)).run P w = _
      simp only [Sem.bind, Sem.run_bind, run_eql_of (fun d => eqIn_iface_nil (P := P) hu d _ _ w), Result.andThen_ok, Sem.run_pure, Bool.not_false]
    · rename_i e id0 off0 n c _ _ hu hnf
      obtain rfl := Option.some.inj h
      refine ⟨?_, .bool _⟩
      cases ha with | slice off _ sz c he hc hr =>
      cases hb
      show (Sem.bind (.pure ()) fun _ => (do pure (.bool (← Op.equal t _ _)) : Sem Value)).run P w = _
      simp only [Sem.bind, Sem.run_bind, run_eql_of (fun d => eqIn_slice_nil (P := P) hu d _ _ _ _ _ w), Result.andThen_ok, Sem.run_pure]
    · rename_i e id0 off0 n c _ _ hu hnf
      obtain rfl := Option.some.inj h
      refine ⟨?_, .bool _⟩
      cases ha with | slice off _ sz c he hc hr =>
      cases hb
      show (Sem.bind (.pure ()) fun _ => (do pure (.bool (!(← Op.equal t _ _))) : Sem Value)).run P w = _
      simp only [Sem.bind, Sem.run_bind, run_eql_of (fun d => eqIn_slice_nil (P := P) hu d _ _ _ _ _ w), Result.andThen_ok, Sem.run_pure, Bool.not_false]
    · cases h

/-! ### Structs by value -/
def field? (P : Program) (t : TypeId) (x : Value) (f : Nat) : Option Value :=
  match P.underlying t, x with
  | some (.struct fs), .agg cs => match fs[f]? with
    | some fd => part? P fd.type cs fd.offset
    | none => none
  | _, _ => none

theorem field_run {E : Emb} {t : TypeId} {x x' v : Value} {f : Nat} (h : field? P t x f = some v) (hx : VR E x x') :
    ∃ v', (∀ w, (Instr.field t x' f).run P w = .ok v' w) ∧ VR E v v' := by
  unfold field? at h
  split at h
  · rename_i fs cs hu
    split at h
    · rename_i fd hf
      cases hx with
      | agg hs hv =>
        obtain ⟨v', h1, h2⟩ := part_run h hs hv
        exact ⟨v', fun w => by simp [Instr.field, run_underlying hu, hf, asAgg, h1], h2⟩
    · cases h
  · cases h

/-- Parts laid into cells: abstract and real go alike. -/
theorem fold_put {E : Emb} (off : Nat) : ∀ (l l' : List (Value × Nat)) (cs cs' : Array Value), l.length = l'.length →
    (∀ i (h : i < l.length) (h' : i < l'.length), l[i].2 = l'[i].2 ∧ VR E l[i].1 l'[i].1) → cs.size = cs'.size →
    (∀ (i : Nat) (hx : i < cs.size) (hy : i < cs'.size), VR E cs[i] cs'[i]) →
    (l.foldl (fun cs (x : Value × Nat) => cs.setIfInBounds (off + x.2) x.1) cs).size = (l'.foldl (fun cs (x : Value × Nat) => cs.setIfInBounds (off + x.2) x.1) cs').size ∧
    ∀ (i : Nat) (hx : i < (l.foldl (fun cs (x : Value × Nat) => cs.setIfInBounds (off + x.2) x.1) cs).size) (hy : i < (l'.foldl (fun cs (x : Value × Nat) => cs.setIfInBounds (off + x.2) x.1) cs').size),
      VR E (l.foldl (fun cs (x : Value × Nat) => cs.setIfInBounds (off + x.2) x.1) cs)[i] (l'.foldl (fun cs (x : Value × Nat) => cs.setIfInBounds (off + x.2) x.1) cs')[i]
  | [], [], _, _, _, _, hs, hv => ⟨hs, hv⟩
  | [], _ :: _, _, _, hl, _, _, _ => by simp at hl
  | _ :: _, [], _, _, hl, _, _, _ => by simp at hl
  | (v, j) :: r, (v', j') :: r', cs, cs', hl, hp, hs, hv => by
    have h0 := hp 0 (by simp) (by simp)
    simp only [List.getElem_cons_zero] at h0
    obtain ⟨rfl, hvv⟩ := h0
    refine fold_put off r r' (cs.setIfInBounds (off + j) v) (cs'.setIfInBounds (off + j) v') (by simpa using hl) ?_ (by simpa using hs) ?_
    · intro i h h'
      have := hp (i + 1) (by simp; omega) (by simp; omega)
      simpa using this
    · intro i hx hy
      simp only [Array.size_setIfInBounds] at hx hy
      rw [Array.getElem_setIfInBounds hx, Array.getElem_setIfInBounds hy]
      split
      · exact hvv
      · exact hv _ _ _

theorem fill_run {E : Emb} (place : Nat → Option (Nat × Nat)) : ∀ (parts parts' : List (Nat × Value)) (cs cs' c : Array Value), parts.length = parts'.length →
    (∀ i (h : i < parts.length) (h' : i < parts'.length), parts[i].1 = parts'[i].1 ∧ VR E parts[i].2 parts'[i].2 ∧ known parts[i].2 = true) → cs.size = cs'.size →
    (∀ (i : Nat) (hx : i < cs.size) (hy : i < cs'.size), VR E cs[i] cs'[i]) → Instr.fill place cs parts = some c →
    ∃ c', Instr.fill place cs' parts' = some c' ∧ c.size = c'.size ∧ ∀ (i : Nat) (hx : i < c.size) (hy : i < c'.size), VR E c[i] c'[i]
  | [], [], cs, cs', c, _, _, hs, hv, h => by
    simp only [Instr.fill, Option.some.injEq] at h
    subst h
    exact ⟨cs', rfl, hs, hv⟩
  | [], _ :: _, _, _, _, hl, _, _, _, _ => by simp at hl
  | _ :: _, [], _, _, _, hl, _, _, _, _ => by simp at hl
  | (i, v) :: r, (i', v') :: r', cs, cs', c, hl, hp, hs, hv, h => by
    have h0 := hp 0 (by simp) (by simp)
    simp only [List.getElem_cons_zero] at h0
    obtain ⟨rfl, hvv, hk⟩ := h0
    obtain ⟨hcs, hcell⟩ := hvv.cells hk
    simp only [Instr.fill] at h ⊢
    cases hp' : place i with
    | none => simp [hp'] at h
    | some os =>
      obtain ⟨off, size⟩ := os
      simp only [hp', ← hcs, ← hs] at h ⊢
      split at h
      · cases h
      · rename_i hno
        rw [if_neg hno]
        have hz1 : v.cells.zipIdx.toList.length = v'.cells.zipIdx.toList.length := by simp [hcs]
        have hf := fold_put (E := E) off v.cells.zipIdx.toList v'.cells.zipIdx.toList cs cs' hz1 (by
          intro j h1 h2
          simp only [Array.length_toList, Array.size_zipIdx] at h1 h2
          simp only [Array.getElem_toList, Array.getElem_zipIdx]
          exact ⟨trivial, hcell j h1 h2⟩) hs hv
        simp only [← Array.foldl_toList] at h ⊢
        exact fill_run place r r' _ _ c (by simpa using hl) (by
          intro j h1 h2
          have := hp (j + 1) (by simp; omega) (by simp; omega)
          simpa using this) hf.1 hf.2 h

/-- Where a struct's fields lie. -/
def places (P : Program) (fs : Array Field) : Option (Array (Nat × Nat)) := fs.mapM fun f => (szT P f.type).map fun n => (f.offset, n)

theorem run_mapM_list {α β : Type} (w : World) (f : α → Sem β) (g : α → Option β) (hfg : ∀ a b, g a = some b → (f a).run P w = .ok b w) :
    ∀ (l : List α) (r : List β), l.mapM g = some r → (l.mapM f).run P w = .ok r w
  | [], r, h => by simp at h; subst h; rfl
  | a :: l, r, h => by
    simp only [List.mapM_cons, Option.bind_eq_bind, Option.pure_def, Option.bind_eq_some_iff, Option.some.injEq] at h
    obtain ⟨b, hb, r', hr', rfl⟩ := h
    simp [List.mapM_cons, hfg a b hb, run_mapM_list w f g hfg l r' hr']

theorem run_places {fs : Array Field} {ps : Array (Nat × Nat)} (h : places P fs = some ps) (w : World) :
    (fs.mapM fun f => Prod.mk f.offset <$> sizeOf f.type : Sem (Array (Nat × Nat))).run P w = .ok ps w := by
  unfold places at h
  rw [Array.mapM_eq_mapM_toList] at h ⊢
  cases hl : fs.toList.mapM (fun f => (szT P f.type).map fun n => (f.offset, n)) with
  | none => simp [hl] at h
  | some l =>
    simp only [hl, Option.map_eq_map, Option.map_some, Option.some.injEq] at h
    have := run_mapM_list (P := P) w (fun f : Field => (Prod.mk f.offset <$> sizeOf f.type : Sem (Nat × Nat))) (fun f => (szT P f.type).map fun n => (f.offset, n)) (by
      intro f b hb
      simp only [Option.map_eq_some_iff] at hb
      obtain ⟨n, hn, rfl⟩ := hb
      simp [run_sizeOf hn]) fs.toList l hl
    simp [this, h]

def build? (P : Program) (t : TypeId) (parts : Array (Nat × Value)) : Option Value :=
  match P.underlying t, (P.info? t).bind (·.zero) with
  | some (.struct fs), some z =>
    match places P fs with
    | some ps => if flat z && parts.all (fun x => known x.2) then (Instr.fill (ps[·]?) z.cells parts.toList).map .agg else none
    | none => none
  | _, _ => none

theorem flat_cells {E : Emb} {z : Value} (h : flat z = true) : ∀ (i : Nat) (hx : i < z.cells.size), VR E z.cells[i] z.cells[i] := by
  intro i hx
  cases z with
  | agg cs => exact VR.refl0 E (Array.all_eq_true.1 h i hx)
  | bool b => simp [Value.cells] at hx; subst hx; exact VR.refl0 E h
  | int k n => simp [Value.cells] at hx; subst hx; exact VR.refl0 E h
  | float k b => simp [Value.cells] at hx; subst hx; exact VR.refl0 E h
  | complex k a b => simp [Value.cells] at hx; subst hx; exact VR.refl0 E h
  | string s => simp [Value.cells] at hx; subst hx; exact VR.refl0 E h
  | pointer a => simp [Value.cells] at hx; subst hx; exact VR.refl0 E h
  | slice a n c => simp [Value.cells] at hx; subst hx; exact VR.refl0 E h
  | map r => simp [Value.cells] at hx; subst hx; exact VR.refl0 E h
  | chan r => simp [Value.cells] at hx; subst hx; exact VR.refl0 E h
  | func fn f c => simp [Value.cells] at hx; subst hx; exact VR.refl0 E h
  | nilFunc => simp [Value.cells] at hx; subst hx; exact VR.refl0 E h
  | iface t v => simp [Value.cells] at hx; subst hx; exact VR.refl0 E h
  | nilIface => simp [Value.cells] at hx; subst hx; exact VR.refl0 E h
  | tuple vs => simp [flat, flat0] at h

theorem run_zero {t : TypeId} {z : Value} (h : (P.info? t).bind (·.zero) = some z) (w : World) : (zeroValue t).run P w = .ok z w := by
  cases hi : P.info? t with
  | none => simp [hi] at h
  | some i =>
    simp [hi] at h
    simp [zeroValue, typeInfo, hi, h]

theorem build_run {E : Emb} {t : TypeId} {parts parts' : Array (Nat × Value)} {v : Value} (h : build? P t parts = some v) (hs : parts.size = parts'.size)
    (hp : ∀ i (h : i < parts.size) (h' : i < parts'.size), parts[i].1 = parts'[i].1 ∧ VR E parts[i].2 parts'[i].2) :
    ∃ v', (∀ w, (Instr.build t parts').run P w = .ok v' w) ∧ VR E v v' := by
  unfold build? at h
  split at h
  · rename_i fs z hu hz
    split at h
    · rename_i ps hps
      split at h
      · rename_i hf
        simp only [Bool.and_eq_true] at hf
        simp only [Option.map_eq_some_iff] at h
        obtain ⟨c, hc, rfl⟩ := h
        obtain ⟨c', h1, h2, h3⟩ := fill_run (E := E) (ps[·]?) parts.toList parts'.toList z.cells z.cells c (by simpa using hs) (by
          intro i h1 h2
          simp only [Array.length_toList] at h1 h2
          simp only [Array.getElem_toList]
          exact ⟨(hp i h1 h2).1, (hp i h1 h2).2, (Array.all_eq_true.1 hf.2) i h1⟩) rfl (fun i hx _ => flat_cells hf.1 i hx) hc
        refine ⟨.agg c', fun w => ?_, .agg h2 h3⟩
        simp [Instr.build, run_zero hz, run_underlying hu, run_places hps, h1]
      · cases h
    · cases h
  · cases h

/-! ### Addresses -/
def fieldAddr? (P : Program) (t : TypeId) (x : Value) (f : Nat) : Option Value :=
  match P.underlying t, x with
  | some (.struct fs), .pointer (some ⟨id, off, none⟩) => match fs[f]? with
    | some fd => match szT P fd.type with
      | some (_ + 1) => some (.pointer (some ⟨id, off + fd.offset, none⟩))
      | _ => none
    | none => none
  | _, _ => none

theorem fieldAddr_run {E : Emb} {t : TypeId} {x x' v : Value} {f : Nat} (h : fieldAddr? P t x f = some v) (hx : VR E x x') :
    ∃ v', (∀ w, (Instr.fieldAt t x' f).run P w = .ok v' w) ∧ VR E v v' := by
  unfold fieldAddr? at h
  split at h
  · rename_i fs id off hu
    split at h
    · rename_i fd hf
      split at h
      · rename_i n hn
        obtain rfl := Option.some.inj h
        cases hx with
        | ptr _ he =>
          rename_i l
          have := VR.ptr (E := E) (off + fd.offset) he
          refine ⟨_, fun w => ?_, this⟩
          simp [Instr.fieldAt, run_underlying hu, hf, Instr.sureAddr, fieldPlace, run_sizeOf hn, Addr.add_mid, Nat.add_assoc]
      · cases h
    · cases h
  · cases h

def indexAddr? (P : Program) (t : TypeId) (x i : Value) : Option Value :=
  match P.underlying t, x, i with
  | some (.slice e), .slice (some ⟨id, off, none⟩) n sz, .int _ j =>
    if 0 ≤ j ∧ j < n ∧ szT P e = some sz then some (.pointer (some ⟨id, off + j.toNat * sz, none⟩)) else none
  | some (.array n e), .pointer (some ⟨id, off, none⟩), .int _ j =>
    match szT P e with
    | some sz => if 0 ≤ j ∧ j < n then some (.pointer (some ⟨id, off + j.toNat * sz, none⟩)) else none
    | none => none
  | _, _, _ => none

theorem indexAddr_run {E : Emb} {t : TypeId} {x x' i i' v : Value} (h : indexAddr? P t x i = some v) (hx : VR E x x') (hi : VR E i i') :
    ∃ v', (∀ w, (Instr.indexAt t x' i').run P w = .ok v' w) ∧ VR E v v' := by
  unfold indexAddr? at h
  split at h
  · rename_i e id off n sz k j hu
    split at h
    · rename_i hc
      obtain ⟨h0, h1, h2⟩ := hc
      obtain rfl := Option.some.inj h
      cases hi
      cases hx with
      | slice _ _ _ c he hc hr =>
        rename_i l
        have := VR.ptr (E := E) (off + j.toNat * sz) he
        refine ⟨_, fun w => ?_, this⟩
        have hcc : 0 ≤ j ∧ j < (n : Int) := ⟨h0, h1⟩
        simp [Instr.indexAt, asIntOf, run_underlying hu, hcc, run_sizeOf h2, Addr.add_mid, Nat.add_assoc]
    · cases h
  · rename_i n e id off k j hu
    split at h
    · rename_i sz hz
      split at h
      · rename_i hc
        obtain rfl := Option.some.inj h
        cases hi
        cases hx with
        | ptr _ he =>
          rename_i l
          have := VR.ptr (E := E) (off + j.toNat * sz) he
          refine ⟨_, fun w => ?_, this⟩
          simp [Instr.indexAt, asIntOf, run_underlying hu, Instr.sureAddr, hc, run_sizeOf hz, Addr.add_mid, Nat.add_assoc]
      · cases h
    · cases h
  · cases h

end Go.Am

/- The abstract meaning of stores, new blocks, slicing, append and copy, each with what the model does. No condition. -/
namespace Go.Am
open Go
set_option linter.unusedSimpArgs false
set_option linter.unusedVariables false

variable {P : Program} {ng : Nat}

/-- Cells written one behind the other. -/
def setL (c : Array Value) : Nat → List Value → Array Value
  | _, [] => c
  | o, v :: r => setL (c.setIfInBounds o v) (o + 1) r

theorem setL_size : ∀ (vs : List Value) (c : Array Value) (o : Nat), (setL c o vs).size = c.size
  | [], _, _ => rfl
  | v :: r, c, o => by simp [setL, setL_size r]

theorem setL_get : ∀ (vs : List Value) (c : Array Value) (o i : Nat), o + vs.length ≤ c.size → (setL c o vs)[i]? = if o ≤ i ∧ i < o + vs.length then vs[i - o]? else c[i]?
  | [], c, o, i, _ => by simp [setL]; omega
  | v :: r, c, o, i, h => by
    simp only [List.length_cons] at h
    rw [setL, setL_get r _ (o + 1) i (by simp; omega)]
    by_cases hi : i = o
    · subst hi
      rw [if_neg (by omega), if_pos (by simp)]
      simp [Array.getElem?_setIfInBounds]
      omega
    · by_cases h1 : o + 1 ≤ i ∧ i < o + 1 + r.length
      · rw [if_pos h1, if_pos (by simp only [List.length_cons]; omega), show i - o = (i - (o + 1)) + 1 by omega]
        simp
      · rw [if_neg h1, if_neg (by simp only [List.length_cons]; omega)]
        simp [Array.getElem?_setIfInBounds, Ne.symm hi]

theorem heap_setCells (b : Nat) (e : TypeId) (fr : Nat × Nat) : ∀ (vs : List Value) (o : Nat) (w : World) (c : Array Value), w.heap[b]? = some (.cells c e fr) →
    (w.setCells b o vs).heap[b]? = some (.cells (setL c o vs) e fr)
  | [], _, _, _, h => h
  | v :: r, o, w, c, h => by
    refine heap_setCells b e fr r (o + 1) (w.setCell ⟨b, o, none⟩ v) (c.setIfInBounds o v) ?_
    simp [World.setCell, Array.getElem?_modify, h]

theorem size_setCells (b : Nat) : ∀ (vs : List Value) (o : Nat) (w : World), (w.setCells b o vs).heap.size = w.heap.size
  | [], _, _ => rfl
  | v :: r, o, w => by
    have := size_setCells b r (o + 1) (w.setCell ⟨b, o, none⟩ v)
    simp only [World.setCells, this]
    simp [World.setCell]

theorem other_setCells (b : Nat) : ∀ (vs : List Value) (o : Nat) (w : World) (k : Nat), k ≠ b → (w.setCells b o vs).heap[k]? = w.heap[k]?
  | [], _, _, _, _ => rfl
  | v :: r, o, w, k, hk => by
    have := other_setCells b r (o + 1) (w.setCell ⟨b, o, none⟩ v) k hk
    simp only [World.setCells, this]
    exact RowKit.Below.heap_setCell w ⟨b, o, none⟩ v k hk

theorem os_setCells (b : Nat) : ∀ (vs : List Value) (o : Nat) (w : World), (w.setCells b o vs).os = w.os ∧ (w.setCells b o vs).tape = w.tape ∧ (w.setCells b o vs).output = w.output
  | [], _, _ => ⟨rfl, rfl, rfl⟩
  | v :: r, o, w => by
    have := os_setCells b r (o + 1) (w.setCell ⟨b, o, none⟩ v)
    simp only [World.setCells]
    exact this

/-- What the world must be for cells to be written, out of the description of an owned block. -/
theorem ObjR.writable {E : Emb} {l : Loc} {w : World} {c : Array Value} {e0 : TypeId} {f0 : Nat × Nat} (h : ObjR E true l w (.cells c e0 f0)) (o n : Nat) (ho : o + n ≤ l.room) :
    (∀ j, j < n → (w.cell? ⟨l.blk, o + j, none⟩).isSome = true) ∧ (∀ j, j < n → w.frozen? ⟨l.blk, o + j, none⟩ = false) := by
  obtain ⟨c', e', fr, hw, hroom, hbase, hcell, hfr, -⟩ := h
  refine ⟨fun j hj => ?_, fun j hj => ?_⟩
  · simp only [World.cell?, hw]
    simp; omega
  · have := hfr rfl (o + j) (by omega)
    simp only [World.frozen?, hw]
    simp only [Bool.and_eq_false_iff, decide_eq_false_iff_not]
    omega

/-- Cells of an owned block written: block and description go alike. -/
theorem setCells_rel {E : Emb} {S : Heap} {w : World} (hr : Rel ng E S w) {id : Nat} {l : Loc} {c : Array Value} {e : TypeId} {f : Nat × Nat} (he : E id = some l)
    (hb : S[id]? = some ⟨.cells c e f, true, true⟩) (off : Nat) (vs vs' : List Value) (hoff : off + vs.length ≤ c.size) (hlen : vs.length = vs'.length)
    (hv : ∀ i (h : i < vs.length) (h' : i < vs'.length), VR E vs[i] vs'[i]) :
    Rel ng E (S.set id ⟨.cells (setL c off vs) e f, true, true⟩) (w.setCells l.blk (l.base + off) vs') ∧
      ∀ n, Grow n E S w E (S.set id ⟨.cells (setL c off vs) e f, true, true⟩) (w.setCells l.blk (l.base + off) vs') := by
  obtain ⟨b, hb', hlt, ho⟩ := hr.blk id l he
  rw [hb] at hb'
  obtain rfl := Option.some.inj hb'
  obtain ⟨c', e', fr, hw, hroom, hbase, hcell, hfr⟩ := ho rfl
  have hos := os_setCells l.blk vs' (l.base + off) w
  refine ⟨hr.set he hb rfl rfl (size_setCells _ _ _ _) (fun k hk => other_setCells _ _ _ _ k hk) rfl fun _ => ?_,
    fun n => Grow.set n he hb rfl rfl (size_setCells _ _ _ _) (fun k hk => other_setCells _ _ _ _ k hk) hos.1 hos.2.1 hos.2.2⟩
  refine ⟨_, e', fr, heap_setCells l.blk e' fr vs' (l.base + off) w c' hw, by rw [setL_size]; exact hroom, by rw [setL_size]; exact hbase, fun i hi => ?_, hfr.1, hfr.2.1, fun hq => by rw [setL_size, setL_size]; exact hfr.2.2 hq⟩
  rw [setL_size] at hi
  rw [setL_get _ _ _ _ (by omega)]
  have hgi : (setL c off vs)[i]? = some ((setL c off vs)[i]'(by rw [setL_size]; exact hi)) := Array.getElem?_eq_getElem _
  rw [setL_get _ _ _ _ hoff] at hgi
  by_cases hin : off ≤ i ∧ i < off + vs.length
  · rw [if_pos hin] at hgi
    rw [if_pos (by omega), show l.base + i - (l.base + off) = i - off by omega]
    refine ⟨vs'[i - off]'(by omega), List.getElem?_eq_getElem _, ?_⟩
    have : (setL c off vs)[i]'(by rw [setL_size]; exact hi) = vs[i - off]'(by omega) := by
      rw [List.getElem?_eq_getElem (by omega)] at hgi
      exact (Option.some.inj hgi).symm
    rw [this]
    exact hv _ _ _
  · rw [if_neg hin] at hgi
    rw [if_neg (by omega)]
    obtain ⟨v', h1, h2⟩ := hcell i hi
    refine ⟨v', h1, ?_⟩
    have : (setL c off vs)[i]'(by rw [setL_size]; exact hi) = c[i] := by
      rw [Array.getElem?_eq_getElem hi] at hgi
      exact (Option.some.inj hgi).symm
    rw [this]
    exact h2

/-- All one-celled. -/
def ones (vs : List Value) : Bool := vs.all (·.oneCell')

theorem ones_real {E : Emb} {vs vs' : List Value} (h : ones vs = true) (hlen : vs.length = vs'.length) (hv : ∀ i (h : i < vs.length) (h' : i < vs'.length), VR E vs[i] vs'[i]) : ∀ v ∈ vs', v.oneCell' = true := by
  intro v hv'
  obtain ⟨i, hi, rfl⟩ := List.getElem_of_mem hv'
  exact (hv i (by omega) hi).oneCell ((List.all_eq_true.1 h) _ (List.getElem_mem _))

/-- A store through a pointer. -/
def store? (P : Program) (S : Heap) (t : TypeId) (p v : Value) : Option Heap :=
  match p with
  | .pointer (some ⟨id, off, none⟩) =>
    match S[id]? with
    | some ⟨.cells c e f, true, true⟩ =>
      if szT P t = some v.cells.size ∧ off + v.cells.size ≤ c.size ∧ known v = true ∧ ones v.cells.toList = true then some (S.set id ⟨.cells (setL c off v.cells.toList) e f, true, true⟩) else none
    | _ => none
  | _ => none

theorem store_run {E : Emb} {S S' : Heap} {w : World} {t : TypeId} {p p' v v' : Value} (h : store? P S t p v = some S') (hr : Rel ng E S w) (hp : VR E p p') (hv : VR E v v') :
    ∃ w', (Instr.storeAt t p' v').run P w = .ok () w' ∧ Rel ng E S' w' ∧ Grow S.length E S w E S' w' := by
  unfold store? at h
  split at h
  · rename_i id off
    split at h
    · rename_i c e f hb
      split at h
      · rename_i hc
        obtain ⟨hsz, hle, hk, h1⟩ := hc
        obtain rfl := Option.some.inj h
        cases hp with
        | ptr _ he =>
          rename_i l
          obtain ⟨hcs, hcv⟩ := hv.cells hk
          have hpw : ∀ i (h : i < v.cells.toList.length) (h' : i < v'.cells.toList.length), VR E v.cells.toList[i] v'.cells.toList[i] := by
            intro i a b
            simp only [Array.length_toList] at a b
            simp only [Array.getElem_toList]
            exact hcv i a b
          obtain ⟨g1, g2⟩ := setCells_rel hr he hb off v.cells.toList v'.cells.toList (by simpa using hle) (by simpa using hcs) hpw
          refine ⟨_, ?_, g1, g2 _⟩
          obtain ⟨b, hb', hlt, ho⟩ := hr.blk id l he
          rw [hb] at hb'
          obtain rfl := Option.some.inj hb'
          have ho' := ho rfl
          obtain ⟨hw1, hw2⟩ := ObjR.writable ho' (l.base + off) v'.cells.size (by
            obtain ⟨c', e', fr, hw, hroom, hbase, hcell, hfr⟩ := ho'
            omega)
          have hrun := run_storeCells_cells (P := P) l.blk (l.base + off) v'.cells.toList 0 w (fun j hj => by simpa using hw1 j (by simpa using hj)) (fun j hj => by simpa using hw2 j (by simpa using hj))
            (ones_real h1 (by simpa using hcs) hpw)
          simp only [Nat.add_zero] at hrun
          have hsz' : szT P t = some v'.cells.size := by rw [hsz, hcs]
          simp [Instr.storeAt, Instr.sureAddr, storeVar, run_sizeOf hsz', hrun]
      · cases h
    · cases h
  · cases h

/-! ### New blocks -/
theorem alloc_eq (w : World) (o : Obj) : ({ w with heap := w.heap.push o } : World) = w.alloc o := rfl

/-- A new row of cells. -/
theorem newRow_rel {E : Emb} {S : Heap} {w : World} (hr : Rel ng E S w) (c c' : Array Value) (e : TypeId) (f fr : Nat × Nat) (own : Bool) (hs : c.size ≤ c'.size)
    (hv : ∀ (i : Nat) (hx : i < c.size) (hy : i < c'.size), VR E c[i] c'[i]) (hfr : ∀ o, o < c'.size → ¬ (fr.1 ≤ o ∧ o < fr.2)) (hex : f = (0, 0) → c'.size = c.size) :
    Rel ng (Emb.push E S.length ⟨w.heap.size, 0, c'.size⟩) (S ++ [⟨.cells c e f, true, own⟩]) (w.alloc (.cells c' e fr)) ∧
      Grow S.length E S w (Emb.push E S.length ⟨w.heap.size, 0, c'.size⟩) (S ++ [⟨.cells c e f, true, own⟩]) (w.alloc (.cells c' e fr)) := by
  refine ⟨hr.push _ _ _ fun _ => ⟨c', e, fr, ?_, rfl, by simpa using hs, fun i hi => ⟨c'[i]'(by omega), ?_, (hv i hi (by omega)).mono (Emb.push_mono hr _)⟩, fun _ => hfr, fun _ => rfl, fun hq => ⟨rfl, hex hq⟩⟩, Grow.push hr _ _ _ rfl⟩
  · show (w.heap.push _)[w.heap.size]? = _
    simp
  · simp [Array.getElem?_eq_getElem (show i < c'.size by omega)]

theorem push_self (E : Emb) (n : Nat) (l : Loc) : Emb.push E n l n = some l := by simp [Emb.push]

/-- An element type's zero value and cells. -/
def zero? (P : Program) (t : TypeId) : Option Value := (P.info? t).bind fun i => i.zero

def ptrTo (S : Heap) : Value := .pointer (some ⟨S.length, 0, none⟩)

def alloc? (P : Program) (S : Heap) (t : TypeId) : Option (Value × Heap) :=
  match zero? P t with
  | some z => if flat z then some (ptrTo S, S ++ [⟨.cells z.cells t (0, 0), true, true⟩]) else none
  | none => none

theorem alloc_run {E : Emb} {S S' : Heap} {w : World} {t : TypeId} {v : Value} (h : alloc? P S t = some (v, S')) (hr : Rel ng E S w) :
    ∃ v' E' w', (Instr.alloc t true (.tuple #[])).run P w = .ok v' w' ∧ Rel ng E' S' w' ∧ VR E' v v' ∧ Grow S.length E S w E' S' w' := by
  unfold alloc? at h
  split at h
  · rename_i z hz
    split at h
    · rename_i hf
      obtain ⟨rfl, rfl⟩ := Prod.mk.inj (Option.some.inj h)
      obtain ⟨g1, g2⟩ := newRow_rel hr z.cells z.cells t (0, 0) (0, 0) true (Nat.le_refl _) (fun i hx _ => flat_cells hf i hx) (fun o _ => by omega) (fun _ => rfl)
      refine ⟨.pointer (some ⟨w.heap.size, 0, none⟩), _, _, ?_, g1, ?_, g2⟩
      · simp [Instr.alloc, run_zero hz, newVar, newRow, alloc_eq]
      · exact VR.ptr (l := ⟨w.heap.size, 0, z.cells.size⟩) 0 (push_self _ _ _)
    · cases h
  · cases h

def box? (S : Heap) (t : TypeId) (x : Value) : Option (Value × Heap) :=
  if known x then some (ptrTo S, S ++ [⟨.cells x.cells t (0, 0), true, true⟩]) else none

theorem box_run {E : Emb} {S S' : Heap} {w : World} {t : TypeId} {x x' v : Value} (h : box? S t x = some (v, S')) (hr : Rel ng E S w) (hx : VR E x x') :
    ∃ v' E' w', (Instr.box t x').run P w = .ok v' w' ∧ Rel ng E' S' w' ∧ VR E' v v' ∧ Grow S.length E S w E' S' w' := by
  unfold box? at h
  split at h
  · rename_i hk
    obtain ⟨rfl, rfl⟩ := Prod.mk.inj (Option.some.inj h)
    obtain ⟨hcs, hcv⟩ := hx.cells hk
    obtain ⟨g1, g2⟩ := newRow_rel hr x.cells x'.cells t (0, 0) (0, 0) true (by omega) hcv (fun o _ => by omega) (fun _ => by omega)
    refine ⟨.pointer (some ⟨w.heap.size, 0, none⟩), _, _, ?_, g1, ?_, g2⟩
    · simp [Instr.box, newVar, newRow, alloc_eq]
    · exact VR.ptr (l := ⟨w.heap.size, 0, x'.cells.size⟩) 0 (push_self _ _ _)
  · cases h

/-- The zero cells of n elements. -/
def zerosOf (z : Array Value) (n : Nat) : Array Value := (Array.range n).map (z[· % z.size]!)

theorem zerosOf_vr {E : Emb} {z : Value} (h : flat z = true) (n : Nat) (hz : 0 < z.cells.size) : ∀ (i : Nat) (hx : i < (zerosOf z.cells n).size), VR E (zerosOf z.cells n)[i] (zerosOf z.cells n)[i] := by
  intro i hx
  have hm : i % z.cells.size < z.cells.size := Nat.mod_lt _ hz
  have : (zerosOf z.cells n)[i] = z.cells[i % z.cells.size] := by
    simp [zerosOf, getElem!_pos, hm]
  rw [this]
  exact flat_cells h _ hm

def buildSlice? (P : Program) (S : Heap) (t : TypeId) (len : Nat) (parts : Array (Nat × Value)) : Option (Value × Heap) :=
  match P.underlying t with
  | some (.slice e) =>
    match zero? P e, szT P e with
    | some z, some sz =>
      if flat z ∧ 0 < z.cells.size ∧ z.cells.size = sz ∧ len * sz ≤ 2 ^ 24 ∧ parts.all (fun x => known x.2) = true then
        match Instr.fill (fun i => some (i * sz, sz)) (if len * sz = 0 then #[] else zerosOf z.cells (len * sz)) parts.toList with
        | some c => some (.slice (some ⟨S.length, 0, none⟩) len sz, S ++ [⟨.cells c e (0, 0), true, true⟩])
        | none => none
      else none
    | _, _ => none
  | _ => none

theorem fold_size (off : Nat) : ∀ (l : List (Value × Nat)) (cs : Array Value), (l.foldl (fun cs (x : Value × Nat) => cs.setIfInBounds (off + x.2) x.1) cs).size = cs.size
  | [], _ => rfl
  | x :: xs, cs => by simp only [List.foldl_cons]; rw [fold_size off xs]; simp

theorem fill_size (place : Nat → Option (Nat × Nat)) : ∀ (parts : List (Nat × Value)) (cs c : Array Value), Instr.fill place cs parts = some c → c.size = cs.size
  | [], cs, c, h => by simp only [Instr.fill, Option.some.injEq] at h; rw [h]
  | (i, v) :: r, cs, c, h => by
    simp only [Instr.fill] at h
    split at h
    · cases h
    · split at h
      · cases h
      · rw [fill_size place r _ c h]
        rename_i off size _ _
        rw [← Array.foldl_toList]
        generalize v.cells.zipIdx.toList = l
        exact fold_size off l cs

theorem buildSlice_run {E : Emb} {S S' : Heap} {w : World} {t : TypeId} {len : Nat} {parts parts' : Array (Nat × Value)} {v : Value} (h : buildSlice? P S t len parts = some (v, S')) (hr : Rel ng E S w)
    (hs : parts.size = parts'.size) (hp : ∀ i (h : i < parts.size) (h' : i < parts'.size), parts[i].1 = parts'[i].1 ∧ VR E parts[i].2 parts'[i].2) :
    ∃ v' E' w', (Instr.buildSlice t len parts').run P w = .ok v' w' ∧ Rel ng E' S' w' ∧ VR E' v v' ∧ Grow S.length E S w E' S' w' := by
  unfold buildSlice? at h
  split at h
  · rename_i e hu
    split at h
    · rename_i z sz hz hsz
      split at h
      · rename_i hc
        obtain ⟨hf, hpos, hzs, hle, hk⟩ := hc
        split at h
        · rename_i c hfill
          obtain ⟨rfl, rfl⟩ := Prod.mk.inj (Option.some.inj h)
          have hcell0 : ∀ (i : Nat) (hx : i < (if len * sz = 0 then #[] else zerosOf z.cells (len * sz)).size) (hy : i < (if len * sz = 0 then #[] else zerosOf z.cells (len * sz)).size),
              VR E (if len * sz = 0 then #[] else zerosOf z.cells (len * sz))[i] (if len * sz = 0 then #[] else zerosOf z.cells (len * sz))[i] := by
            intro i hx hy
            split
            · simp_all
            · exact zerosOf_vr hf _ hpos i _
          obtain ⟨c', h1, h2, h3⟩ := fill_run (E := E) (fun i => some (i * sz, sz)) parts.toList parts'.toList _ _ c (by simpa using hs) (by
            intro i h1 h2
            simp only [Array.length_toList] at h1 h2
            simp only [Array.getElem_toList]
            exact ⟨(hp i h1 h2).1, (hp i h1 h2).2, (Array.all_eq_true.1 hk) i h1⟩) rfl hcell0 hfill
          have hsize : c'.size = len * sz := by
            rw [fill_size _ _ _ _ h1]
            split
            · simp_all
            · simp [zerosOf]
          obtain ⟨g1, g2⟩ := newRow_rel hr c c' e (0, 0) (0, 0) true (by omega) h3 (fun o _ => by omega) (fun _ => by omega)
          refine ⟨.slice (some ⟨w.heap.size, 0, none⟩) len len, _, _, ?_, g1, ?_, g2⟩
          · have hno : ¬ (16777216 < len * sz) := by
              have : (2:Nat) ^ 24 = 16777216 := rfl
              omega
            by_cases h0 : len * sz = 0
            · rw [if_pos h0] at h1
              have hl0 : len = 0 := by
                rcases Nat.mul_eq_zero.1 h0 with h | h
                · exact h
                · omega
              subst hl0
              simp [Instr.buildSlice, run_underlying hu, run_sizeOf hsz, show Array.range 0 = #[] from rfl, h1, newRow, alloc_eq]
            · rw [if_neg h0] at h1
              simp only [zerosOf] at h1
              simp [Instr.buildSlice, run_underlying hu, run_sizeOf hsz, run_zero hz, h0, hno, h1, newRow, alloc_eq]
          · exact VR.slice (l := ⟨w.heap.size, 0, c'.size⟩) 0 len sz len (push_self _ _ _) (Nat.le_refl _) (by simp; omega)
        · cases h
      · cases h
    · cases h
  · cases h

end Go.Am
