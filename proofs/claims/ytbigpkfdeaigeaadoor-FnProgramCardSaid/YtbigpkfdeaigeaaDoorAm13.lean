/- The abstract operations as rewrites in passing style: what is handed on is not looked at again. No rewrite holds by computation alone in the simplifier's eye ('opq'), so that a test is settled before its branches are looked at. No condition. -/
import Derived.Test.YtbigpkfdeaigeaaDoorAm19
namespace Go.Am
open Go
set_option linter.unusedSimpArgs false
set_option linter.unusedVariables false

variable {P : Program} {ng n : Nat}

/-! ### Values -/
section
variable {k : IntKind} {i : Int} {b : Bool} {r : ByteArray} {a : Option Addr} {m c : Nat} {f : Fn} {x y v : Value} {cs xs ys : Array Value} {t : TypeId}
theorem extract_at {i : Nat} (h : 2 ≤ xs.size) : extract? (.tuple xs) i = xs[i]? := by simp [extract?, h]
theorem un_not' : un? P .not (.bool b) = some (.bool !b) := opq rfl
theorem un_neg' : un? P .neg (.int k i) = some (.int k (k.wrap (0 - i))) := opq (by cases k <;> rfl)
end

/-! ### Memory -/
section
variable {S T : Heap} {t e : TypeId} {z v x : Value} {id off sz m : Nat} {c cs : Array Value} {own : Bool} {f : Nat × Nat} {k : IntKind} {j : Int} {n1 n2 : Nat}
def part1 (a : Option Bool) (n : Option Nat) (cs : Array Value) (off : Nat) : Option Value :=
  match a, n with
  | some true, some n => if off + n ≤ cs.size then some (.agg (cs.extract off (off + n))) else none
  | some false, some _ => cs[off]?
  | _, _ => none
theorem part_of : part? P t cs off = part1 (aggT P t) (szT P t) cs off := opq rfl
theorem part1_agg (h : off + m ≤ cs.size) : part1 (some true) (some m) cs off = some (.agg (cs.extract off (off + m))) := by simp [part1, h]
def ldB (P : Program) (t : TypeId) (off : Nat) (b : Option Blk) : Option Value :=
  match b with
  | some ⟨.cells c _ _, true, _⟩ => part? P t c off
  | _ => none
theorem load_ptr : load? P S t (.pointer (some ⟨id, off, none⟩)) = ldB P t off S[id]? := opq rfl
def stB (S : Heap) (id off : Nat) (n : Option Nat) (v : Value) (b : Option Blk) : Option Heap :=
  match b with
  | some ⟨.cells c e f, true, true⟩ =>
    if n = some v.cells.size ∧ off + v.cells.size ≤ c.size ∧ known v = true ∧ ones v.cells.toList = true then some (S.set id ⟨.cells (setL c off v.cells.toList) e f, true, true⟩) else none
  | _ => none
theorem store_ptr : store? P S t (.pointer (some ⟨id, off, none⟩)) v = stB S id off (szT P t) v S[id]? := opq rfl
def indexAddrZ (P : Program) (d : Option TypeDesc) (x i : Value) : Option Value :=
  match d, x, i with
  | some (.slice e), .slice (some ⟨id, off, none⟩) n sz, .int _ j =>
    if 0 ≤ j ∧ j < n ∧ szT P e = some sz then some (.pointer (some ⟨id, off + j.toNat * sz, none⟩)) else none
  | some (.array n e), .pointer (some ⟨id, off, none⟩), .int _ j =>
    match szT P e with
    | some sz => if 0 ≤ j ∧ j < n then some (.pointer (some ⟨id, off + j.toNat * sz, none⟩)) else none
    | none => none
  | _, _, _ => none
theorem indexAddr_of {i : Value} : indexAddr? P t x i = indexAddrZ P (P.underlying t) x i := opq (by unfold indexAddr? indexAddrZ; rfl)
theorem indexAddrZ_slice (h : szT P e = some sz) (h0 : 0 ≤ j) (h1 : j < (m : Int)) : indexAddrZ P (some (.slice e)) (.slice (some ⟨id, off, none⟩) m sz) (.int k j) = some (.pointer (some ⟨id, off + j.toNat * sz, none⟩)) := by
  simp [indexAddrZ, h, h0, h1]

def indexZ (P : Program) (d : Option TypeDesc) (x i : Value) : Option Value :=
  match d, x, i with
  | some .string, .string s, .int _ j => if 0 ≤ j then (s.data[j.toNat]?).map fun b => .int .u8 b.toNat else none
  | some (.array n e), .agg cs, .int _ j =>
    match szT P e with
    | some sz => if 0 ≤ j ∧ j < n then part? P e cs (j.toNat * sz) else none
    | none => none
  | _, _, _ => none
theorem index_of {i : Value} : index? P t x i = indexZ P (P.underlying t) x i := opq (by unfold index? indexZ; rfl)
theorem indexZ_str {l : List UInt8} (h0 : 0 ≤ j) : indexZ P (some .string) (.string ⟨⟨l⟩⟩) (.int k j) = (l[j.toNat]?).map fun b => .int .u8 b.toNat := by
  simp [indexZ, h0]

/-! ### Slices of strings and slices -/
def sliceZ (P : Program) (d : Option TypeDesc) (x : Value) (lo hi mx : Option Value) : Option Value :=
  match d, x with
  | some .string, .string s =>
    match natOf? lo, natOf? hi, mx with
    | some l, some h, none => if l.getD 0 ≤ h.getD s.size ∧ h.getD s.size ≤ s.size then some (.string (s.extract (l.getD 0) (h.getD s.size))) else none
    | _, _, _ => none
  | some (.slice e), .slice a n sz =>
    match szT P e, natOf? lo, natOf? hi, natOf? mx with
    | some s, some l, some h, some m => if l.getD 0 ≤ h.getD n ∧ h.getD n ≤ n ∧ h.getD n ≤ m.getD n ∧ (m.isNone || h.isSome) = true then cut? s a n sz (l.getD 0) (h.getD n) m else none
    | _, _, _, _ => none
  | _, _ => none
theorem slice_of {lo hi mx : Option Value} : slice? P t x lo hi mx = sliceZ P (P.underlying t) x lo hi mx := opq (by unfold slice? sliceZ; rfl)
theorem extract_str (l : List UInt8) (a b : Nat) : (⟨⟨l⟩⟩ : ByteArray).extract a b = ⟨⟨(l.take b).drop a⟩⟩ := by
  rw [ByteArray.ext_iff, ByteArray.data_extract]
  simp [List.drop_take]
theorem append_str (l r : List UInt8) : (⟨⟨l⟩⟩ : ByteArray) ++ ⟨⟨r⟩⟩ = ⟨⟨l ++ r⟩⟩ := by
  rw [ByteArray.ext_iff, ByteArray.data_append]
  simp
theorem str_eq (l r : List UInt8) : ((⟨⟨l⟩⟩ : ByteArray) = ⟨⟨r⟩⟩) ↔ l = r := by simp [ByteArray.ext_iff]
theorem str_size (l : List UInt8) : (⟨⟨l⟩⟩ : ByteArray).size = l.length := opq rfl
/-- A string's end is cut off: s[a:]. -/
theorem sliceZ_from {l : List UInt8} (h0 : 0 ≤ j) (h1 : j ≤ l.length) : sliceZ P (some .string) (.string ⟨⟨l⟩⟩) (some (.int k j)) none none = some (.string ⟨⟨l.drop j.toNat⟩⟩) := by
  have : j.toNat ≤ l.length := by omega
  simp [sliceZ, natOf?, h0, str_size, this, extract_str]
theorem sliceZ_to {l : List UInt8} (h0 : 0 ≤ j) (h1 : j ≤ l.length) : sliceZ P (some .string) (.string ⟨⟨l⟩⟩) none (some (.int k j)) none = some (.string ⟨⟨l.take j.toNat⟩⟩) := by
  have : j.toNat ≤ l.length := by omega
  simp [sliceZ, natOf?, h0, str_size, this, extract_str]
theorem sliceZ_mid {l : List UInt8} {k' : IntKind} {j' : Int} (h0 : 0 ≤ j) (h1 : j ≤ j') (h2 : j' ≤ l.length) :
    sliceZ P (some .string) (.string ⟨⟨l⟩⟩) (some (.int k j)) (some (.int k' j')) none = some (.string ⟨⟨(l.take j'.toNat).drop j.toNat⟩⟩) := by
  have a1 : j'.toNat ≤ l.length := by omega
  have a2 : j.toNat ≤ j'.toNat := by omega
  have a3 : 0 ≤ j' := by omega
  simp [sliceZ, natOf?, h0, a3, str_size, a1, a2, extract_str]

def lenZ (S : Heap) (d : Option TypeDesc) (x : Value) : Option Value :=
  match d, x with
  | some .string, .string s => some (.int .i64 s.size)
  | some (.slice _), .slice _ n _ => some (.int .i64 n)
  | some (.map _ _), .map none => some (.int .i64 0)
  | some (.map _ _), .map (some id) =>
    match S[id]? with
    | some ⟨.map es _, true, _⟩ => some (.int .i64 es.size)
    | _ => none
  | _, _ => none
theorem len_of : len? P S t x = lenZ S (P.underlying t) x := opq (by unfold len? lenZ; rfl)
theorem omap_some {α β : Type} {f : α → β} {a : α} : (some a).map f = some (f a) := opq rfl
end

/-! ### Strings as lists -/
section
variable {t : TypeId} {x y : Operand} {l r : List UInt8}
theorem bin_leql : bin? P .eql t x y (.string ⟨⟨l⟩⟩) (.string ⟨⟨r⟩⟩) = some (.bool (decide (l = r))) := by rw [bin_seql]; simp [str_eq]
theorem bin_lneq : bin? P .neq t x y (.string ⟨⟨l⟩⟩) (.string ⟨⟨r⟩⟩) = some (.bool (!decide (l = r))) := by rw [bin_sneq]; simp [str_eq]
theorem bin_ladd (h : l.length + r.length ≤ 9223372036854775807) : bin? P .add t x y (.string ⟨⟨l⟩⟩) (.string ⟨⟨r⟩⟩) = some (.string ⟨⟨l ++ r⟩⟩) := by
  rw [bin_sadd (by simpa [str_size] using h), append_str]
end

/-! ### Tests are parted into their atoms, so that what is known of an atom is known -/
section
variable {x y : Prop} {p q : Bool} {a b : Prop} [Decidable a] [Decidable b]
theorem ifA_not : ifA (!p) x y = ifA p y x := by cases p <;> rfl
theorem ifA_and : ifA (p && q) x y = ifA p (ifA q x y) y := by cases p <;> rfl
theorem ifA_or : ifA (p || q) x y = ifA p x (ifA q x y) := by cases p <;> rfl
theorem ifA_dnot : ifA (decide (¬ a)) x y = ifA (decide a) y x := by by_cases h : a <;> simp [h, ifA]
theorem ifA_dand : ifA (decide (a ∧ b)) x y = ifA (decide a) (ifA (decide b) x y) y := by by_cases h : a <;> by_cases h' : b <;> simp [h, h', ifA]
theorem ifA_dor : ifA (decide (a ∨ b)) x y = ifA (decide a) x (ifA (decide b) x y) := by by_cases h : a <;> by_cases h' : b <;> simp [h, h', ifA]
end

/-! ### Operands and slots -/
/-- Slot t, handed on. -/
def goG (tm : List Value) (t : Nat) (k : Value → Prop) (_ : Tag k := .mk) : Prop := k (tm.getD t (.tuple #[]))
/-- An operand, handed on. -/
def goE (ng : Nat) (x : Operand) (tm : List Value) (hp : Heap) (k : Value → Prop) (_ : Tag k := .mk) : Prop := k (St.ev ng ⟨tm, hp⟩ x)
def goEs (ng : Nat) : List Operand → List Value → Heap → (List Value → Prop) → Prop
  | [], _, _, k => k []
  | x :: l, tm, hp, k => goE ng x tm hp fun v => goEs ng l tm hp fun vs => k (v :: vs)
def goPs (ng : Nat) : List (Nat × Operand) → List Value → Heap → (List (Nat × Value) → Prop) → Prop
  | [], _, _, k => k []
  | (i, x) :: l, tm, hp, k => goE ng x tm hp fun v => goPs ng l tm hp fun vs => k ((i, v) :: vs)
theorem goEs_eq : ∀ (l : List Operand) (tm : List Value) (hp : Heap) (k : List Value → Prop), goEs ng l tm hp k = k (l.map (St.ev ng ⟨tm, hp⟩))
  | [], _, _, _ => rfl
  | x :: l, tm, hp, k => by simp only [goEs, goE, goEs_eq l, List.map_cons]
theorem goPs_eq : ∀ (l : List (Nat × Operand)) (tm : List Value) (hp : Heap) (k : List (Nat × Value) → Prop), goPs ng l tm hp k = k (l.map fun x => (x.1, St.ev ng ⟨tm, hp⟩ x.2))
  | [], _, _, _ => rfl
  | (i, x) :: l, tm, hp, k => by simp only [goPs, goE, goPs_eq l, List.map_cons]
section
variable {a0 a1 a2 a3 a4 a5 a6 a7 v : Value} {l tm : List Value} {t g f i : Nat} {hp : Heap} {k : Value → Prop} {ks : List Value → Prop} {kp : List (Nat × Value) → Prop} {ki : IntKind} {n : Int} {x : Operand} {xs : List Operand} {ps : List (Nat × Operand)}
theorem goG_z : goG (a0 :: l) 0 k = k a0 := opq rfl
theorem goG_s : goG (a0 :: l) (t + 1) k = goG l t k := opq rfl
theorem goG_8 : goG (a0 :: a1 :: a2 :: a3 :: a4 :: a5 :: a6 :: a7 :: l) (t + 8) k = goG l t k := opq rfl
theorem goE_tmp : goE ng (.tmp t) tm hp k = goG tm t k := opq rfl
theorem goE_int : goE ng (.const (.int ki n)) tm hp k = k (.int ki n) := opq rfl
theorem goE_bool {b : Bool} : goE ng (.const (.bool b)) tm hp k = k (.bool b) := opq rfl
theorem goE_str {r : ByteArray} : goE ng (.const (.string r)) tm hp k = k (.string r) := opq rfl
theorem goE_nilp : goE ng (.const (.pointer none)) tm hp k = k (.pointer none) := opq rfl
theorem goE_nils : goE ng (.const (.slice none 0 0)) tm hp k = k (.slice none 0 0) := opq rfl
theorem goE_nilm : goE ng (.const (.map none)) tm hp k = k (.map none) := opq rfl
theorem goE_nilf : goE ng (.const .nilFunc) tm hp k = k .nilFunc := opq rfl
theorem goE_nili : goE ng (.const .nilIface) tm hp k = k .nilIface := opq rfl
theorem goE_agg {l : List Value} (h : l.all flat0 = true) : goE ng (.const (.agg l.toArray)) tm hp k = k (.agg l.toArray) := by simp [goE, St.ev, flat, h]
theorem goE_func : goE ng (.func f) tm hp k = k (.func (.func f) #[] #[]) := opq rfl
theorem goE_global (h : g < ng) : goE ng (.global g) tm hp k = k (.pointer (some ⟨g, 0, none⟩)) := by simp [goE, St.ev, h]
theorem goEs_nil : goEs ng [] tm hp ks = ks [] := opq rfl
theorem goEs_cons : goEs ng (x :: xs) tm hp ks = goE ng x tm hp fun v => goEs ng xs tm hp fun vs => ks (v :: vs) := opq rfl
theorem goPs_nil : goPs ng [] tm hp kp = kp [] := opq rfl
theorem goPs_cons : goPs ng ((i, x) :: ps) tm hp kp = goE ng x tm hp fun v => goPs ng ps tm hp fun vs => kp ((i, v) :: vs) := opq rfl
end

/-! ### Slots written, with no look at the others -/
def zipK (r l : List Value) (i : Nat) (v : Value) (hp : Heap) (k : St → Prop) (_ : Tag k := .mk) : Prop := k ⟨r.reverseAux (l.set i v), hp⟩
def unzK (r l : List Value) (hp : Heap) (k : St → Prop) (_ : Tag k := .mk) : Prop := k ⟨r.reverseAux l, hp⟩
section
variable {a0 a1 a2 a3 a4 a5 a6 a7 v : Value} {r l tm : List Value} {i d : Nat} {hp : Heap} {k : St → Prop}
theorem normT_put : normT (putT tm (some d) v) hp k = zipK [] tm d v hp k := opq rfl
theorem normT_put0 : normT (putT tm none v) hp k = k ⟨tm, hp⟩ := opq rfl
theorem zipK_8 : zipK r (a0 :: a1 :: a2 :: a3 :: a4 :: a5 :: a6 :: a7 :: l) (i + 8) v hp k = zipK (a7 :: a6 :: a5 :: a4 :: a3 :: a2 :: a1 :: a0 :: r) l i v hp k := opq rfl
theorem zipK_s : zipK r (a0 :: l) (i + 1) v hp k = zipK (a0 :: r) l i v hp k := opq rfl
theorem zipK_z : zipK r (a0 :: l) 0 v hp k = unzK r (v :: l) hp k := opq rfl
theorem unzK_8 : unzK (a7 :: a6 :: a5 :: a4 :: a3 :: a2 :: a1 :: a0 :: r) l hp k = unzK r (a0 :: a1 :: a2 :: a3 :: a4 :: a5 :: a6 :: a7 :: l) hp k := opq rfl
theorem unzK_s : unzK (a0 :: r) l hp k = unzK r (a0 :: l) hp k := opq rfl
theorem unzK_z : unzK [] l hp k = k ⟨l, hp⟩ := opq rfl
end

/-! ### Lists of cells -/
def goN (l : List Value) (i : Nat) (k : Value → Prop) (_ : Tag k := .mk) : Prop := goV l[i]? k
/-- Cells put one behind the other from o on. -/
def goSP (zs : List Value) (o : Nat) (cs : List Value) (k : List Value → Prop) (_ : Tag k := .mk) : Prop := k (setP zs o cs)
def zipC (r l : List Value) (i : Nat) (cs : List Value) (k : List Value → Prop) (_ : Tag k := .mk) : Prop := k (r.reverseAux (setP l i cs))
def unzC (r l : List Value) (k : List Value → Prop) (_ : Tag k := .mk) : Prop := k (r.reverseAux l)
/-- The m members from o on. -/
def goX (l : List Value) (o m : Nat) (k : List Value → Prop) (_ : Tag k := .mk) : Prop := o + m ≤ l.length ∧ k ((l.drop o).take m)
def takC (r l : List Value) (m : Nat) (k : List Value → Prop) (_ : Tag k := .mk) : Prop := m ≤ l.length ∧ k (r.reverseAux (l.take m))
theorem setP_cons_s (a v : Value) : ∀ (cs l : List Value) (i : Nat), setP (a :: l) (i + 1) cs = a :: setP l i cs
  | [], _, _ => rfl
  | c :: cs, l, i => by
    simp only [setP, List.set_cons_succ]
    exact setP_cons_s a v cs _ _
section
variable {a c : Value} {l cs r : List Value} {i o m : Nat} {k : Value → Prop} {ks : List Value → Prop}
theorem goN_z : goN (a :: l) 0 k = k a := opq rfl
theorem goN_s : goN (a :: l) (i + 1) k = goN l i k := opq rfl
theorem goSP_eq : goSP l o cs ks = zipC [] l o cs ks := opq rfl
theorem zipC_s : zipC r (a :: l) (i + 1) cs ks = zipC (a :: r) l i cs ks := by simp [zipC, setP_cons_s a a cs l i, List.reverseAux]
theorem zipC_z : zipC r (a :: l) 0 (c :: cs) ks = zipC (c :: r) l 0 cs ks := by
  simp only [zipC, setP, List.set_cons_zero, setP_cons_s c c cs l 0, List.reverseAux]
theorem zipC_n : zipC r l i [] ks = unzC r l ks := opq rfl
theorem unzC_s : unzC (a :: r) l ks = unzC r (a :: l) ks := opq rfl
theorem unzC_n : unzC [] l ks = ks l := opq rfl
theorem goX_s : goX (a :: l) (o + 1) m ks = goX l o m ks := by
  simp only [goX, List.length_cons, List.drop_succ_cons]
  congr 1
  rw [Nat.add_right_comm, Nat.succ_le_succ_iff]
theorem goX_z : goX l 0 m ks = takC [] l m ks := by simp [goX, takC]
theorem takC_s : takC r (a :: l) (m + 1) ks = takC (a :: r) l m ks := by simp [takC, List.reverseAux]
theorem takC_z : takC r l 0 ks = unzC r [] ks := by simp [takC, unzC]
end

/-! ### A value's cells -/
def goCl (v : Value) (k : List Value → Prop) (_ : Tag k := .mk) : Prop := known v = true ∧ k v.cells.toList
section
variable {k : IntKind} {i : Int} {b : Bool} {r : ByteArray} {a : Option Addr} {m c : Nat} {f : Fn} {x : Value} {xs ys : Array Value} {t : TypeId} {l : List Value} {ks : List Value → Prop}
theorem goCl_int : goCl (.int k i) ks = ks [.int k i] := by simp [goCl, known, Value.cells]
theorem goCl_bool : goCl (.bool b) ks = ks [.bool b] := by simp [goCl, known, Value.cells]
theorem goCl_str : goCl (.string r) ks = ks [.string r] := by simp [goCl, known, Value.cells]
theorem goCl_ptr : goCl (.pointer a) ks = ks [.pointer a] := by simp [goCl, known, Value.cells]
theorem goCl_slice : goCl (.slice a m c) ks = ks [.slice a m c] := by simp [goCl, known, Value.cells]
theorem goCl_map {o : Option Nat} : goCl (.map o) ks = ks [.map o] := by simp [goCl, known, Value.cells]
theorem goCl_nilf : goCl .nilFunc ks = ks [.nilFunc] := by simp [goCl, known, Value.cells]
theorem goCl_func : goCl (.func f xs ys) ks = ks [.func f xs ys] := by simp [goCl, known, Value.cells]
theorem goCl_iface : goCl (.iface t x) ks = ks [.iface t x] := by simp [goCl, known, Value.cells]
theorem goCl_nili : goCl .nilIface ks = ks [.nilIface] := by simp [goCl, known, Value.cells]
theorem goCl_agg : goCl (.agg l.toArray) ks = ks l := by simp [goCl, known, Value.cells]
end

/-! ### Types -/
/-- Is a type an aggregate's, and of how many cells? -/
def goTy (P : Program) (t : TypeId) (k : Bool → Nat → Prop) (_ : Tag k := .mk) : Prop :=
  match aggT P t, szT P t with
  | some a, some m => k a m
  | _, _ => False
/-- A type's zero value, its cells. -/
def goZ (P : Program) (t : TypeId) (k : List Value → Prop) (_ : Tag k := .mk) : Prop :=
  match zero? P t with
  | some z => flat z = true ∧ k z.cells.toList
  | none => False
/-- A struct's field: where it lies, its type. -/
def goFld (P : Program) (t : TypeId) (i : Nat) (k : Nat → TypeId → Prop) (_ : Tag k := .mk) : Prop :=
  match P.underlying t with
  | some (.struct fs) => match fs[i]? with
    | some fd => k fd.offset fd.type
    | none => False
  | _ => False
/-- A struct type: its zero cells and where its fields lie. -/
def goBld (P : Program) (t : TypeId) (k : List Value → List (Nat × Nat) → Prop) (_ : Tag k := .mk) : Prop :=
  match P.underlying t, zero? P t with
  | some (.struct fs), some z => match placesL P fs.toList with
    | some ps => flat z = true ∧ k z.cells.toList ps
    | none => False
  | _, _ => False

/-- A part of a list of cells, of type t. -/
def goP (P : Program) (t : TypeId) (l : List Value) (o : Nat) (k : Value → Prop) (_ : Tag k := .mk) : Prop := goTy P t fun a m => bif a then goX l o m fun c => k (.agg c.toArray) else goN l o k
def goP1 (a : Bool) (m : Nat) (l : List Value) (o : Nat) (k : Value → Prop) (_ : Tag k := .mk) : Prop := bif a then goX l o m fun c => k (.agg c.toArray) else goN l o k
section
variable {t : TypeId} {l : List Value} {o m : Nat} {k : Value → Prop}
theorem goP_eq : goP P t l o k = goTy P t fun a m => goP1 a m l o k := opq rfl
theorem goP1_t : goP1 true m l o k = goX l o m fun c => k (.agg c.toArray) := opq rfl
theorem goP1_f : goP1 false m l o k = goN l o k := opq rfl
end
theorem goV_part {t : TypeId} {c : Array Value} {o : Nat} {k : Value → Prop} : goP P t c.toList o k = goV (part? P t c o) k := by
  unfold goP goTy part?
  cases aggT P t with
  | none => rfl
  | some a =>
    cases szT P t with
    | none => cases a <;> rfl
    | some m =>
      cases a with
      | false => simp [goN]
      | true =>
        simp only [cond_true, goX]
        by_cases h : o + m ≤ c.size
        · rw [if_pos h]
          have e : c.extract o (o + m) = ((c.toList.drop o).take m).toArray := by
            apply Array.ext'
            simp [List.extract]
          simp [goV, h, e]
        · rw [if_neg h]
          simp [goV, h]

/-! ### The heap -/
/-- Block id, handed on. -/
def goB (S : Heap) (id : Nat) (k : Blk → Prop) (_ : Tag k := .mk) : Prop :=
  match S[id]? with
  | some b => k b
  | none => False
def goBo (b : Option Blk) (k : Blk → Prop) (_ : Tag k := .mk) : Prop :=
  match b with
  | some b => k b
  | none => False
@[congr] theorem goBo_congr {b b' : Option Blk} {k : Blk → Prop} (h : Unit → b = b') : goBo b k = goBo b' k := by rw [h ()]
def goT (T : Heap) (i : Nat) (k : Blk → Prop) (_ : Tag k := .mk) : Prop := goBo T[i]? k
/-- A new block: its number, the heap with it. -/
def goNew (S : Heap) (b : Blk) (k : Nat → Heap → Prop) (_ : Tag k := .mk) : Prop := k S.length (S ++ [b])
def lenB : Heap → Nat
  | [] => 0
  | _ :: T => lenB T + 1
theorem lenB_eq : ∀ T : Heap, lenB T = T.length
  | [] => rfl
  | _ :: T => by simp [lenB, lenB_eq T]
/-- Parts, the last first, before a heap. -/
def catR : List Heap → Heap → Heap
  | [], T => T
  | x :: r, T => catR r (x ++ T)
def goNewT (H : Heap) (r : List Heap) (T : Heap) (id : Nat) (b : Blk) (k : Nat → Heap → Prop) (_ : Tag k := .mk) : Prop := k id (H ++ catR r (T ++ [b]))
def goId (H : Heap) (m : Nat) (k : Nat → Prop) (_ : Tag k := .mk) : Prop := k (H.length + m)
@[congr] theorem goId_congr {H : Heap} {m m' : Nat} {k : Nat → Prop} (h : Unit → m = m') : goId H m k = goId H m' k := by rw [h ()]
def unzB (H : Heap) (r : List Heap) (T : Heap) (k : Heap → Prop) (_ : Tag k := .mk) : Prop := k (H ++ catR r T)
/-- A block's content replaced. -/
def goSB (S : Heap) (id : Nat) (b : Blk) (k : Heap → Prop) (_ : Tag k := .mk) : Prop := k (S.set id b)
def zipB (H : Heap) (r : List Heap) (T : Heap) (i : Nat) (b : Blk) (k : Heap → Prop) (_ : Tag k := .mk) : Prop := k (H ++ catR r (T.set i b))
section
variable {H S T G : Heap} {r : List Heap} {b b' : Blk} {i id m : Nat} {k : Blk → Prop} {kn : Nat → Heap → Prop} {kh : Heap → Prop} {ki : Nat → Prop}
theorem goB_at0 : goB (H ++ T) H.length k = goT T 0 k := by simp only [goB, goT, goBo, get_at0]
theorem goB_at : goB (H ++ T) (H.length + i) k = goT T i k := by simp only [goB, goT, goBo, get_at]
theorem goB_old (h : id < H.length) : goB (H ++ T) id k = goB H id k := by simp only [goB, List.getElem?_append_left h]
theorem goB_o : goB S id k = goBo S[id]? k := opq rfl
theorem goBo_some : goBo (some b) k = k b := opq rfl
theorem goT_z : goT (b :: T) 0 k = k b := opq rfl
theorem goT_s : goT (b :: T) (i + 1) k = goT T i k := opq rfl
theorem goNew_app : goNew (H ++ T) b kn = goId H (lenB T) fun id => goNewT H [] T id b kn := by
  simp only [goNew, goId, goNewT, lenB_eq, List.length_append, List.append_assoc, catR]
theorem goNew_o : goNew H b kn = kn H.length (H ++ [b]) := opq rfl
theorem lenB_n : lenB [] = 0 := opq rfl
theorem lenB_c : lenB (b :: T) = lenB T + 1 := opq rfl
theorem goId_z : goId H 0 ki = ki H.length := opq rfl
theorem goId_o : goId H m ki = ki (H.length + m) := opq rfl
theorem goT_g : goT (G ++ T) (G.length + i) k = goT T i k := by simp only [goT, get_at]
theorem goT_g0 : goT (G ++ T) G.length k = goT T 0 k := by simp only [goT, get_at0]
theorem lenB_g : lenB (G ++ T) = G.length + lenB T := by simp only [lenB_eq, List.length_append]
theorem lenB_v : lenB G = G.length := lenB_eq G
theorem goNewT_s : goNewT H r (b' :: T) id b kn = goNewT H ([b'] :: r) T id b kn := opq rfl
theorem goNewT_g : goNewT H r (G ++ T) id b kn = goNewT H (G :: r) T id b kn := by simp only [goNewT, catR, List.append_assoc]
theorem goNewT_v : goNewT H r T id b kn = unzB H r (T ++ [b]) fun S => kn id S := opq rfl
theorem unzB_g : unzB H (G :: r) T kh = unzB H r (G ++ T) kh := opq rfl
theorem zipB_g : zipB H r (G ++ T) (G.length + i) b kh = zipB H (G :: r) T i b kh := by simp only [zipB, catR, set_at]
theorem zipB_g0 : zipB H r (G ++ T) G.length b kh = zipB H (G :: r) T 0 b kh := by simp only [zipB, catR, set_at0]
theorem goNewT_z : goNewT H r [] id b kn = unzB H r [b] fun S => kn id S := opq rfl
theorem unzB_s : unzB H ([b] :: r) T kh = unzB H r (b :: T) kh := opq rfl
theorem unzB_z : unzB H [] T kh = kh (H ++ T) := opq rfl
theorem goSB_at0 : goSB (H ++ T) H.length b kh = zipB H [] T 0 b kh := by simp only [goSB, zipB, set_at0, catR]
theorem goSB_at : goSB (H ++ T) (H.length + i) b kh = zipB H [] T i b kh := by simp only [goSB, zipB, set_at, catR]
theorem goSB_old (h : id < H.length) : goSB (H ++ T) id b kh = kh (H.set id b ++ T) := by simp only [goSB, List.set_append_left _ _ h]
theorem goSB_o : goSB S id b kh = kh (S.set id b) := opq rfl
theorem zipB_z : zipB H r (b' :: T) 0 b kh = unzB H r (b :: T) kh := opq rfl
theorem zipB_s : zipB H r (b' :: T) (i + 1) b kh = zipB H ([b'] :: r) T i b kh := opq rfl
end

/-! ### What is handed on is not looked at -/
section
variable {l l' tm tm' : List Value} {t t' i o m id : Nat} {hp hp' S S' T T' : Heap} {k : Value → Prop} {ks : List Value → Prop} {kp : List (Nat × Value) → Prop} {kt : St → Prop} {x x' : Operand} {xs xs' : List Operand} {ps ps' : List (Nat × Operand)} {v v' : Value} {cs cs' r : List Value} {a : Bool} {ty ty' : TypeId} {kb : Blk → Prop} {kn : Nat → Heap → Prop} {kh : Heap → Prop} {b : Blk} {H : Heap} {rr : List Heap}
@[congr] theorem goG_congr (h : Unit → t = t') : goG tm t k = goG tm t' k := by rw [h ()]
@[congr] theorem goE_congr (h : Unit → x = x') : goE ng x tm hp k = goE ng x' tm hp k := by rw [h ()]
@[congr] theorem goEs_congr (h : Unit → xs = xs') : goEs ng xs tm hp ks = goEs ng xs' tm hp ks := by rw [h ()]
@[congr] theorem goPs_congr (h : Unit → ps = ps') : goPs ng ps tm hp kp = goPs ng ps' tm hp kp := by rw [h ()]
@[congr] theorem zipK_congr (h : Unit → i = t) : zipK r l i v hp kt = zipK r l t v hp kt := by rw [h ()]
@[congr] theorem unzK_congr (h : Unit → r = l') : unzK r l hp kt = unzK l' l hp kt := by rw [h ()]
@[congr] theorem goN_congr (h : Unit → t = t') : goN l t k = goN l t' k := by rw [h ()]
@[congr] theorem goSP_congr (h : Unit → t = t') : goSP l t cs ks = goSP l t' cs ks := by rw [h ()]
@[congr] theorem zipC_congr (h : Unit → t = t') : zipC r l t cs ks = zipC r l t' cs ks := by rw [h ()]
@[congr] theorem unzC_congr (h : Unit → r = l') : unzC r l ks = unzC l' l ks := by rw [h ()]
@[congr] theorem goX_congr (h : Unit → t = t') : goX l t m ks = goX l t' m ks := by rw [h ()]
@[congr] theorem takC_congr (h : Unit → t = t') : takC r l t ks = takC r l t' ks := by rw [h ()]
@[congr] theorem goCl_congr (h : Unit → v = v') : goCl v ks = goCl v' ks := by rw [h ()]
@[congr] theorem goTy_congr {q : Bool → Nat → Prop} (h : Unit → ty = ty') : goTy P ty q = goTy P ty' q := by rw [h ()]
@[congr] theorem goZ_congr (h : Unit → ty = ty') : goZ P ty ks = goZ P ty' ks := by rw [h ()]
@[congr] theorem goFld_congr {q : Nat → TypeId → Prop} (h : Unit → ty = ty') : goFld P ty i q = goFld P ty' i q := by rw [h ()]
@[congr] theorem goBld_congr {q : List Value → List (Nat × Nat) → Prop} (h : Unit → ty = ty') : goBld P ty q = goBld P ty' q := by rw [h ()]
@[congr] theorem goP_congr (h : Unit → ty = ty') : goP P ty l o k = goP P ty' l o k := by rw [h ()]
@[congr] theorem goP1_congr (h : Unit → t = t') : goP1 a t l o k = goP1 a t' l o k := by rw [h ()]
@[congr] theorem goB_congr (h : Unit → t = t') : goB S t kb = goB S t' kb := by rw [h ()]
@[congr] theorem goT_congr (h : Unit → t = t') : goT S t kb = goT S t' kb := by rw [h ()]
@[congr] theorem goNew_congr {b' : Blk} (h : Unit → b = b') : goNew S b kn = goNew S b' kn := by rw [h ()]
@[congr] theorem goNewT_congr (h : Unit → t = t') : goNewT H rr T t b kn = goNewT H rr T t' b kn := by rw [h ()]
@[congr] theorem unzB_congr {H' : Heap} (h : Unit → H = H') : unzB H rr T kh = unzB H' rr T kh := by rw [h ()]
@[congr] theorem goSB_congr (h : Unit → t = t') : goSB S t b kh = goSB S t' b kh := by rw [h ()]
@[congr] theorem zipB_congr (h : Unit → t = t') : zipB H rr T t b kh = zipB H rr T t' b kh := by rw [h ()]
end

/-! ### Stops: what is shown by hand -/
/-- A call. -/
def CallK (P : Program) (ng : Nat) (f : FuncId) (args : List Value) (hp : Heap) (tm : List Value) (d : Option Nat) (k : St → Prop) (_ : Tag k := .mk) : Prop := CallA P ng f args hp fun v S' => normT (putT tm d v) S' k
theorem CallK.of {f : FuncId} {args : List Value} {hp : Heap} {tm : List Value} {d : Option Nat} {k : St → Prop} {Q : Value → Heap → Prop} (ho : CallOk P f) (h : AC P ng f args hp Q) (hk : ∀ v S', Q v S' → normT (putT tm d v) S' k) : CallK P ng f args hp tm d k :=
  ⟨ho, h.mono hk⟩
/-- A call that leaves nothing. -/
theorem CallK.fl {f : FuncId} {args : List Value} {hp : Heap} {tm : List Value} {d : Option Nat} {k : St → Prop} {u : Value} (ho : CallOk P f) (h : AC P ng f args hp fun v S' => v = u ∧ S' = hp) (hk : normT (putT tm d u) hp k) : CallK P ng f args hp tm d k :=
  CallK.of ho h fun v S' ⟨h1, h2⟩ => by rw [h1, h2]; exact hk
/-- append. -/
def AppK (P : Program) (t tx : TypeId) (s x : Value) (hp : Heap) (tm : List Value) (d : Option Nat) (k : St → Prop) (_ : Tag k := .mk) : Prop := goH (append? P hp t tx s x) fun v S' => normT (putT tm d v) S' k
theorem AppK.of {t tx : TypeId} {s x v : Value} {hp S' : Heap} {tm : List Value} {d : Option Nat} {k : St → Prop} (h : append? P hp t tx s x = some (v, S')) (hk : normT (putT tm d v) S' k) : AppK P t tx s x hp tm d k := by
  unfold AppK; rw [h]; exact hk
/-- copy. -/
def CopyK (P : Program) (t tx : TypeId) (s x : Value) (hp : Heap) (tm : List Value) (d : Option Nat) (k : St → Prop) (_ : Tag k := .mk) : Prop := goH (copy? P hp t tx s x) fun v S' => normT (putT tm d v) S' k
theorem CopyK.of {t tx : TypeId} {s x v : Value} {hp S' : Heap} {tm : List Value} {d : Option Nat} {k : St → Prop} (h : copy? P hp t tx s x = some (v, S')) (hk : normT (putT tm d v) S' k) : CopyK P t tx s x hp tm d k := by
  unfold CopyK; rw [h]; exact hk
/-- range, next, entry: they draw. -/
def RangeK (P : Program) (ng : Nat) (t : TypeId) (x : Value) (hp : Heap) (tm : List Value) (d : Option Nat) (k : St → Prop) (_ : Tag k := .mk) : Prop := EvK P ng x (Instr.range t) hp fun v S' => normT (putT tm d v) S' k
def NextK (P : Program) (ng : Nat) (b : Bool) (oty : TypeId) (x : Value) (hp : Heap) (tm : List Value) (d : Option Nat) (k : St → Prop) (_ : Tag k := .mk) : Prop := EvK P ng x (fun v => Instr.next v b oty) hp fun v S' => normT (putT tm d v) S' k
def EntryK (P : Program) (ng : Nat) (x : Value) (hp : Heap) (tm : List Value) (d : Option Nat) (k : St → Prop) (_ : Tag k := .mk) : Prop := EvK P ng x Instr.entry hp fun v S' => normT (putT tm d v) S' k
/-- make of a slice. -/
def MakeK (P : Program) (t : TypeId) (l c : Value) (hp : Heap) (tm : List Value) (d : Option Nat) (k : St → Prop) (_ : Tag k := .mk) : Prop := goH (makeSlice? P hp t l c) fun v S' => normT (putT tm d v) S' k
theorem MakeK.of {t : TypeId} {l c v : Value} {hp S' : Heap} {tm : List Value} {d : Option Nat} {k : St → Prop} (h : makeSlice? P hp t l c = some (v, S')) (hk : normT (putT tm d v) S' k) : MakeK P t l c hp tm d k := by
  unfold MakeK; rw [h]; exact hk
/-- x[k] of a map. -/
def LookK (P : Program) (t : TypeId) (m x : Value) (ok : Bool) (hp : Heap) (tm : List Value) (d : Option Nat) (k : St → Prop) (_ : Tag k := .mk) : Prop := goV (lookup? P hp t m x ok) fun v => normT (putT tm d v) hp k
theorem LookK.of {t : TypeId} {m x v : Value} {ok : Bool} {hp : Heap} {tm : List Value} {d : Option Nat} {k : St → Prop} (h : lookup? P hp t m x ok = some v) (hk : normT (putT tm d v) hp k) : LookK P t m x ok hp tm d k := by
  unfold LookK; rw [h]; exact hk
/-- m[k] = v. -/
def UpdK (P : Program) (t : TypeId) (m x v : Value) (hp : Heap) (tm : List Value) (d : Option Nat) (k : St → Prop) (_ : Tag k := .mk) : Prop := goS (mapUpdate? P hp t m x v) fun S' => normT (putT tm d (.tuple #[])) S' k
theorem UpdK.of {t : TypeId} {m x v : Value} {hp S' : Heap} {tm : List Value} {d : Option Nat} {k : St → Prop} (h : mapUpdate? P hp t m x v = some S') (hk : normT (putT tm d (.tuple #[])) S' k) : UpdK P t m x v hp tm d k := by
  unfold UpdK; rw [h]; exact hk
/-- A conversion between a string and its bytes. -/
def ConvK (P : Program) (a b : TypeId) (x : Value) (hp : Heap) (tm : List Value) (d : Option Nat) (k : St → Prop) (_ : Tag k := .mk) : Prop := goH (conv? P hp a b x) fun v S' => normT (putT tm d v) S' k
theorem ConvK.of {a b : TypeId} {x v : Value} {hp S' : Heap} {tm : List Value} {d : Option Nat} {k : St → Prop} (h : conv? P hp a b x = some (v, S')) (hk : normT (putT tm d v) S' k) : ConvK P a b x hp tm d k := by
  unfold ConvK; rw [h]; exact hk
section
variable {f : FuncId} {t tx : TypeId} {args args' tm tm' : List Value} {s s' x x' v v' : Value} {hp hp' : Heap} {d : Option Nat} {k : St → Prop} {ok : Bool}
@[congr] theorem CallK_congr (h1 : Unit → args = args') (h2 : Unit → hp = hp') (h3 : Unit → tm = tm') : CallK P ng f args hp tm d k = CallK P ng f args' hp' tm' d k := by rw [h1 (), h2 (), h3 ()]
@[congr] theorem AppK_congr (h1 : Unit → s = s') (h2 : Unit → hp = hp') (h3 : Unit → tm = tm') : AppK P t tx s x hp tm d k = AppK P t tx s' x hp' tm' d k := by rw [h1 (), h2 (), h3 ()]
@[congr] theorem CopyK_congr (h1 : Unit → s = s') (h2 : Unit → hp = hp') (h3 : Unit → tm = tm') : CopyK P t tx s x hp tm d k = CopyK P t tx s' x hp' tm' d k := by rw [h1 (), h2 (), h3 ()]
@[congr] theorem RangeK_congr (h1 : Unit → x = x') (h2 : Unit → hp = hp') (h3 : Unit → tm = tm') : RangeK P ng t x hp tm d k = RangeK P ng t x' hp' tm' d k := by rw [h1 (), h2 (), h3 ()]
@[congr] theorem NextK_congr (h1 : Unit → x = x') (h2 : Unit → hp = hp') (h3 : Unit → tm = tm') : NextK P ng ok t x hp tm d k = NextK P ng ok t x' hp' tm' d k := by rw [h1 (), h2 (), h3 ()]
@[congr] theorem EntryK_congr (h1 : Unit → x = x') (h2 : Unit → hp = hp') (h3 : Unit → tm = tm') : EntryK P ng x hp tm d k = EntryK P ng x' hp' tm' d k := by rw [h1 (), h2 (), h3 ()]
@[congr] theorem MakeK_congr (h1 : Unit → s = s') (h2 : Unit → hp = hp') (h3 : Unit → tm = tm') : MakeK P t s x hp tm d k = MakeK P t s' x hp' tm' d k := by rw [h1 (), h2 (), h3 ()]
@[congr] theorem LookK_congr (h1 : Unit → x = x') (h2 : Unit → hp = hp') (h3 : Unit → tm = tm') : LookK P t s x ok hp tm d k = LookK P t s x' ok hp' tm' d k := by rw [h1 (), h2 (), h3 ()]
@[congr] theorem UpdK_congr (h1 : Unit → x = x') (h4 : Unit → v = v') (h2 : Unit → hp = hp') (h3 : Unit → tm = tm') : UpdK P t s x v hp tm d k = UpdK P t s x' v' hp' tm' d k := by rw [h1 (), h2 (), h3 (), h4 ()]
@[congr] theorem ConvK_congr (h1 : Unit → x = x') (h2 : Unit → hp = hp') (h3 : Unit → tm = tm') : ConvK P t tx x hp tm d k = ConvK P t tx x' hp' tm' d k := by rw [h1 (), h2 (), h3 ()]
end

end Go.Am
