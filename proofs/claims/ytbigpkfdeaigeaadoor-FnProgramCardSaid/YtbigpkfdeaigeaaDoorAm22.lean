/- One operation, unfolded in passing style; the rules for guards, tests and ends. No condition. -/
import Derived.Test.YtbigpkfdeaigeaaDoorAm13
namespace Go.Am
open Go
set_option linter.unusedSimpArgs false
set_option linter.unusedVariables false

variable {P : Program} {ng n : Nat}

/-- What one operation asks that is wanted. -/
def stepO (P : Program) (ng : Nat) (op : Op) (oty : TypeId) (d : Option Nat) (s : St) (k : St → Prop) (_ : Tag k := .mk) : Prop :=
  match op with
  | .call ⟨.value fo, args, _⟩ => goC (callee? (s.ev ng fo)) fun f caps => CallA P ng f (args.toList.map (s.ev ng) ++ caps) s.hp fun v S' => normT (putT s.tm d v) S' k
  | .range t x => EvK P ng (s.ev ng x) (Instr.range t) s.hp fun v S' => normT (putT s.tm d v) S' k
  | .next x b => EvK P ng (s.ev ng x) (fun v => Instr.next v b oty) s.hp fun v S' => normT (putT s.tm d v) S' k
  | .entry x => EvK P ng (s.ev ng x) Instr.entry s.hp fun v S' => normT (putT s.tm d v) S' k
  | _ => goH (aop P ng s ⟨d, op, oty, "", #[], none⟩) fun v S' => normT (putT s.tm d v) S' k

/-- The slot that operation j writes. -/
def goD (ds : List (Option Nat)) (j : Nat) (k : Option Nat → Prop) (_ : Tag k := .mk) : Prop := k (ds.getD j none)
/-- A guard's two ways. -/
def condB (b : Bool) (x y : Unit → Prop) (_ : Tag x := .mk) (_ : Tag y := .mk) : Prop := ifA b (x ()) (y ())
@[congr] theorem condB_congr {b b' : Bool} {x y : Unit → Prop} (h : Unit → b = b') : condB b x y = condB b' x y := by rw [h ()]
def goWv (v : Value) (w : Bool) (x y : Unit → Prop) (_ : Tag x := .mk) (_ : Tag y := .mk) : Prop := wantA (wantV v w) x y
def goWd (d : Option Nat) (tm : List Value) (w : Bool) (x y : Unit → Prop) : Prop :=
  match d with
  | none => y ()
  | some d => goG tm d fun v => goWv v w x y
section
variable {o0 o1 o2 o3 o4 o5 o6 o7 o : Oper} {l : List Oper} {j d : Nat} {od : Option Nat} {op : Op} {oty : TypeId} {ps : String} {af : Array Edge} {g : Option (Nat × Bool)} {k : Option Nat → Prop} {tm : List Value} {w b : Bool} {x y : Unit → Prop}
theorem goD_z : goD (dsts (⟨od, op, oty, ps, af, g⟩ :: l)) 0 k = k od := opq rfl
theorem goD_s : goD (dsts (o :: l)) (j + 1) k = goD (dsts l) j k := opq rfl
theorem goD_8 : goD (dsts (o0 :: o1 :: o2 :: o3 :: o4 :: o5 :: o6 :: o7 :: l)) (j + 8) k = goD (dsts l) j k := opq rfl
theorem goWd_n : goWd none tm w x y = y () := opq rfl
theorem goWd_s : goWd (some d) tm w x y = goG tm d fun v => goWv v w x y := opq rfl
theorem goWv_t : goWv (.bool b) true x y = condB b x y := by cases b <;> rfl
theorem goWv_f : goWv (.bool b) false x y = condB b y x := by cases b <;> rfl
theorem goWv_k : goWv skipV w x y = y () := opq rfl
theorem condB_t : condB true x y = x () := opq rfl
theorem condB_f : condB false x y = y () := opq rfl
theorem condB_o : condB b x y = ifA b (x ()) (y ()) := opq rfl
end

section
variable {ds : List (Option Nat)} {l : List Oper} {d : Option Nat} {op : Op} {oty : TypeId} {ps : String} {af : Array Edge} {j : Nat} {w : Bool} {tm : List Value} {hp : Heap} {K : St → Prop}
theorem stepO_aop {o : Oper} {s : St} {k : St → Prop} : (match o.op with
      | .call ⟨.value fo, args, _⟩ => goC (callee? (s.ev ng fo)) fun f caps => CallA P ng f (args.toList.map (s.ev ng) ++ caps) s.hp fun v S' => normT (putT s.tm o.dst v) S' k
      | .range t x => EvK P ng (s.ev ng x) (Instr.range t) s.hp fun v S' => normT (putT s.tm o.dst v) S' k
      | .next x b => EvK P ng (s.ev ng x) (fun v => Instr.next v b o.type) s.hp fun v S' => normT (putT s.tm o.dst v) S' k
      | .entry x => EvK P ng (s.ev ng x) Instr.entry s.hp fun v S' => normT (putT s.tm o.dst v) S' k
      | _ => goH (aop P ng s o) fun v S' => normT (putT s.tm o.dst v) S' k) = stepO P ng o.op o.type o.dst s k := by
  obtain ⟨d, op, oty, ps, af, g⟩ := o
  unfold stepO
  simp only
  split
  · rfl
  · rfl
  · rfl
  · rfl
  · cases op <;> first | rfl | simp_all
theorem opsc_nil : opsc P ng n ds [] ⟨tm, hp⟩ K = K ⟨tm, hp⟩ := opq rfl
theorem opsc_none : opsc P ng n ds (⟨d, op, oty, ps, af, none⟩ :: l) ⟨tm, hp⟩ K = stepO P ng op oty d ⟨tm, hp⟩ fun s => opsc P ng n ds l s K := by
  simp only [opsc, awant, wantA, ifA]
  exact stepO_aop (o := ⟨d, op, oty, ps, af, none⟩) (s := ⟨tm, hp⟩)
theorem opsc_some : opsc P ng n ds (⟨d, op, oty, ps, af, some (j, w)⟩ :: l) ⟨tm, hp⟩ K =
    goD ds j fun od => goWd od tm w (fun _ => stepO P ng op oty d ⟨tm, hp⟩ fun s => opsc P ng n ds l s K) (fun _ => normT (putT tm d skipV) hp fun s => opsc P ng n ds l s K) := by
  simp only [opsc, awant, goD]
  have e := stepO_aop (P := P) (ng := ng) (o := ⟨d, op, oty, ps, af, some (j, w)⟩) (s := ⟨tm, hp⟩) (k := fun s => opsc P ng n ds l s K)
  simp only at e
  cases ds.getD j none with
  | none => rfl
  | some q => exact congrArg (fun z => wantA (wantV (tm.getD q (.tuple #[])) w) (fun _ => z) (fun _ => normT (putT tm d skipV) hp fun s => opsc P ng n ds l s K)) e
end

/-! ### The operations -/
section
variable {s s' : St} {k : St → Prop} {op : Op} {oty : TypeId} {d : Option Nat} {ds : List (Option Nat)} {j j' : Nat} {kd : Option Nat → Prop} {v v' : Value} {w : Bool} {x y : Unit → Prop} {tm : List Value} {od od' : Option Nat}
@[congr] theorem stepO_congr (h : Unit → s = s') : stepO P ng op oty d s k = stepO P ng op oty d s' k := by rw [h ()]
@[congr] theorem goD_congr (h : Unit → j = j') : goD ds j kd = goD ds j' kd := by rw [h ()]
@[congr] theorem goWv_congr (h : Unit → v = v') : goWv v w x y = goWv v' w x y := by rw [h ()]
@[congr] theorem goWd_congr (h : Unit → od = od') : goWd od tm w x y = goWd od' tm w x y := by rw [h ()]
end

def goFill (offs : List (Nat × Nat)) : List Value → List (Nat × Value) → (List Value → Prop) → Prop
  | z, [], k => k z
  | z, (i, v) :: r, k => match offs[i]? with
    | some (o, m) => goCl v fun cs => cs.length = m ∧ o + m ≤ z.length ∧ goSP z o cs fun z' => goFill offs z' r k
    | none => False
def lenV : List Value → Nat
  | [] => 0
  | _ :: l => lenV l + 1
theorem lenV_eq : ∀ l : List Value, lenV l = l.length
  | [] => rfl
  | _ :: l => by simp [lenV, lenV_eq l]
def goOf (offs : List (Nat × Nat)) (i : Nat) (k : Nat → Nat → Prop) (_ : Tag k := .mk) : Prop :=
  match offs[i]? with
  | some (o, m) => k o m
  | none => False
def onesV (l : List Value) : Bool := ones l
theorem goFill_eq (offs : List (Nat × Nat)) : ∀ (r : List (Nat × Value)) (z : List Value) (k : List Value → Prop), goFill offs z r k = (partsK r = true ∧ (match fillL offs z r with | some c => k c | none => False))
  | [], z, k => by simp [goFill, partsK, fillL]
  | (i, v) :: r, z, k => by
    simp only [goFill, partsK, fillL]
    cases offs[i]? with
    | none => simp
    | some om =>
      obtain ⟨o, m⟩ := om
      simp only [goCl, goSP, goFill_eq offs r]
      by_cases h1 : known v = true
      · by_cases h2 : v.cells.size = m ∧ o + m ≤ z.length
        · simp [h1, h2]
        · have h3 : ¬ (v.cells.toList.length = m ∧ o + m ≤ z.length) := by simpa using h2
          simp only [if_neg h2]
          simp only [← and_assoc]
          simp [h1]
          intro a b
          exact absurd ⟨a, b⟩ h2
      · simp [h1]

/-- Cells written into a block. -/
def goSb (m off : Nat) (cs : List Value) (b : Blk) (k : Blk → Prop) (_ : Tag k := .mk) : Prop :=
  match b with
  | ⟨.cells c e f, true, true⟩ => cs.length = m ∧ off + cs.length ≤ c.size ∧ ones cs = true ∧ k ⟨.cells (setL c off cs) e f, true, true⟩
  | _ => False
def goLa (P : Program) (t : TypeId) (off : Nat) (c : Array Value) (k : Value → Prop) (_ : Tag k := .mk) : Prop := goV (part? P t c off) k
def goLb (P : Program) (t : TypeId) (off : Nat) (b : Blk) (k : Value → Prop) (_ : Tag k := .mk) : Prop := goV (ldB P t off (some b)) k
def goLd (P : Program) (t : TypeId) (p : Value) (hp : Heap) (k : Value → Prop) (_ : Tag k := .mk) : Prop := goV (load? P hp t p) k
def goLz (a : Bool) (m off : Nat) (c : Array Value) (k : Value → Prop) (_ : Tag k := .mk) : Prop := goV (part1 (some a) (some m) c off) k
def goSt (P : Program) (t : TypeId) (p v : Value) (hp : Heap) (k : Heap → Prop) (_ : Tag k := .mk) : Prop := goS (store? P hp t p v) k
def goNil (v : Value) (k : Value → Prop) (_ : Tag k := .mk) : Prop := goV (nilCheck? v) k
def goPick (c x y : Value) (k : Value → Prop) (_ : Tag k := .mk) : Prop := goV (pick? c x y) k
@[congr] theorem goPick_congr {c c' x y : Value} {k : Value → Prop} (h : Unit → c = c') : goPick c x y k = goPick c' x y k := by rw [h ()]
def goSz (P : Program) (t : TypeId) (k : Nat → Prop) (_ : Tag k := .mk) : Prop :=
  match szT P t with
  | some m => k m
  | none => False
def goUnd (P : Program) (t : TypeId) (k : TypeDesc → Prop) (_ : Tag k := .mk) : Prop :=
  match P.underlying t with
  | some d => k d
  | none => False
def goCw (P : Program) (a b : TypeId) (da db : TypeDesc) (x : Value) (hp : Heap) (tm : List Value) (d : Option Nat) (k : St → Prop) (_ : Tag k := .mk) : Prop := goH (convY P hp a b (some da) (some db) x) fun v S' => normT (putT tm d v) S' k
def goEo (ng : Nat) (x : Option Operand) (tm : List Value) (hp : Heap) (k : Option Value → Prop) (_ : Tag k := .mk) : Prop := k (x.map (St.ev ng ⟨tm, hp⟩))
def goNat (m : Nat) (k : Nat → Prop) (_ : Tag k := .mk) : Prop := k m
@[congr] theorem goNat_congr {m m' : Nat} {k : Nat → Prop} (h : Unit → m = m') : goNat m k = goNat m' k := by rw [h ()]
def goFA (P : Program) (t : TypeId) (i : Nat) (p : Value) (k : Value → Prop) (_ : Tag k := .mk) : Prop := goV (fieldAddr? P t p i) k
def goFV (P : Program) (t : TypeId) (i : Nat) (v : Value) (k : Value → Prop) (_ : Tag k := .mk) : Prop := goV (field? P t v i) k
def goEx (v : Value) (i : Nat) (k : Value → Prop) (_ : Tag k := .mk) : Prop := goV (extract? v i) k
def goCe (v : Value) (k : FuncId → List Value → Prop) (_ : Tag k := .mk) : Prop := goC (callee? v) k
def goLen (S : Heap) (d : TypeDesc) (v : Value) (k : Value → Prop) (_ : Tag k := .mk) : Prop := goV (lenZ S (some d) v) k
def goLm (b : Blk) (k : Value → Prop) (_ : Tag k := .mk) : Prop :=
  match b with
  | ⟨.map es _, true, _⟩ => k (.int .i64 es.size)
  | _ => False
def minI (a b : Int) : Int := if b < a then b else a
def maxI (a b : Int) : Int := if b > a then b else a
def minV (P : Program) (ts : List TypeId) (ty : TypeId) (vs : List Value) : Option Value := if vs.all flat then purF P (Builtin.min_ ts.toArray ty vs.toArray) else none
def maxV (P : Program) (ts : List TypeId) (ty : TypeId) (vs : List Value) : Option Value := if vs.all flat then purF P (Builtin.max_ ts.toArray ty vs.toArray) else none
/-- A struct's value, built. -/
def goBu (P : Program) (t : TypeId) (vs : List (Nat × Value)) (k : Value → Prop) (_ : Tag k := .mk) : Prop := goV (build? P t vs.toArray) k
/-- A slice, built. -/
def goBs (P : Program) (t : TypeId) (m : Nat) (vs : List (Nat × Value)) (hp : Heap) (k : Value → Heap → Prop) (_ : Tag k := .mk) : Prop := goH (buildSlice? P hp t m vs.toArray) k
def goSl (P : Program) (t : TypeId) (k : TypeId → Nat → List Value → Prop) (_ : Tag k := .mk) : Prop :=
  match P.underlying t with
  | some (.slice e) => match zero? P e, szT P e with
    | some z, some sz => flat z = true ∧ 0 < z.cells.size ∧ z.cells.size = sz ∧ k e sz z.cells.toList
    | _, _ => False
  | _ => False
def goRep (z : List Value) (m : Nat) (k : List Value → Prop) (_ : Tag k := .mk) : Prop := k (zerosL z m)
def appV (z acc : List Value) (k : List Value → Prop) (_ : Tag k := .mk) : Prop := k (z ++ acc)
def goPos (m : Nat) (x : Prop) : Prop := 0 < m ∧ x
def goFs (sz : Nat) : List Value → List (Nat × Value) → (List Value → Prop) → Prop
  | z, [], k => k z
  | z, (i, v) :: r, k => goCl v fun cs => cs.length = sz ∧ i * sz + sz ≤ z.length ∧ goNat (i * sz) fun o => goSP z o cs fun z' => goFs sz z' r k
theorem goFs_eq (sz : Nat) : ∀ (r : List (Nat × Value)) (z : List Value) (k : List Value → Prop), goFs sz z r k = (partsK r = true ∧ (match fillS sz z r with | some c => k c | none => False))
  | [], z, k => by simp [goFs, partsK, fillS]
  | (i, v) :: r, z, k => by
    simp only [goFs, partsK, fillS, goCl, goSP, goNat, goFs_eq sz r]
    by_cases h1 : known v = true
    · by_cases h2 : v.cells.size = sz ∧ i * sz + sz ≤ z.length
      · simp [h1, h2]
      · simp only [if_neg h2]
        simp [h1]
        intro a b
        exact absurd ⟨a, b⟩ h2
    · simp [h1]

section
variable {t t' : TypeId} {v v' w : Value} {k : Value → Prop} {kb : Blk → Prop} {kh : Heap → Prop} {hp : Heap} {off off' m m' i i' : Nat} {b b' : Blk} {c c' : Array Value} {a a' : Bool} {cs cs' z z' : List Value} {ks : List Value → Prop} {offs offs' : List (Nat × Nat)} {r r' : List (Nat × Value)} {d d' : TypeDesc}
@[congr] theorem goSb_congr (h : Unit → b = b') : goSb m off cs b kb = goSb m off cs b' kb := by rw [h ()]
@[congr] theorem goLa_congr (h : Unit → off = off') : goLa P t off c k = goLa P t off' c k := by rw [h ()]
@[congr] theorem goLb_congr (h : Unit → b = b') : goLb P t off b k = goLb P t off b' k := by rw [h ()]
@[congr] theorem goLd_congr (h : Unit → v = v') : goLd P t v hp k = goLd P t v' hp k := by rw [h ()]
@[congr] theorem goLz_congr (h : Unit → a = a') : goLz a m off c k = goLz a' m off c k := by rw [h ()]
@[congr] theorem goSt_congr (h : Unit → v = v') : goSt P t v w hp kh = goSt P t v' w hp kh := by rw [h ()]
@[congr] theorem goNil_congr (h : Unit → v = v') : goNil v k = goNil v' k := by rw [h ()]
@[congr] theorem goUnd_congr {q : TypeDesc → Prop} (h : Unit → t = t') : goUnd P t q = goUnd P t' q := by rw [h ()]
@[congr] theorem goSz_congr {q : Nat → Prop} (h : Unit → t = t') : goSz P t q = goSz P t' q := by rw [h ()]
@[congr] theorem goCw_congr {u e : TypeId} {da db : TypeDesc} {tm : List Value} {dd : Option Nat} {kt : St → Prop} (h : Unit → v = v') : goCw P u e da db v hp tm dd kt = goCw P u e da db v' hp tm dd kt := by rw [h ()]
@[congr] theorem goEo_congr {x x' : Option Operand} {tm : List Value} {q : Option Value → Prop} (h : Unit → x = x') : goEo ng x tm hp q = goEo ng x' tm hp q := by rw [h ()]
@[congr] theorem goFA_congr (h : Unit → v = v') : goFA P t i v k = goFA P t i v' k := by rw [h ()]
@[congr] theorem goFV_congr (h : Unit → v = v') : goFV P t i v k = goFV P t i v' k := by rw [h ()]
@[congr] theorem goEx_congr (h : Unit → v = v') : goEx v i k = goEx v' i k := by rw [h ()]
@[congr] theorem goCe_congr {q : FuncId → List Value → Prop} (h : Unit → v = v') : goCe v q = goCe v' q := by rw [h ()]
@[congr] theorem goLen_congr (h : Unit → v = v') : goLen hp d v k = goLen hp d v' k := by rw [h ()]
@[congr] theorem goLm_congr (h : Unit → b = b') : goLm b k = goLm b' k := by rw [h ()]
@[congr] theorem goBu_congr (h : Unit → r = r') : goBu P t r k = goBu P t r' k := by rw [h ()]
@[congr] theorem goBs_congr {q : Value → Heap → Prop} (h : Unit → r = r') : goBs P t m r hp q = goBs P t m r' hp q := by rw [h ()]
@[congr] theorem goSl_congr {q : TypeId → Nat → List Value → Prop} (h : Unit → t = t') : goSl P t q = goSl P t' q := by rw [h ()]
@[congr] theorem goRep_congr (h : Unit → m = m') : goRep z m ks = goRep z m' ks := by rw [h ()]
@[congr] theorem appV_congr (h : Unit → z = z') : appV z cs ks = appV z' cs ks := by rw [h ()]
@[congr] theorem goFill_congr (h : Unit → r = r') : goFill offs z r ks = goFill offs z r' ks := by rw [h ()]
@[congr] theorem goOf_congr {q : Nat → Nat → Prop} (h : Unit → i = i') : goOf offs i q = goOf offs i' q := by rw [h ()]
@[congr] theorem goFs_congr (h : Unit → r = r') : goFs m z r ks = goFs m z r' ks := by rw [h ()]
end

section
variable {t u e : TypeId} {oty : TypeId} {d : Option Nat} {tm : List Value} {hp : Heap} {k : St → Prop} {x y z fo : Operand} {xs : List Operand} {ps : List (Nat × Operand)} {i m : Nat}
theorem stepO_move : stepO P ng (.move x) oty d ⟨tm, hp⟩ k = goE ng x tm hp fun v => normT (putT tm d v) hp k := opq rfl
theorem stepO_assign : stepO P ng (.assign x) oty d ⟨tm, hp⟩ k = goE ng x tm hp fun v => normT (putT tm d v) hp k := opq rfl
theorem goH_map {r : Option Value} {S : Heap} {k : Value → Heap → Prop} : goH (r.map (·, S)) k = goV r fun v => k v S := by cases r <;> rfl
theorem goH_maps {r : Option Heap} {v : Value} {k : Value → Heap → Prop} : goH (r.map (v, ·)) k = goS r fun S => k v S := by cases r <;> rfl
theorem stepO_pick : stepO P ng (.pick x y z) oty d ⟨tm, hp⟩ k = goE ng x tm hp fun c => goE ng y tm hp fun a => goE ng z tm hp fun b => goPick c a b fun v => normT (putT tm d v) hp k := by
  simp only [stepO, aop, goH_map, goE, goPick]
theorem stepO_alloc : stepO P ng (.alloc t) oty d ⟨tm, hp⟩ k = goZ P t fun z => goNew hp ⟨.cells z.toArray t (0, 0), true, true⟩ fun id S' => normT (putT tm d (.pointer (some ⟨id, 0, none⟩))) S' k := by
  simp only [stepO, aop, alloc?, goZ, goNew]
  cases zero? P t with
  | none => rfl
  | some z => by_cases h : flat z = true <;> simp [h, goH, ptrTo]
theorem stepO_box : stepO P ng (.box t x) oty d ⟨tm, hp⟩ k = goE ng x tm hp fun v => goCl v fun cs => goNew hp ⟨.cells cs.toArray t (0, 0), true, true⟩ fun id S' => normT (putT tm d (.pointer (some ⟨id, 0, none⟩))) S' k := by
  simp only [stepO, aop, box?, goE, goCl, goNew]
  by_cases h : known (St.ev ng ⟨tm, hp⟩ x) = true <;> simp [h, goH, ptrTo]
theorem pmap_list : (ps.toArray.map fun x => (x.1, St.ev ng ⟨tm, hp⟩ x.2)) = (ps.map fun x => (x.1, St.ev ng ⟨tm, hp⟩ x.2)).toArray := by simp
theorem stepO_build : stepO P ng (.build t ps.toArray) oty d ⟨tm, hp⟩ k = goPs ng ps tm hp fun vs => goBu P t vs fun v => normT (putT tm d v) hp k := by
  simp only [stepO, aop, goH_map, goPs_eq, goBu, pmap_list]
theorem stepO_buildSlice : stepO P ng (.buildSlice t m ps.toArray) oty d ⟨tm, hp⟩ k = goPs ng ps tm hp fun vs => goBs P t m vs hp fun v S' => normT (putT tm d v) S' k := by
  simp only [stepO, aop, goPs_eq, goBs, pmap_list]
theorem stepO_load : stepO P ng (.load t x) oty d ⟨tm, hp⟩ k = goE ng x tm hp fun p => goLd P t p hp fun v => normT (putT tm d v) hp k := by
  simp only [stepO, aop, goH_map, goE, goLd]
theorem stepO_store : stepO P ng (.store t x y) oty d ⟨tm, hp⟩ k = goE ng x tm hp fun p => goE ng y tm hp fun v => goSt P t p v hp fun S' => normT (putT tm d (.tuple #[])) S' k := by
  simp only [stepO, aop, goH_maps, goE, goSt]
theorem stepO_nilCheck : stepO P ng (.nilCheck x) oty d ⟨tm, hp⟩ k = goE ng x tm hp fun v => goNil v fun v => normT (putT tm d v) hp k := by
  simp only [stepO, aop, goH_map, goE, goNil]
theorem stepO_binOp {op : BinOp} : stepO P ng (.binOp op t x y u) oty d ⟨tm, hp⟩ k = goE ng x tm hp fun a => goE ng y tm hp fun b => goV (bin? P op t x y a b) fun v => normT (putT tm d v) hp k := by
  simp only [stepO, aop, goH_map, goE]
theorem stepO_unOp {op : UnOp} : stepO P ng (.unOp op t x) oty d ⟨tm, hp⟩ k = goE ng x tm hp fun a => goV (un? P op a) fun v => normT (putT tm d v) hp k := by
  simp only [stepO, aop, goH_map, goE]
theorem stepO_convert : stepO P ng (.convert t u x) oty d ⟨tm, hp⟩ k = goE ng x tm hp fun v => goUnd P t fun da => goUnd P u fun db => goCw P t u da db v hp tm d k := by
  simp only [stepO, aop, goE, goUnd, conv_of, goCw]
  cases hu : P.underlying t with
  | none =>
    have : convY P hp t u none (P.underlying u) (St.ev ng ⟨tm, hp⟩ x) = none := by
      have : conv? P hp t u (St.ev ng ⟨tm, hp⟩ x) = none := by unfold conv?; rw [hu]; try rfl
      unfold convY
      split <;> simp_all
    rw [this]; rfl
  | some da =>
    cases hv : P.underlying u with
    | none =>
      have : convY P hp t u (some da) none (St.ev ng ⟨tm, hp⟩ x) = none := by
        have : conv? P hp t u (St.ev ng ⟨tm, hp⟩ x) = none := by unfold conv?; rw [hu, hv]; try (cases da <;> rfl)
        unfold convY
        split <;> simp_all
      rw [this]; rfl
    | some db => rfl
theorem stepO_makeInterface : stepO P ng (.makeInterface t x) oty d ⟨tm, hp⟩ k = goE ng x tm hp fun a => goV (mkIface? P t a) fun v => normT (putT tm d v) hp k := by
  simp only [stepO, aop, goH_map, goE]
theorem stepO_makeFunc {fn : Fn} : stepO P ng (.makeFunc fn #[] xs.toArray) oty d ⟨tm, hp⟩ k = goEs ng xs tm hp fun vs => normT (putT tm d (.func fn #[] vs.toArray)) hp k := by
  simp only [stepO, aop, goH_map, goEs_eq, mkFunc?]
  simp [goV]
theorem stepO_makeMap : stepO P ng (.makeMap t none) oty d ⟨tm, hp⟩ k = goNew hp ⟨.map #[] 0, true, true⟩ fun id S' => normT (putT tm d (.map (some id))) S' k := opq rfl
theorem stepO_range : stepO P ng (.range t x) oty d ⟨tm, hp⟩ k = goE ng x tm hp fun a => RangeK P ng t a hp tm d k := opq rfl
theorem stepO_next {b : Bool} : stepO P ng (.next x b) oty d ⟨tm, hp⟩ k = goE ng x tm hp fun a => NextK P ng b oty a hp tm d k := opq rfl
theorem stepO_entry : stepO P ng (.entry x) oty d ⟨tm, hp⟩ k = goE ng x tm hp fun a => EntryK P ng a hp tm d k := opq rfl
theorem stepO_makeSlice : stepO P ng (.makeSlice t x y) oty d ⟨tm, hp⟩ k = goE ng x tm hp fun a => goE ng y tm hp fun b => MakeK P t a b hp tm d k := by
  simp only [stepO, aop, goE, MakeK]
theorem stepO_slice {lo hi mx : Option Operand} : stepO P ng (.slice t x lo hi mx) oty d ⟨tm, hp⟩ k = goE ng x tm hp fun v => goEo ng lo tm hp fun lo => goEo ng hi tm hp fun hi => goEo ng mx tm hp fun mx => goV (slice? P t v lo hi mx) fun v => normT (putT tm d v) hp k := by
  simp only [stepO, aop, goH_map, goE, goEo]
theorem stepO_fieldAddr : stepO P ng (.fieldAddr t x i) oty d ⟨tm, hp⟩ k = goE ng x tm hp fun p => goFA P t i p fun v => normT (putT tm d v) hp k := by
  simp only [stepO, aop, goH_map, goE, goFA]
theorem stepO_field : stepO P ng (.field t x i) oty d ⟨tm, hp⟩ k = goE ng x tm hp fun p => goFV P t i p fun v => normT (putT tm d v) hp k := by
  simp only [stepO, aop, goH_map, goE, goFV]
theorem stepO_indexAddr : stepO P ng (.indexAddr t x y) oty d ⟨tm, hp⟩ k = goE ng x tm hp fun a => goE ng y tm hp fun b => goV (indexAddr? P t a b) fun v => normT (putT tm d v) hp k := by
  simp only [stepO, aop, goH_map, goE]
theorem stepO_index : stepO P ng (.index t x y) oty d ⟨tm, hp⟩ k = goE ng x tm hp fun a => goE ng y tm hp fun b => goV (index? P t a b) fun v => normT (putT tm d v) hp k := by
  simp only [stepO, aop, goH_map, goE]
theorem stepO_lookup {ok : Bool} : stepO P ng (.lookup t x y ok) oty d ⟨tm, hp⟩ k = goE ng x tm hp fun a => goE ng y tm hp fun b => LookK P t a b ok hp tm d k := by
  simp only [stepO, aop, goH_map, goE, LookK]
theorem stepO_mapUpdate : stepO P ng (.mapUpdate t x y z) oty d ⟨tm, hp⟩ k = goE ng x tm hp fun a => goE ng y tm hp fun b => goE ng z tm hp fun c => UpdK P t a b c hp tm d k := by
  simp only [stepO, aop, goH_maps, goE, UpdK]
theorem stepO_insert : stepO P ng (.insert t x y z) oty d ⟨tm, hp⟩ k = goE ng x tm hp fun a => goE ng y tm hp fun b => goE ng z tm hp fun c => UpdK P t a b c hp tm d k := by
  simp only [stepO, aop, goH_maps, goE, UpdK]
theorem stepO_extract : stepO P ng (.extract x i) oty d ⟨tm, hp⟩ k = goE ng x tm hp fun a => goEx a i fun v => normT (putT tm d v) hp k := by
  simp only [stepO, aop, goH_map, goE, goEx]
theorem stepO_call {ts : Array TypeId} : stepO P ng (.call ⟨.value fo, xs.toArray, ts⟩) oty d ⟨tm, hp⟩ k = goE ng fo tm hp fun fv => goCe fv fun f caps => goEs ng xs tm hp fun vs => CallK P ng f (vs ++ caps) hp tm d k := by
  simp only [stepO, goE, goCe, CallK]
  unfold goC
  cases callee? (St.ev ng ⟨tm, hp⟩ fo) with
  | none => rfl
  | some q => simp only [goEs_eq]
theorem stepO_len : stepO P ng (.call ⟨.builtin .len, #[x], #[t]⟩) oty d ⟨tm, hp⟩ k = goE ng x tm hp fun v => goUnd P t fun ty => goLen hp ty v fun v => normT (putT tm d v) hp k := by
  show goH ((len? P hp t (St.ev ng ⟨tm, hp⟩ x)).map (·, hp)) _ = _
  simp only [goH_map, goE, goUnd, goLen, len_of]
  cases P.underlying t with
  | none => rfl
  | some d => rfl
theorem stepO_append : stepO P ng (.call ⟨.builtin .append, #[x, y], #[t, u]⟩) oty d ⟨tm, hp⟩ k = goE ng x tm hp fun a => goE ng y tm hp fun b => AppK P t u a b hp tm d k := opq rfl
theorem stepO_copy : stepO P ng (.call ⟨.builtin .copy, #[x, y], #[t, u]⟩) oty d ⟨tm, hp⟩ k = goE ng x tm hp fun a => goE ng y tm hp fun b => CopyK P t u a b hp tm d k := opq rfl
theorem stepO_min {ts : List TypeId} : stepO P ng (.call ⟨.builtin .min, xs.toArray, ts.toArray⟩) oty d ⟨tm, hp⟩ k = goEs ng xs tm hp fun vs => goV (minV P ts oty vs) fun v => normT (putT tm d v) hp k := by
  show goH (if (xs.map (St.ev ng ⟨tm, hp⟩)).all flat = true then _ else none) _ = _
  simp only [goEs_eq, minV]
  by_cases h : (xs.map (St.ev ng ⟨tm, hp⟩)).all flat = true
  · simp only [if_pos h]; exact goH_map
  · simp only [if_neg h]; rfl
theorem stepO_max {ts : List TypeId} : stepO P ng (.call ⟨.builtin .max, xs.toArray, ts.toArray⟩) oty d ⟨tm, hp⟩ k = goEs ng xs tm hp fun vs => goV (maxV P ts oty vs) fun v => normT (putT tm d v) hp k := by
  show goH (if (xs.map (St.ev ng ⟨tm, hp⟩)).all flat = true then _ else none) _ = _
  simp only [goEs_eq, maxV]
  by_cases h : (xs.map (St.ev ng ⟨tm, hp⟩)).all flat = true
  · simp only [if_pos h]; exact goH_map
  · simp only [if_neg h]; rfl
theorem min_int {ts : List TypeId} {ki : IntKind} {a b : Int} : minV P ts oty [.int ki a, .int ki b] = some (.int ki (minI a b)) := opq rfl
theorem max_int {ts : List TypeId} {ki : IntKind} {a b : Int} : maxV P ts oty [.int ki a, .int ki b] = some (.int ki (maxI a b)) := opq rfl
end

/-! ### What the operations hand on -/
section
variable {t u e : TypeId} {d : Option Nat} {tm : List Value} {hp S : Heap} {k : Value → Prop} {id off m o i : Nat} {c : Array Value} {l cs : List Value} {f : Nat × Nat} {own b : Bool} {a v w : Value} {kb : Blk → Prop} {kh : Heap → Prop}
theorem goLd_p : goLd P t (.pointer (some ⟨id, off, none⟩)) S k = goB S id fun b => goLb P t off b k := by
  unfold goLd goB goLb
  rw [load_ptr]
  cases S[id]? <;> rfl
theorem goLb_c : goLb P t off ⟨.cells c e f, true, own⟩ k = goLa P t off c k := opq rfl
theorem goLa_l : goLa P t off l.toArray k = goP P t l off k := by
  unfold goLa
  rw [← goV_part]
theorem goLa_o : goLa P t off c k = goTy P t fun a m => goLz a m off c k := by
  unfold goLa goTy goLz
  rw [part_of]
  cases aggT P t with
  | none => rfl
  | some a => cases szT P t with
    | none => cases a <;> rfl
    | some m => rfl
theorem goLz_t : goLz true m off c k = goV (part1 (some true) (some m) c off) k := opq rfl
theorem goLz_f : goLz false m off c k = goV c[off]? k := opq rfl
theorem goSt_p : goSt P t (.pointer (some ⟨id, off, none⟩)) v S kh = goCl v fun cs => goSz P t fun m => goB S id fun b => goSb m off cs b fun b' => goSB S id b' kh := by
  unfold goSt goCl goSz goB goSb goSB
  rw [store_ptr]
  unfold stB
  cases hb : S[id]? with
  | none => cases szT P t <;> simp [goS]
  | some blk =>
    obtain ⟨ob, lv, ow⟩ := blk
    cases hs : szT P t with
    | none => cases ob <;> cases lv <;> cases ow <;> simp [goS]
    | some q =>
      cases ob <;> cases lv <;> cases ow <;> simp only [goS, and_false] <;> try rfl
      rename_i c e f
      by_cases h1 : known v = true
      · by_cases h2 : some q = some v.cells.size ∧ off + v.cells.size ≤ c.size ∧ known v = true ∧ ones v.cells.toList = true
        · rw [if_pos h2]
          obtain ⟨a1, a2, a3, a4⟩ := h2
          have a1' : v.cells.toList.length = q := by simpa using (Option.some.inj a1).symm
          have a2' : off + v.cells.toList.length ≤ c.size := by simpa using a2
          simp [h1, a1', a2', a4]
          have : v.cells.size = q := by simpa using a1'
          skip
          omega
        · rw [if_neg h2]
          simp only [h1, true_and]
          refine propext ⟨fun h => h.elim, fun ⟨b1, b2, b3, _⟩ => h2 ⟨by rw [← b1]; simp, by simpa using b2, h1, b3⟩⟩
      · simp [h1]
theorem setL_toArray : ∀ (cs l : List Value) (o : Nat), setL l.toArray o cs = (setP l o cs).toArray
  | [], _, _ => rfl
  | c :: cs, l, o => by
    simp only [setL, setP]
    have : l.toArray.setIfInBounds o c = (l.set o c).toArray := by simp
    rw [this]
    exact setL_toArray cs _ _
theorem goSb_l : goSb m off cs ⟨.cells l.toArray e f, true, true⟩ kb = (lenV cs = m ∧ off + lenV cs ≤ lenV l ∧ onesV cs = true ∧ goSP l off cs fun l' => kb ⟨.cells l'.toArray e f, true, true⟩) := by
  simp only [goSb, lenV_eq, onesV, goSP, setL_toArray, List.size_toArray]
theorem goSb_o : goSb m off cs ⟨.cells c e f, true, true⟩ kb = (lenV cs = m ∧ off + lenV cs ≤ c.size ∧ onesV cs = true ∧ kb ⟨.cells (setL c off cs) e f, true, true⟩) := by
  simp only [goSb, lenV_eq, onesV]
theorem goNil_p {ad : Addr} : goNil (.pointer (some ad)) k = k (.pointer (some ad)) := opq rfl
theorem goNil_f {g : FuncId} {ys : Array Value} : goNil (.func (.func g) #[] ys) k = k (.func (.func g) #[] ys) := opq rfl
theorem goPick_b : goPick (.bool b) v w k = condB b (fun _ => k v) (fun _ => k w) := by cases b <;> rfl
theorem goCw_i {a b : TypeId} {k1 k2 k3 : IntKind} {x : Int} {ks : St → Prop} : goCw P a b (.int k1) (.int k2) (.int k3 x) hp tm d ks = goV (some (.int k2 (k2.wrap x))) fun v => normT (putT tm d v) hp ks := opq rfl
theorem goCw_s {a b : TypeId} {r : ByteArray} {ks : St → Prop} : goCw P a b .string .string (.string r) hp tm d ks = normT (putT tm d (.string r)) hp ks := opq rfl
theorem goCw_b {a b e : TypeId} {x : Value} {ks : St → Prop} (h : P.underlying a = some .string) (h' : P.underlying b = some (.slice e)) : goCw P a b .string (.slice e) x hp tm d ks = ConvK P a b x hp tm d ks := by
  unfold goCw ConvK; rw [conv_of, h, h']
theorem goCw_t {a b e : TypeId} {x : Value} {ks : St → Prop} (h : P.underlying a = some (.slice e)) (h' : P.underlying b = some .string) : goCw P a b (.slice e) .string x hp tm d ks = ConvK P a b x hp tm d ks := by
  unfold goCw ConvK; rw [conv_of, h, h']
theorem goEo_n {ko : Option Value → Prop} : goEo ng none tm hp ko = ko none := opq rfl
theorem goEo_s {x : Operand} {ko : Option Value → Prop} : goEo ng (some x) tm hp ko = goE ng x tm hp fun v => ko (some v) := opq rfl
theorem goPos_s {x : Prop} : goPos (m + 1) x = x := by simp [goPos]
theorem goFA_p : goFA P t i (.pointer (some ⟨id, off, none⟩)) k = goFld P t i fun o ft => goSz P ft fun m => goPos m (goNat (off + o) fun q => k (.pointer (some ⟨id, q, none⟩))) := by
  unfold goFA fieldAddr? goFld goSz goPos goNat
  cases P.underlying t with
  | none => rfl
  | some d => cases d with
    | struct fs =>
      cases hf : fs[i]? with
      | none => simp [hf, goV]
      | some fd =>
        simp only [hf]
        cases hz : szT P fd.type with
        | none => rfl
        | some m => cases m with
          | zero => simp [goV]
          | succ m => simp [goV]
    | _ => rfl
theorem goFV_l : goFV P t i (.agg l.toArray) k = goFld P t i fun o ft => goP P ft l o k := by
  unfold goFV field? goFld
  cases P.underlying t with
  | none => rfl
  | some d => cases d with
    | struct fs =>
      cases hf : fs[i]? with
      | none => simp [hf, goV]
      | some fd =>
        simp only [hf]
        rw [← goV_part]
    | _ => rfl
theorem goEx_2 : goEx (.tuple (a :: v :: l).toArray) i k = goN (a :: v :: l) i k := by
  unfold goEx goN
  rw [extract_at (by simp)]
  simp
theorem goCe_f {g : FuncId} {kf : FuncId → List Value → Prop} : goCe (.func (.func g) #[] l.toArray) kf = kf g l := opq rfl
theorem goLen_s {r : ByteArray} : goLen S .string (.string r) k = goV (some (.int .i64 r.size)) k := opq rfl
theorem goLen_l {e : TypeId} {ad : Option Addr} {n c : Nat} : goLen S (.slice e) (.slice ad n c) k = k (.int .i64 n) := opq rfl
theorem goLen_n {kt et : TypeId} : goLen S (.map kt et) (.map none) k = k (.int .i64 0) := opq rfl
theorem goLen_m {kt et : TypeId} : goLen S (.map kt et) (.map (some id)) k = goB S id fun b => goLm b k := by
  unfold goLen lenZ goB goLm
  simp only []
  cases S[id]? with
  | none => rfl
  | some blk =>
    obtain ⟨ob, lv, ow⟩ := blk
    cases ob <;> cases lv <;> rfl
theorem goLm_m {es : Array MapEntry} {cl : Nat} : goLm ⟨.map es cl, true, own⟩ k = goV (some (.int .i64 es.size)) k := opq rfl
theorem goBu_eq {vs : List (Nat × Value)} : goBu P t vs k = goBld P t fun z offs => goFill offs z vs fun c => k (.agg c.toArray) := by
  unfold goBu goBld
  rw [build_of]
  unfold buildZ
  simp only [goFill_eq]
  cases P.underlying t with
  | none => rfl
  | some d => cases d with
    | struct fs =>
      cases zero? P t with
      | none => rfl
      | some z =>
        simp only []
        cases placesL P fs.toList with
        | none => rfl
        | some ps =>
          simp only [← partsK_eq]
          by_cases h1 : flat z = true
          · by_cases h2 : partsK vs = true
            · simp only [h1, h2, Bool.and_true, if_true, true_and]
              cases fillL ps z.cells.toList vs <;> rfl
            · simp [h2, goV]
          · simp [h1, goV]
    | _ => rfl
theorem goBs_eq {vs : List (Nat × Value)} {kv : Value → Heap → Prop} : goBs P t m vs S kv = goSl P t fun e sz z => m * sz ≤ 16777216 ∧ goRep z m fun z' => goFs sz z' vs fun c => goNew S ⟨.cells c.toArray e (0, 0), true, true⟩ fun id S' => kv (.slice (some ⟨id, 0, none⟩) m sz) S' := by
  unfold goBs goSl goRep goNew
  rw [buildSlice_of]
  unfold buildSliceZ
  simp only [goFs_eq, ← partsK_eq]
  cases P.underlying t with
  | none => rfl
  | some d => cases d with
    | slice e =>
      simp only []
      cases zero? P e with
      | none => rfl
      | some z =>
        cases szT P e with
        | none => rfl
        | some sz =>
          simp only []
          by_cases h : flat z = true ∧ 0 < z.cells.size ∧ z.cells.size = sz ∧ m * sz ≤ 2 ^ 24 ∧ partsK vs = true
          · rw [if_pos h]
            obtain ⟨h1, h2, h3, h4, h5⟩ := h
            have h4' : m * sz ≤ 16777216 := h4
            have h2' : 0 < sz := by omega
            simp only [h1, h2', h3, h4', h5, true_and]
            cases fillS sz (zerosL z.cells.toList m) vs <;> rfl
          · rw [if_neg h]
            refine propext ⟨fun h => h.elim, fun ⟨a1, a2, a3, a4, a5, _⟩ => h ⟨a1, a2, a3, a4, a5⟩⟩
    | _ => rfl
end

section
variable {offs : List (Nat × Nat)} {z acc : List Value} {i o m sz : Nat} {v a : Value} {r : List (Nat × Value)} {k : List Value → Prop} {ko : Nat → Nat → Prop} {kn : Nat → Prop}
theorem goOf_z : goOf ((o, m) :: offs) 0 ko = ko o m := opq rfl
theorem goOf_s {q : Nat × Nat} : goOf (q :: offs) (i + 1) ko = goOf offs i ko := opq rfl
theorem goFill_n : goFill offs z [] k = k z := opq rfl
theorem goFill_c : goFill offs z ((i, v) :: r) k = goOf offs i fun o m => goCl v fun cs => lenV cs = m ∧ o + m ≤ lenV z ∧ goSP z o cs fun z' => goFill offs z' r k := by
  simp only [goFill, goOf, goCl, goSP, lenV_eq]
theorem goRep_z : goRep z 0 k = k [] := opq rfl
theorem goRep_s : goRep z (m + 1) k = goRep z m fun acc => appV z acc k := opq rfl
theorem appV_n : appV [] acc k = k acc := opq rfl
theorem appV_c : appV (a :: z) acc k = appV z acc fun l => k (a :: l) := opq rfl
theorem goFs_n : goFs sz z [] k = k z := opq rfl
theorem goFs_c : goFs sz z ((i, v) :: r) k = goCl v fun cs => lenV cs = sz ∧ i * sz + sz ≤ lenV z ∧ goNat (i * sz) fun o => goSP z o cs fun z' => goFs sz z' r k := by
  simp only [goFs, goCl, goSP, goNat, lenV_eq]
theorem lenV_n : lenV [] = 0 := opq rfl
theorem lenV_c : lenV (a :: z) = lenV z + 1 := opq rfl
theorem goNat_o : goNat m kn = kn m := opq rfl
end
section
variable {k : IntKind} {i : Int} {b : Bool} {r : ByteArray} {a : Option Addr} {m c : Nat} {f : Fn} {x : Value} {xs ys : Array Value} {t : TypeId} {l : List Value}
theorem onesV_n : onesV [] = true := opq rfl
theorem onesV_int : onesV (.int k i :: l) = onesV l := opq rfl
theorem onesV_bool : onesV (.bool b :: l) = onesV l := opq rfl
theorem onesV_str : onesV (.string r :: l) = onesV l := opq rfl
theorem onesV_ptr : onesV (.pointer a :: l) = onesV l := opq rfl
theorem onesV_slice : onesV (.slice a m c :: l) = onesV l := opq rfl
theorem onesV_map {o : Option Nat} : onesV (.map o :: l) = onesV l := opq rfl
theorem onesV_nilf : onesV (.nilFunc :: l) = onesV l := opq rfl
theorem onesV_nili : onesV (.nilIface :: l) = onesV l := opq rfl
theorem onesV_func : onesV (.func f xs ys :: l) = onesV l := opq rfl
theorem onesV_iface : onesV (.iface t x :: l) = onesV l := opq rfl
end

/-! ### Ends and tests -/
section
variable {tm : List Value} {hp : Heap} {Q : Value → Heap → Prop} {QE : Exit → St → Prop} {rs : List ResultVar} {vs : List Value} {t a : Nat} {ex : List (Nat × Ord)} {c : Operand} {x y : Code} {X Y : Unit → Prop} {b : Bool}
theorem goRs_tmp' : goRs P tm hp Q (.tmp t :: rs) vs = goG tm t fun v => goRs P tm hp Q rs (v :: vs) := opq rfl
theorem goRs_cell' {ty : TypeId} : goRs P tm hp Q (.cell a ty :: rs) vs = goG tm a fun p => goLd P ty p hp fun v => goRs P tm hp Q rs (v :: vs) := opq rfl
theorem wpc_cond' : wpc P ng n ex (.cond c x y) ⟨tm, hp⟩ QE = goE ng c tm hp fun v => condA v (fun _ => wpc P ng n ex x ⟨tm, hp⟩ QE) (fun _ => wpc P ng n ex y ⟨tm, hp⟩ QE) := opq rfl
theorem condA_b : condA (.bool b) X Y = condB b X Y := opq rfl
end

theorem pur_beq {t : TypeId} {p q : Bool} (hu : P.underlying t = some .bool) (d : Nat) (f : Bool → Value) : pur P (f <$> Op.equalIn (d + 1) t (.bool p) (.bool q)) = some (f (decide (p = q))) := by
  have h2 : (p == q) = decide (p = q) := by cases p <;> cases q <;> rfl
  rw [← h2]
  simp only [Op.equalIn, underlying, program]
  show pur P (Sem.bind (Sem.bind (Sem.bind (.program .pure) _) _) _) = _
  simp only [Sem.bind, pur, hu]
  rfl
theorem bin_beq {t : TypeId} {x y : Operand} {p q : Bool} (hu : P.underlying t = some .bool) : bin? P .eql t x y (.bool p) (.bool q) = some (.bool (decide (p = q))) := by
  simp [bin?, flat, flat0, purF, eqGuard, binOp, Op.equal, show Op.maxDepth = 9999 + 1 from rfl, pur_beq hu 9999, -Nat.reduceAdd]
theorem bin_bneq {t : TypeId} {x y : Operand} {p q : Bool} (hu : P.underlying t = some .bool) : bin? P .neq t x y (.bool p) (.bool q) = some (.bool (!decide (p = q))) := by
  simp [bin?, flat, flat0, purF, eqGuard, binOp, Op.equal, show Op.maxDepth = 9999 + 1 from rfl, pur_beq hu 9999, -Nat.reduceAdd]
attribute [simp] bin_beq bin_bneq bin_seql bin_sneq
attribute [simp ↓] ifA_not ifA_and ifA_or ifA_dnot ifA_dand ifA_dor
attribute [simp ↓] wpc_skip wpc_label wpc_exit wpc_ret wpc_seq wpc_cond' wpc_block wpc_loop wpc_draw drawA_none drawA_some exc_nil exc_cons opscQ_done opscQ_take opscQ_one opscQ_two againQ_nil againQ_cons goO_some nthO_z nthO_s wpc_region thenA_normal thenA_ret thenA_exit inBlockA_normal inBlockA_ret inBlockA_exit ifA_true ifA_false
  EndsA_normal EndsA_ret EndsA_exit goRs_one goRs_nil goRs_two goRs_tmp' goRs_cell'
  opsc_nil opsc_none opsc_some goD_z goD_s goWd_n goWd_s goWv_t goWv_f goWv_k condA_b
  stepO_move stepO_assign stepO_pick stepO_alloc stepO_box stepO_build stepO_buildSlice stepO_load stepO_store stepO_nilCheck stepO_binOp stepO_unOp stepO_convert stepO_makeInterface stepO_makeFunc stepO_makeMap stepO_range stepO_next stepO_entry stepO_makeSlice stepO_slice stepO_fieldAddr stepO_field stepO_indexAddr stepO_index stepO_lookup stepO_mapUpdate stepO_insert stepO_extract stepO_call stepO_len stepO_append stepO_copy stepO_min stepO_max
  goG_z goG_s goE_tmp goE_int goE_bool goE_str goE_nilp goE_nils goE_nilm goE_nilf goE_nili goE_func goEs_nil goEs_cons goPs_nil goPs_cons
  normT_put normT_put0 zipK_s zipK_z unzK_s unzK_z
  goN_z goN_s goSP_eq zipC_s zipC_z zipC_n unzC_s unzC_n goX_s goX_z takC_s takC_z
  goCl_int goCl_bool goCl_str goCl_ptr goCl_slice goCl_map goCl_nilf goCl_func goCl_iface goCl_nili goCl_agg
  goP_eq goP1_t goP1_f goB_at0 goB_at goBo_some goT_z goT_s lenB_n lenB_c goId_z goNewT_s goNewT_z goNewT_g lenB_g goT_g goT_g0 zipB_g zipB_g0 unzB_s unzB_z goSB_at0 goSB_at zipB_z zipB_s
  goLd_p goLb_c goLz_t goLz_f goSt_p goNil_p goNil_f goCw_i goCw_s goEo_n goEo_s goPos_s goFA_p goFV_l goEx_2 goCe_f goLen_s goLen_l goLen_n goLen_m goLm_m goBu_eq goBs_eq
  goOf_z goOf_s goFill_n goFill_c goRep_z goRep_s appV_n appV_c goFs_n goFs_c lenV_n lenV_c onesV_n onesV_int onesV_bool onesV_str onesV_ptr onesV_slice onesV_map onesV_nilf onesV_nili onesV_func onesV_iface
attribute [simp ↓ high] zipK_8 unzK_8 goG_8 goD_8 nthO_8 goLa_l goSb_l goNew_app
attribute [simp ↓ low] goLa_o goSb_o goNew_o goNewT_v lenB_v unzB_g
attribute [simp high] condB_t condB_f
attribute [simp low] condB_o goId_o goB_o goSB_o
attribute [simp] goE_agg goE_global goB_old goSB_old goPick_b goNat_o goCw_b goCw_t normT_eq goV_some goH_some goS_some
attribute [simp] bin_add bin_sub bin_mul bin_eql bin_neq bin_lss bin_leq bin_gtr bin_geq bin_leql bin_lneq bin_ladd un_not' un_neg' str_size append_str min_int max_int part1_agg
  indexAddr_of indexAddrZ_slice index_of indexZ_str slice_of sliceZ_from sliceZ_to sliceZ_mid omap_some
  flat0_int flat0_bool flat0_str flat0_nilp flat0_nils flat0_nilm flat0_nilf flat0_nili flat_int flat_bool flat_str flat_nilp flat_nils flat_nilm flat_nilf flat_nili flat_agg

end Go.Am
