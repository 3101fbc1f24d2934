import Derived.Test.YtbigpkfdeaigeaaDoorAm8
import Derived.Tactics
import Derived.Lib.SlicesS
/- Every operation that calls nothing: its abstract meaning, and that the model does it. No condition. -/
namespace Go.Am
open Go
set_option linter.unusedSimpArgs false
set_option linter.unusedVariables false

variable {P : Program} {ng : Nat}

def builtin? (P : Program) (S : Heap) (b : Builtin) (ts : List TypeId) (ty : TypeId) (xs : List Value) : Option (Value × Heap) :=
  match b, ts, xs with
  | .len, [t], [x] => (len? P S t x).map (·, S)
  | .append, [t, tx], [x, y] => append? P S t tx x y
  | .copy, [t, tx], [x, y] => copy? P S t tx x y
  | .min, ts, xs => if xs.all flat then (purF P (Builtin.min_ ts.toArray ty xs.toArray)).map (·, S) else none
  | .max, ts, xs => if xs.all flat then (purF P (Builtin.max_ ts.toArray ty xs.toArray)).map (·, S) else none
  | _, _, _ => none

def pick? (c x y : Value) : Option Value :=
  match c with
  | .bool t => some (if t then x else y)
  | _ => none

def nilCheck? (x : Value) : Option Value :=
  match x with
  | .pointer (some a) => some (.pointer (some a))
  | .func (.func f) first c => if first.isEmpty then some (.func (.func f) #[] c) else none
  | _ => none

def un? (P : Program) (op : UnOp) (x : Value) : Option Value := if flat x then purF P (Op.unary op x) else none

def mkIface? (P : Program) (t : TypeId) (x : Value) : Option Value :=
  match P.underlying t with
  | some (.interface _) => none
  | some _ => if known x then some (.iface t x) else none
  | none => none

def mkFunc? (fn : Fn) (first : Array Operand) (caps : Array Value) : Option Value := if first.isEmpty then some (.func fn #[] caps) else none

/-- What a walk over a map answers at its end. -/
def isOver : Array Value → Bool
  | ⟨[.bool false]⟩ => true
  | _ => false
def extract? (x : Value) (i : Nat) : Option Value :=
  match x with
  | .tuple vs => if 2 ≤ vs.size ∨ isOver vs = true then vs[i]? else none
  | _ => none

/-- What an operation does that calls nothing. -/
def aop (P : Program) (ng : Nat) (s : St) (o : Oper) : Option (Value × Heap) :=
  match o.op with
  | .move x => some (s.ev ng x, s.hp)
  | .assign x => some (s.ev ng x, s.hp)
  | .pick c a b => (pick? (s.ev ng c) (s.ev ng a) (s.ev ng b)).map (·, s.hp)
  | .alloc t => alloc? P s.hp t
  | .box t x => box? s.hp t (s.ev ng x)
  | .build t ps => (build? P t (ps.map fun x => (x.1, s.ev ng x.2))).map (·, s.hp)
  | .buildSlice t n ps => buildSlice? P s.hp t n (ps.map fun x => (x.1, s.ev ng x.2))
  | .load t x => (load? P s.hp t (s.ev ng x)).map (·, s.hp)
  | .store t x y => (store? P s.hp t (s.ev ng x) (s.ev ng y)).map (.tuple #[], ·)
  | .nilCheck x => (nilCheck? (s.ev ng x)).map (·, s.hp)
  | .binOp op t x y _ => (bin? P op t x y (s.ev ng x) (s.ev ng y)).map (·, s.hp)
  | .unOp op _ x => (un? P op (s.ev ng x)).map (·, s.hp)
  | .convert a b x => conv? P s.hp a b (s.ev ng x)
  | .makeInterface t x => (mkIface? P t (s.ev ng x)).map (·, s.hp)
  | .makeFunc fn first cap => (mkFunc? fn first (cap.map (s.ev ng))).map (·, s.hp)
  | .makeMap _ none => some (makeMap? s.hp)
  | .makeSlice t l c => makeSlice? P s.hp t (s.ev ng l) (s.ev ng c)
  | .slice t x lo hi mx => (slice? P t (s.ev ng x) (lo.map (s.ev ng)) (hi.map (s.ev ng)) (mx.map (s.ev ng))).map (·, s.hp)
  | .fieldAddr t x f => (fieldAddr? P t (s.ev ng x) f).map (·, s.hp)
  | .field t x f => (field? P t (s.ev ng x) f).map (·, s.hp)
  | .indexAddr t x i => (indexAddr? P t (s.ev ng x) (s.ev ng i)).map (·, s.hp)
  | .index t x i => (index? P t (s.ev ng x) (s.ev ng i)).map (·, s.hp)
  | .lookup t m k ok => (lookup? P s.hp t (s.ev ng m) (s.ev ng k) ok).map (·, s.hp)
  | .mapUpdate t m k x => (mapUpdate? P s.hp t (s.ev ng m) (s.ev ng k) (s.ev ng x)).map (.tuple #[], ·)
  | .insert t m k x => (mapUpdate? P s.hp t (s.ev ng m) (s.ev ng k) (s.ev ng x)).map (.tuple #[], ·)
  | .extract x i => (extract? (s.ev ng x) i).map (·, s.hp)
  | .call c => match c.callee with
    | .builtin b => builtin? P s.hp b c.argTypes.toList o.type (c.args.toList.map (s.ev ng))
    | _ => none
  | _ => none

theorem VRo.map {E : Emb} {f g : Operand → Value} (h : ∀ x, VR E (f x) (g x)) (x : Option Operand) : VRo E (x.map f) (x.map g) := by
  cases x with
  | none => trivial
  | some x => exact h x

theorem parts_vr {E : Emb} {f g : Operand → Value} (h : ∀ x, VR E (f x) (g x)) (ps : Array (Nat × Operand)) :
    (ps.map fun x => (x.1, f x.2)).size = (ps.map fun x => (x.1, g x.2)).size ∧
    ∀ i (h1 : i < (ps.map fun x => (x.1, f x.2)).size) (h2 : i < (ps.map fun x => (x.1, g x.2)).size),
      (ps.map fun x => (x.1, f x.2))[i].1 = (ps.map fun x => (x.1, g x.2))[i].1 ∧ VR E (ps.map fun x => (x.1, f x.2))[i].2 (ps.map fun x => (x.1, g x.2))[i].2 := by
  refine ⟨by simp, fun i h1 h2 => ?_⟩
  simp only [Array.getElem_map]
  exact ⟨trivial, h _⟩

theorem list_flat {E : Emb} {f g : Operand → Value} (h : ∀ x, VR E (f x) (g x)) : ∀ (l : List Operand), (l.map f).all flat = true → l.map g = l.map f
  | [], _ => rfl
  | x :: l, hf => by
    simp only [List.map_cons, List.all_cons, Bool.and_eq_true] at hf ⊢
    rw [(h x).eq hf.1, list_flat h l hf.2]

theorem one_arg {f : Operand → Value} {l : List Operand} {x : Value} (h : l.map f = [x]) : ∃ y, l = [y] ∧ f y = x := by
  match l, h with
  | [y], h => exact ⟨y, rfl, by simpa using h⟩

theorem two_args {f : Operand → Value} {l : List Operand} {x y : Value} (h : l.map f = [x, y]) : ∃ x0 y0, l = [x0, y0] ∧ f x0 = x ∧ f y0 = y := by
  match l, h with
  | [x0, y0], h => exact ⟨x0, y0, rfl, by simpa using h⟩

theorem aop_sound {E : Emb} {w : World} {s : St} {a : Act} {o : Oper} {v : Value} {S' : Heap} (h : aop P ng s o = some (v, S')) (hT : RelT E s.tm a) (hr : Rel ng E s.hp w) :
    Does P ng E s.hp w (execOp a.eval o) v S' := by
  have hv : ∀ x, VR E (s.ev ng x) (a.eval x) := fun x => hT.ev hr x
  obtain ⟨dst, op, ty, pos, after, guard⟩ := o
  cases op with
  | move x =>
    simp only [aop, Option.some.injEq, Prod.mk.injEq] at h
    obtain ⟨rfl, rfl⟩ := h
    exact ⟨_, a.eval x, E, w, rfl, .inl rfl, hr, hv x, Grow.refl _ _ _ _⟩
  | assign x =>
    simp only [aop, Option.some.injEq, Prod.mk.injEq] at h
    obtain ⟨rfl, rfl⟩ := h
    exact ⟨_, a.eval x, E, w, rfl, .inl rfl, hr, hv x, Grow.refl _ _ _ _⟩
  | pick c x y =>
    simp only [aop, Option.map_eq_some_iff] at h
    obtain ⟨u, hu, h2⟩ := h
    obtain ⟨rfl, rfl⟩ := Prod.mk.inj h2
    unfold pick? at hu
    split at hu
    · rename_i t ht
      obtain rfl := Option.some.inj hu
      have hc := hv c
      rw [ht] at hc
      cases hcc : a.eval c <;> rw [hcc] at hc <;> cases hc
      refine ⟨_, if t then a.eval x else a.eval y, E, w, by simp [execOp, hcc, asBool], .inl rfl, hr, ?_, Grow.refl _ _ _ _⟩
      cases t
      · exact hv y
      · exact hv x
    · cases hu
  | alloc t =>
    simp only [aop] at h
    obtain ⟨v', E', w', h1, h2, h3, h4⟩ := alloc_run h hr
    exact Does.value h2 h1 h3 h4
  | box t x =>
    simp only [aop] at h
    obtain ⟨v', E', w', h1, h2, h3, h4⟩ := box_run h hr (hv x)
    exact Does.value h2 h1 h3 h4
  | build t ps =>
    simp only [aop, Option.map_eq_some_iff] at h
    obtain ⟨u, hu, h2⟩ := h
    obtain ⟨rfl, rfl⟩ := Prod.mk.inj h2
    obtain ⟨hs, hp⟩ := parts_vr hv ps
    obtain ⟨v', h1, h2⟩ := build_run hu hs hp
    exact Does.same hr (h1 w) h2
  | buildSlice t n ps =>
    simp only [aop] at h
    obtain ⟨hs, hp⟩ := parts_vr hv ps
    obtain ⟨v', E', w', h1, h2, h3, h4⟩ := buildSlice_run h hr hs hp
    exact Does.value h2 h1 h3 h4
  | load t x =>
    simp only [aop, Option.map_eq_some_iff] at h
    obtain ⟨u, hu, h2⟩ := h
    obtain ⟨rfl, rfl⟩ := Prod.mk.inj h2
    obtain ⟨v', h1, h2⟩ := load_run hu hr (hv x)
    exact Does.same hr h1 h2
  | store t x y =>
    simp only [aop, Option.map_eq_some_iff] at h
    obtain ⟨u, hu, h2⟩ := h
    obtain ⟨rfl, rfl⟩ := Prod.mk.inj h2
    obtain ⟨w', h1, h2, h3⟩ := store_run hu hr (hv x) (hv y)
    exact Does.unit h2 h1 h3
  | nilCheck x =>
    simp only [aop, Option.map_eq_some_iff] at h
    obtain ⟨u, hu, h2⟩ := h
    obtain ⟨rfl, rfl⟩ := Prod.mk.inj h2
    have hx := hv x
    unfold nilCheck? at hu
    split at hu
    · rename_i ad hp
      obtain rfl := Option.some.inj hu
      rw [hp] at hx
      generalize hax : a.eval x = ax at hx
      have hx0 := hx
      cases hx with
      | ptr off he => exact ⟨_, _, E, w, by simp [execOp, hax], .inl rfl, hr, hx0, Grow.refl _ _ _ _⟩
    · rename_i f first c hp
      split at hu
      · rename_i hf
        obtain rfl := Option.some.inj hu
        have : first = #[] := Array.isEmpty_iff.1 hf
        subst this
        rw [hp] at hx
        generalize hax : a.eval x = ax at hx
        have hx0 := hx
        cases hx with
        | func fn hs hh => exact ⟨_, _, E, w, by simp [execOp, hax], .inl rfl, hr, hx0, Grow.refl _ _ _ _⟩
      · cases hu
    · cases hu
  | binOp op t x y ty =>
    simp only [aop, Option.map_eq_some_iff] at h
    obtain ⟨u, hu, h2⟩ := h
    obtain ⟨rfl, rfl⟩ := Prod.mk.inj h2
    obtain ⟨h1, h2⟩ := bin_run hu (hv x) (hv y) w
    exact Does.same hr h1 h2
  | unOp op t x =>
    simp only [aop, Option.map_eq_some_iff] at h
    obtain ⟨u, hu, h2⟩ := h
    obtain ⟨rfl, rfl⟩ := Prod.mk.inj h2
    unfold un? at hu
    split at hu
    · rename_i hf
      have := (hv x).eq hf
      rw [← this] at hu
      exact Does.same hr (purF_run hu w).1 (VR.refl E (purF_run hu w).2)
    · cases hu
  | convert c d x =>
    simp only [aop] at h
    obtain ⟨v', E', w', h1, h2, h3, h4⟩ := conv_run h hr (hv x)
    exact Does.value h2 h1 h3 h4
  | makeInterface t x =>
    simp only [aop, Option.map_eq_some_iff] at h
    obtain ⟨u, hu, h2⟩ := h
    obtain ⟨rfl, rfl⟩ := Prod.mk.inj h2
    unfold mkIface? at hu
    split at hu
    · cases hu
    · rename_i d hne hud
      split at hu
      · obtain rfl := Option.some.inj hu
        refine Does.same hr (v' := .iface t (a.eval x)) ?_ (.iface t (hv x))
        cases d <;> first | (simp [Instr.makeInterface, run_underlying hud]; done) | exact absurd rfl (hne _)
      · cases hu
    · cases hu
  | makeFunc fn first cap =>
    simp only [aop, Option.map_eq_some_iff] at h
    obtain ⟨u, hu, h2⟩ := h
    obtain ⟨rfl, rfl⟩ := Prod.mk.inj h2
    unfold mkFunc? at hu
    split at hu
    · rename_i hf
      obtain rfl := Option.some.inj hu
      have : first = #[] := Array.isEmpty_iff.1 hf
      subst this
      refine Does.same hr (v' := .func fn #[] (cap.map a.eval)) ?_ (.func fn (by simp) fun i h1 h2 => ?_)
      · simp [Instr.makeFunc]
      · simp only [Array.getElem_map]
        exact hv _
    · cases hu
  | makeMap t r =>
    cases r with
    | some r => simp [aop] at h
    | none =>
      simp only [aop, Option.some.injEq] at h
      obtain ⟨v', E', w', h1, h2, h3, h4⟩ := makeMap_run (P := P) t hr
      rw [h] at h2 h3 h4
      exact Does.value h2 h1 h3 h4
  | makeSlice t l c =>
    simp only [aop] at h
    obtain ⟨v', E', w', h1, h2, h3, h4⟩ := makeSlice_run h hr (hv l) (hv c)
    exact Does.value h2 h1 h3 h4
  | slice t x lo hi mx =>
    simp only [aop, Option.map_eq_some_iff] at h
    obtain ⟨u, hu, h2⟩ := h
    obtain ⟨rfl, rfl⟩ := Prod.mk.inj h2
    obtain ⟨v', h1, h2⟩ := slice_run hu (hv x) (VRo.map hv lo) (VRo.map hv hi) (VRo.map hv mx)
    exact Does.same hr (h1 w) h2
  | fieldAddr t x f =>
    simp only [aop, Option.map_eq_some_iff] at h
    obtain ⟨u, hu, h2⟩ := h
    obtain ⟨rfl, rfl⟩ := Prod.mk.inj h2
    obtain ⟨v', h1, h2⟩ := fieldAddr_run hu (hv x)
    exact Does.same hr (h1 w) h2
  | field t x f =>
    simp only [aop, Option.map_eq_some_iff] at h
    obtain ⟨u, hu, h2⟩ := h
    obtain ⟨rfl, rfl⟩ := Prod.mk.inj h2
    obtain ⟨v', h1, h2⟩ := field_run hu (hv x)
    exact Does.same hr (h1 w) h2
  | indexAddr t x i =>
    simp only [aop, Option.map_eq_some_iff] at h
    obtain ⟨u, hu, h2⟩ := h
    obtain ⟨rfl, rfl⟩ := Prod.mk.inj h2
    obtain ⟨v', h1, h2⟩ := indexAddr_run hu (hv x) (hv i)
    exact Does.same hr (h1 w) h2
  | index t x i =>
    simp only [aop, Option.map_eq_some_iff] at h
    obtain ⟨u, hu, h2⟩ := h
    obtain ⟨rfl, rfl⟩ := Prod.mk.inj h2
    obtain ⟨v', h1, h2⟩ := index_run hu (hv x) (hv i)
    exact Does.same hr (h1 w) h2
  | lookup t m k ok =>
    simp only [aop, Option.map_eq_some_iff] at h
    obtain ⟨u, hu, h2⟩ := h
    obtain ⟨rfl, rfl⟩ := Prod.mk.inj h2
    obtain ⟨v', h1, h2⟩ := lookup_run hu hr (hv m) (hv k)
    exact Does.same hr h1 h2
  | mapUpdate t m k x =>
    simp only [aop, Option.map_eq_some_iff] at h
    obtain ⟨u, hu, h2⟩ := h
    obtain ⟨rfl, rfl⟩ := Prod.mk.inj h2
    obtain ⟨w', h1, h2, h3⟩ := mapUpdate_run hu hr (hv m) (hv k) (hv x)
    exact Does.unit h2 h1 h3
  | insert t m k x =>
    simp only [aop, Option.map_eq_some_iff] at h
    obtain ⟨u, hu, h2⟩ := h
    obtain ⟨rfl, rfl⟩ := Prod.mk.inj h2
    obtain ⟨w', h1, h2, h3⟩ := mapUpdate_run hu hr (hv m) (hv k) (hv x)
    exact Does.unit h2 h1 h3
  | extract x i =>
    simp only [aop, Option.map_eq_some_iff] at h
    obtain ⟨u, hu, h2⟩ := h
    obtain ⟨rfl, rfl⟩ := Prod.mk.inj h2
    have hx := hv x
    unfold extract? at hu
    split at hu
    · rename_i vs hp
      split at hu
      · rename_i h2v
        rw [hp] at hx
        generalize hax : a.eval x = ax at hx
        cases hx with
        | any v => simp [isOver] at h2v
        | skipped => simp [isOver] at h2v
        | tuple hs hh =>
          obtain ⟨hi, rfl⟩ := Array.getElem?_eq_some_iff.1 hu
          rename_i ys
          have := Does.same (P := P) hr (m := Instr.extract (.tuple ys) i) (v' := ys[i]'(by omega)) (by simp [Instr.extract, Array.getElem?_eq_getElem (show i < ys.size by omega)]) (hh i hi (by omega))
          simpa [execOp, hax] using this
      · cases hu
    · cases hu
  | call c =>
    obtain ⟨callee, args, argTypes⟩ := c
    cases callee with
    | value f => simp [aop] at h
    | invoke r n => simp [aop] at h
    | builtin b =>
      simp only [aop] at h
      unfold builtin? at h
      split at h
      · rename_i t x ht hx
        simp only [Option.map_eq_some_iff] at h
        obtain ⟨u, hu, h2⟩ := h
        obtain ⟨rfl, rfl⟩ := Prod.mk.inj h2
        obtain ⟨y, hy, rfl⟩ := one_arg hx
        obtain ⟨h1, h2⟩ := len_run (ty := ty) hu hr (hv y)
        have e1 : argTypes = #[t] := by apply Array.ext'; simpa using ht
        have e2 : args = #[y] := by apply Array.ext'; simpa using hy
        subst e1 e2
        refine ⟨_, u, E, w, ?_, .inl rfl, hr, h2, Grow.refl _ _ _ _⟩
        simp [execOp, resolve, invoke, builtin, h1]
      · rename_i t tx x y ht hx
        obtain ⟨x0, y0, hy, rfl, rfl⟩ := two_args hx
        obtain ⟨v', E', w', h1, h2, h3, h4⟩ := append_run (ty := ty) h hr (hv x0) (hv y0)
        have e1 : argTypes = #[t, tx] := by apply Array.ext'; simpa using ht
        have e2 : args = #[x0, y0] := by apply Array.ext'; simpa using hy
        subst e1 e2
        refine ⟨_, v', E', w', ?_, .inl rfl, h2, h3, h4⟩
        simp [execOp, resolve, invoke, builtin, h1]
      · rename_i t tx x y ht hx
        obtain ⟨x0, y0, hy, rfl, rfl⟩ := two_args hx
        obtain ⟨v', E', w', h1, h2, h3, h4⟩ := copy_run (ty := ty) h hr (hv x0) (hv y0)
        have e1 : argTypes = #[t, tx] := by apply Array.ext'; simpa using ht
        have e2 : args = #[x0, y0] := by apply Array.ext'; simpa using hy
        subst e1 e2
        refine ⟨_, v', E', w', ?_, .inl rfl, h2, h3, h4⟩
        simp [execOp, resolve, invoke, builtin, h1]
      · split at h
        · rename_i hf
          simp only [Option.map_eq_some_iff] at h
          obtain ⟨u, hu, h2⟩ := h
          obtain ⟨rfl, rfl⟩ := Prod.mk.inj h2
          have e := list_flat hv args.toList hf
          rw [← e] at hu
          have e3 : (args.toList.map a.eval).toArray = args.map a.eval := by apply Array.ext'; simp
          have e4 : argTypes.toList.toArray = argTypes := by simp
          rw [e3, e4] at hu
          refine ⟨_, u, E, w, ?_, .inl rfl, hr, VR.refl E (purF_run hu w).2, Grow.refl _ _ _ _⟩
          simp [execOp, resolve, invoke, builtin, (purF_run hu w).1]
        · cases h
      · split at h
        · rename_i hf
          simp only [Option.map_eq_some_iff] at h
          obtain ⟨u, hu, h2⟩ := h
          obtain ⟨rfl, rfl⟩ := Prod.mk.inj h2
          have e := list_flat hv args.toList hf
          rw [← e] at hu
          have e3 : (args.toList.map a.eval).toArray = args.map a.eval := by apply Array.ext'; simp
          have e4 : argTypes.toList.toArray = argTypes := by simp
          rw [e3, e4] at hu
          refine ⟨_, u, E, w, ?_, .inl rfl, hr, VR.refl E (purF_run hu w).2, Grow.refl _ _ _ _⟩
          simp [execOp, resolve, invoke, builtin, (purF_run hu w).1]
        · cases h
      · cases h
  | _ => simp [aop] at h

end Go.Am

/- Programs over the abstract heap: what a call, a list of operations and a piece of code must bring about, and the rules by which that is shown. No condition. -/
namespace Go.Am
open Go
set_option linter.unusedSimpArgs false
set_option linter.unusedVariables false

variable {P : Program} {ng : Nat}

def skipV : Value := .tuple #[.nilFunc]

/-- Arguments that stand for arguments. -/
def VRs (E : Emb) (xs : List Value) (ys : Array Value) : Prop := xs.length = ys.size ∧ ∀ (i : Nat) (h : i < xs.length) (h' : i < ys.size), VR E xs[i] ys[i]

/-- A call of function f at abstract arguments in an abstract heap: whatever world it describes, the call returns, and what it leaves is described by an answer and a heap that meet Q. -/
def AC (P : Program) (ng : Nat) (f : FuncId) (args : List Value) (S : Heap) (Q : Value → Heap → Prop) : Prop :=
  ∀ E args' w, VRs E args args' → Rel ng E S w → ng ≤ S.length →
    Calls P f args' w fun e w' => ∃ v v' S' E', e = .returned v' ∧ Q v S' ∧ VR E' v v' ∧ Rel ng E' S' w' ∧ S.length ≤ S'.length ∧ Grow S.length E S w E' S' w'

/-- What lies in the real slots and the world is described by the abstract frame. -/
def AW (P : Program) (ng n : Nat) (c : Code) (s : St) (Q : Exit → St → Prop) : Prop :=
  ∀ E a w, RelT E s.tm a → Rel ng E s.hp w → ng ≤ n → n ≤ s.hp.length →
    c.wp P (fun e a' w' => ∃ s' E', Q e s' ∧ RelT E' s'.tm a' ∧ Rel ng E' s'.hp w' ∧ n ≤ s'.hp.length ∧ Grow n E s.hp w E' s'.hp w') a w

/-- A list of operations. -/
def AOps (P : Program) (ng n : Nat) (ops : Array Oper) (l : List Oper) (s : St) (K : St → Prop) : Prop :=
  ∀ E a w (Q : Exit → Act → World → Prop), RelT E s.tm a → Rel ng E s.hp w → ng ≤ n → n ≤ s.hp.length →
    (∀ s' E' a' w', K s' → RelT E' s'.tm a' → Rel ng E' s'.hp w' → n ≤ s'.hp.length → Grow n E s.hp w E' s'.hp w' → Q .normal a' w') → wpList P ops Q l a w

theorem AC.mono {f : FuncId} {args : List Value} {S : Heap} {Q Q' : Value → Heap → Prop} (h : AC P ng f args S Q) (hq : ∀ v S', Q v S' → Q' v S') : AC P ng f args S Q' :=
  fun E args' w h1 h2 h3 => (h E args' w h1 h2 h3).mono fun e w' ⟨v, v', S', E', a, b, c⟩ => ⟨v, v', S', E', a, hq _ _ b, c⟩

theorem AW.mono {n : Nat} {c : Code} {s : St} {Q Q' : Exit → St → Prop} (h : AW P ng n c s Q) (hq : ∀ e s', Q e s' → Q' e s') : AW P ng n c s Q' :=
  fun E a w h1 h2 h3 h4 => wp_mono (h E a w h1 h2 h3 h4) fun e a' w' ⟨s', E', x, y⟩ => ⟨s', E', hq _ _ x, y⟩

theorem AOps.mono {n : Nat} {ops : Array Oper} {l : List Oper} {s : St} {K K' : St → Prop} (h : AOps P ng n ops l s K) (hk : ∀ s', K s' → K' s') : AOps P ng n ops l s K' :=
  fun E a w Q h1 h2 h3 h4 hq => h E a w Q h1 h2 h3 h4 fun s' E' a' w' k => hq s' E' a' w' (hk _ k)

/-! ### Code -/
theorem AW.skip {n : Nat} {s : St} {Q : Exit → St → Prop} (h : Q .normal s) : AW P ng n .skip s Q :=
  fun E a w h1 h2 h3 h4 => wp_skip ⟨s, E, h, h1, h2, h4, Grow.refl _ _ _ _⟩
theorem AW.label {n l : Nat} {s : St} {Q : Exit → St → Prop} (h : Q .normal s) : AW P ng n (.label l) s Q :=
  fun E a w h1 h2 h3 h4 => wp_label ⟨s, E, h, h1, h2, h4, Grow.refl _ _ _ _⟩
theorem AW.exit {n id : Nat} {s : St} {Q : Exit → St → Prop} (h : Q (.exit id) s) : AW P ng n (.exit id) s Q :=
  fun E a w h1 h2 h3 h4 => wp_exit ⟨s, E, h, h1, h2, h4, Grow.refl _ _ _ _⟩
theorem AW.ret {n : Nat} {s : St} {Q : Exit → St → Prop} (h : Q .ret s) : AW P ng n .ret s Q :=
  fun E a w h1 h2 h3 h4 => wp_ret ⟨s, E, h, h1, h2, h4, Grow.refl _ _ _ _⟩

/-- What is asked behind the first of two pieces. -/
def thenA (K : St → Prop) (Q : Exit → St → Prop) : Exit → St → Prop
  | .normal, s => K s
  | e, s => Q e s

theorem AW.seq {n : Nat} {x y : Code} {s : St} {Q : Exit → St → Prop} (h : AW P ng n x s (thenA (fun s1 => AW P ng n y s1 Q) Q)) : AW P ng n (.seq x y) s Q := by
  intro E a w h1 h2 h3 h4
  refine wp_seq (wp_mono (h E a w h1 h2 h3 h4) fun e a1 w1 ⟨s1, E1, hq, g1, g2, g3, g4⟩ => ?_)
  cases e with
  | normal => exact wp_mono (hq E1 a1 w1 g1 g2 h3 g3) fun e a2 w2 ⟨s2, E2, q, r1, r2, r3, r4⟩ => ⟨s2, E2, q, r1, r2, r3, g4.trans (Nat.le_refl _) r4⟩
  | exit id => exact ⟨s1, E1, hq, g1, g2, g3, g4⟩
  | goto l => exact ⟨s1, E1, hq, g1, g2, g3, g4⟩
  | ret => exact ⟨s1, E1, hq, g1, g2, g3, g4⟩
  | panic c => exact ⟨s1, E1, hq, g1, g2, g3, g4⟩
  | outgrown => exact ⟨s1, E1, hq, g1, g2, g3, g4⟩

theorem AW.cond {n : Nat} {c : Operand} {x y : Code} {s : St} {Q : Exit → St → Prop} {t : Bool} (hc : s.ev ng c = .bool t) (h : AW P ng n (if t then x else y) s Q) : AW P ng n (.cond c x y) s Q := by
  intro E a w h1 h2 h3 h4
  have hv := h1.ev h2 c
  rw [hc] at hv
  have hv' := hv.eq rfl
  exact wp_cond hv' (h E a w h1 h2 h3 h4)

def inBlockA (id : Nat) (Q : Exit → St → Prop) : Exit → St → Prop
  | .exit id', s => if id' = id then Q .normal s else Q (.exit id') s
  | e, s => Q e s

theorem AW.block {n id : Nat} {c : Code} {s : St} {Q : Exit → St → Prop} (h : AW P ng n c s (inBlockA id Q)) : AW P ng n (.block id c) s Q := by
  intro E a w h1 h2 h3 h4
  refine wp_block (wp_mono (h E a w h1 h2 h3 h4) fun e a1 w1 ⟨s1, E1, hq, g⟩ => ?_)
  cases e with
  | exit id' =>
    simp only [inBlockA] at hq
    simp only [Exit.inBlock]
    split
    · rename_i hid; rw [if_pos hid] at hq; exact ⟨s1, E1, hq, g⟩
    · rename_i hid; rw [if_neg hid] at hq; exact ⟨s1, E1, hq, g⟩
  | normal => exact ⟨s1, E1, hq, g⟩
  | goto l => exact ⟨s1, E1, hq, g⟩
  | ret => exact ⟨s1, E1, hq, g⟩
  | panic c => exact ⟨s1, E1, hq, g⟩
  | outgrown => exact ⟨s1, E1, hq, g⟩

/-- The model's loop, with a bound on the rounds that is no function of the state. -/
theorem wp_loop_nat {Q : Exit → Act → World → Prop} {c : Code} (I : Nat → Act → World → Prop) (round : ∀ k a w, I k a w → c.wp P (Exit.then (fun a' w' => ∃ j, j < k ∧ I j a' w') Q) a w) :
    ∀ k a w, I k a w → (Code.loop c).wp P Q a w := by
  intro k a w hI b kk cs
  have key : ∀ k a w, I k a w → ∃ e a' w', Q e a' w' ∧ Arrives P (lone (b.at a (.code c :: .inLoop c :: kk)) cs w) b kk cs e a' w' := by
    intro k
    induction k using Nat.strongRecOn with
    | _ k ih =>
      intro a w hI
      obtain ⟨e, a₁, w₁, hq, harr⟩ := round k a w hI b (.inLoop c :: kk) cs
      cases e with
      | normal =>
        obtain ⟨j, hlt, hI₁⟩ := hq
        obtain ⟨e₂, a₂, w₂, hq₂, harr₂⟩ := ih j hlt a₁ w₁ hI₁
        exact ⟨e₂, a₂, w₂, hq₂, .of_steps (Steps.trans harr (.one step_inLoop)) harr₂⟩
      | exit id => exact ⟨_, a₁, w₁, hq, .pass (x := .inLoop c) rfl (fun _ _ => .inl (by simp)) harr⟩
      | goto l => exact ⟨_, a₁, w₁, hq, .pass (x := .inLoop c) rfl (fun _ _ => .inl (by simp)) harr⟩
      | ret => exact ⟨_, a₁, w₁, hq, .pass (x := .inLoop c) rfl (fun _ _ => .inl (by simp)) harr⟩
      | panic ch => exact ⟨_, a₁, w₁, hq, .pass (x := .inLoop c) rfl (fun _ _ => .inl (by simp)) harr⟩
      | outgrown => exact ⟨_, a₁, w₁, hq, .pass (x := .inLoop c) rfl (fun _ _ => .inl (by simp)) harr⟩
  obtain ⟨e, a', w', hq, harr⟩ := key k a w hI
  exact ⟨e, a', w', hq, .of_steps (.one step_loop) harr⟩

/-- A loop: an invariant, indexed by how many rounds are left at most. -/
theorem AW.loop {n : Nat} {c : Code} {s : St} {Q : Exit → St → Prop} (I : Nat → St → Prop) (k : Nat) (h0 : I k s)
    (round : ∀ k s, I k s → AW P ng n c s (thenA (fun s1 => ∃ j, j < k ∧ I j s1) Q)) : AW P ng n (.loop c) s Q := by
  intro E a w h1 h2 h3 h4
  refine wp_loop_nat (fun k a' w' => ∃ s' E', I k s' ∧ RelT E' s'.tm a' ∧ Rel ng E' s'.hp w' ∧ n ≤ s'.hp.length ∧ Grow n E s.hp w E' s'.hp w') ?_ k a w ⟨s, E, h0, h1, h2, h4, Grow.refl _ _ _ _⟩
  intro k a1 w1 ⟨s1, E1, hI, g1, g2, g3, g4⟩
  refine wp_mono (round k s1 hI E1 a1 w1 g1 g2 h3 g3) fun e a2 w2 ⟨s2, E2, hq, r1, r2, r3, r4⟩ => ?_
  have hg := g4.trans (Nat.le_refl _) r4
  cases e with
  | normal => obtain ⟨j, hj, hI2⟩ := hq; exact ⟨j, hj, s2, E2, hI2, r1, r2, r3, hg⟩
  | exit id => exact ⟨s2, E2, hq, r1, r2, r3, hg⟩
  | goto l => exact ⟨s2, E2, hq, r1, r2, r3, hg⟩
  | ret => exact ⟨s2, E2, hq, r1, r2, r3, hg⟩
  | panic c => exact ⟨s2, E2, hq, r1, r2, r3, hg⟩
  | outgrown => exact ⟨s2, E2, hq, r1, r2, r3, hg⟩

/-! ### Operations, one behind the other -/
/-- The mark of an operation that was not done. -/
def isSkip : Value → Bool
  | .tuple vs => vs.size == 1
  | _ => false

def wantV (v : Value) (want : Bool) : Option Bool :=
  match v with
  | .bool b => some (b == want)
  | v => if isSkip v then some false else none

/-- Is a guarded operation to be done? -/
def awant (ds : List (Option Nat)) (tm : List Value) (g : Option (Nat × Bool)) : Option Bool :=
  match g with
  | none => some true
  | some (j, want) =>
    match ds.getD j none with
    | none => some false
    | some d => wantV (tm.getD d (.tuple #[])) want

theorem ds_at (ops : Array Oper) (j : Nat) : (ops.toList.map (·.dst)).getD j none = (ops[j]?).bind (·.dst) := by
  simp only [List.getD, List.getElem?_map, Array.getElem?_toList]
  cases ops[j]? <;> rfl

theorem awant_real {E : Emb} {ops : Array Oper} {tm : List Value} {a : Act} {o : Oper} {b : Bool} (h : awant (ops.toList.map (·.dst)) tm o.guard = some b) (hT : RelT E tm a) : Region.wanted o (yielded ops a.tmps) = b := by
  unfold awant at h
  unfold Region.wanted yielded
  split at h
  · rename_i hg
    rw [hg]
    simpa using h
  · rename_i j want hg
    rw [hg]
    simp only
    split at h
    · rename_i hd
      rw [ds_at] at hd
      rw [hd]
      simp at h ⊢
      try exact h
    · rename_i d hd
      rw [ds_at] at hd
      rw [hd]
      simp only [Option.bind_some]
      have hs := hT.slot d
      by_cases hlt : d < tm.length
      · have hlt' : d < a.tmps.size := by rw [hT.size]; exact hlt
        have e1 : a.tmps.getD d undef = a.tmps[d] := by simp [Array.getD, hlt']
        rw [e1] at hs
        rw [Array.getElem?_eq_getElem hlt']
        unfold wantV at h
        split at h
        · rename_i t ht
          rw [ht] at hs
          have := hs.eq rfl
          rw [this]
          simp at h ⊢
          rw [← h]
        · split at h
          · rename_i hsk
            have hu : ∃ y, a.tmps[d] = .tuple y := by
              generalize a.tmps[d] = q at hs
              generalize tm.getD d (.tuple #[]) = u at hs hsk
              cases hs <;> first | (simp [isSkip] at hsk; done) | exact ⟨_, rfl⟩
            obtain ⟨y, hu⟩ := hu
            rw [hu]
            simpa using h
          · cases h
      · have : tm.getD d (.tuple #[]) = .tuple #[] := by simp [List.getD, List.getElem?_eq_none (Nat.le_of_not_lt hlt)]
        rw [this] at h
        simp [wantV, isSkip] at h

theorem AOps.nil {n : Nat} {ops : Array Oper} {s : St} {K : St → Prop} (h : K s) : AOps P ng n ops [] s K :=
  fun E a w Q h1 h2 h3 h4 hq => hq s E a w h h1 h2 h4 (Grow.refl _ _ _ _)

theorem AOps.op {n : Nat} {ops : Array Oper} {o : Oper} {l : List Oper} {s : St} {K : St → Prop} {v : Value} {S' : Heap} (hw : awant (ops.toList.map (·.dst)) s.tm o.guard = some true) (ho : aop P ng s o = some (v, S'))
    (hlen : s.hp.length ≤ S'.length) (h : AOps P ng n ops l ⟨putT s.tm o.dst v, S'⟩ K) : AOps P ng n ops (o :: l) s K := by
  intro E a w Q h1 h2 h3 h4 hq
  simp only [wpList, awant_real hw h1, if_true]
  refine .inl ?_
  obtain ⟨nx, v', E', w', hrun, hnx, hr, hv, hg⟩ := aop_sound ho h1 h2
  have hm : ∀ id l0, E id = some l0 → E' id = some l0 := fun id l0 he => by rw [hg.keep id (h2.lt he)]; exact he
  have hT := (h1.mono hm).put o.dst hv
  have key := h E' (a.put o.dst v') w' Q hT hr h3 (by show n ≤ S'.length; omega) fun s' E2 a2 w2 k t r len g => hq s' E2 a2 w2 k t r len (Grow.trans (m := n) (Nat.le_refl _) ⟨fun id hid => hg.keep id (by omega), hg.os, hg.tape, hg.output, hg.size, hg.frame, hg.owned⟩ g)
  unfold Oper.wp
  rw [hrun]
  rcases hnx with rfl | ⟨rfl, rfl⟩
  · exact key
  · exact key

theorem AOps.off {n : Nat} {ops : Array Oper} {o : Oper} {l : List Oper} {s : St} {K : St → Prop} (hw : awant (ops.toList.map (·.dst)) s.tm o.guard = some false)
    (h : AOps P ng n ops l ⟨putT s.tm o.dst skipV, s.hp⟩ K) : AOps P ng n ops (o :: l) s K := by
  intro E a w Q h1 h2 h3 h4 hq
  simp only [wpList, awant_real hw h1]
  exact h E _ w Q (h1.put o.dst .skipped) h2 h3 h4 hq

theorem VRs.append {E : Emb} {xs ys : List Value} {xs' ys' : Array Value} (h : VRs E xs xs') (h' : VRs E ys ys') : VRs E (xs ++ ys) (xs' ++ ys') := by
  refine ⟨by simp [h.1, h'.1], fun i h1 h2 => ?_⟩
  by_cases hi : i < xs.length
  · rw [List.getElem_append_left hi, Array.getElem_append_left (by rw [← h.1]; exact hi)]
    exact h.2 _ _ _
  · rw [List.getElem_append_right (by omega), Array.getElem_append_right (by rw [← h.1]; omega)]
    have := h'.2 (i - xs.length) (by simp at h1; omega) (by rw [← h'.1]; simp at h1; omega)
    simpa [h.1] using this

/-- The function that a call's operand names, and what it has captured. -/
def callee? (v : Value) : Option (FuncId × List Value) :=
  match v with
  | .func (.func f) first cs => if first.isEmpty then some (f, cs.toList) else none
  | _ => none

theorem AOps.call {n : Nat} {ops : Array Oper} {o : Oper} {l : List Oper} {s : St} {K : St → Prop} {fo : Operand} {args : Array Operand} {ts : Array TypeId} {f : FuncId} {caps : List Value} {fn : Func}
    (hop : o.op = .call { callee := .value fo, args := args, argTypes := ts }) (hw : awant (ops.toList.map (·.dst)) s.tm o.guard = some true) (hc : callee? (s.ev ng fo) = some (f, caps))
    (hf : P.funcs[f]? = some fn) (hname : (fn.name == "runtime.NumGoroutine") = false) (hb : fn.body.isSome = true)
    (h : AC P ng f (args.toList.map (s.ev ng) ++ caps) s.hp fun v S' => AOps P ng n ops l ⟨putT s.tm o.dst v, S'⟩ K) : AOps P ng n ops (o :: l) s K := by
  intro E a w Q h1 h2 h3 h4 hq
  simp only [wpList, awant_real hw h1, if_true]
  refine .inl ?_
  have hv : ∀ x, VR E (s.ev ng x) (a.eval x) := fun x => h1.ev h2 x
  have hfo := hv fo
  obtain ⟨caps', hfo', hcaps⟩ : ∃ caps', a.eval fo = .func (.func f) #[] caps' ∧ VRs E caps caps' := by
    unfold callee? at hc
    split at hc
    · rename_i g first cs hg
      split at hc
      · rename_i hfe
        obtain ⟨rfl, rfl⟩ := Prod.mk.inj (Option.some.inj hc)
        have : first = #[] := Array.isEmpty_iff.1 hfe
        subst this
        rw [hg] at hfo
        generalize a.eval fo = q at hfo
        cases hfo with
        | func fn hs hh => exact ⟨_, rfl, by simpa using hs, fun i a b => by simpa using hh i (by simpa using a) b⟩
      · cases hc
    · cases hc
  have hargs : VRs E (args.toList.map (s.ev ng)) (args.map a.eval) := ⟨by simp, fun i x y => by
    simp only [List.getElem_map, Array.getElem_map, Array.getElem_toList]
    exact hv _⟩
  have hcall := h E (args.map a.eval ++ caps') w (hargs.append hcaps) h2 (by omega)
  have hbn : ¬ fn.body = none := by intro e; simp [e] at hb
  have hnn : ¬ fn.name = "runtime.NumGoroutine" := by simpa using hname
  have hrun : (execOp a.eval o).run P w = .ok (.enter f (args.map a.eval ++ caps')) w := by
    simp [execOp, hop, resolve, Deferred.ofValue, hfo', invoke, callFunc, hf, hnn, hbn]
  unfold Oper.wp
  rw [hrun]
  refine hcall.mono ?_
  rintro e w' ⟨v, v', S', E', rfl, hk, hvv, hr, hlen, hg⟩
  have hm : ∀ id l0, E id = some l0 → E' id = some l0 := fun id l0 he => by rw [hg.keep id (h2.lt he)]; exact he
  have hT := (h1.mono hm).put o.dst hvv
  exact hk E' (a.put o.dst v') w' Q hT hr h3 (by show n ≤ S'.length; omega) fun s' E2 a2 w2 k t r len g => hq s' E2 a2 w2 k t r len (Grow.trans (m := n) (Nat.le_refl _) ⟨fun id hid => hg.keep id (by omega), hg.os, hg.tape, hg.output, hg.size, hg.frame, hg.owned⟩ g)

theorem AW.region {n id : Nat} {ops : Array Oper} {s : St} {Q : Exit → St → Prop} (h : AOps P ng n ops ops.toList s (Q .normal)) : AW P ng n (.region id ops false) s Q :=
  fun E a w h1 h2 h3 h4 => wp_region_list (h E a w _ h1 h2 h3 h4 fun s' E' a' w' k t r len g => ⟨s', E', k, t, r, len, g⟩)

/-! ### A call's end -/
def resOne (P : Program) (s : St) : ResultVar → Option Value
  | .tmp t => some (s.tm.getD t (.tuple #[]))
  | .cell a t => load? P s.hp t (s.tm.getD a (.tuple #[]))

def resAll (P : Program) (s : St) : List ResultVar → Option (List Value)
  | [] => some []
  | r :: rs => match resOne P s r, resAll P s rs with
    | some v, some vs => some (v :: vs)
    | _, _ => none

def res? (P : Program) (s : St) (rs : List ResultVar) : Option Value :=
  match resAll P s rs with
  | some [v] => some v
  | some vs => some (.tuple vs.toArray)
  | none => none

/-- One result, as the model reads it. -/
def resSem (tmps : Array Value) : ResultVar → Sem Value
  | .tmp t => pure (tmps.getD t undef)
  | .cell a t => do loadVar t (← asAddr (tmps.getD a undef))

theorem results_eq (fn : Func) (tmps : Array Value) : results fn tmps = (do let vs ← fn.results.mapM (resSem tmps); pure (if h : vs.size = 1 then vs[0] else .tuple vs)) := by
  unfold results
  congr 1

theorem resOne_run {E : Emb} {s : St} {a : Act} {w : World} (hT : RelT E s.tm a) (hr : Rel ng E s.hp w) {r : ResultVar} {v : Value} (h : resOne P s r = some v) :
    ∃ v', (resSem a.tmps r).run P w = .ok v' w ∧ VR E v v' := by
  cases r with
  | tmp t =>
    simp only [resOne, Option.some.injEq] at h
    subst h
    exact ⟨_, rfl, hT.slot t⟩
  | cell x t =>
    simp only [resOne] at h
    have hx := hT.slot x
    obtain ⟨v', h1, h2⟩ := load_run h hr hx
    refine ⟨v', ?_, h2⟩
    unfold load? at h
    split at h
    · rename_i id off hp
      rw [hp] at hx
      generalize hq : a.tmps.getD x undef = q at hx h1
      cases hx with
      | ptr _ he =>
        simp only [Instr.loadAt, Instr.sureAddr, Sem.run_bind, Sem.run_pure, Result.andThen_ok] at h1
        simp only [resSem, hq, asAddr, Sem.run_bind, Sem.run_pure, Result.andThen_ok]
        exact h1
    · cases h

theorem resAll_run {E : Emb} {s : St} {a : Act} {w : World} (hT : RelT E s.tm a) (hr : Rel ng E s.hp w) : ∀ (rs : List ResultVar) (vs : List Value), resAll P s rs = some vs →
    ∃ vs' : List Value, (rs.mapM (resSem a.tmps)).run P w = .ok vs' w ∧ vs.length = vs'.length ∧
      ∀ i (h : i < vs.length) (h' : i < vs'.length), VR E vs[i] vs'[i]
  | [], vs, h => by
    simp only [resAll, Option.some.injEq] at h
    subst h
    exact ⟨[], by simp, rfl, fun i h _ => by simp at h⟩
  | r :: rs, vs, h => by
    simp only [resAll] at h
    split at h
    · rename_i v vs0 hv hvs
      obtain rfl := Option.some.inj h
      obtain ⟨v', h1, h2⟩ := resOne_run hT hr hv
      obtain ⟨vs', h3, h4, h5⟩ := resAll_run hT hr rs vs0 hvs
      refine ⟨v' :: vs', ?_, by simp [h4], fun i a b => ?_⟩
      · simp only [List.mapM_cons, Sem.run_bind, h1, Result.andThen_ok, h3, Sem.run_pure]
      · cases i with
        | zero => exact h2
        | succ i => exact h5 i (by simpa using a) (by simpa using b)
    · cases h

theorem res_run {E : Emb} {s : St} {a : Act} {w : World} (hT : RelT E s.tm a) (hr : Rel ng E s.hp w) {fn : Func} {v : Value} (h : res? P s fn.results.toList = some v) :
    ∃ v', (results fn a.tmps).run P w = .ok v' w ∧ VR E v v' := by
  unfold res? at h
  have main : ∀ vs, resAll P s fn.results.toList = some vs → ∃ vs' : List Value, (results fn a.tmps).run P w = .ok (if h : vs'.toArray.size = 1 then vs'.toArray[0] else .tuple vs'.toArray) w ∧ vs.length = vs'.length ∧
      ∀ i (h : i < vs.length) (h' : i < vs'.length), VR E vs[i] vs'[i] := by
    intro vs hvs
    obtain ⟨vs', h1, h2, h3⟩ := resAll_run hT hr _ vs hvs
    refine ⟨vs', ?_, h2, h3⟩
    rw [results_eq, Array.mapM_eq_mapM_toList]
    simp [h1]
  split at h
  · rename_i u hu
    obtain rfl := Option.some.inj h
    obtain ⟨vs', h1, h2, h3⟩ := main _ hu
    obtain ⟨v', rfl⟩ : ∃ v', vs' = [v'] := by
      match vs', h2 with
      | [v'], _ => exact ⟨v', rfl⟩
    exact ⟨v', by simpa using h1, h3 0 (by simp) (by simp)⟩
  · rename_i vs hne hu
    obtain rfl := Option.some.inj h
    obtain ⟨vs', h1, h2, h3⟩ := main _ hu
    refine ⟨.tuple vs'.toArray, ?_, .tuple (by simpa using h2) fun i a b => by simpa using h3 i (by simpa using a) (by simpa using b)⟩
    rw [dif_neg] at h1
    · exact h1
    · simp only [List.size_toArray, ← h2]
      intro h1
      match vs, h1 with
      | [v], _ => exact hne v rfl
  · cases h

/-- What is asked where a function's body ends. -/
def Ends (P : Program) (rs : List ResultVar) (Q : Value → Heap → Prop) : Exit → St → Prop
  | .normal, s | .ret, s => ∃ v, res? P s rs = some v ∧ Q v s.hp
  | _, _ => False

/-- A call is its body, run. -/
theorem AC.enter {f : FuncId} {fn : Func} {c : Code} {args : List Value} {S : Heap} {Q : Value → Heap → Prop} (hf : P.funcs[f]? = some fn) (hb : fn.body = some c)
    (h : AW P ng S.length c ⟨args ++ List.replicate (fn.ntmps - args.length) (.tuple #[]), S⟩ (Ends P fn.results.toList Q)) : AC P ng f args S Q := by
  intro E args' w h1 h2 h3
  refine calls_of_wp hf hb ?_
  have hT : RelT E (args ++ List.replicate (fn.ntmps - args.length) (.tuple #[])) { tmps := args' ++ Array.replicate (fn.ntmps - args'.size) undef, defers := [] } := by
    refine ⟨by simp [h1.1], fun t => ?_, rfl⟩
    by_cases ht : t < args.length
    · have ht' : t < args'.size := by rw [← h1.1]; exact ht
      have e1 : (args ++ List.replicate (fn.ntmps - args.length) (Value.tuple #[])).getD t (.tuple #[]) = args[t] := by
        simp [List.getD, List.getElem?_append_left ht, List.getElem?_eq_getElem ht]
      have e2 : (args' ++ Array.replicate (fn.ntmps - args'.size) undef).getD t undef = args'[t] := by
        rw [Array.getD_eq_getD_getElem?, Array.getElem?_append_left ht', Array.getElem?_eq_getElem ht']
        rfl
      rw [e1]
      simp only [e2]
      exact h1.2 t ht ht'
    · have e1 : (args ++ List.replicate (fn.ntmps - args.length) (Value.tuple #[])).getD t (.tuple #[]) = .tuple #[] := by
        simp only [List.getD, List.getElem?_append_right (by omega : args.length ≤ t), List.getElem?_replicate]
        split <;> rfl
      rw [e1]
      exact .any _
  refine wp_mono (h E _ w hT h2 h3 (Nat.le_refl _)) ?_
  rintro e a' w' ⟨s', E', hq, g1, g2, g3, g4⟩
  cases e with
  | normal =>
    obtain ⟨v, hv, hQ⟩ := hq
    obtain ⟨v', r1, r2⟩ := res_run g1 g2 hv
    exact ⟨g1.defers, v', r1, v, v', s'.hp, E', rfl, hQ, r2, g2, g3, g4⟩
  | ret =>
    obtain ⟨v, hv, hQ⟩ := hq
    obtain ⟨v', r1, r2⟩ := res_run g1 g2 hv
    exact ⟨g1.defers, v', r1, v, v', s'.hp, E', rfl, hQ, r2, g2, g3, g4⟩
  | exit id => exact hq.elim
  | goto l => exact hq.elim
  | panic c => exact hq.elim
  | outgrown => exact hq.elim

end Go.Am

/- A computable form of the rules: what a piece of code asks, unfolded. No condition. -/
namespace Go.Am
open Go
set_option linter.unusedSimpArgs false
set_option linter.unusedVariables false

variable {P : Program} {ng : Nat}

/-- An equation whose proof is no computation, in the simplifier's eye. -/
theorem opq.{u} {α : Sort u} {a b : α} (h : a = b) : a = b := h

theorem alloc_len {S S' : Heap} {t : TypeId} {v : Value} (h : alloc? P S t = some (v, S')) : S.length ≤ S'.length := by
  unfold alloc? at h; repeat' split at h
  all_goals first | (cases h; done) | (obtain ⟨-, rfl⟩ := Prod.mk.inj (Option.some.inj h); simp)
theorem box_len {S S' : Heap} {t : TypeId} {x v : Value} (h : box? S t x = some (v, S')) : S.length ≤ S'.length := by
  unfold box? at h; repeat' split at h
  all_goals first | (cases h; done) | (obtain ⟨-, rfl⟩ := Prod.mk.inj (Option.some.inj h); simp)
theorem buildSlice_len {S S' : Heap} {t : TypeId} {n : Nat} {ps : Array (Nat × Value)} {v : Value} (h : buildSlice? P S t n ps = some (v, S')) : S.length ≤ S'.length := by
  unfold buildSlice? at h; repeat' split at h
  all_goals first | (cases h; done) | (obtain ⟨-, rfl⟩ := Prod.mk.inj (Option.some.inj h); simp)
theorem store_len {S S' : Heap} {t : TypeId} {p v : Value} (h : store? P S t p v = some S') : S.length ≤ S'.length := by
  unfold store? at h; repeat' split at h
  all_goals first | (cases h; done) | (obtain rfl := Option.some.inj h; simp)
theorem conv_len {S S' : Heap} {s d : TypeId} {x v : Value} (h : conv? P S s d x = some (v, S')) : S.length ≤ S'.length := by
  unfold conv? at h; repeat' split at h
  all_goals first | (cases h; done) | (obtain ⟨-, rfl⟩ := Prod.mk.inj (Option.some.inj h); simp; done) | (simp only [Option.map_eq_some_iff] at h; obtain ⟨_, _, h2⟩ := h; obtain ⟨-, rfl⟩ := Prod.mk.inj h2; simp)
theorem makeSlice_len {S S' : Heap} {t : TypeId} {l c v : Value} (h : makeSlice? P S t l c = some (v, S')) : S.length ≤ S'.length := by
  unfold makeSlice? at h; repeat' split at h
  all_goals first | (cases h; done) | (obtain ⟨-, rfl⟩ := Prod.mk.inj (Option.some.inj h); simp)
theorem mapUpdate_len {S S' : Heap} {t : TypeId} {m k x : Value} (h : mapUpdate? P S t m k x = some S') : S.length ≤ S'.length := by
  unfold mapUpdate? at h; repeat' split at h
  all_goals first | (cases h; done) | (obtain rfl := Option.some.inj h; simp)
theorem append_len {S S' : Heap} {t tx : TypeId} {s x v : Value} (h : append? P S t tx s x = some (v, S')) : S.length ≤ S'.length := by
  unfold append? at h; repeat' split at h
  all_goals first | (cases h; done) | (obtain ⟨-, rfl⟩ := Prod.mk.inj (Option.some.inj h); simp)
theorem copy_len {S S' : Heap} {t tx : TypeId} {s x v : Value} (h : copy? P S t tx s x = some (v, S')) : S.length ≤ S'.length := by
  unfold copy? at h; repeat' split at h
  all_goals first | (cases h; done) | (obtain ⟨-, rfl⟩ := Prod.mk.inj (Option.some.inj h); simp)

theorem aop_len {s : St} {o : Oper} {v : Value} {S' : Heap} (h : aop P ng s o = some (v, S')) : s.hp.length ≤ S'.length := by
  have mp : ∀ {r : Option Value}, r.map (·, s.hp) = some (v, S') → s.hp.length ≤ S'.length := by
    intro r h
    simp only [Option.map_eq_some_iff] at h
    obtain ⟨_, _, h2⟩ := h
    obtain ⟨-, rfl⟩ := Prod.mk.inj h2
    exact Nat.le_refl _
  have ms : ∀ {r : Option Heap}, (∀ S, r = some S → s.hp.length ≤ S.length) → r.map (Value.tuple #[], ·) = some (v, S') → s.hp.length ≤ S'.length := by
    intro r hr h
    simp only [Option.map_eq_some_iff] at h
    obtain ⟨_, h1, h2⟩ := h
    obtain ⟨-, rfl⟩ := Prod.mk.inj h2
    exact hr _ h1
  obtain ⟨dst, op, ty, pos, after, guard⟩ := o
  cases op with
  | alloc t => exact alloc_len h
  | box t x => exact box_len h
  | buildSlice t n ps => exact buildSlice_len h
  | store t x y => exact ms (fun S => store_len) h
  | convert a b x => exact conv_len h
  | makeMap t r =>
    cases r with
    | none =>
      simp only [aop, makeMap?] at h
      obtain ⟨-, rfl⟩ := Prod.mk.inj (Option.some.inj h)
      simp
    | some r => simp [aop] at h
  | makeSlice t l c => exact makeSlice_len h
  | mapUpdate t m k x => exact ms (fun S => mapUpdate_len) h
  | insert t m k x => exact ms (fun S => mapUpdate_len) h
  | call c =>
    obtain ⟨callee, args, argTypes⟩ := c
    cases callee with
    | value f => simp [aop] at h
    | invoke r n => simp [aop] at h
    | builtin b =>
      simp only [aop] at h
      unfold builtin? at h
      split at h
      · exact mp h
      · exact append_len h
      · exact copy_len h
      · split at h
        · exact mp h
        · cases h
      · split at h
        · exact mp h
        · cases h
      · cases h
  | move x =>
    simp only [aop, Option.some.injEq, Prod.mk.injEq] at h
    obtain ⟨-, rfl⟩ := h
    exact Nat.le_refl _
  | assign x =>
    simp only [aop, Option.some.injEq, Prod.mk.injEq] at h
    obtain ⟨-, rfl⟩ := h
    exact Nat.le_refl _
  | _ => first | (simp [aop] at h; done) | exact mp h

/-- The function is there, and has a body. -/
def CallOk (P : Program) (f : FuncId) : Prop := ∃ fn, P.funcs[f]? = some fn ∧ (fn.name == "runtime.NumGoroutine") = false ∧ fn.body.isSome = true

/-- A call whose answer is awaited. -/
def CallA (P : Program) (ng : Nat) (f : FuncId) (args : List Value) (S : Heap) (Q : Value → Heap → Prop) : Prop := CallOk P f ∧ AC P ng f args S Q

/-- What is handed on stands in a later argument's type: the simplifier then leaves it alone. -/
structure Tag {α : Sort _} (a : α) : Type

/-- Two ways, by a Bool. -/
def ifA (b : Bool) (x y : Prop) : Prop :=
  match b with
  | true => x
  | false => y

@[congr] theorem ifA_congr {b b' : Bool} {x x' y y' : Prop} (hb : b = b') (hx : b' = true → x = x') (hy : b' = false → y = y') : ifA b x y = ifA b' x' y' := by
  subst hb
  cases b
  · exact hy rfl
  · exact hx rfl

theorem ifA_true {x y : Prop} : ifA true x y = x := opq rfl
theorem ifA_false {x y : Prop} : ifA false x y = y := opq rfl
theorem ifA_ite {b : Bool} {x y : Prop} : ifA b x y = if b = true then x else y := by cases b <;> rfl

/-- Go on with a frame, once it is written out. -/
def normT (tm : List Value) (hp : Heap) (k : St → Prop) (_ : Tag k := .mk) : Prop := k ⟨tm, hp⟩
@[congr] theorem normT_congr {tm tm' : List Value} {hp hp' : Heap} {k : St → Prop} (h : Unit → tm = tm') (h' : Unit → hp = hp') : normT tm hp k = normT tm' hp' k := by rw [h (), h' ()]
theorem normT_eq {tm : List Value} {hp : Heap} {k : St → Prop} : normT tm hp k = k ⟨tm, hp⟩ := opq rfl

/-- Go on with an answer. -/
def goV (r : Option Value) (k : Value → Prop) (_ : Tag k := .mk) : Prop :=
  match r with
  | some v => k v
  | none => False
def goH (r : Option (Value × Heap)) (k : Value → Heap → Prop) (_ : Tag k := .mk) : Prop :=
  match r with
  | some (v, S) => k v S
  | none => False
def goS (r : Option Heap) (k : Heap → Prop) (_ : Tag k := .mk) : Prop :=
  match r with
  | some S => k S
  | none => False
def goC (r : Option (FuncId × List Value)) (k : FuncId → List Value → Prop) (_ : Tag k := .mk) : Prop :=
  match r with
  | some (f, cs) => k f cs
  | none => False
@[congr] theorem goC_congr {r r' : Option (FuncId × List Value)} {k : FuncId → List Value → Prop} (h : Unit → r = r') : goC r k = goC r' k := by rw [h ()]
/-- Is the operation wanted? -/
def wantA (w : Option Bool) (x y : Unit → Prop) (_ : Tag x := .mk) (_ : Tag y := .mk) : Prop :=
  match w with
  | some b => ifA b (x ()) (y ())
  | none => False

@[congr] theorem goV_congr {r r' : Option Value} {k : Value → Prop} (h : Unit → r = r') : goV r k = goV r' k := by rw [h ()]
@[congr] theorem goH_congr {r r' : Option (Value × Heap)} {k : Value → Heap → Prop} (h : Unit → r = r') : goH r k = goH r' k := by rw [h ()]
@[congr] theorem goS_congr {r r' : Option Heap} {k : Heap → Prop} (h : Unit → r = r') : goS r k = goS r' k := by rw [h ()]
@[congr] theorem wantA_congr {w w' : Option Bool} {x y : Unit → Prop} (h : Unit → w = w') : wantA w x y = wantA w' x y := by rw [h ()]
theorem goV_some {v : Value} {k : Value → Prop} : goV (some v) k = k v := opq rfl
theorem goH_some {v : Value} {S : Heap} {k : Value → Heap → Prop} : goH (some (v, S)) k = k v S := opq rfl
theorem goS_some {S : Heap} {k : Heap → Prop} : goS (some S) k = k S := opq rfl
/-- The slots that operations write. -/
def dsts (l : List Oper) : List (Option Nat) := l.map (·.dst)

/-- An operation on one value that may draw: whatever it does, it is described. -/
def EvK (P : Program) (ng : Nat) (x : Value) (f : Value → Sem Value) (S : Heap) (Q : Value → Heap → Prop) (_ : Tag Q := .mk) : Prop :=
  ∀ (E : Emb) (x' : Value) (w : World), VR E x x' → Rel ng E S w → ∃ v' w', (f x').run P w = .ok v' w' ∧ ∃ v S' E', Q v S' ∧ VR E' v v' ∧ Rel ng E' S' w' ∧ S.length ≤ S'.length ∧ Grow S.length E S w E' S' w'
theorem EvK.mono {x : Value} {f : Value → Sem Value} {S : Heap} {Q Q' : Value → Heap → Prop} (h : EvK P ng x f S Q) (hq : ∀ v S', Q v S' → Q' v S') : EvK P ng x f S Q' := fun E x' w h1 h2 => by
  obtain ⟨v', w', g1, v, S', E', g2, g3⟩ := h E x' w h1 h2
  exact ⟨v', w', g1, v, S', E', hq _ _ g2, g3⟩
theorem AOps.ev {n : Nat} {ops : Array Oper} {o : Oper} {l : List Oper} {s : St} {K : St → Prop} {x : Operand} {f : Value → Sem Value} (hrun : ∀ a : Act, execOp a.eval o = (do let v ← f (a.eval x); pure (.value v))) (hw : awant (ops.toList.map (·.dst)) s.tm o.guard = some true)
    (h : EvK P ng (s.ev ng x) f s.hp fun v S' => AOps P ng n ops l ⟨putT s.tm o.dst v, S'⟩ K) : AOps P ng n ops (o :: l) s K := by
  intro E a w Q h1 h2 h3 h4 hq
  simp only [wpList, awant_real hw h1, if_true]
  refine .inl ?_
  obtain ⟨v', w', hr, v, S', E', hk, hv, hR, hlen, hg⟩ := h E (a.eval x) w (h1.ev h2 x) h2
  have hm : ∀ id l0, E id = some l0 → E' id = some l0 := fun id l0 he => by rw [hg.keep id (h2.lt he)]; exact he
  have hT := (h1.mono hm).put o.dst hv
  have key := hk E' (a.put o.dst v') w' Q hT hR h3 (by show n ≤ S'.length; omega) fun s' E2 a2 w2 k t r len g => hq s' E2 a2 w2 k t r len (Grow.trans (m := n) (Nat.le_refl _) ⟨fun id hid => hg.keep id (by omega), hg.os, hg.tape, hg.output, hg.size, hg.frame, hg.owned⟩ g)
  unfold Oper.wp
  rw [hrun]
  simp only [Sem.run_bind, hr, Result.andThen_ok, Sem.run_pure]
  exact key

/-- What a list of operations asks; `ds`: the slots that the region's operations write. -/
def opsc (P : Program) (ng n : Nat) (ds : List (Option Nat)) : List Oper → St → (St → Prop) → Prop
  | [], s, K => K s
  | o :: l, s, K =>
    wantA (awant ds s.tm o.guard)
      (fun _ => match o.op with
      | .call ⟨.value fo, args, _⟩ =>
        goC (callee? (s.ev ng fo)) fun f caps => CallA P ng f (args.toList.map (s.ev ng) ++ caps) s.hp fun v S' => normT (putT s.tm o.dst v) S' fun s => opsc P ng n ds l s K
      | .range t x => EvK P ng (s.ev ng x) (Instr.range t) s.hp fun v S' => normT (putT s.tm o.dst v) S' fun s => opsc P ng n ds l s K
      | .next x b => EvK P ng (s.ev ng x) (fun v => Instr.next v b o.type) s.hp fun v S' => normT (putT s.tm o.dst v) S' fun s => opsc P ng n ds l s K
      | .entry x => EvK P ng (s.ev ng x) Instr.entry s.hp fun v S' => normT (putT s.tm o.dst v) S' fun s => opsc P ng n ds l s K
      | _ => goH (aop P ng s o) fun v S' => normT (putT s.tm o.dst v) S' fun s => opsc P ng n ds l s K)
      (fun _ => normT (putT s.tm o.dst skipV) s.hp fun s => opsc P ng n ds l s K)

theorem opsc_sound {n : Nat} {ops : Array Oper} : ∀ (l : List Oper) (s : St) (K : St → Prop), opsc P ng n (dsts ops.toList) l s K → AOps P ng n ops l s K
  | [], s, K, h => AOps.nil h
  | o :: l, s, K, h => by
    unfold opsc at h
    unfold wantA at h
    split at h
    · rename_i b hw
      cases b with
      | true =>
        simp only [ifA] at h
        split at h
        · rename_i fo args ts hop
          unfold goC at h
          split at h
          · rename_i f caps hc
            obtain ⟨⟨fn, h1, h2, h3⟩, h4⟩ := h
            exact AOps.call hop hw hc h1 h2 h3 (h4.mono fun v S' hk => opsc_sound l _ K hk)
          · exact h.elim
        · rename_i t x hop
          exact AOps.ev (fun a => by simp [execOp, hop]) hw (h.mono fun v S' hk => opsc_sound l _ K hk)
        · rename_i x b hop
          exact AOps.ev (fun a => by simp [execOp, hop]) hw (h.mono fun v S' hk => opsc_sound l _ K hk)
        · rename_i x hop
          exact AOps.ev (fun a => by simp [execOp, hop]) hw (h.mono fun v S' hk => opsc_sound l _ K hk)
        · unfold goH at h
          split at h
          · rename_i v S' ha
            exact AOps.op hw ha (aop_len ha) (opsc_sound l _ K h)
          · exact h.elim
      | false => exact AOps.off hw (opsc_sound l _ K h)
    · exact h.elim

end Go.Am
