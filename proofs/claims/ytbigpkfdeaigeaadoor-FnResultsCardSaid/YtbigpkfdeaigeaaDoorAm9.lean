/- Every operation that calls nothing: its abstract meaning, and that the model does it. No condition. -/
import Derived.Test.YtbigpkfdeaigeaaDoorAm8
namespace Go.Am
open Go
set_option linter.unusedSimpArgs false
set_option linter.unusedVariables false

variable {P : Program} {ng : Nat}

def builtin? (P : Program) (S : Heap) (b : Builtin) (ts : List TypeId) (ty : TypeId) (xs : List Value) : Option (Value × Heap) :=
  match b, ts, xs with
  | .len, [t], [x] => (len? P S t x).map (·, S)
  | .append, [t, tx], [x, y] => append? P S t tx x y
  | .copy, [t, tx], [x, y] => copy? P S t tx x y
  | .min, ts, xs => if xs.all flat then (purF P (Builtin.min_ ts.toArray ty xs.toArray)).map (·, S) else none
  | .max, ts, xs => if xs.all flat then (purF P (Builtin.max_ ts.toArray ty xs.toArray)).map (·, S) else none
  | _, _, _ => none

def pick? (c x y : Value) : Option Value :=
  match c with
  | .bool t => some (if t then x else y)
  | _ => none

def nilCheck? (x : Value) : Option Value :=
  match x with
  | .pointer (some a) => some (.pointer (some a))
  | .func (.func f) first c => if first.isEmpty then some (.func (.func f) #[] c) else none
  | _ => none

def un? (P : Program) (op : UnOp) (x : Value) : Option Value := if flat x then purF P (Op.unary op x) else none

def mkIface? (P : Program) (t : TypeId) (x : Value) : Option Value :=
  match P.underlying t with
  | some (.interface _) => none
  | some _ => if known x then some (.iface t x) else none
  | none => none

def mkFunc? (fn : Fn) (first : Array Operand) (caps : Array Value) : Option Value := if first.isEmpty then some (.func fn #[] caps) else none

/-- What a walk over a map answers at its end. -/
def isOver : Array Value → Bool
  | ⟨[.bool false]⟩ => true
  | _ => false
def extract? (x : Value) (i : Nat) : Option Value :=
  match x with
  | .tuple vs => if 2 ≤ vs.size ∨ isOver vs = true then vs[i]? else none
  | _ => none

/-- What an operation does that calls nothing. -/
def aop (P : Program) (ng : Nat) (s : St) (o : Oper) : Option (Value × Heap) :=
  match o.op with
  | .move x => some (s.ev ng x, s.hp)
  | .assign x => some (s.ev ng x, s.hp)
  | .pick c a b => (pick? (s.ev ng c) (s.ev ng a) (s.ev ng b)).map (·, s.hp)
  | .alloc t => alloc? P s.hp t
  | .box t x => box? s.hp t (s.ev ng x)
  | .build t ps => (build? P t (ps.map fun x => (x.1, s.ev ng x.2))).map (·, s.hp)
  | .buildSlice t n ps => buildSlice? P s.hp t n (ps.map fun x => (x.1, s.ev ng x.2))
  | .load t x => (load? P s.hp t (s.ev ng x)).map (·, s.hp)
  | .store t x y => (store? P s.hp t (s.ev ng x) (s.ev ng y)).map (.tuple #[], ·)
  | .nilCheck x => (nilCheck? (s.ev ng x)).map (·, s.hp)
  | .binOp op t x y _ => (bin? P op t x y (s.ev ng x) (s.ev ng y)).map (·, s.hp)
  | .unOp op _ x => (un? P op (s.ev ng x)).map (·, s.hp)
  | .convert a b x => conv? P s.hp a b (s.ev ng x)
  | .makeInterface t x => (mkIface? P t (s.ev ng x)).map (·, s.hp)
  | .makeFunc fn first cap => (mkFunc? fn first (cap.map (s.ev ng))).map (·, s.hp)
  | .makeMap _ none => some (makeMap? s.hp)
  | .makeSlice t l c => makeSlice? P s.hp t (s.ev ng l) (s.ev ng c)
  | .slice t x lo hi mx => (slice? P t (s.ev ng x) (lo.map (s.ev ng)) (hi.map (s.ev ng)) (mx.map (s.ev ng))).map (·, s.hp)
  | .fieldAddr t x f => (fieldAddr? P t (s.ev ng x) f).map (·, s.hp)
  | .field t x f => (field? P t (s.ev ng x) f).map (·, s.hp)
  | .indexAddr t x i => (indexAddr? P t (s.ev ng x) (s.ev ng i)).map (·, s.hp)
  | .index t x i => (index? P t (s.ev ng x) (s.ev ng i)).map (·, s.hp)
  | .lookup t m k ok => (lookup? P s.hp t (s.ev ng m) (s.ev ng k) ok).map (·, s.hp)
  | .mapUpdate t m k x => (mapUpdate? P s.hp t (s.ev ng m) (s.ev ng k) (s.ev ng x)).map (.tuple #[], ·)
  | .insert t m k x => (mapUpdate? P s.hp t (s.ev ng m) (s.ev ng k) (s.ev ng x)).map (.tuple #[], ·)
  | .extract x i => (extract? (s.ev ng x) i).map (·, s.hp)
  | .call c => match c.callee with
    | .builtin b => builtin? P s.hp b c.argTypes.toList o.type (c.args.toList.map (s.ev ng))
    | _ => none
  | _ => none

theorem VRo.map {E : Emb} {f g : Operand → Value} (h : ∀ x, VR E (f x) (g x)) (x : Option Operand) : VRo E (x.map f) (x.map g) := by
  cases x with
  | none => trivial
  | some x => exact h x

theorem parts_vr {E : Emb} {f g : Operand → Value} (h : ∀ x, VR E (f x) (g x)) (ps : Array (Nat × Operand)) :
    (ps.map fun x => (x.1, f x.2)).size = (ps.map fun x => (x.1, g x.2)).size ∧
    ∀ i (h1 : i < (ps.map fun x => (x.1, f x.2)).size) (h2 : i < (ps.map fun x => (x.1, g x.2)).size),
      (ps.map fun x => (x.1, f x.2))[i].1 = (ps.map fun x => (x.1, g x.2))[i].1 ∧ VR E (ps.map fun x => (x.1, f x.2))[i].2 (ps.map fun x => (x.1, g x.2))[i].2 := by
  refine ⟨by simp, fun i h1 h2 => ?_⟩
  simp only [Array.getElem_map]
  exact ⟨trivial, h _⟩

theorem list_flat {E : Emb} {f g : Operand → Value} (h : ∀ x, VR E (f x) (g x)) : ∀ (l : List Operand), (l.map f).all flat = true → l.map g = l.map f
  | [], _ => rfl
  | x :: l, hf => by
    simp only [List.map_cons, List.all_cons, Bool.and_eq_true] at hf ⊢
    rw [(h x).eq hf.1, list_flat h l hf.2]

theorem one_arg {f : Operand → Value} {l : List Operand} {x : Value} (h : l.map f = [x]) : ∃ y, l = [y] ∧ f y = x := by
  match l, h with
  | [y], h => exact ⟨y, rfl, by simpa using h⟩

theorem two_args {f : Operand → Value} {l : List Operand} {x y : Value} (h : l.map f = [x, y]) : ∃ x0 y0, l = [x0, y0] ∧ f x0 = x ∧ f y0 = y := by
  match l, h with
  | [x0, y0], h => exact ⟨x0, y0, rfl, by simpa using h⟩

theorem aop_sound {E : Emb} {w : World} {s : St} {a : Act} {o : Oper} {v : Value} {S' : Heap} (h : aop P ng s o = some (v, S')) (hT : RelT E s.tm a) (hr : Rel ng E s.hp w) :
    Does P ng E s.hp w (execOp a.eval o) v S' := by
  have hv : ∀ x, VR E (s.ev ng x) (a.eval x) := fun x => hT.ev hr x
  obtain ⟨dst, op, ty, pos, after, guard⟩ := o
  cases op with
  | move x =>
    simp only [aop, Option.some.injEq, Prod.mk.injEq] at h
    obtain ⟨rfl, rfl⟩ := h
    exact ⟨_, a.eval x, E, w, rfl, .inl rfl, hr, hv x, Grow.refl _ _ _ _⟩
  | assign x =>
    simp only [aop, Option.some.injEq, Prod.mk.injEq] at h
    obtain ⟨rfl, rfl⟩ := h
    exact ⟨_, a.eval x, E, w, rfl, .inl rfl, hr, hv x, Grow.refl _ _ _ _⟩
  | pick c x y =>
    simp only [aop, Option.map_eq_some_iff] at h
    obtain ⟨u, hu, h2⟩ := h
    obtain ⟨rfl, rfl⟩ := Prod.mk.inj h2
    unfold pick? at hu
    split at hu
    · rename_i t ht
      obtain rfl := Option.some.inj hu
      have hc := hv c
      rw [ht] at hc
      cases hcc : a.eval c <;> rw [hcc] at hc <;> cases hc
      refine ⟨_, if t then a.eval x else a.eval y, E, w, by simp [execOp, hcc, asBool], .inl rfl, hr, ?_, Grow.refl _ _ _ _⟩
      cases t
      · exact hv y
      · exact hv x
    · cases hu
  | alloc t =>
    simp only [aop] at h
    obtain ⟨v', E', w', h1, h2, h3, h4⟩ := alloc_run h hr
    exact Does.value h2 h1 h3 h4
  | box t x =>
    simp only [aop] at h
    obtain ⟨v', E', w', h1, h2, h3, h4⟩ := box_run h hr (hv x)
    exact Does.value h2 h1 h3 h4
  | build t ps =>
    simp only [aop, Option.map_eq_some_iff] at h
    obtain ⟨u, hu, h2⟩ := h
    obtain ⟨rfl, rfl⟩ := Prod.mk.inj h2
    obtain ⟨hs, hp⟩ := parts_vr hv ps
    obtain ⟨v', h1, h2⟩ := build_run hu hs hp
    exact Does.same hr (h1 w) h2
  | buildSlice t n ps =>
    simp only [aop] at h
    obtain ⟨hs, hp⟩ := parts_vr hv ps
    obtain ⟨v', E', w', h1, h2, h3, h4⟩ := buildSlice_run h hr hs hp
    exact Does.value h2 h1 h3 h4
  | load t x =>
    simp only [aop, Option.map_eq_some_iff] at h
    obtain ⟨u, hu, h2⟩ := h
    obtain ⟨rfl, rfl⟩ := Prod.mk.inj h2
    obtain ⟨v', h1, h2⟩ := load_run hu hr (hv x)
    exact Does.same hr h1 h2
  | store t x y =>
    simp only [aop, Option.map_eq_some_iff] at h
    obtain ⟨u, hu, h2⟩ := h
    obtain ⟨rfl, rfl⟩ := Prod.mk.inj h2
    obtain ⟨w', h1, h2, h3⟩ := store_run hu hr (hv x) (hv y)
    exact Does.unit h2 h1 h3
  | nilCheck x =>
    simp only [aop, Option.map_eq_some_iff] at h
    obtain ⟨u, hu, h2⟩ := h
    obtain ⟨rfl, rfl⟩ := Prod.mk.inj h2
    have hx := hv x
    unfold nilCheck? at hu
    split at hu
    · rename_i ad hp
      obtain rfl := Option.some.inj hu
      rw [hp] at hx
      generalize hax : a.eval x = ax at hx
      have hx0 := hx
      cases hx with
      | ptr off he => exact ⟨_, _, E, w, by simp [execOp, hax], .inl rfl, hr, hx0, Grow.refl _ _ _ _⟩
    · rename_i f first c hp
      split at hu
      · rename_i hf
        obtain rfl := Option.some.inj hu
        have : first = #[] := Array.isEmpty_iff.1 hf
        subst this
        rw [hp] at hx
        generalize hax : a.eval x = ax at hx
        have hx0 := hx
        cases hx with
        | func fn hs hh => exact ⟨_, _, E, w, by simp [execOp, hax], .inl rfl, hr, hx0, Grow.refl _ _ _ _⟩
      · cases hu
    · cases hu
  | binOp op t x y ty =>
    simp only [aop, Option.map_eq_some_iff] at h
    obtain ⟨u, hu, h2⟩ := h
    obtain ⟨rfl, rfl⟩ := Prod.mk.inj h2
    obtain ⟨h1, h2⟩ := bin_run hu (hv x) (hv y) w
    exact Does.same hr h1 h2
  | unOp op t x =>
    simp only [aop, Option.map_eq_some_iff] at h
    obtain ⟨u, hu, h2⟩ := h
    obtain ⟨rfl, rfl⟩ := Prod.mk.inj h2
    unfold un? at hu
    split at hu
    · rename_i hf
      have := (hv x).eq hf
      rw [← this] at hu
      exact Does.same hr (purF_run hu w).1 (VR.refl E (purF_run hu w).2)
    · cases hu
  | convert c d x =>
    simp only [aop] at h
    obtain ⟨v', E', w', h1, h2, h3, h4⟩ := conv_run h hr (hv x)
    exact Does.value h2 h1 h3 h4
  | makeInterface t x =>
    simp only [aop, Option.map_eq_some_iff] at h
    obtain ⟨u, hu, h2⟩ := h
    obtain ⟨rfl, rfl⟩ := Prod.mk.inj h2
    unfold mkIface? at hu
    split at hu
    · cases hu
    · rename_i d hne hud
      split at hu
      · obtain rfl := Option.some.inj hu
        refine Does.same hr (v' := .iface t (a.eval x)) ?_ (.iface t (hv x))
        cases d <;> first | (simp [Instr.makeInterface, run_underlying hud]; done) | exact absurd rfl (hne _)
      · cases hu
    · cases hu
  | makeFunc fn first cap =>
    simp only [aop, Option.map_eq_some_iff] at h
    obtain ⟨u, hu, h2⟩ := h
    obtain ⟨rfl, rfl⟩ := Prod.mk.inj h2
    unfold mkFunc? at hu
    split at hu
    · rename_i hf
      obtain rfl := Option.some.inj hu
      have : first = #[] := Array.isEmpty_iff.1 hf
      subst this
      refine Does.same hr (v' := .func fn #[] (cap.map a.eval)) ?_ (.func fn (by simp) fun i h1 h2 => ?_)
      · simp [Instr.makeFunc]
      · simp only [Array.getElem_map]
        exact hv _
    · cases hu
  | makeMap t r =>
    cases r with
    | some r => simp [aop] at h
    | none =>
      simp only [aop, Option.some.injEq] at h
      obtain ⟨v', E', w', h1, h2, h3, h4⟩ := makeMap_run (P := P) t hr
      rw [h] at h2 h3 h4
      exact Does.value h2 h1 h3 h4
  | makeSlice t l c =>
    simp only [aop] at h
    obtain ⟨v', E', w', h1, h2, h3, h4⟩ := makeSlice_run h hr (hv l) (hv c)
    exact Does.value h2 h1 h3 h4
  | slice t x lo hi mx =>
    simp only [aop, Option.map_eq_some_iff] at h
    obtain ⟨u, hu, h2⟩ := h
    obtain ⟨rfl, rfl⟩ := Prod.mk.inj h2
    obtain ⟨v', h1, h2⟩ := slice_run hu (hv x) (VRo.map hv lo) (VRo.map hv hi) (VRo.map hv mx)
    exact Does.same hr (h1 w) h2
  | fieldAddr t x f =>
    simp only [aop, Option.map_eq_some_iff] at h
    obtain ⟨u, hu, h2⟩ := h
    obtain ⟨rfl, rfl⟩ := Prod.mk.inj h2
    obtain ⟨v', h1, h2⟩ := fieldAddr_run hu (hv x)
    exact Does.same hr (h1 w) h2
  | field t x f =>
    simp only [aop, Option.map_eq_some_iff] at h
    obtain ⟨u, hu, h2⟩ := h
    obtain ⟨rfl, rfl⟩ := Prod.mk.inj h2
    obtain ⟨v', h1, h2⟩ := field_run hu (hv x)
    exact Does.same hr (h1 w) h2
  | indexAddr t x i =>
    simp only [aop, Option.map_eq_some_iff] at h
    obtain ⟨u, hu, h2⟩ := h
    obtain ⟨rfl, rfl⟩ := Prod.mk.inj h2
    obtain ⟨v', h1, h2⟩ := indexAddr_run hu (hv x) (hv i)
    exact Does.same hr (h1 w) h2
  | index t x i =>
    simp only [aop, Option.map_eq_some_iff] at h
    obtain ⟨u, hu, h2⟩ := h
    obtain ⟨rfl, rfl⟩ := Prod.mk.inj h2
    obtain ⟨v', h1, h2⟩ := index_run hu (hv x) (hv i)
    exact Does.same hr (h1 w) h2
  | lookup t m k ok =>
    simp only [aop, Option.map_eq_some_iff] at h
    obtain ⟨u, hu, h2⟩ := h
    obtain ⟨rfl, rfl⟩ := Prod.mk.inj h2
    obtain ⟨v', h1, h2⟩ := lookup_run hu hr (hv m) (hv k)
    exact Does.same hr h1 h2
  | mapUpdate t m k x =>
    simp only [aop, Option.map_eq_some_iff] at h
    obtain ⟨u, hu, h2⟩ := h
    obtain ⟨rfl, rfl⟩ := Prod.mk.inj h2
    obtain ⟨w', h1, h2, h3⟩ := mapUpdate_run hu hr (hv m) (hv k) (hv x)
    exact Does.unit h2 h1 h3
  | insert t m k x =>
    simp only [aop, Option.map_eq_some_iff] at h
    obtain ⟨u, hu, h2⟩ := h
    obtain ⟨rfl, rfl⟩ := Prod.mk.inj h2
    obtain ⟨w', h1, h2, h3⟩ := mapUpdate_run hu hr (hv m) (hv k) (hv x)
    exact Does.unit h2 h1 h3
  | extract x i =>
    simp only [aop, Option.map_eq_some_iff] at h
    obtain ⟨u, hu, h2⟩ := h
    obtain ⟨rfl, rfl⟩ := Prod.mk.inj h2
    have hx := hv x
    unfold extract? at hu
    split at hu
    · rename_i vs hp
      split at hu
      · rename_i h2v
        rw [hp] at hx
        generalize hax : a.eval x = ax at hx
        cases hx with
        | any v => simp [isOver] at h2v
        | skipped => simp [isOver] at h2v
        | tuple hs hh =>
          obtain ⟨hi, rfl⟩ := Array.getElem?_eq_some_iff.1 hu
          rename_i ys
          have := Does.same (P := P) hr (m := Instr.extract (.tuple ys) i) (v' := ys[i]'(by omega)) (by simp [Instr.extract, Array.getElem?_eq_getElem (show i < ys.size by omega)]) (hh i hi (by omega))
          simpa [execOp, hax] using this
      · cases hu
    · cases hu
  | call c =>
    obtain ⟨callee, args, argTypes⟩ := c
    cases callee with
    | value f => simp [aop] at h
    | invoke r n => simp [aop] at h
    | builtin b =>
      simp only [aop] at h
      unfold builtin? at h
      split at h
      · rename_i t x ht hx
        simp only [Option.map_eq_some_iff] at h
        obtain ⟨u, hu, h2⟩ := h
        obtain ⟨rfl, rfl⟩ := Prod.mk.inj h2
        obtain ⟨y, hy, rfl⟩ := one_arg hx
        obtain ⟨h1, h2⟩ := len_run (ty := ty) hu hr (hv y)
        have e1 : argTypes = #[t] := by apply Array.ext'; simpa using ht
        have e2 : args = #[y] := by apply Array.ext'; simpa using hy
        subst e1 e2
        refine ⟨_, u, E, w, ?_, .inl rfl, hr, h2, Grow.refl _ _ _ _⟩
        simp [execOp, resolve, invoke, builtin, h1]
      · rename_i t tx x y ht hx
        obtain ⟨x0, y0, hy, rfl, rfl⟩ := two_args hx
        obtain ⟨v', E', w', h1, h2, h3, h4⟩ := append_run (ty := ty) h hr (hv x0) (hv y0)
        have e1 : argTypes = #[t, tx] := by apply Array.ext'; simpa using ht
        have e2 : args = #[x0, y0] := by apply Array.ext'; simpa using hy
        subst e1 e2
        refine ⟨_, v', E', w', ?_, .inl rfl, h2, h3, h4⟩
        simp [execOp, resolve, invoke, builtin, h1]
      · rename_i t tx x y ht hx
        obtain ⟨x0, y0, hy, rfl, rfl⟩ := two_args hx
        obtain ⟨v', E', w', h1, h2, h3, h4⟩ := copy_run (ty := ty) h hr (hv x0) (hv y0)
        have e1 : argTypes = #[t, tx] := by apply Array.ext'; simpa using ht
        have e2 : args = #[x0, y0] := by apply Array.ext'; simpa using hy
        subst e1 e2
        refine ⟨_, v', E', w', ?_, .inl rfl, h2, h3, h4⟩
        simp [execOp, resolve, invoke, builtin, h1]
      · split at h
        · rename_i hf
          simp only [Option.map_eq_some_iff] at h
          obtain ⟨u, hu, h2⟩ := h
          obtain ⟨rfl, rfl⟩ := Prod.mk.inj h2
          have e := list_flat hv args.toList hf
          rw [← e] at hu
          have e3 : (args.toList.map a.eval).toArray = args.map a.eval := by apply Array.ext'; simp
          have e4 : argTypes.toList.toArray = argTypes := by simp
          rw [e3, e4] at hu
          refine ⟨_, u, E, w, ?_, .inl rfl, hr, VR.refl E (purF_run hu w).2, Grow.refl _ _ _ _⟩
          simp [execOp, resolve, invoke, builtin, (purF_run hu w).1]
        · cases h
      · split at h
        · rename_i hf
          simp only [Option.map_eq_some_iff] at h
          obtain ⟨u, hu, h2⟩ := h
          obtain ⟨rfl, rfl⟩ := Prod.mk.inj h2
          have e := list_flat hv args.toList hf
          rw [← e] at hu
          have e3 : (args.toList.map a.eval).toArray = args.map a.eval := by apply Array.ext'; simp
          have e4 : argTypes.toList.toArray = argTypes := by simp
          rw [e3, e4] at hu
          refine ⟨_, u, E, w, ?_, .inl rfl, hr, VR.refl E (purF_run hu w).2, Grow.refl _ _ _ _⟩
          simp [execOp, resolve, invoke, builtin, (purF_run hu w).1]
        · cases h
      · cases h
  | _ => simp [aop] at h

end Go.Am
