/- A computable form of the rules: what a piece of code asks, unfolded. No condition. -/
import Derived.Test.YtbigpkfdeaigeaaDoorAm10
import Derived.Lib.SlicesS
namespace Go.Am
open Go
set_option linter.unusedSimpArgs false
set_option linter.unusedVariables false

variable {P : Program} {ng : Nat}

/-- An equation whose proof is no computation, in the simplifier's eye. -/
theorem opq.{u} {α : Sort u} {a b : α} (h : a = b) : a = b := h

theorem alloc_len {S S' : Heap} {t : TypeId} {v : Value} (h : alloc? P S t = some (v, S')) : S.length ≤ S'.length := by
  unfold alloc? at h; repeat' split at h
  all_goals first | (cases h; done) | (obtain ⟨-, rfl⟩ := Prod.mk.inj (Option.some.inj h); simp)
theorem box_len {S S' : Heap} {t : TypeId} {x v : Value} (h : box? S t x = some (v, S')) : S.length ≤ S'.length := by
  unfold box? at h; repeat' split at h
  all_goals first | (cases h; done) | (obtain ⟨-, rfl⟩ := Prod.mk.inj (Option.some.inj h); simp)
theorem buildSlice_len {S S' : Heap} {t : TypeId} {n : Nat} {ps : Array (Nat × Value)} {v : Value} (h : buildSlice? P S t n ps = some (v, S')) : S.length ≤ S'.length := by
  unfold buildSlice? at h; repeat' split at h
  all_goals first | (cases h; done) | (obtain ⟨-, rfl⟩ := Prod.mk.inj (Option.some.inj h); simp)
theorem store_len {S S' : Heap} {t : TypeId} {p v : Value} (h : store? P S t p v = some S') : S.length ≤ S'.length := by
  unfold store? at h; repeat' split at h
  all_goals first | (cases h; done) | (obtain rfl := Option.some.inj h; simp)
theorem conv_len {S S' : Heap} {s d : TypeId} {x v : Value} (h : conv? P S s d x = some (v, S')) : S.length ≤ S'.length := by
  unfold conv? at h; repeat' split at h
  all_goals first | (cases h; done) | (obtain ⟨-, rfl⟩ := Prod.mk.inj (Option.some.inj h); simp; done) | (simp only [Option.map_eq_some_iff] at h; obtain ⟨_, _, h2⟩ := h; obtain ⟨-, rfl⟩ := Prod.mk.inj h2; simp)
theorem makeSlice_len {S S' : Heap} {t : TypeId} {l c v : Value} (h : makeSlice? P S t l c = some (v, S')) : S.length ≤ S'.length := by
  unfold makeSlice? at h; repeat' split at h
  all_goals first | (cases h; done) | (obtain ⟨-, rfl⟩ := Prod.mk.inj (Option.some.inj h); simp)
theorem mapUpdate_len {S S' : Heap} {t : TypeId} {m k x : Value} (h : mapUpdate? P S t m k x = some S') : S.length ≤ S'.length := by
  unfold mapUpdate? at h; repeat' split at h
  all_goals first | (cases h; done) | (obtain rfl := Option.some.inj h; simp)
theorem append_len {S S' : Heap} {t tx : TypeId} {s x v : Value} (h : append? P S t tx s x = some (v, S')) : S.length ≤ S'.length := by
  unfold append? at h; repeat' split at h
  all_goals first | (cases h; done) | (obtain ⟨-, rfl⟩ := Prod.mk.inj (Option.some.inj h); simp)
theorem copy_len {S S' : Heap} {t tx : TypeId} {s x v : Value} (h : copy? P S t tx s x = some (v, S')) : S.length ≤ S'.length := by
  unfold copy? at h; repeat' split at h
  all_goals first | (cases h; done) | (obtain ⟨-, rfl⟩ := Prod.mk.inj (Option.some.inj h); simp)

theorem aop_len {s : St} {o : Oper} {v : Value} {S' : Heap} (h : aop P ng s o = some (v, S')) : s.hp.length ≤ S'.length := by
  have mp : ∀ {r : Option Value}, r.map (·, s.hp) = some (v, S') → s.hp.length ≤ S'.length := by
    intro r h
    simp only [Option.map_eq_some_iff] at h
    obtain ⟨_, _, h2⟩ := h
    obtain ⟨-, rfl⟩ := Prod.mk.inj h2
    exact Nat.le_refl _
  have ms : ∀ {r : Option Heap}, (∀ S, r = some S → s.hp.length ≤ S.length) → r.map (Value.tuple #[], ·) = some (v, S') → s.hp.length ≤ S'.length := by
    intro r hr h
    simp only [Option.map_eq_some_iff] at h
    obtain ⟨_, h1, h2⟩ := h
    obtain ⟨-, rfl⟩ := Prod.mk.inj h2
    exact hr _ h1
  obtain ⟨dst, op, ty, pos, after, guard⟩ := o
  cases op with
  | alloc t => exact alloc_len h
  | box t x => exact box_len h
  | buildSlice t n ps => exact buildSlice_len h
  | store t x y => exact ms (fun S => store_len) h
  | convert a b x => exact conv_len h
  | makeMap t r =>
    cases r with
    | none =>
      simp only [aop, makeMap?] at h
      obtain ⟨-, rfl⟩ := Prod.mk.inj (Option.some.inj h)
      simp
    | some r => simp [aop] at h
  | makeSlice t l c => exact makeSlice_len h
  | mapUpdate t m k x => exact ms (fun S => mapUpdate_len) h
  | insert t m k x => exact ms (fun S => mapUpdate_len) h
  | call c =>
    obtain ⟨callee, args, argTypes⟩ := c
    cases callee with
    | value f => simp [aop] at h
    | invoke r n => simp [aop] at h
    | builtin b =>
      simp only [aop] at h
      unfold builtin? at h
      split at h
      · exact mp h
      · exact append_len h
      · exact copy_len h
      · split at h
        · exact mp h
        · cases h
      · split at h
        · exact mp h
        · cases h
      · cases h
  | move x =>
    simp only [aop, Option.some.injEq, Prod.mk.injEq] at h
    obtain ⟨-, rfl⟩ := h
    exact Nat.le_refl _
  | assign x =>
    simp only [aop, Option.some.injEq, Prod.mk.injEq] at h
    obtain ⟨-, rfl⟩ := h
    exact Nat.le_refl _
  | _ => first | (simp [aop] at h; done) | exact mp h

/-- The function is there, and has a body. -/
def CallOk (P : Program) (f : FuncId) : Prop := ∃ fn, P.funcs[f]? = some fn ∧ (fn.name == "runtime.NumGoroutine") = false ∧ fn.body.isSome = true

/-- A call whose answer is awaited. -/
def CallA (P : Program) (ng : Nat) (f : FuncId) (args : List Value) (S : Heap) (Q : Value → Heap → Prop) : Prop := CallOk P f ∧ AC P ng f args S Q

/-- What is handed on stands in a later argument's type: the simplifier then leaves it alone. -/
structure Tag {α : Sort _} (a : α) : Type

/-- Two ways, by a Bool. -/
def ifA (b : Bool) (x y : Prop) : Prop :=
  match b with
  | true => x
  | false => y

@[congr] theorem ifA_congr {b b' : Bool} {x x' y y' : Prop} (hb : b = b') (hx : b' = true → x = x') (hy : b' = false → y = y') : ifA b x y = ifA b' x' y' := by
  subst hb
  cases b
  · exact hy rfl
  · exact hx rfl

theorem ifA_true {x y : Prop} : ifA true x y = x := opq rfl
theorem ifA_false {x y : Prop} : ifA false x y = y := opq rfl
/-- Go on with a frame, once it is written out. -/
def normT (tm : List Value) (hp : Heap) (k : St → Prop) (_ : Tag k := .mk) : Prop := k ⟨tm, hp⟩
@[congr] theorem normT_congr {tm tm' : List Value} {hp hp' : Heap} {k : St → Prop} (h : Unit → tm = tm') (h' : Unit → hp = hp') : normT tm hp k = normT tm' hp' k := by rw [h (), h' ()]
theorem normT_eq {tm : List Value} {hp : Heap} {k : St → Prop} : normT tm hp k = k ⟨tm, hp⟩ := opq rfl

/-- Go on with an answer. -/
def goV (r : Option Value) (k : Value → Prop) (_ : Tag k := .mk) : Prop :=
  match r with
  | some v => k v
  | none => False
def goH (r : Option (Value × Heap)) (k : Value → Heap → Prop) (_ : Tag k := .mk) : Prop :=
  match r with
  | some (v, S) => k v S
  | none => False
def goS (r : Option Heap) (k : Heap → Prop) (_ : Tag k := .mk) : Prop :=
  match r with
  | some S => k S
  | none => False
def goC (r : Option (FuncId × List Value)) (k : FuncId → List Value → Prop) (_ : Tag k := .mk) : Prop :=
  match r with
  | some (f, cs) => k f cs
  | none => False
@[congr] theorem goC_congr {r r' : Option (FuncId × List Value)} {k : FuncId → List Value → Prop} (h : Unit → r = r') : goC r k = goC r' k := by rw [h ()]
/-- Is the operation wanted? -/
def wantA (w : Option Bool) (x y : Unit → Prop) (_ : Tag x := .mk) (_ : Tag y := .mk) : Prop :=
  match w with
  | some b => ifA b (x ()) (y ())
  | none => False

@[congr] theorem goV_congr {r r' : Option Value} {k : Value → Prop} (h : Unit → r = r') : goV r k = goV r' k := by rw [h ()]
@[congr] theorem goH_congr {r r' : Option (Value × Heap)} {k : Value → Heap → Prop} (h : Unit → r = r') : goH r k = goH r' k := by rw [h ()]
@[congr] theorem goS_congr {r r' : Option Heap} {k : Heap → Prop} (h : Unit → r = r') : goS r k = goS r' k := by rw [h ()]
@[congr] theorem wantA_congr {w w' : Option Bool} {x y : Unit → Prop} (h : Unit → w = w') : wantA w x y = wantA w' x y := by rw [h ()]
theorem goV_some {v : Value} {k : Value → Prop} : goV (some v) k = k v := opq rfl
theorem goH_some {v : Value} {S : Heap} {k : Value → Heap → Prop} : goH (some (v, S)) k = k v S := opq rfl
theorem goS_some {S : Heap} {k : Heap → Prop} : goS (some S) k = k S := opq rfl
/-- The slots that operations write. -/
def dsts (l : List Oper) : List (Option Nat) := l.map (·.dst)

/-- An operation on one value that may draw: whatever it does, it is described. -/
def EvK (P : Program) (ng : Nat) (x : Value) (f : Value → Sem Value) (S : Heap) (Q : Value → Heap → Prop) (_ : Tag Q := .mk) : Prop :=
  ∀ (E : Emb) (x' : Value) (w : World), VR E x x' → Rel ng E S w → ∃ v' w', (f x').run P w = .ok v' w' ∧ ∃ v S' E', Q v S' ∧ VR E' v v' ∧ Rel ng E' S' w' ∧ S.length ≤ S'.length ∧ Grow S.length E S w E' S' w'
theorem EvK.mono {x : Value} {f : Value → Sem Value} {S : Heap} {Q Q' : Value → Heap → Prop} (h : EvK P ng x f S Q) (hq : ∀ v S', Q v S' → Q' v S') : EvK P ng x f S Q' := fun E x' w h1 h2 => by
  obtain ⟨v', w', g1, v, S', E', g2, g3⟩ := h E x' w h1 h2
  exact ⟨v', w', g1, v, S', E', hq _ _ g2, g3⟩
theorem AOps.ev {n : Nat} {ops : Array Oper} {o : Oper} {l : List Oper} {s : St} {K : St → Prop} {x : Operand} {f : Value → Sem Value} (hrun : ∀ a : Act, execOp a.eval o = (do let v ← f (a.eval x); pure (.value v))) (hw : awant (ops.toList.map (·.dst)) s.tm o.guard = some true)
    (h : EvK P ng (s.ev ng x) f s.hp fun v S' => AOps P ng n ops l ⟨putT s.tm o.dst v, S'⟩ K) : AOps P ng n ops (o :: l) s K := by
  intro E a w Q h1 h2 h3 h4 hq
  simp only [wpList, awant_real hw h1, if_true]
  refine .inl ?_
  obtain ⟨v', w', hr, v, S', E', hk, hv, hR, hlen, hg⟩ := h E (a.eval x) w (h1.ev h2 x) h2
  have hm : ∀ id l0, E id = some l0 → E' id = some l0 := fun id l0 he => by rw [hg.keep id (h2.lt he)]; exact he
  have hT := (h1.mono hm).put o.dst hv
  have key := hk E' (a.put o.dst v') w' Q hT hR h3 (by show n ≤ S'.length; omega) fun s' E2 a2 w2 k t r len g => hq s' E2 a2 w2 k t r len (Grow.trans (m := n) (Nat.le_refl _) ⟨fun id hid => hg.keep id (by omega), hg.os, hg.tape, hg.output, hg.size, hg.frame, hg.owned⟩ g)
  unfold Oper.wp
  rw [hrun]
  simp only [Sem.run_bind, hr, Result.andThen_ok, Sem.run_pure]
  exact key

/-- What a list of operations asks; `ds`: the slots that the region's operations write. -/
def opsc (P : Program) (ng n : Nat) (ds : List (Option Nat)) : List Oper → St → (St → Prop) → Prop
  | [], s, K => K s
  | o :: l, s, K =>
    wantA (awant ds s.tm o.guard)
      (fun _ => match o.op with
      | .call ⟨.value fo, args, _⟩ =>
        goC (callee? (s.ev ng fo)) fun f caps => CallA P ng f (args.toList.map (s.ev ng) ++ caps) s.hp fun v S' => normT (putT s.tm o.dst v) S' fun s => opsc P ng n ds l s K
      | .range t x => EvK P ng (s.ev ng x) (Instr.range t) s.hp fun v S' => normT (putT s.tm o.dst v) S' fun s => opsc P ng n ds l s K
      | .next x b => EvK P ng (s.ev ng x) (fun v => Instr.next v b o.type) s.hp fun v S' => normT (putT s.tm o.dst v) S' fun s => opsc P ng n ds l s K
      | .entry x => EvK P ng (s.ev ng x) Instr.entry s.hp fun v S' => normT (putT s.tm o.dst v) S' fun s => opsc P ng n ds l s K
      | _ => goH (aop P ng s o) fun v S' => normT (putT s.tm o.dst v) S' fun s => opsc P ng n ds l s K)
      (fun _ => normT (putT s.tm o.dst skipV) s.hp fun s => opsc P ng n ds l s K)

theorem opsc_sound {n : Nat} {ops : Array Oper} : ∀ (l : List Oper) (s : St) (K : St → Prop), opsc P ng n (dsts ops.toList) l s K → AOps P ng n ops l s K
  | [], s, K, h => AOps.nil h
  | o :: l, s, K, h => by
    unfold opsc at h
    unfold wantA at h
    split at h
    · rename_i b hw
      cases b with
      | true =>
        simp only [ifA] at h
        split at h
        · rename_i fo args ts hop
          unfold goC at h
          split at h
          · rename_i f caps hc
            obtain ⟨⟨fn, h1, h2, h3⟩, h4⟩ := h
            exact AOps.call hop hw hc h1 h2 h3 (h4.mono fun v S' hk => opsc_sound l _ K hk)
          · exact h.elim
        · rename_i t x hop
          exact AOps.ev (fun a => by simp [execOp, hop]) hw (h.mono fun v S' hk => opsc_sound l _ K hk)
        · rename_i x b hop
          exact AOps.ev (fun a => by simp [execOp, hop]) hw (h.mono fun v S' hk => opsc_sound l _ K hk)
        · rename_i x hop
          exact AOps.ev (fun a => by simp [execOp, hop]) hw (h.mono fun v S' hk => opsc_sound l _ K hk)
        · unfold goH at h
          split at h
          · rename_i v S' ha
            exact AOps.op hw ha (aop_len ha) (opsc_sound l _ K h)
          · exact h.elim
      | false => exact AOps.off hw (opsc_sound l _ K h)
    · exact h.elim

end Go.Am
