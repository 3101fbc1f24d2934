/- Programs over the abstract heap: what a call, a list of operations and a piece of code must bring about, and the rules by which that is shown. No condition. -/
import Derived.Test.YtbigpkfdeaigeaaDoorAm9
import Derived.Tactics
namespace Go.Am
open Go
set_option linter.unusedSimpArgs false
set_option linter.unusedVariables false

variable {P : Program} {ng : Nat}

def skipV : Value := .tuple #[.nilFunc]

/-- Arguments that stand for arguments. -/
def VRs (E : Emb) (xs : List Value) (ys : Array Value) : Prop := xs.length = ys.size ∧ ∀ (i : Nat) (h : i < xs.length) (h' : i < ys.size), VR E xs[i] ys[i]

/-- A call of function f at abstract arguments in an abstract heap: whatever world it describes, the call returns, and what it leaves is described by an answer and a heap that meet Q. -/
def AC (P : Program) (ng : Nat) (f : FuncId) (args : List Value) (S : Heap) (Q : Value → Heap → Prop) : Prop :=
  ∀ E args' w, VRs E args args' → Rel ng E S w → ng ≤ S.length →
    Calls P f args' w fun e w' => ∃ v v' S' E', e = .returned v' ∧ Q v S' ∧ VR E' v v' ∧ Rel ng E' S' w' ∧ S.length ≤ S'.length ∧ Grow S.length E S w E' S' w'

/-- What lies in the real slots and the world is described by the abstract frame. -/
def AW (P : Program) (ng n : Nat) (c : Code) (s : St) (Q : Exit → St → Prop) : Prop :=
  ∀ E a w, RelT E s.tm a → Rel ng E s.hp w → ng ≤ n → n ≤ s.hp.length →
    c.wp P (fun e a' w' => ∃ s' E', Q e s' ∧ RelT E' s'.tm a' ∧ Rel ng E' s'.hp w' ∧ n ≤ s'.hp.length ∧ Grow n E s.hp w E' s'.hp w') a w

/-- A list of operations. -/
def AOps (P : Program) (ng n : Nat) (ops : Array Oper) (l : List Oper) (s : St) (K : St → Prop) : Prop :=
  ∀ E a w (Q : Exit → Act → World → Prop), RelT E s.tm a → Rel ng E s.hp w → ng ≤ n → n ≤ s.hp.length →
    (∀ s' E' a' w', K s' → RelT E' s'.tm a' → Rel ng E' s'.hp w' → n ≤ s'.hp.length → Grow n E s.hp w E' s'.hp w' → Q .normal a' w') → wpList P ops Q l a w

theorem AC.mono {f : FuncId} {args : List Value} {S : Heap} {Q Q' : Value → Heap → Prop} (h : AC P ng f args S Q) (hq : ∀ v S', Q v S' → Q' v S') : AC P ng f args S Q' :=
  fun E args' w h1 h2 h3 => (h E args' w h1 h2 h3).mono fun e w' ⟨v, v', S', E', a, b, c⟩ => ⟨v, v', S', E', a, hq _ _ b, c⟩

theorem AW.mono {n : Nat} {c : Code} {s : St} {Q Q' : Exit → St → Prop} (h : AW P ng n c s Q) (hq : ∀ e s', Q e s' → Q' e s') : AW P ng n c s Q' :=
  fun E a w h1 h2 h3 h4 => wp_mono (h E a w h1 h2 h3 h4) fun e a' w' ⟨s', E', x, y⟩ => ⟨s', E', hq _ _ x, y⟩

theorem AOps.mono {n : Nat} {ops : Array Oper} {l : List Oper} {s : St} {K K' : St → Prop} (h : AOps P ng n ops l s K) (hk : ∀ s', K s' → K' s') : AOps P ng n ops l s K' :=
  fun E a w Q h1 h2 h3 h4 hq => h E a w Q h1 h2 h3 h4 fun s' E' a' w' k => hq s' E' a' w' (hk _ k)

/-! ### Code -/
theorem AW.skip {n : Nat} {s : St} {Q : Exit → St → Prop} (h : Q .normal s) : AW P ng n .skip s Q :=
  fun E a w h1 h2 h3 h4 => wp_skip ⟨s, E, h, h1, h2, h4, Grow.refl _ _ _ _⟩
theorem AW.label {n l : Nat} {s : St} {Q : Exit → St → Prop} (h : Q .normal s) : AW P ng n (.label l) s Q :=
  fun E a w h1 h2 h3 h4 => wp_label ⟨s, E, h, h1, h2, h4, Grow.refl _ _ _ _⟩
theorem AW.exit {n id : Nat} {s : St} {Q : Exit → St → Prop} (h : Q (.exit id) s) : AW P ng n (.exit id) s Q :=
  fun E a w h1 h2 h3 h4 => wp_exit ⟨s, E, h, h1, h2, h4, Grow.refl _ _ _ _⟩
theorem AW.ret {n : Nat} {s : St} {Q : Exit → St → Prop} (h : Q .ret s) : AW P ng n .ret s Q :=
  fun E a w h1 h2 h3 h4 => wp_ret ⟨s, E, h, h1, h2, h4, Grow.refl _ _ _ _⟩

/-- What is asked behind the first of two pieces. -/
def thenA (K : St → Prop) (Q : Exit → St → Prop) : Exit → St → Prop
  | .normal, s => K s
  | e, s => Q e s

theorem AW.seq {n : Nat} {x y : Code} {s : St} {Q : Exit → St → Prop} (h : AW P ng n x s (thenA (fun s1 => AW P ng n y s1 Q) Q)) : AW P ng n (.seq x y) s Q := by
  intro E a w h1 h2 h3 h4
  refine wp_seq (wp_mono (h E a w h1 h2 h3 h4) fun e a1 w1 ⟨s1, E1, hq, g1, g2, g3, g4⟩ => ?_)
  cases e with
  | normal => exact wp_mono (hq E1 a1 w1 g1 g2 h3 g3) fun e a2 w2 ⟨s2, E2, q, r1, r2, r3, r4⟩ => ⟨s2, E2, q, r1, r2, r3, g4.trans (Nat.le_refl _) r4⟩
  | exit id => exact ⟨s1, E1, hq, g1, g2, g3, g4⟩
  | goto l => exact ⟨s1, E1, hq, g1, g2, g3, g4⟩
  | ret => exact ⟨s1, E1, hq, g1, g2, g3, g4⟩
  | panic c => exact ⟨s1, E1, hq, g1, g2, g3, g4⟩
  | outgrown => exact ⟨s1, E1, hq, g1, g2, g3, g4⟩

theorem AW.cond {n : Nat} {c : Operand} {x y : Code} {s : St} {Q : Exit → St → Prop} {t : Bool} (hc : s.ev ng c = .bool t) (h : AW P ng n (if t then x else y) s Q) : AW P ng n (.cond c x y) s Q := by
  intro E a w h1 h2 h3 h4
  have hv := h1.ev h2 c
  rw [hc] at hv
  have hv' := hv.eq rfl
  exact wp_cond hv' (h E a w h1 h2 h3 h4)

def inBlockA (id : Nat) (Q : Exit → St → Prop) : Exit → St → Prop
  | .exit id', s => if id' = id then Q .normal s else Q (.exit id') s
  | e, s => Q e s

theorem AW.block {n id : Nat} {c : Code} {s : St} {Q : Exit → St → Prop} (h : AW P ng n c s (inBlockA id Q)) : AW P ng n (.block id c) s Q := by
  intro E a w h1 h2 h3 h4
  refine wp_block (wp_mono (h E a w h1 h2 h3 h4) fun e a1 w1 ⟨s1, E1, hq, g⟩ => ?_)
  cases e with
  | exit id' =>
    simp only [inBlockA] at hq
    simp only [Exit.inBlock]
    split
    · rename_i hid; rw [if_pos hid] at hq; exact ⟨s1, E1, hq, g⟩
    · rename_i hid; rw [if_neg hid] at hq; exact ⟨s1, E1, hq, g⟩
  | normal => exact ⟨s1, E1, hq, g⟩
  | goto l => exact ⟨s1, E1, hq, g⟩
  | ret => exact ⟨s1, E1, hq, g⟩
  | panic c => exact ⟨s1, E1, hq, g⟩
  | outgrown => exact ⟨s1, E1, hq, g⟩

/-- The model's loop, with a bound on the rounds that is no function of the state. -/
theorem wp_loop_nat {Q : Exit → Act → World → Prop} {c : Code} (I : Nat → Act → World → Prop) (round : ∀ k a w, I k a w → c.wp P (Exit.then (fun a' w' => ∃ j, j < k ∧ I j a' w') Q) a w) :
    ∀ k a w, I k a w → (Code.loop c).wp P Q a w := by
  intro k a w hI b kk cs
  have key : ∀ k a w, I k a w → ∃ e a' w', Q e a' w' ∧ Arrives P (lone (b.at a (.code c :: .inLoop c :: kk)) cs w) b kk cs e a' w' := by
    intro k
    induction k using Nat.strongRecOn with
    | _ k ih =>
      intro a w hI
      obtain ⟨e, a₁, w₁, hq, harr⟩ := round k a w hI b (.inLoop c :: kk) cs
      cases e with
      | normal =>
        obtain ⟨j, hlt, hI₁⟩ := hq
        obtain ⟨e₂, a₂, w₂, hq₂, harr₂⟩ := ih j hlt a₁ w₁ hI₁
        exact ⟨e₂, a₂, w₂, hq₂, .of_steps (Steps.trans harr (.one step_inLoop)) harr₂⟩
      | exit id => exact ⟨_, a₁, w₁, hq, .pass (x := .inLoop c) rfl (fun _ _ => .inl (by simp)) harr⟩
      | goto l => exact ⟨_, a₁, w₁, hq, .pass (x := .inLoop c) rfl (fun _ _ => .inl (by simp)) harr⟩
      | ret => exact ⟨_, a₁, w₁, hq, .pass (x := .inLoop c) rfl (fun _ _ => .inl (by simp)) harr⟩
      | panic ch => exact ⟨_, a₁, w₁, hq, .pass (x := .inLoop c) rfl (fun _ _ => .inl (by simp)) harr⟩
      | outgrown => exact ⟨_, a₁, w₁, hq, .pass (x := .inLoop c) rfl (fun _ _ => .inl (by simp)) harr⟩
  obtain ⟨e, a', w', hq, harr⟩ := key k a w hI
  exact ⟨e, a', w', hq, .of_steps (.one step_loop) harr⟩

/-- A loop: an invariant, indexed by how many rounds are left at most. -/
theorem AW.loop {n : Nat} {c : Code} {s : St} {Q : Exit → St → Prop} (I : Nat → St → Prop) (k : Nat) (h0 : I k s)
    (round : ∀ k s, I k s → AW P ng n c s (thenA (fun s1 => ∃ j, j < k ∧ I j s1) Q)) : AW P ng n (.loop c) s Q := by
  intro E a w h1 h2 h3 h4
  refine wp_loop_nat (fun k a' w' => ∃ s' E', I k s' ∧ RelT E' s'.tm a' ∧ Rel ng E' s'.hp w' ∧ n ≤ s'.hp.length ∧ Grow n E s.hp w E' s'.hp w') ?_ k a w ⟨s, E, h0, h1, h2, h4, Grow.refl _ _ _ _⟩
  intro k a1 w1 ⟨s1, E1, hI, g1, g2, g3, g4⟩
  refine wp_mono (round k s1 hI E1 a1 w1 g1 g2 h3 g3) fun e a2 w2 ⟨s2, E2, hq, r1, r2, r3, r4⟩ => ?_
  have hg := g4.trans (Nat.le_refl _) r4
  cases e with
  | normal => obtain ⟨j, hj, hI2⟩ := hq; exact ⟨j, hj, s2, E2, hI2, r1, r2, r3, hg⟩
  | exit id => exact ⟨s2, E2, hq, r1, r2, r3, hg⟩
  | goto l => exact ⟨s2, E2, hq, r1, r2, r3, hg⟩
  | ret => exact ⟨s2, E2, hq, r1, r2, r3, hg⟩
  | panic c => exact ⟨s2, E2, hq, r1, r2, r3, hg⟩
  | outgrown => exact ⟨s2, E2, hq, r1, r2, r3, hg⟩

/-! ### Operations, one behind the other -/
/-- The mark of an operation that was not done. -/
def isSkip : Value → Bool
  | .tuple vs => vs.size == 1
  | _ => false

def wantV (v : Value) (want : Bool) : Option Bool :=
  match v with
  | .bool b => some (b == want)
  | v => if isSkip v then some false else none

/-- Is a guarded operation to be done? -/
def awant (ds : List (Option Nat)) (tm : List Value) (g : Option (Nat × Bool)) : Option Bool :=
  match g with
  | none => some true
  | some (j, want) =>
    match ds.getD j none with
    | none => some false
    | some d => wantV (tm.getD d (.tuple #[])) want

theorem ds_at (ops : Array Oper) (j : Nat) : (ops.toList.map (·.dst)).getD j none = (ops[j]?).bind (·.dst) := by
  simp only [List.getD, List.getElem?_map, Array.getElem?_toList]
  cases ops[j]? <;> rfl

theorem awant_real {E : Emb} {ops : Array Oper} {tm : List Value} {a : Act} {o : Oper} {b : Bool} (h : awant (ops.toList.map (·.dst)) tm o.guard = some b) (hT : RelT E tm a) : Region.wanted o (yielded ops a.tmps) = b := by
  unfold awant at h
  unfold Region.wanted yielded
  split at h
  · rename_i hg
    rw [hg]
    simpa using h
  · rename_i j want hg
    rw [hg]
    simp only
    split at h
    · rename_i hd
      rw [ds_at] at hd
      rw [hd]
      simp at h ⊢
      try exact h
    · rename_i d hd
      rw [ds_at] at hd
      rw [hd]
      simp only [Option.bind_some]
      have hs := hT.slot d
      by_cases hlt : d < tm.length
      · have hlt' : d < a.tmps.size := by rw [hT.size]; exact hlt
        have e1 : a.tmps.getD d undef = a.tmps[d] := by simp [Array.getD, hlt']
        rw [e1] at hs
        rw [Array.getElem?_eq_getElem hlt']
        unfold wantV at h
        split at h
        · rename_i t ht
          rw [ht] at hs
          have := hs.eq rfl
          rw [this]
          simp at h ⊢
          rw [← h]
        · split at h
          · rename_i hsk
            have hu : ∃ y, a.tmps[d] = .tuple y := by
              generalize a.tmps[d] = q at hs
              generalize tm.getD d (.tuple #[]) = u at hs hsk
              cases hs <;> first | (simp [isSkip] at hsk; done) | exact ⟨_, rfl⟩
            obtain ⟨y, hu⟩ := hu
            rw [hu]
            simpa using h
          · cases h
      · have : tm.getD d (.tuple #[]) = .tuple #[] := by simp [List.getD, List.getElem?_eq_none (Nat.le_of_not_lt hlt)]
        rw [this] at h
        simp [wantV, isSkip] at h

theorem AOps.nil {n : Nat} {ops : Array Oper} {s : St} {K : St → Prop} (h : K s) : AOps P ng n ops [] s K :=
  fun E a w Q h1 h2 h3 h4 hq => hq s E a w h h1 h2 h4 (Grow.refl _ _ _ _)

theorem AOps.op {n : Nat} {ops : Array Oper} {o : Oper} {l : List Oper} {s : St} {K : St → Prop} {v : Value} {S' : Heap} (hw : awant (ops.toList.map (·.dst)) s.tm o.guard = some true) (ho : aop P ng s o = some (v, S'))
    (hlen : s.hp.length ≤ S'.length) (h : AOps P ng n ops l ⟨putT s.tm o.dst v, S'⟩ K) : AOps P ng n ops (o :: l) s K := by
  intro E a w Q h1 h2 h3 h4 hq
  simp only [wpList, awant_real hw h1, if_true]
  refine .inl ?_
  obtain ⟨nx, v', E', w', hrun, hnx, hr, hv, hg⟩ := aop_sound ho h1 h2
  have hm : ∀ id l0, E id = some l0 → E' id = some l0 := fun id l0 he => by rw [hg.keep id (h2.lt he)]; exact he
  have hT := (h1.mono hm).put o.dst hv
  have key := h E' (a.put o.dst v') w' Q hT hr h3 (by show n ≤ S'.length; omega) fun s' E2 a2 w2 k t r len g => hq s' E2 a2 w2 k t r len (Grow.trans (m := n) (Nat.le_refl _) ⟨fun id hid => hg.keep id (by omega), hg.os, hg.tape, hg.output, hg.size, hg.frame, hg.owned⟩ g)
  unfold Oper.wp
  rw [hrun]
  rcases hnx with rfl | ⟨rfl, rfl⟩
  · exact key
  · exact key

theorem AOps.off {n : Nat} {ops : Array Oper} {o : Oper} {l : List Oper} {s : St} {K : St → Prop} (hw : awant (ops.toList.map (·.dst)) s.tm o.guard = some false)
    (h : AOps P ng n ops l ⟨putT s.tm o.dst skipV, s.hp⟩ K) : AOps P ng n ops (o :: l) s K := by
  intro E a w Q h1 h2 h3 h4 hq
  simp only [wpList, awant_real hw h1]
  exact h E _ w Q (h1.put o.dst .skipped) h2 h3 h4 hq

theorem VRs.append {E : Emb} {xs ys : List Value} {xs' ys' : Array Value} (h : VRs E xs xs') (h' : VRs E ys ys') : VRs E (xs ++ ys) (xs' ++ ys') := by
  refine ⟨by simp [h.1, h'.1], fun i h1 h2 => ?_⟩
  by_cases hi : i < xs.length
  · rw [List.getElem_append_left hi, Array.getElem_append_left (by rw [← h.1]; exact hi)]
    exact h.2 _ _ _
  · rw [List.getElem_append_right (by omega), Array.getElem_append_right (by rw [← h.1]; omega)]
    have := h'.2 (i - xs.length) (by simp at h1; omega) (by rw [← h'.1]; simp at h1; omega)
    simpa [h.1] using this

/-- The function that a call's operand names, and what it has captured. -/
def callee? (v : Value) : Option (FuncId × List Value) :=
  match v with
  | .func (.func f) first cs => if first.isEmpty then some (f, cs.toList) else none
  | _ => none

theorem AOps.call {n : Nat} {ops : Array Oper} {o : Oper} {l : List Oper} {s : St} {K : St → Prop} {fo : Operand} {args : Array Operand} {ts : Array TypeId} {f : FuncId} {caps : List Value} {fn : Func}
    (hop : o.op = .call { callee := .value fo, args := args, argTypes := ts }) (hw : awant (ops.toList.map (·.dst)) s.tm o.guard = some true) (hc : callee? (s.ev ng fo) = some (f, caps))
    (hf : P.funcs[f]? = some fn) (hname : (fn.name == "runtime.NumGoroutine") = false) (hb : fn.body.isSome = true)
    (h : AC P ng f (args.toList.map (s.ev ng) ++ caps) s.hp fun v S' => AOps P ng n ops l ⟨putT s.tm o.dst v, S'⟩ K) : AOps P ng n ops (o :: l) s K := by
  intro E a w Q h1 h2 h3 h4 hq
  simp only [wpList, awant_real hw h1, if_true]
  refine .inl ?_
  have hv : ∀ x, VR E (s.ev ng x) (a.eval x) := fun x => h1.ev h2 x
  have hfo := hv fo
  obtain ⟨caps', hfo', hcaps⟩ : ∃ caps', a.eval fo = .func (.func f) #[] caps' ∧ VRs E caps caps' := by
    unfold callee? at hc
    split at hc
    · rename_i g first cs hg
      split at hc
      · rename_i hfe
        obtain ⟨rfl, rfl⟩ := Prod.mk.inj (Option.some.inj hc)
        have : first = #[] := Array.isEmpty_iff.1 hfe
        subst this
        rw [hg] at hfo
        generalize a.eval fo = q at hfo
        cases hfo with
        | func fn hs hh => exact ⟨_, rfl, by simpa using hs, fun i a b => by simpa using hh i (by simpa using a) b⟩
      · cases hc
    · cases hc
  have hargs : VRs E (args.toList.map (s.ev ng)) (args.map a.eval) := ⟨by simp, fun i x y => by
    simp only [List.getElem_map, Array.getElem_map, Array.getElem_toList]
    exact hv _⟩
  have hcall := h E (args.map a.eval ++ caps') w (hargs.append hcaps) h2 (by omega)
  have hbn : ¬ fn.body = none := by intro e; simp [e] at hb
  have hnn : ¬ fn.name = "runtime.NumGoroutine" := by simpa using hname
  have hrun : (execOp a.eval o).run P w = .ok (.enter f (args.map a.eval ++ caps')) w := by
    simp [execOp, hop, resolve, Deferred.ofValue, hfo', invoke, callFunc, hf, hnn, hbn]
  unfold Oper.wp
  rw [hrun]
  refine hcall.mono ?_
  rintro e w' ⟨v, v', S', E', rfl, hk, hvv, hr, hlen, hg⟩
  have hm : ∀ id l0, E id = some l0 → E' id = some l0 := fun id l0 he => by rw [hg.keep id (h2.lt he)]; exact he
  have hT := (h1.mono hm).put o.dst hvv
  exact hk E' (a.put o.dst v') w' Q hT hr h3 (by show n ≤ S'.length; omega) fun s' E2 a2 w2 k t r len g => hq s' E2 a2 w2 k t r len (Grow.trans (m := n) (Nat.le_refl _) ⟨fun id hid => hg.keep id (by omega), hg.os, hg.tape, hg.output, hg.size, hg.frame, hg.owned⟩ g)

theorem AW.region {n id : Nat} {ops : Array Oper} {s : St} {Q : Exit → St → Prop} (h : AOps P ng n ops ops.toList s (Q .normal)) : AW P ng n (.region id ops false) s Q :=
  fun E a w h1 h2 h3 h4 => wp_region_list (h E a w _ h1 h2 h3 h4 fun s' E' a' w' k t r len g => ⟨s', E', k, t, r, len, g⟩)

/-! ### A call's end -/
def resOne (P : Program) (s : St) : ResultVar → Option Value
  | .tmp t => some (s.tm.getD t (.tuple #[]))
  | .cell a t => load? P s.hp t (s.tm.getD a (.tuple #[]))

def resAll (P : Program) (s : St) : List ResultVar → Option (List Value)
  | [] => some []
  | r :: rs => match resOne P s r, resAll P s rs with
    | some v, some vs => some (v :: vs)
    | _, _ => none

def res? (P : Program) (s : St) (rs : List ResultVar) : Option Value :=
  match resAll P s rs with
  | some [v] => some v
  | some vs => some (.tuple vs.toArray)
  | none => none

/-- One result, as the model reads it. -/
def resSem (tmps : Array Value) : ResultVar → Sem Value
  | .tmp t => pure (tmps.getD t undef)
  | .cell a t => do loadVar t (← asAddr (tmps.getD a undef))

theorem results_eq (fn : Func) (tmps : Array Value) : results fn tmps = (do let vs ← fn.results.mapM (resSem tmps); pure (if h : vs.size = 1 then vs[0] else .tuple vs)) := by
  unfold results
  congr 1

theorem resOne_run {E : Emb} {s : St} {a : Act} {w : World} (hT : RelT E s.tm a) (hr : Rel ng E s.hp w) {r : ResultVar} {v : Value} (h : resOne P s r = some v) :
    ∃ v', (resSem a.tmps r).run P w = .ok v' w ∧ VR E v v' := by
  cases r with
  | tmp t =>
    simp only [resOne, Option.some.injEq] at h
    subst h
    exact ⟨_, rfl, hT.slot t⟩
  | cell x t =>
    simp only [resOne] at h
    have hx := hT.slot x
    obtain ⟨v', h1, h2⟩ := load_run h hr hx
    refine ⟨v', ?_, h2⟩
    unfold load? at h
    split at h
    · rename_i id off hp
      rw [hp] at hx
      generalize hq : a.tmps.getD x undef = q at hx h1
      cases hx with
      | ptr _ he =>
        simp only [Instr.loadAt, Instr.sureAddr, Sem.run_bind, Sem.run_pure, Result.andThen_ok] at h1
        simp only [resSem, hq, asAddr, Sem.run_bind, Sem.run_pure, Result.andThen_ok]
        exact h1
    · cases h

theorem resAll_run {E : Emb} {s : St} {a : Act} {w : World} (hT : RelT E s.tm a) (hr : Rel ng E s.hp w) : ∀ (rs : List ResultVar) (vs : List Value), resAll P s rs = some vs →
    ∃ vs' : List Value, (rs.mapM (resSem a.tmps)).run P w = .ok vs' w ∧ vs.length = vs'.length ∧
      ∀ i (h : i < vs.length) (h' : i < vs'.length), VR E vs[i] vs'[i]
  | [], vs, h => by
    simp only [resAll, Option.some.injEq] at h
    subst h
    exact ⟨[], by simp, rfl, fun i h _ => by simp at h⟩
  | r :: rs, vs, h => by
    simp only [resAll] at h
    split at h
    · rename_i v vs0 hv hvs
      obtain rfl := Option.some.inj h
      obtain ⟨v', h1, h2⟩ := resOne_run hT hr hv
      obtain ⟨vs', h3, h4, h5⟩ := resAll_run hT hr rs vs0 hvs
      refine ⟨v' :: vs', ?_, by simp [h4], fun i a b => ?_⟩
      · simp only [List.mapM_cons, Sem.run_bind, h1, Result.andThen_ok, h3, Sem.run_pure]
      · cases i with
        | zero => exact h2
        | succ i => exact h5 i (by simpa using a) (by simpa using b)
    · cases h

theorem res_run {E : Emb} {s : St} {a : Act} {w : World} (hT : RelT E s.tm a) (hr : Rel ng E s.hp w) {fn : Func} {v : Value} (h : res? P s fn.results.toList = some v) :
    ∃ v', (results fn a.tmps).run P w = .ok v' w ∧ VR E v v' := by
  unfold res? at h
  have main : ∀ vs, resAll P s fn.results.toList = some vs → ∃ vs' : List Value, (results fn a.tmps).run P w = .ok (if h : vs'.toArray.size = 1 then vs'.toArray[0] else .tuple vs'.toArray) w ∧ vs.length = vs'.length ∧
      ∀ i (h : i < vs.length) (h' : i < vs'.length), VR E vs[i] vs'[i] := by
    intro vs hvs
    obtain ⟨vs', h1, h2, h3⟩ := resAll_run hT hr _ vs hvs
    refine ⟨vs', ?_, h2, h3⟩
    rw [results_eq, Array.mapM_eq_mapM_toList]
    simp [h1]
  split at h
  · rename_i u hu
    obtain rfl := Option.some.inj h
    obtain ⟨vs', h1, h2, h3⟩ := main _ hu
    obtain ⟨v', rfl⟩ : ∃ v', vs' = [v'] := by
      match vs', h2 with
      | [v'], _ => exact ⟨v', rfl⟩
    exact ⟨v', by simpa using h1, h3 0 (by simp) (by simp)⟩
  · rename_i vs hne hu
    obtain rfl := Option.some.inj h
    obtain ⟨vs', h1, h2, h3⟩ := main _ hu
    refine ⟨.tuple vs'.toArray, ?_, .tuple (by simpa using h2) fun i a b => by simpa using h3 i (by simpa using a) (by simpa using b)⟩
    rw [dif_neg] at h1
    · exact h1
    · simp only [List.size_toArray, ← h2]
      intro h1
      match vs, h1 with
      | [v], _ => exact hne v rfl
  · cases h

/-- What is asked where a function's body ends. -/
def Ends (P : Program) (rs : List ResultVar) (Q : Value → Heap → Prop) : Exit → St → Prop
  | .normal, s | .ret, s => ∃ v, res? P s rs = some v ∧ Q v s.hp
  | _, _ => False

/-- A call is its body, run. -/
theorem AC.enter {f : FuncId} {fn : Func} {c : Code} {args : List Value} {S : Heap} {Q : Value → Heap → Prop} (hf : P.funcs[f]? = some fn) (hb : fn.body = some c)
    (h : AW P ng S.length c ⟨args ++ List.replicate (fn.ntmps - args.length) (.tuple #[]), S⟩ (Ends P fn.results.toList Q)) : AC P ng f args S Q := by
  intro E args' w h1 h2 h3
  refine calls_of_wp hf hb ?_
  have hT : RelT E (args ++ List.replicate (fn.ntmps - args.length) (.tuple #[])) { tmps := args' ++ Array.replicate (fn.ntmps - args'.size) undef, defers := [] } := by
    refine ⟨by simp [h1.1], fun t => ?_, rfl⟩
    by_cases ht : t < args.length
    · have ht' : t < args'.size := by rw [← h1.1]; exact ht
      have e1 : (args ++ List.replicate (fn.ntmps - args.length) (Value.tuple #[])).getD t (.tuple #[]) = args[t] := by
        simp [List.getD, List.getElem?_append_left ht, List.getElem?_eq_getElem ht]
      have e2 : (args' ++ Array.replicate (fn.ntmps - args'.size) undef).getD t undef = args'[t] := by
        rw [Array.getD_eq_getD_getElem?, Array.getElem?_append_left ht', Array.getElem?_eq_getElem ht']
        rfl
      rw [e1]
      simp only [e2]
      exact h1.2 t ht ht'
    · have e1 : (args ++ List.replicate (fn.ntmps - args.length) (Value.tuple #[])).getD t (.tuple #[]) = .tuple #[] := by
        simp only [List.getD, List.getElem?_append_right (by omega : args.length ≤ t), List.getElem?_replicate]
        split <;> rfl
      rw [e1]
      exact .any _
  refine wp_mono (h E _ w hT h2 h3 (Nat.le_refl _)) ?_
  rintro e a' w' ⟨s', E', hq, g1, g2, g3, g4⟩
  cases e with
  | normal =>
    obtain ⟨v, hv, hQ⟩ := hq
    obtain ⟨v', r1, r2⟩ := res_run g1 g2 hv
    exact ⟨g1.defers, v', r1, v, v', s'.hp, E', rfl, hQ, r2, g2, g3, g4⟩
  | ret =>
    obtain ⟨v, hv, hQ⟩ := hq
    obtain ⟨v', r1, r2⟩ := res_run g1 g2 hv
    exact ⟨g1.defers, v', r1, v, v', s'.hp, E', rfl, hQ, r2, g2, g3, g4⟩
  | exit id => exact hq.elim
  | goto l => exact hq.elim
  | panic c => exact hq.elim
  | outgrown => exact hq.elim

end Go.Am
