/- A region that draws its order, done in the text's order: where no two operations that are left unordered can disturb each other. No condition. -/
import Derived.Test.YtbigpkfdeaigeaaDoorAm11
import Derived.Orders
namespace Go.Am
open Go
set_option linter.unusedSimpArgs false
set_option linter.unusedVariables false

variable {P : Program} {ng : Nat}

/-- What an operation is: 0, it looks at its slots alone; 1, it reads memory; 2, anything else. -/
def kindOf (P : Program) (o : Oper) : Nat :=
  match o.op with
  | .move _ | .assign _ | .pick .. | .build .. | .nilCheck _ | .binOp .. | .unOp .. | .field .. | .fieldAddr .. | .indexAddr .. | .index .. | .slice .. | .extract .. | .makeFunc .. | .makeInterface .. => 0
  | .load .. | .lookup .. => 1
  | .convert s d _ => match P.underlying s, P.underlying d with
    | some .string, some (.slice _) => 2
    | some (.slice _), some .string => 1
    | _, _ => 0
  | .call ⟨.builtin .len, _, ts⟩ => match ts.toList with
    | [t] => match P.underlying t with
      | some (.map _ _) => 1
      | _ => 0
    | _ => 2
  | .call ⟨.builtin .min, _, _⟩ => 0
  | .call ⟨.builtin .max, _, _⟩ => 0
  | _ => 2

/-- One operation, by its kind. -/
def stepC (P : Program) (ops : Array Oper) (o : Oper) (R : Act → World → Prop) (K : Act → World → Prop) (a : Act) (w : World) : Prop :=
  if Region.wanted o (yielded ops a.tmps) = true then
    match kindOf P o with
    | 0 => ∃ v, (∀ w', (execOp a.eval o).run P w' = .ok (.value v) w') ∧ K (a.put o.dst v) w
    | 1 => ∃ v, (execOp a.eval o).run P w = .ok (.value v) w ∧ K (a.put o.dst v) w
    | _ => o.wp P a w K (fun e a w => e = .normal ∧ R a w)
  else K (a.put o.dst undef) w

def stepL (P : Program) (ops : Array Oper) (R : Act → World → Prop) : List Oper → Act → World → Prop
  | [], a, w => R a w
  | o :: l, a, w => stepC P ops o R (stepL P ops R l) a w

variable {ops : Array Oper} {R : Act → World → Prop}

theorem stepC_mono {o : Oper} {K K' : Act → World → Prop} (h : ∀ a w, K a w → K' a w) {a : Act} {w : World} (hh : stepC P ops o R K a w) : stepC P ops o R K' a w := by
  unfold stepC at *
  split
  · rename_i hw
    rw [if_pos hw] at hh
    split
    · rename_i hk; rw [hk] at hh; obtain ⟨v, h1, h2⟩ := hh; exact ⟨v, h1, h _ _ h2⟩
    · rename_i hk; rw [hk] at hh; obtain ⟨v, h1, h2⟩ := hh; exact ⟨v, h1, h _ _ h2⟩
    · rename_i h0 h1
      split at hh
      · rename_i hk; exact absurd hk h0
      · rename_i hk; exact absurd hk h1
      · exact Oper.wp_mono h hh
  · rename_i hw
    rw [if_neg hw] at hh
    exact h _ _ hh

/-- No operation of these kinds waits for a choice among channels. -/
def noSel (o : Oper) : Bool := match o.op with | .select .. => false | _ => true

theorem noSel_spec {o : Oper} (h : noSel o = true) (cs : Array SelectCase) (b : Bool) : o.op ≠ .select cs b := by
  intro e
  simp [noSel, e] at h

def commute (P : Program) (x y : Oper) : Bool := kindOf P x == 0 || kindOf P y == 0 || (kindOf P x == 1 && kindOf P y == 1)

theorem wp_some {o : Oper} {a : Act} {w : World} {p : Prop} {K : Act → World → Prop} (h : o.wp P a w K (fun e a w => e = .normal ∧ R a w)) (hk : ∀ a' w', K a' w' → p) : p := by
  unfold Oper.wp at h
  generalize (execOp a.eval o).run P w = r at h
  cases r with
  | ok n w' =>
    cases n <;> simp only [Oper.upon] at h
    case value v => exact hk _ _ h
    case skip => exact hk _ _ h
    case defer d => exact hk _ _ h
    case enter f args =>
      obtain ⟨e, w2, fr, hr, _⟩ := h []
      cases e with
      | returned v => exact hk _ _ hr
      | panicked c => exact absurd hr.1 (by simp)
      | outgrown => obtain ⟨_, _, h1, _⟩ := hr; exact absurd h1 (by simp)
    case row row args =>
      obtain ⟨v, w2, hr, _⟩ := h (Frame.enter P 0 #[] .normal) []
      exact hk _ _ hr
  | halt x w' =>
    cases x <;> simp only [Oper.upon] at h
    case panic v => exact absurd h.1 (by simp)

theorem stepC_event {o : Oper} (h0 : kindOf P o ≠ 0) (h1 : kindOf P o ≠ 1) {K : Act → World → Prop} {a : Act} {w : World} :
    stepC P ops o R K a w = if Region.wanted o (yielded ops a.tmps) = true then o.wp P a w K (fun e a w => e = .normal ∧ R a w) else K (a.put o.dst undef) w := by
  unfold stepC
  split
  · split
    · rename_i h; exact absurd h h0
    · rename_i h; exact absurd h h1
    · rfl
  · rfl

/-- An operation goes on in the same way where another's slot is written. -/
theorem wp_put {x y : Oper} {v : Value} (hap : x.apart ops y = true) (hy : noSel y = true) {K K' : Act → World → Prop} {a : Act} {w : World}
    (hK : ∀ a' w', (execOp a'.eval x = execOp a.eval x) → Region.wanted x (yielded ops a'.tmps) = Region.wanted x (yielded ops a.tmps) → K (a'.put x.dst v) w' → K' a' w') (hx : noSel x = true)
    (h : y.wp P (a.put x.dst v) w K (fun e a w => e = .normal ∧ R a w)) : y.wp P a w K' (fun e a w => e = .normal ∧ R a w) := by
  obtain ⟨h1, h2, h3⟩ := Oper.apart_spec hap
  unfold Oper.wp at *
  rw [execOp_put y (noSel_spec hy) a x.dst v h1] at h
  have keep : ∀ u, execOp (a.put y.dst u).eval x = execOp a.eval x := fun u => execOp_put x (noSel_spec hx) a y.dst u h3
  have keepW : ∀ u, Region.wanted x (yielded ops (a.put y.dst u).tmps) = Region.wanted x (yielded ops a.tmps) := fun u => wanted_put x a y.dst u h3
  generalize (execOp a.eval y).run P w = r at *
  cases r with
  | ok n w' =>
    cases n <;> simp only [Oper.upon] at h ⊢
    case value u => exact hK _ _ (keep u) (keepW u) (by rw [← Act.put_comm a v u h2]; exact h)
    case skip => exact hK _ _ (keep _) (keepW _) (by rw [← Act.put_comm a v undef h2]; exact h)
    case defer d =>
      refine hK _ _ ?_ ?_ ?_
      · exact execOp_put x (noSel_spec hx) { a with defers := d :: a.defers } y.dst undef h3
      · exact wanted_put x { a with defers := d :: a.defers } y.dst undef h3
      · rw [← Act.put_comm _ v undef h2, ← Act.put_defers]
        exact h
    case enter f args =>
      refine Calls.mono h fun e w'' he => ?_
      cases e with
      | returned u => exact hK _ _ (keep u) (keepW u) (by rw [← Act.put_comm a v u h2]; exact he)
      | panicked c => exact absurd he.1 (by simp)
      | outgrown => exact he
    case row row args => exact Rows.mono h fun u w'' he => hK _ _ (keep u) (keepW u) (by rw [← Act.put_comm a v u h2]; exact he)
  | halt x w' =>
    cases x <;> simp only [Oper.upon] at h ⊢
    case panic u => exact absurd h.1 (by simp)

/-- The way back: the other's slot is written ahead. -/
theorem wp_put_back {x y : Oper} {u : Value} (hap : x.apart ops y = true) (hx : noSel x = true) (hy : noSel y = true) {K1 K : Act → World → Prop} {a : Act} {w : World}
    (hK : ∀ a' w', (execOp a'.eval y = execOp a.eval y) → Region.wanted y (yielded ops a'.tmps) = Region.wanted y (yielded ops a.tmps) → K1 a' w' → K (a'.put y.dst u) w')
    (h : x.wp P a w K1 (fun e a w => e = .normal ∧ R a w)) : x.wp P (a.put y.dst u) w K (fun e a w => e = .normal ∧ R a w) := by
  obtain ⟨h1, h2, h3⟩ := Oper.apart_spec hap
  have h2' : ∀ d, y.dst = some d → x.dst ≠ some d := fun d hd hx => h2 d hx hd
  unfold Oper.wp at *
  rw [execOp_put x (noSel_spec hx) a y.dst u h3]
  have keep : ∀ v, execOp (a.put x.dst v).eval y = execOp a.eval y := fun v => execOp_put y (noSel_spec hy) a x.dst v h1
  have keepW : ∀ v, Region.wanted y (yielded ops (a.put x.dst v).tmps) = Region.wanted y (yielded ops a.tmps) := fun v => wanted_put y a x.dst v h1
  generalize (execOp a.eval x).run P w = r at *
  cases r with
  | ok n w' =>
    cases n <;> simp only [Oper.upon] at h ⊢
    case value v => rw [Act.put_comm a u v h2']; exact hK _ _ (keep v) (keepW v) h
    case skip => rw [Act.put_comm a u undef h2']; exact hK _ _ (keep _) (keepW _) h
    case defer d =>
      rw [Act.put_defers, Act.put_comm _ u undef h2']
      refine hK _ _ ?_ ?_ h
      · exact execOp_put y (noSel_spec hy) { a with defers := d :: a.defers } x.dst undef h1
      · exact wanted_put y { a with defers := d :: a.defers } x.dst undef h1
    case enter f args =>
      refine Calls.mono h fun e w'' he => ?_
      cases e with
      | returned v => show K ((a.put y.dst u).put x.dst v) w''; rw [Act.put_comm a u v h2']; exact hK _ _ (keep v) (keepW v) he
      | panicked c => exact absurd he.1 (by simp)
      | outgrown => exact he
    case row row args => exact Rows.mono h fun v w'' he => by rw [Act.put_comm a u v h2']; exact hK _ _ (keep v) (keepW v) he
  | halt x w' =>
    cases x <;> simp only [Oper.upon] at h ⊢
    case panic v => exact absurd h.1 (by simp)

theorem stepC_off {o : Oper} {K : Act → World → Prop} {a : Act} {w : World} (h : Region.wanted o (yielded ops a.tmps) = false) : stepC P ops o R K a w = K (a.put o.dst undef) w := by
  unfold stepC
  rw [if_neg (by simp [h])]
theorem stepC_pure {o : Oper} {K : Act → World → Prop} {a : Act} {w : World} (h : Region.wanted o (yielded ops a.tmps) = true) (hk : kindOf P o = 0) :
    stepC P ops o R K a w = ∃ v, (∀ w', (execOp a.eval o).run P w' = .ok (.value v) w') ∧ K (a.put o.dst v) w := by
  unfold stepC
  rw [if_pos h]
  split
  · rfl
  · rename_i h'; rw [hk] at h'; cases h'
  · rename_i h' _; exact absurd hk h'
theorem stepC_read {o : Oper} {K : Act → World → Prop} {a : Act} {w : World} (h : Region.wanted o (yielded ops a.tmps) = true) (hk : kindOf P o = 1) :
    stepC P ops o R K a w = ∃ v, (execOp a.eval o).run P w = .ok (.value v) w ∧ K (a.put o.dst v) w := by
  unfold stepC
  rw [if_pos h]
  split
  · rename_i h'; rw [hk] at h'; cases h'
  · rfl
  · rename_i _ h'; exact absurd hk h'

/-- Two operations that are apart and cannot disturb each other change places. -/
theorem stepC_swap {x y : Oper} (hap : x.apart ops y = true) (hc : commute P x y = true) (hx : noSel x = true) (hy : noSel y = true) {K : Act → World → Prop} {a : Act} {w : World}
    (h : stepC P ops x R (stepC P ops y R K) a w) : stepC P ops y R (stepC P ops x R K) a w := by
  obtain ⟨h1, h2, h3⟩ := Oper.apart_spec hap
  have wx : ∀ u, Region.wanted x (yielded ops (a.put y.dst u).tmps) = Region.wanted x (yielded ops a.tmps) := fun u => wanted_put x a y.dst u h3
  have wy : ∀ v, Region.wanted y (yielded ops (a.put x.dst v).tmps) = Region.wanted y (yielded ops a.tmps) := fun v => wanted_put y a x.dst v h1
  have ex : ∀ u, execOp (a.put y.dst u).eval x = execOp a.eval x := fun u => execOp_put x (noSel_spec hx) a y.dst u h3
  have ey : ∀ v, execOp (a.put x.dst v).eval y = execOp a.eval y := fun v => execOp_put y (noSel_spec hy) a x.dst v h1
  cases hwx : Region.wanted x (yielded ops a.tmps) with
  | false =>
    rw [stepC_off hwx] at h
    cases hwy : Region.wanted y (yielded ops a.tmps) with
    | false =>
      rw [stepC_off ((wy _).trans hwy)] at h
      rw [stepC_off hwy, stepC_off ((wx _).trans hwx), ← Act.put_comm a undef undef h2]
      exact h
    | true =>
      by_cases hk0 : kindOf P y = 0
      · rw [stepC_pure ((wy _).trans hwy) hk0] at h
        obtain ⟨u, hu, hK⟩ := h
        rw [stepC_pure hwy hk0]
        refine ⟨u, fun w' => by rw [← ey undef]; exact hu w', ?_⟩
        rw [stepC_off ((wx _).trans hwx), ← Act.put_comm a undef u h2]
        exact hK
      · by_cases hk1 : kindOf P y = 1
        · rw [stepC_read ((wy _).trans hwy) hk1] at h
          obtain ⟨u, hu, hK⟩ := h
          rw [stepC_read hwy hk1]
          refine ⟨u, by rw [← ey undef]; exact hu, ?_⟩
          rw [stepC_off ((wx _).trans hwx), ← Act.put_comm a undef u h2]
          exact hK
        · rw [stepC_event hk0 hk1, if_pos ((wy _).trans hwy)] at h
          rw [stepC_event hk0 hk1, if_pos hwy]
          refine wp_put hap hy (fun a' w' e1 e2 hk => ?_) hx h
          rw [stepC_off (e2.trans hwx)]
          exact hk
  | true =>
    by_cases hk0 : kindOf P x = 0
    · rw [stepC_pure hwx hk0] at h
      obtain ⟨v, hv, h⟩ := h
      have back : ∀ a' w', (execOp a'.eval x = execOp a.eval x) → Region.wanted x (yielded ops a'.tmps) = Region.wanted x (yielded ops a.tmps) → K (a'.put x.dst v) w' → stepC P ops x R K a' w' := fun a' w' e1 e2 hk => by
        rw [stepC_pure (e2.trans hwx) hk0]
        exact ⟨v, fun w2 => by rw [e1]; exact hv w2, hk⟩
      cases hwy : Region.wanted y (yielded ops a.tmps) with
      | false =>
        rw [stepC_off ((wy _).trans hwy)] at h
        rw [stepC_off hwy]
        exact back _ _ (ex _) (wx _) (by rw [← Act.put_comm a v undef h2]; exact h)
      | true =>
        by_cases hy0 : kindOf P y = 0
        · rw [stepC_pure ((wy _).trans hwy) hy0] at h
          obtain ⟨u, hu, hK⟩ := h
          rw [stepC_pure hwy hy0]
          exact ⟨u, fun w' => by rw [← ey v]; exact hu w', back _ _ (ex _) (wx _) (by rw [← Act.put_comm a v u h2]; exact hK)⟩
        · by_cases hy1 : kindOf P y = 1
          · rw [stepC_read ((wy _).trans hwy) hy1] at h
            obtain ⟨u, hu, hK⟩ := h
            rw [stepC_read hwy hy1]
            exact ⟨u, by rw [← ey v]; exact hu, back _ _ (ex _) (wx _) (by rw [← Act.put_comm a v u h2]; exact hK)⟩
          · rw [stepC_event hy0 hy1, if_pos ((wy _).trans hwy)] at h
            rw [stepC_event hy0 hy1, if_pos hwy]
            exact wp_put hap hy (fun a' w' e1 e2 hk => back a' w' e1 e2 hk) hx h
    · by_cases hk1 : kindOf P x = 1
      · rw [stepC_read hwx hk1] at h
        obtain ⟨v, hv, h⟩ := h
        have back : ∀ a', (execOp a'.eval x = execOp a.eval x) → Region.wanted x (yielded ops a'.tmps) = Region.wanted x (yielded ops a.tmps) → K (a'.put x.dst v) w → stepC P ops x R K a' w := fun a' e1 e2 hk => by
          rw [stepC_read (e2.trans hwx) hk1]
          exact ⟨v, by rw [e1]; exact hv, hk⟩
        cases hwy : Region.wanted y (yielded ops a.tmps) with
        | false =>
          rw [stepC_off ((wy _).trans hwy)] at h
          rw [stepC_off hwy]
          exact back _ (ex _) (wx _) (by rw [← Act.put_comm a v undef h2]; exact h)
        | true =>
          by_cases hy0 : kindOf P y = 0
          · rw [stepC_pure ((wy _).trans hwy) hy0] at h
            obtain ⟨u, hu, hK⟩ := h
            rw [stepC_pure hwy hy0]
            exact ⟨u, fun w' => by rw [← ey v]; exact hu w', back _ (ex _) (wx _) (by rw [← Act.put_comm a v u h2]; exact hK)⟩
          · have hy1 : kindOf P y = 1 := by simpa [commute, hk0, hk1, hy0] using hc
            rw [stepC_read ((wy _).trans hwy) hy1] at h
            obtain ⟨u, hu, hK⟩ := h
            rw [stepC_read hwy hy1]
            exact ⟨u, by rw [← ey v]; exact hu, back _ (ex _) (wx _) (by rw [← Act.put_comm a v u h2]; exact hK)⟩
      · have hy0 : kindOf P y = 0 := by simpa [commute, hk0, hk1] using hc
        rw [stepC_event hk0 hk1, if_pos hwx] at h
        cases hwy : Region.wanted y (yielded ops a.tmps) with
        | false =>
          rw [stepC_off hwy, stepC_event hk0 hk1, if_pos ((wx _).trans hwx)]
          refine wp_put_back hap hx hy (fun a' w' e1 e2 hk => ?_) h
          rw [stepC_off (e2.trans hwy)] at hk
          exact hk
        | true =>
          have hu : ∃ u, ∀ w', (execOp a.eval y).run P w' = .ok (.value u) w' := by
            have h' := wp_put_back (K := fun _ _ => ∃ u, ∀ w', (execOp a.eval y).run P w' = .ok (.value u) w') (u := undef) hap hx hy (fun a' w' e1 e2 hk => by
              rw [stepC_pure (e2.trans hwy) hy0] at hk
              obtain ⟨u, hu, _⟩ := hk
              exact ⟨u, fun w2 => by rw [← e1]; exact hu w2⟩) h
            exact wp_some h' fun _ _ p => p
          obtain ⟨u, hu⟩ := hu
          rw [stepC_pure hwy hy0]
          refine ⟨u, hu, ?_⟩
          rw [stepC_event hk0 hk1, if_pos ((wx _).trans hwx)]
          refine wp_put_back hap hx hy (fun a' w' e1 e2 hk => ?_) h
          rw [stepC_pure (e2.trans hwy) hy0] at hk
          obtain ⟨u', hu', hK⟩ := hk
          have hh := hu' w
          rw [e1, hu w] at hh
          have : u = u' := by injection hh with h1; injection h1
          rw [this]
          exact hK

/-! ### Which operations come before which -/
/-- The operations that stand before one, as bits; `acc`: those of the earlier ones. -/
def maskOf (acc : List Nat) (o : Oper) : Nat := o.after.toList.foldl (fun m e => if Region.binds .any e then m ||| 2 ^ e.on ||| acc.getD e.on 0 else m) 0
def masks : List Oper → List Nat → List Nat
  | [], acc => acc
  | o :: l, acc => masks l (acc ++ [maskOf acc o])

/-- A set of operations that holds with each what stands before it. -/
def Closed (ops : Array Oper) (L : Nat → Prop) : Prop := ∀ i o, ops[i]? = some o → L i → ∀ e ∈ o.after, Region.binds .any e = true → L e.on

theorem maskOf_sound {L : Nat → Prop} {acc : List Nat} (ha : ∀ i, L i → ∀ k, (acc.getD i 0).testBit k = true → L k) {o : Oper} (ho : ∀ e ∈ o.after, Region.binds .any e = true → L e.on) :
    ∀ k, (maskOf acc o).testBit k = true → L k := by
  unfold maskOf
  have key : ∀ (es : List Edge) (m : Nat), (∀ e ∈ es, Region.binds .any e = true → L e.on) → (∀ k, m.testBit k = true → L k) →
      ∀ k, (es.foldl (fun m e => if Region.binds .any e then m ||| 2 ^ e.on ||| acc.getD e.on 0 else m) m).testBit k = true → L k := by
    intro es
    induction es with
    | nil => intro m _ hm k h; exact hm k h
    | cons e es ih =>
      intro m he hm k h
      simp only [List.foldl_cons] at h
      refine ih _ (fun e' h' => he e' (List.mem_cons_of_mem _ h')) ?_ k h
      intro k' h'
      split at h'
      · rename_i hb
        have hL := he e (List.mem_cons_self ..) hb
        simp only [Nat.testBit_or, Bool.or_eq_true, Nat.testBit_two_pow, decide_eq_true_eq] at h'
        rcases h' with (h' | h') | h'
        · exact hm _ h'
        · rw [← h']; exact hL
        · exact ha _ hL _ h'
      · exact hm _ h'
  exact key _ 0 (fun e he => ho e (by simpa using he)) (fun k h => by simp at h)

theorem masks_sound {L : Nat → Prop} (hc : Closed ops L) : ∀ (l : List Oper) (acc : List Nat), (∀ i o, l[i]? = some o → ops[acc.length + i]? = some o) →
    (∀ i, L i → ∀ k, (acc.getD i 0).testBit k = true → L k) → ∀ i, L i → ∀ k, ((masks l acc).getD i 0).testBit k = true → L k := by
  intro l
  induction l with
  | nil => intro acc _ ha; exact ha
  | cons o l ih =>
    intro acc hl ha
    refine ih _ (fun i o' h => ?_) ?_
    · have := hl (i + 1) o' (by simpa using h)
      simpa [Nat.add_assoc, Nat.add_comm 1 i] using this
    · intro i hi k hk
      by_cases h1 : i < acc.length
      · rw [List.getD, List.getElem?_append_left h1] at hk
        exact ha i hi k hk
      · by_cases h2 : i = acc.length
        · subst h2
          have e : (acc ++ [maskOf acc o]).getD acc.length 0 = maskOf acc o := by simp
          rw [e] at hk
          exact maskOf_sound ha (fun e he hb => hc _ _ (hl 0 o (by simp)) (by simpa using hi) e he hb) k hk
        · have e : (acc ++ [maskOf acc o]).getD i 0 = 0 := by
            rw [List.getD, List.getElem?_eq_none (by simp; omega)]
            rfl
          rw [e] at hk
          simp at hk

/-! ### The text's order -/
def stepI (P : Program) (ops : Array Oper) (R : Act → World → Prop) : List Nat → Act → World → Prop
  | [], a, w => R a w
  | i :: l, a, w => match ops[i]? with
    | some o => stepC P ops o R (stepI P ops R l) a w
    | none => stepI P ops R l a w

/-- May k and j (k before j in the text) change places where k is not known to stand before j? -/
def okPair (P : Program) (ops : Array Oper) (k j : Nat) : Bool :=
  match ops[k]?, ops[j]? with
  | some x, some y => x.apart ops y && commute P x y
  | _, _ => false

def plain (P : Program) (l : List Oper) : Bool :=
  l.all noSel && ((List.range l.length).all fun j => ((l[j]?).map fun o => o.after.all fun e => !Region.binds .any e || decide (e.on < j)).getD false) && (List.range l.length).all fun j => (List.range j).all fun k => ((masks l []).getD j 0).testBit k || okPair P l.toArray k j

theorem stepI_move {j : Nat} (hs : ∀ (i : Nat) (o : Oper), ops[i]? = some o → noSel o = true) : ∀ (l1 l2 : List Nat) (a : Act) (w : World), (∀ k ∈ l1, okPair P ops k j = true) → stepI P ops R (l1 ++ j :: l2) a w → stepI P ops R (j :: (l1 ++ l2)) a w
  | [], l2, a, w, _, h => h
  | k :: l1, l2, a, w, hk, h => by
    have h0 := hk k (List.mem_cons_self ..)
    unfold okPair at h0
    split at h0
    · rename_i x y hx hy
      simp only [Bool.and_eq_true] at h0
      simp only [List.cons_append, stepI, hx] at h
      have h1 := stepC_mono (fun a w => stepI_move hs l1 l2 a w fun k' h' => hk k' (List.mem_cons_of_mem _ h')) h
      simp only [List.cons_append, stepI, hx, hy] at h1 ⊢
      exact stepC_swap h0.1 h0.2 (hs _ _ hx) (hs _ _ hy) h1
    · cases h0

theorem stepC_wp {o : Oper} {i : Nat} (hi : ops[i]? = some o) {K : Act → World → Prop} {a : Act} {w : World} (h : stepC P ops o R K a w) : wpOp P ops (fun e a w => e = .normal ∧ R a w) i K a w := by
  unfold wpOp
  simp only [hi]
  unfold stepC at h
  split
  · rename_i hw
    rw [if_pos hw] at h
    refine .inl ?_
    split at h
    · obtain ⟨v, h1, h2⟩ := h; unfold Oper.wp; rw [h1 w]; exact h2
    · obtain ⟨v, h1, h2⟩ := h; unfold Oper.wp; rw [h1]; exact h2
    · exact h
  · rename_i hw
    rw [if_neg hw] at h
    exact h

theorem plain_spec {l : List Oper} (h : plain P l = true) : (∀ (i : Nat) (o : Oper), l.toArray[i]? = some o → noSel o = true) ∧
    (∀ (j : Nat) (o : Oper), l.toArray[j]? = some o → ∀ e ∈ o.after, Region.binds .any e = true → e.on < j) ∧
    ∀ j k, k < j → j < l.length → ((masks l []).getD j 0).testBit k = true ∨ okPair P l.toArray k j = true := by
  simp only [plain, Bool.and_eq_true, List.all_eq_true, List.mem_range, Bool.or_eq_true] at h
  refine ⟨fun i o hi => h.1.1 o ?_, fun j o hj e he hb => ?_, fun j k hk hj => h.2 j hj k hk⟩
  · have : l[i]? = some o := by simpa using hi
    exact List.mem_of_getElem? this
  · have hj' : l[j]? = some o := by simpa using hj
    have := h.1.2 j (List.getElem?_eq_some_iff.1 hj').1
    simp only [hj', Option.map_some, Option.getD_some] at this
    have := Array.all_eq_true_iff_forall_mem.1 this e he
    simpa [hb] using this

theorem listed_iff {listed : Array Bool} {i : Nat} (h : i < listed.size) : listed.getD i true = listed.getD i false := by
  simp [h]

theorem any_of_text {l0 : List Oper} (hp : plain P l0 = true) : ∀ (n : Nat) (l : List Nat) (listed : Array Bool) (a : Act) (w : World), l.length = n → listed.size = l0.length →
    (∀ i, i ∈ l ↔ listed.getD i true = false) → l.Pairwise (· < ·) → Closed l0.toArray (fun i => listed.getD i false = true) → stepI P l0.toArray R l a w →
    wpAny P .any l0.toArray (fun e a w => e = .normal ∧ R a w) n listed a w := by
  obtain ⟨hsel, hord, hpair⟩ := plain_spec hp
  intro n
  induction n with
  | zero =>
    intro l listed a w hn hsz hl hs hc h
    obtain rfl := List.length_eq_zero_iff.1 hn
    refine ⟨?_, rfl, h⟩
    apply List.eq_nil_iff_forall_not_mem.2
    intro i hi
    exact absurd ((hl i).2 (mem_ready.1 hi).1) (by simp)
  | succ n ih =>
    intro l listed a w hn hsz hl hs hc h
    have hlt : ∀ i, listed.getD i true = false → i < listed.size := fun i hi => by
      rcases Nat.lt_or_ge i listed.size with h' | h'
      · exact h'
      · simp [Array.getElem?_eq_none h'] at hi
    refine ⟨?_, ?_⟩
    · intro hnil
      exfalso
      match l, hn with
      | i0 :: l', hn =>
        have hun := (hl i0).1 (List.mem_cons_self ..)
        have hi0 := hlt i0 hun
        have : i0 ∈ Region.ready .any l0.toArray listed := by
          refine mem_ready.2 ⟨hun, l0[i0]'(by omega), by simp [show i0 < l0.length by omega], fun e he hb => ?_⟩
          have hlo := hord i0 _ (by simp [show i0 < l0.length by omega]) e he hb
          cases hx : listed.getD e.on false with
          | true => rfl
          | false =>
            have hm := (hl e.on).2 (by rw [listed_iff (by omega)]; exact hx)
            rcases List.mem_cons.1 hm with h' | h'
            · omega
            · have := (List.pairwise_cons.1 hs).1 _ h'
              omega
        rw [hnil] at this
        cases this
    · intro j hj
      obtain ⟨hun, oj, hoj, haft⟩ := mem_ready.1 hj
      have hjs := hlt j hun
      have hjm : j ∈ l := (hl j).2 hun
      obtain ⟨l1, l2, rfl⟩ := List.append_of_mem hjm
      have hpw := List.pairwise_append.1 hs
      have hk : ∀ k ∈ l1, okPair P l0.toArray k j = true := by
        intro k hk
        have hkj : k < j := hpw.2.2 k hk j (List.mem_cons_self ..)
        rcases hpair j k hkj (by omega) with hb | hb
        · exfalso
          have hkun : listed.getD k true = false := (hl k).1 (List.mem_append_left _ hk)
          have hks := hlt k hkun
          have hc' : Closed l0.toArray (fun i => i = j ∨ listed.getD i false = true) := by
            intro i o ho hi e he hbd
            rcases hi with rfl | hi
            · rw [hoj] at ho; obtain rfl := Option.some.inj ho; exact .inr (haft e he hbd)
            · exact .inr (hc i o ho hi e he hbd)
          have := masks_sound hc' l0 [] (fun i o h => by simpa using h) (fun i _ k h => by simp at h) j (.inl rfl) k hb
          rcases this with h' | h'
          · omega
          · rw [← listed_iff hks, hkun] at h'; cases h'
        · exact hb
      have hmv := stepI_move hsel l1 l2 a w hk h
      simp only [stepI, hoj] at hmv
      refine wpOp_mono (fun a' w' hr => ih (l1 ++ l2) (listed.setIfInBounds j true) a' w' ?_ ?_ ?_ ?_ ?_ hr) (stepC_wp hoj hmv)
      · simp at hn ⊢; omega
      · simp [hsz]
      · intro i
        by_cases hij : i = j
        · subst hij
          have hnot : ¬ i ∈ l1 ++ l2 := by
            intro hm
            rcases List.mem_append.1 hm with h' | h'
            · have := hpw.2.2 i h' i (List.mem_cons_self ..); omega
            · have := (List.pairwise_cons.1 hpw.2.1).1 i h'; omega
          simp [hnot, hjs]
        · rw [getD_set_ne true (Ne.symm hij), ← hl i]
          simp [hij]
      · refine List.pairwise_append.2 ⟨hpw.1, (List.pairwise_cons.1 hpw.2.1).2, fun x hx y hy => hpw.2.2 x hx y (List.mem_cons_of_mem _ hy)⟩
      · intro i o ho hi e he hbd
        by_cases hij : i = j
        · subst hij
          rw [hoj] at ho; obtain rfl := Option.some.inj ho
          exact getD_set_true (haft e he hbd)
        · rw [getD_set_ne false (Ne.symm hij)] at hi
          exact getD_set_true (hc i o ho hi e he hbd)

end Go.Am
