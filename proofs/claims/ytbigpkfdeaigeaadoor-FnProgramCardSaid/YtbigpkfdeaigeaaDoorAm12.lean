/- What a piece of code asks, unfolded. No condition. -/
import Derived.Test.YtbigpkfdeaigeaaDoorAm21
namespace Go.Am
open Go
set_option linter.unusedSimpArgs false
set_option linter.unusedVariables false

variable {P : Program} {ng : Nat}

/-- A test's two ways. -/
def condA (v : Value) (x y : Unit → Prop) (_ : Tag x := .mk) (_ : Tag y := .mk) : Prop :=
  match v with
  | .bool b => ifA b (x ()) (y ())
  | _ => False

@[congr] theorem condA_congr {v v' : Value} {x y : Unit → Prop} (h : Unit → v = v') : condA v x y = condA v' x y := by rw [h ()]

/-- The order that is chosen for a region. -/
def exGet : List (Nat × Ord) → Nat → Option Ord
  | [], _ => none
  | (i, p) :: ex, id => if i = id then some p else exGet ex id

/-- Every region that draws its order may be shown in the text's order, but for those that `ex` names; these in the order that stands there. -/
def plainC (P : Program) (ex : List (Nat × Ord)) : Code → Bool
  | .seq a b => plainC P ex a && plainC P ex b
  | .cond _ x y => plainC P ex x && plainC P ex y
  | .block _ c => plainC P ex c
  | .loop c => plainC P ex c
  | .region id ops true => match exGet ex id with
    | some p => okT P ops.toList ops.toList.length [] [] p
    | none => plain P ops.toList
  | _ => true
def Plain (P : Program) (ex : List (Nat × Ord)) (c : Code) : Prop := P.follows .mixedOrders = true ∧ plainC P ex c = true
/-- A loop that is still to be shown. -/
def LoopA (P : Program) (ng n : Nat) (ex : List (Nat × Ord)) (c : Code) (s : St) (Q : Exit → St → Prop) (_ : Tag c := .mk) (_ : Tag Q := .mk) : Prop := Plain P ex c → AW P ng n (.loop c) s Q

def drawA (P : Program) (ng n : Nat) (p : Option Ord) (l : List Oper) (s : St) (K : St → Prop) : Prop :=
  match p with
  | some p => opscQ P ng n l p s K
  | none => opsc P ng n (dsts l) l s K

/-- What a piece of code asks. Loops stay as they are. -/
def wpc (P : Program) (ng n : Nat) (ex : List (Nat × Ord)) : Code → St → (Exit → St → Prop) → Prop
  | .skip, s, Q => Q .normal s
  | .label _, s, Q => Q .normal s
  | .exit id, s, Q => Q (.exit id) s
  | .ret, s, Q => Q .ret s
  | .seq a b, s, Q => wpc P ng n ex a s (thenA (fun s1 => wpc P ng n ex b s1 Q) Q)
  | .cond c x y, s, Q => condA (s.ev ng c) (fun _ => wpc P ng n ex x s Q) (fun _ => wpc P ng n ex y s Q)
  | .block id c, s, Q => wpc P ng n ex c s (inBlockA id Q)
  | .loop c, s, Q => LoopA P ng n ex c s Q
  | .region id ops true, s, Q => drawA P ng n (exGet ex id) ops.toList s (Q .normal)
  | .region _ ops false, s, Q => opsc P ng n (dsts ops.toList) ops.toList s (Q .normal)
  | _, _, _ => False

theorem wpc_sound {n : Nat} {ex : List (Nat × Ord)} : ∀ (c : Code) (s : St) (Q : Exit → St → Prop), Plain P ex c → wpc P ng n ex c s Q → AW P ng n c s Q
  | .skip, s, Q, _, h => AW.skip h
  | .label _, s, Q, _, h => AW.label h
  | .exit id, s, Q, _, h => AW.exit h
  | .ret, s, Q, _, h => AW.ret h
  | .seq a b, s, Q, hp, h => by
    have hp' : plainC P ex a = true ∧ plainC P ex b = true := by simpa [plainC] using hp.2
    refine AW.seq (AW.mono (wpc_sound a s _ ⟨hp.1, hp'.1⟩ h) ?_)
    intro e s1 h1
    cases e with
    | normal => exact wpc_sound b s1 Q ⟨hp.1, hp'.2⟩ h1
    | _ => exact h1
  | .cond c x y, s, Q, hp, h => by
    have hp' : plainC P ex x = true ∧ plainC P ex y = true := by simpa [plainC] using hp.2
    simp only [wpc] at h
    unfold condA at h
    split at h
    · rename_i b hc
      refine AW.cond hc ?_
      cases b
      · exact wpc_sound y s Q ⟨hp.1, hp'.2⟩ h
      · exact wpc_sound x s Q ⟨hp.1, hp'.1⟩ h
    · exact h.elim
  | .block id c, s, Q, hp, h => AW.block (wpc_sound c s _ hp h)
  | .loop c, s, Q, hp, h => h hp
  | .region id ops true, s, Q, hp, h => by
    have hp' := hp.2
    simp only [wpc] at h
    simp only [plainC] at hp'
    unfold drawA at h
    cases hc : exGet ex id with
    | some p =>
      rw [hc] at h hp'
      have := AW.drawP (id := id) (l := ops.toList) p hp.1 hp' h
      simpa using this
    | none =>
      rw [hc] at h hp'
      have := AW.draw (id := id) hp.1 hp' h
      simpa using this
  | .region id ops false, s, Q, _, h => AW.region (opsc_sound _ _ _ h)
  | .rangeFunc .., _, _, _, h => h.elim
  | .scope _, _, _, _, h => h.elim
  | .goto _, _, _, _, h => h.elim
  | .refuse _, _, _, _, h => h.elim

/-! ### The rules as rewrites, for states that are written out -/
section
variable {n : Nat} {ex : List (Nat × Ord)} {tm : List Value} {hp : Heap} {Q : Exit → St → Prop}
@[congr] theorem wpc_congr {c : Code} {s s' : St} (h : Unit → s = s') : wpc P ng n ex c s Q = wpc P ng n ex c s' Q := by rw [h ()]
@[congr] theorem thenA_congr {K : St → Prop} {e : Exit} {s s' : St} (h : Unit → s = s') : thenA K Q e s = thenA K Q e s' := by rw [h ()]
@[congr] theorem inBlockA_congr {id : Nat} {e : Exit} {s s' : St} (h : Unit → s = s') : inBlockA id Q e s = inBlockA id Q e s' := by rw [h ()]
theorem wpc_skip : wpc P ng n ex .skip ⟨tm, hp⟩ Q = Q .normal ⟨tm, hp⟩ := opq rfl
theorem wpc_label {l : Nat} : wpc P ng n ex (.label l) ⟨tm, hp⟩ Q = Q .normal ⟨tm, hp⟩ := opq rfl
theorem wpc_exit {id : Nat} : wpc P ng n ex (.exit id) ⟨tm, hp⟩ Q = Q (.exit id) ⟨tm, hp⟩ := opq rfl
theorem wpc_ret : wpc P ng n ex .ret ⟨tm, hp⟩ Q = Q .ret ⟨tm, hp⟩ := opq rfl
theorem wpc_seq {a b : Code} : wpc P ng n ex (.seq a b) ⟨tm, hp⟩ Q = wpc P ng n ex a ⟨tm, hp⟩ (thenA (fun s1 => wpc P ng n ex b s1 Q) Q) := opq rfl
theorem wpc_block {id : Nat} {c : Code} : wpc P ng n ex (.block id c) ⟨tm, hp⟩ Q = wpc P ng n ex c ⟨tm, hp⟩ (inBlockA id Q) := opq rfl
theorem wpc_loop {c : Code} : wpc P ng n ex (.loop c) ⟨tm, hp⟩ Q = LoopA P ng n ex c ⟨tm, hp⟩ Q := opq rfl
@[congr] theorem LoopA_congr {c : Code} {s s' : St} (h : Unit → s = s') : LoopA P ng n ex c s Q = LoopA P ng n ex c s' Q := by rw [h ()]
theorem wpc_draw {id : Nat} {l : List Oper} : wpc P ng n ex (.region id l.toArray true) ⟨tm, hp⟩ Q = drawA P ng n (exGet ex id) l ⟨tm, hp⟩ (Q .normal) := opq rfl
theorem drawA_none {l : List Oper} {K : St → Prop} : drawA P ng n none l ⟨tm, hp⟩ K = opsc P ng n (dsts l) l ⟨tm, hp⟩ K := opq rfl
theorem drawA_some {l : List Oper} {K : St → Prop} {p : Ord} : drawA P ng n (some p) l ⟨tm, hp⟩ K = opscQ P ng n l p ⟨tm, hp⟩ K := opq rfl
@[congr] theorem drawA_congr {l : List Oper} {K : St → Prop} {p p' : Option Ord} {s s' : St} (h : Unit → p = p') (h' : Unit → s = s') : drawA P ng n p l s K = drawA P ng n p' l s' K := by rw [h (), h' ()]
theorem exc_nil {id : Nat} : exGet [] id = none := opq rfl
theorem exc_cons {id i : Nat} {p : Ord} : exGet ((i, p) :: ex) id = if i = id then some p else exGet ex id := opq rfl
theorem wpc_region {id : Nat} {l : List Oper} : wpc P ng n ex (.region id l.toArray false) ⟨tm, hp⟩ Q = opsc P ng n (dsts l) l ⟨tm, hp⟩ (Q .normal) := opq rfl
theorem thenA_normal {K : St → Prop} {s : St} : thenA K Q .normal s = K s := opq rfl
theorem thenA_ret {K : St → Prop} {s : St} : thenA K Q .ret s = Q .ret s := opq rfl
theorem thenA_exit {K : St → Prop} {s : St} {id : Nat} : thenA K Q (.exit id) s = Q (.exit id) s := opq rfl
theorem inBlockA_normal {id : Nat} {s : St} : inBlockA id Q .normal s = Q .normal s := opq rfl
theorem inBlockA_ret {id : Nat} {s : St} : inBlockA id Q .ret s = Q .ret s := opq rfl
theorem inBlockA_exit {id id' : Nat} {s : St} : inBlockA id Q (.exit id') s = condA (.bool (decide (id' = id))) (fun _ => Q .normal s) (fun _ => Q (.exit id') s) := by
  show (if id' = id then _ else _) = ifA _ _ _
  by_cases h : id' = id <;> simp [h, ifA]
end

/-! ### Pure operators at values that are written out -/
section
variable {t : TypeId} {x y : Operand} {k : IntKind} {a b : Int} {s r : ByteArray} {p q : Bool}
theorem bin_add : bin? P .add t x y (.int k a) (.int k b) = some (.int k (k.wrap (a + b))) := opq (by cases k <;> rfl)
theorem bin_sub : bin? P .sub t x y (.int k a) (.int k b) = some (.int k (k.wrap (a - b))) := opq (by cases k <;> rfl)
theorem bin_mul : bin? P .mul t x y (.int k a) (.int k b) = some (.int k (k.wrap (a * b))) := opq (by cases k <;> rfl)
theorem bin_eql : bin? P .eql t x y (.int k a) (.int k b) = some (.bool (decide (a = b))) := opq (by cases k <;> rfl)
theorem bin_neq : bin? P .neq t x y (.int k a) (.int k b) = some (.bool (!decide (a = b))) := opq (by cases k <;> rfl)
theorem bin_lss : bin? P .lss t x y (.int k a) (.int k b) = some (.bool (decide (a < b))) := opq (by cases k <;> rfl)
theorem bin_leq : bin? P .leq t x y (.int k a) (.int k b) = some (.bool (decide (a ≤ b))) := opq (by cases k <;> rfl)
theorem bin_gtr : bin? P .gtr t x y (.int k a) (.int k b) = some (.bool (decide (b < a))) := opq (by cases k <;> rfl)
theorem bin_geq : bin? P .geq t x y (.int k a) (.int k b) = some (.bool (decide (b ≤ a))) := opq (by cases k <;> rfl)
theorem beq_bytes (s r : ByteArray) : (s.toList == r.toList) = decide (s = r) := by
  rw [Bool.eq_iff_iff, Lib.bytes_beq_iff, decide_eq_true_iff]
theorem bin_seql : bin? P .eql t x y (.string s) (.string r) = some (.bool (decide (s = r))) := opq (by rw [← beq_bytes]; rfl)
theorem bin_sneq : bin? P .neq t x y (.string s) (.string r) = some (.bool (!decide (s = r))) := opq (by rw [← beq_bytes]; rfl)
theorem bin_sadd (h : s.size + r.size ≤ 9223372036854775807) : bin? P .add t x y (.string s) (.string r) = some (.string (s ++ r)) := by
  have : ¬ (((s.size + r.size : Nat) : Int) > IntKind.i64.max) := by
    show ¬ (((s.size + r.size : Nat) : Int) > 9223372036854775807)
    omega
  show purF P (do eqGuard .add t x y (.string s) (.string r); Op.stringOp .add s r) = _
  simp only [Op.stringOp, if_neg this]
  rfl
end

/-! ### The heap, written out -/
section
variable {S T : Heap} {b : Blk} {i j : Nat}
theorem get_at : (S ++ T)[S.length + i]? = T[i]? := by rw [List.getElem?_append_right (by omega)]; congr 1; omega
theorem get_at0 : (S ++ T)[S.length]? = T[0]? := by rw [List.getElem?_append_right (by omega)]; congr 1; omega
theorem set_at : (S ++ T).set (S.length + i) b = S ++ T.set i b := by
  rw [List.set_append_right _ _ (by omega)]; congr 2; omega
theorem set_at0 : (S ++ T).set S.length b = S ++ T.set 0 b := by
  rw [List.set_append_right _ _ (by omega)]; congr 2; omega
end

section
variable {o : Oper} {l : List Oper} {d : Option Nat} {op : Op} {oty : TypeId} {ps0 : String} {af : Array Edge} {g : Option (Nat × Bool)} {k : Nat}
end

/-- What is asked at the end: results that are slots or cells. -/
def resOneA (P : Program) (tm : List Value) (hp : Heap) : ResultVar → Option Value
  | .tmp t => some (tm.getD t (.tuple #[]))
  | .cell a t => load? P hp t (tm.getD a (.tuple #[]))
def goRs (P : Program) (tm : List Value) (hp : Heap) (Q : Value → Heap → Prop) : List ResultVar → List Value → Prop
  | [], [v] => Q v hp
  | [], vs => Q (.tuple vs.reverse.toArray) hp
  | r :: rs, vs => goV (resOneA P tm hp r) fun v => goRs P tm hp Q rs (v :: vs)
theorem goRs_sound {tm : List Value} {hp : Heap} {Q : Value → Heap → Prop} : ∀ (rs : List ResultVar) (vs : List Value), goRs P tm hp Q rs vs → ∃ us, resAll P ⟨tm, hp⟩ rs = some us ∧ (match vs.reverse ++ us with | [v] => Q v hp | ws => Q (.tuple ws.toArray) hp)
  | [], [], h => ⟨[], rfl, h⟩
  | [], [v], h => ⟨[], rfl, h⟩
  | [], v :: u :: vs, h => by
    refine ⟨[], rfl, ?_⟩
    have h' : Q (.tuple (v :: u :: vs).reverse.toArray) hp := h
    rw [List.append_nil]
    split
    · rename_i x hx
      have := congrArg List.length hx
      simp at this
    · exact h'
  | r :: rs, vs, h => by
    simp only [goRs] at h
    unfold goV at h
    split at h
    · rename_i v hv
      obtain ⟨us, h1, h2⟩ := goRs_sound rs (v :: vs) h
      refine ⟨v :: us, ?_, ?_⟩
      · have : resOne P ⟨tm, hp⟩ r = some v := by cases r <;> exact hv
        simp [resAll, this, h1]
      · simpa using h2
    · exact h.elim
def EndsA (P : Program) (rs : List ResultVar) (Q : Value → Heap → Prop) : Exit → St → Prop
  | .normal, s => goRs P s.tm s.hp Q rs []
  | .ret, s => goRs P s.tm s.hp Q rs []
  | _, _ => False
theorem EndsA_sound {rs : List ResultVar} {Q : Value → Heap → Prop} {e : Exit} {s : St} (h : EndsA P rs Q e s) : Ends P rs Q e s := by
  have key : goRs P s.tm s.hp Q rs [] → ∃ v, res? P s rs = some v ∧ Q v s.hp := by
    intro h
    obtain ⟨us, h1, h2⟩ := goRs_sound rs [] h
    have h1' : resAll P s rs = some us := h1
    simp only [List.reverse_nil, List.nil_append] at h2
    unfold res?
    rw [h1']
    split at h2
    · exact ⟨_, rfl, h2⟩
    · rename_i hne
      refine ⟨.tuple us.toArray, ?_, h2⟩
      split
      · rename_i v hv; obtain rfl := Option.some.inj hv; exact absurd rfl (hne v)
      · rename_i vs hne' hv; obtain rfl := Option.some.inj hv; rfl
      · rename_i hv; cases hv
  cases e <;> first | exact key h | exact h.elim

section
variable {tm : List Value} {hp : Heap} {Q : Value → Heap → Prop} {rs : List ResultVar} {vs : List Value} {u v : Value} {t a : Nat}
theorem EndsA_normal : EndsA P rs Q .normal ⟨tm, hp⟩ = goRs P tm hp Q rs [] := opq rfl
theorem EndsA_ret : EndsA P rs Q .ret ⟨tm, hp⟩ = goRs P tm hp Q rs [] := opq rfl
theorem EndsA_exit {id : Nat} {s : St} : EndsA P rs Q (.exit id) s = False := opq rfl
theorem goRs_one : goRs P tm hp Q [] [v] = Q v hp := opq rfl
theorem goRs_nil : goRs P tm hp Q [] [] = Q (.tuple #[]) hp := opq rfl
theorem goRs_two : goRs P tm hp Q [] (u :: v :: vs) = Q (.tuple (u :: v :: vs).reverse.toArray) hp := opq rfl
end

/-- A call is its body, run; its slots are written out first. -/
theorem AC.go (ex : List (Nat × Ord)) {f : FuncId} {fn : Func} {c : Code} {args : List Value} {S : Heap} {Q : Value → Heap → Prop} {nt : Nat} {rs : List ResultVar} (hf : P.funcs[f]? = some fn) (hb : fn.body = some c) (hn : fn.ntmps = nt) (hr : fn.results.toList = rs)
    (hp : Plain P ex c)
    (h : normT (args ++ List.replicate (nt - args.length) (.tuple #[])) S fun s => wpc P ng S.length ex c s (EndsA P rs Q)) : AC P ng f args S Q := by
  subst hn hr
  exact AC.enter hf hb ((wpc_sound _ _ _ hp h).mono fun e s' => EndsA_sound)

end Go.Am
