/- From a walk of the abstract heap to a law's row. No condition. -/
import Derived.Test.YtephpieeibcihaaGreatDoorAm23
import Derived.WalkKit
import Derived.ProofKit
import Derived.OpenShut
import Derived.ChangeOld
import Derived.SizedLaws
import Derived.RowKit
namespace Go.Am
open Go Go.Deep Go.ChangeShapes Go.RowKit
set_option linter.unusedSimpArgs false
set_option linter.unusedVariables false

theorem VL.vrs {E : Emb} {x : List Value} {y : Array Value} (h : VL E x y.toList) : VRs E x y := by
  refine ⟨by simpa using h.length, fun i h1 h2 => ?_⟩
  obtain ⟨b, hb, hv⟩ := h.get (i := i) (a := x[i]) (by simp)
  have : y[i] = b := by
    rw [List.getElem?_eq_getElem (by simpa using h2)] at hb
    simpa using Option.some.inj hb
  rw [this]
  exact hv

theorem ac_calls {P : Program} {ng : Nat} {f : FuncId} {args : List Value} {args' : Array Value} {E : Emb} {S : Heap} {W : World} {u : Value} (h : AC P ng f args S fun v S' => v = u ∧ S' = S) (hu : flat u = true) (hI : Im E S W)
    (hg : ∀ g, g < ng → ∃ room, E g = some ⟨g, 0, room⟩ ∧ WholeV S g room) (hng : ng ≤ S.length) (hv : VL E args args'.toList) : Calls P f args' W fun e W' => e = .returned u ∧ Below W.heap.size W W' := by
  refine (h E args' W hv.vrs (hI.rel hg) hng).mono ?_
  rintro e W' ⟨v, v', S', E', rfl, ⟨rfl, rfl⟩, hvr, hr, _, hgr⟩
  rw [hvr.eq hu]
  refine ⟨rfl, hgr.os, hgr.tape, hgr.output, hgr.size, fun b hb => hgr.frame b hb fun id l bl h1 h2 h3 h4 _ => ?_⟩
  obtain ⟨b', q1, q2, _⟩ := hI.blk id l h1
  rw [h2] at q1
  obtain rfl := Option.some.inj q1
  rw [q2] at h4
  cases h4

/-- A call's arguments. -/
abbrev RepA (α : Type) := Heap → α → List Value → Prop
def RdA (P : Program) (ts : List TypeId) {α : Type} (R : RepA α) : Prop :=
  ∀ ⦃Hh : Type⦄ ⦃enc : TypeId × Value → Hh⦄ ⦃W : World⦄ ⦃base : Nat⦄ ⦃vs : List Value⦄ ⦃ds : List (DataW Hh)⦄ ⦃ps : List MemPlace⦄, DataW.TrodAll enc P W 0 (fun _ => true) true ts vs ds ps →
    (∀ (j : Nat) (t : TypeId) (v : Value), ts[j]? = some t → vs[j]? = some v → Value.okWide P W .any base t v) → (∀ n ∈ DataW.weightsEach P ts ds, n ≤ reachBytes) →
    ∀ ⦃E : Emb⦄ ⦃S : Heap⦄, Im E S W → ∃ a vs' E' G, VL E' vs' vs ∧ Im E' (S ++ G) W ∧ (∀ id l, E id = some l → E' id = some l) ∧ R (S ++ G) a vs'

def nilA : RepA Unit := fun _ _ vs => vs = []
theorem RdA.nil {P : Program} : RdA P [] nilA := by
  intro Hh enc W base vs ds ps h1 h2 h3 E S hI
  obtain ⟨rfl, rfl, rfl⟩ := trodAll_nil h1
  exact ⟨(), [], E, [], trivial, by simpa using hI, fun _ _ h => h, rfl⟩

/-- An argument of one cell. -/
def c1A {α β : Type} (R1 : RepT α) (R2 : RepA β) : RepA (α × β) := fun H x vs => ∃ v F vs', vs = v :: vs' ∧ R1 H x.1 [v] F ∧ R2 H x.2 vs'
/-- A struct. -/
def csA {α β : Type} (R1 : RepT α) (R2 : RepA β) : RepA (α × β) := fun H x vs => ∃ c F vs', vs = .agg c.toArray :: vs' ∧ R1 H x.1 c F ∧ R2 H x.2 vs'

section
variable {P : Program} {t : TypeId} {ts : List TypeId} {α β : Type} {R1 : RepT α} {R2 : RepA β}
theorem RdA.cons1 [hRp : Rp R1 1] (h : Rd P t R1) (hone : ∀ W base v, Value.okWide P W .any base t v → v.cells = #[v]) (h' : RdA P ts R2) : RdA P (t :: ts) (c1A R1 R2) := by
  intro Hh enc W base vs ds ps h1 h2 h3 E S hI
  obtain ⟨v, vs, d, ds, p, q, rfl, rfl, rfl, ⟨fuel, hd⟩, hrest⟩ := trodAll_cons h1
  obtain ⟨a, c1, F1, E1, G1, q1, q2, q3, q4⟩ := h hd (fun n hn => h3 n (by simp only [DataW.weightsEach]; exact List.mem_append_left _ hn)) hI
  obtain ⟨b, vs', E2, G2, w1, w2, w3, w4⟩ := h' (base := base) hrest (fun j t' v' a1 a2 => h2 (j + 1) t' v' (by simpa using a1) (by simpa using a2)) (fun n hn => h3 n (by simp only [DataW.weightsEach]; exact List.mem_append_right _ hn)) q2
  rw [hone W base v (h2 0 t v rfl rfl)] at q1
  obtain ⟨u, rfl⟩ := List.length_eq_one_iff.1 (hRp.len q4)
  refine ⟨(a, b), u :: vs', E2, G1 ++ G2, ⟨q1.1.mono w3, w1⟩, by rw [← List.append_assoc]; exact w2, fun id l he => w3 id l (q3 id l he), u, F1, vs', rfl, ?_, by rw [← List.append_assoc]; exact w4⟩
  rw [← List.append_assoc]
  exact Ext.rp q4 (Ext.app _ _)
theorem RdA.consS {fs : Array Field} {sz : Nat} [hRp : Rp R1 sz] (ht : P.underlying t = some (.struct fs)) (h : Rd P t R1) (h' : RdA P ts R2) : RdA P (t :: ts) (csA R1 R2) := by
  intro Hh enc W base vs ds ps h1 h2 h3 E S hI
  obtain ⟨v, vs, d, ds, p, q, rfl, rfl, rfl, ⟨fuel, hd⟩, hrest⟩ := trodAll_cons h1
  obtain ⟨a, c1, F1, E1, G1, q1, q2, q3, q4⟩ := h hd (fun n hn => h3 n (by simp only [DataW.weightsEach]; exact List.mem_append_left _ hn)) hI
  obtain ⟨b, vs', E2, G2, w1, w2, w3, w4⟩ := h' (base := base) hrest (fun j t' v' a1 a2 => h2 (j + 1) t' v' (by simpa using a1) (by simpa using a2)) (fun n hn => h3 n (by simp only [DataW.weightsEach]; exact List.mem_append_right _ hn)) q2
  have hok := h2 0 t v rfl rfl
  unfold Value.okWide at hok
  rw [ht] at hok
  obtain ⟨cs, rfl, _⟩ := hok
  refine ⟨(a, b), .agg c1.toArray :: vs', E2, G1 ++ G2, ⟨?_, w1⟩, by rw [← List.append_assoc]; exact w2, fun id l he => w3 id l (q3 id l he), c1, F1, vs', rfl, ?_, by rw [← List.append_assoc]; exact w4⟩
  · have := (q1.mono w3).agg
    simpa [Value.cells] using this
  · rw [← List.append_assoc]
    exact Ext.rp q4 (Ext.app _ _)
end

theorem trodAll_below {Hh : Type} {enc : TypeId × Value → Hh} {P : Program} (hl : laidOutB P = true) {W W' : World} (hb : Below W.heap.size W W') : ∀ {ts : List TypeId} {vs : List Value} {ds : List (DataW Hh)} {ps : List MemPlace},
    (ts.all fun t => P.readableRec t && decide (t < P.types.size)) = true → DataW.TrodAll enc P W 0 (fun _ => true) true ts vs ds ps → (∀ x ∈ ps, x.block < W.heap.size) →
    DataW.TrodAll enc P W' 0 (fun b => decide (b < W.heap.size)) true ts vs ds ps
  | [], vs, ds, ps, _, h, _ => by
    obtain ⟨rfl, rfl, rfl⟩ := trodAll_nil h
    exact trodAll_mk0
  | t :: ts, vs, ds, ps, ht, h, hp => by
    obtain ⟨v, vs, d, ds, p, q, rfl, rfl, rfl, hd, hrest⟩ := trodAll_cons h
    rw [List.all_cons, Bool.and_eq_true, Bool.and_eq_true] at ht
    exact trodAll_cons_mk (Below.trod hl ht.1.1 (of_decide_eq_true ht.1.2) hd hb fun x hx => hp x (List.mem_append_left _ hx)) (trodAll_below hl hb ht.2 hrest fun x hx => hp x (List.mem_append_right _ hx))

theorem TrodAll.len {Hh : Type} {enc : TypeId × Value → Hh} {P : Program} {W : World} : ∀ {ts : List TypeId} {vs : List Value} {ds : List (DataW Hh)} {ps : List MemPlace}, DataW.TrodAll enc P W 0 (fun _ => true) true ts vs ds ps → ds.length = ts.length
  | [], vs, ds, ps, h => by
    obtain ⟨rfl, rfl, rfl⟩ := trodAll_nil h
    rfl
  | t :: ts, vs, ds, ps, h => by
    obtain ⟨v, vs, d, ds, p, q, rfl, rfl, rfl, hd, hrest⟩ := trodAll_cons h
    simp [TrodAll.len hrest]

/-- A law that returns true whatever is read: its contract. -/
theorem law_contract {P : Program} {f : FuncId} {fn : Func} {s : ChangeSpec} {H : Type} {enc : TypeId × Value → H} {tb : TypeId} {α : Type} {R : RepA α}
    (hvars : s.vars = []) (hs : ∀ ds : List (DataW H), ds.length = fn.params.size → (s.fn H ds).results = [.lit (.bool true)] ∧ (s.fn H ds).args = ds ∧ (s.fn H ds).vars = [])
    (hres : fn.resultTypes = #[tb]) (htb : P.underlying tb = some .bool) (hl : laidOutB P = true) (hts : (fn.params.toList.all fun t => P.readableRec t && decide (t < P.types.size)) = true)
    (hR : RdA P fn.params.toList R) (hAC : ∀ S a vs, R S a vs → AC P 0 f vs S fun v S' => v = .bool true ∧ S' = S)
    (W : World) (base : Nat) (args : Array Value) (ds gs : List (DataW H)) (before : List MemPlace)
    (hval : ∀ (j : Nat) (t : TypeId) (v : Value), fn.params[j]? = some t → args[j]? = some v → Value.okWide P W .any base t v) (hW : DataW.Whole enc P fn.params.toList s.vars false W args.toList ds gs before)
    (hsz : (DataW.weightsEach P (fn.params.toList ++ s.plain.varTypes P) (ds ++ gs)).all (· ≤ reachBytes) = true) :
    Calls P f args W fun e W' => ∃ v, e = .returned v ∧ s.post enc P fn false true false false W args v W' := by
  have hW' := hW
  obtain ⟨p, q, hA, hV, rfl, hfz, hnd⟩ := hW
  rw [hvars] at hV
  obtain ⟨rfl, rfl⟩ := trodVars_none hV
  have hlt := hW'.lt
  simp only [List.append_nil] at hlt
  have hsz' : ∀ n ∈ DataW.weightsEach P fn.params.toList ds, n ≤ reachBytes := by
    intro n hn
    have hv : s.plain.varTypes P = [] := by simp [ChangeSpec.plain, DataSpec.varTypes, hvars]
    simp only [List.append_nil, List.all_eq_true] at hsz
    have := hsz n (by simpa [hv] using hn)
    simpa using this
  obtain ⟨a, vs', E, G, h1, h2, _, h4⟩ := hR (base := base) hA (fun j t v a1 a2 => hval j t v (by simpa using a1) (by simpa using a2)) hsz' (Im.nil W)
  refine (ac_calls (hAC _ a vs' h4) rfl h2 (fun g hg => by omega) (by omega) h1).mono fun e W' ⟨he, bel⟩ => ?_
  obtain ⟨e1, e2, e3⟩ := hs ds (by have := TrodAll.len hA; simpa using this)
  refine ⟨_, he, ds, [], p ++ [], [], p, [], hW', ?_, ?_, ?_, bel.frame _, fun h => by cases h⟩
  · rw [List.append_nil, e1, hres]
    exact trodAll_mk1 (shut_bool htb _)
  · rw [List.append_nil, e2]
    exact trodAll_below hl bel hts hA hlt
  · rw [List.append_nil, e3, hvars]
    rfl

/-- A law that returns true whatever is read. -/
theorem law_lifted {C : Checked} {os : Os} {f : FuncId} {fn : Func} {s : ChangeSpec} {H : Type} {enc : TypeId × Value → H} {conds : List PathCond} {tb : TypeId} {α : Type} {R : RepA α}
    (own : ownKnob C.prog.godebug = none) (started : os.Started) (noInit : C.prog.inits.idxOf? f = none) (hfn : C.prog.funcs[f]? = some fn)
    (witness : ∃ (w : World) (tape : Tape) (i : Input), w.os = os ∧ (w.forCall tape i).Shaped C.prog ∧ i.vars = [] ∧ Input.okWide C.prog (w.forCall tape i) .any w.heap.size f i ∧
      s.pre6 enc C.prog fn conds false (w.forCall tape i).memory i.args ∧ ({} : Assume).holds C.prog (lone (Frame.enter C.prog f i.args .normal) [] (w.forCall tape i)))
    (hvars : s.vars = []) (hs : ∀ ds : List (DataW H), ds.length = fn.params.size → (s.fn H ds).results = [.lit (.bool true)] ∧ (s.fn H ds).args = ds ∧ (s.fn H ds).vars = [])
    (hres : fn.resultTypes = #[tb]) (htb : C.prog.underlying tb = some .bool) (hl : laidOutB C.prog = true) (hts : (fn.params.toList.all fun t => C.prog.readableRec t && decide (t < C.prog.types.size)) = true)
    (hR : RdA C.prog fn.params.toList R) (hAC : ∀ S a vs, R S a vs → AC C.prog 0 f vs S fun v S' => v = .bool true ∧ S' = S) :
    ReturnsInHanded {} C os f .any (s.pre6 enc C.prog fn conds false) (s.post enc C.prog fn false true false false) := by
  refine returnsInHanded_of_change_sized (C := C) own started noInit hfn witness ?_
  intro W base args ds gs before hval hW _ hsz _
  exact law_contract hvars hs hres htb hl hts hR hAC W base args ds gs before hval hW hsz

/-- A plain value that a row lays. -/
def litV : DataW Unit → Value
  | .lit (.int k n) => .int k n
  | .lit (.bool b) => .bool b
  | .lit (.string l) => .string ⟨⟨l⟩⟩
  | _ => .nilIface
def datCells : DataW Unit → Array Value
  | .agg ps => (ps.map litV).toArray
  | d => #[litV d]
/-- The settled world, the listed variables laid: for a witness. -/
noncomputable def laidWorld (P : Program) (os : Os) (laid : List (String × DataW Unit)) : World :=
  let w0 := World.holding P os ⟨#[], #[], []⟩
  let lay (h : Array Obj) (x : String × DataW Unit) : Array Obj := match P.globalNamed x.1 with
    | some g => h.modify g fun
      | .cells _ t fr => .cells (datCells x.2) t fr
      | o => o
    | none => h
  { w0 with heap := laid.foldl lay w0.heap }
end Go.Am
