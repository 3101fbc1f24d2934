/- From a walk of the abstract heap to a law's row. No condition. -/
import Derived.Test.YtbigpkfdeaigeaaDoorAm23
import Derived.WalkKit
import Derived.ProofKit
import Derived.OpenShut
import Derived.ChangeOld
import Derived.SizedLaws
import Derived.RowKit
namespace Go.Am
open Go Go.Deep Go.ChangeShapes Go.RowKit
set_option linter.unusedSimpArgs false
set_option linter.unusedVariables false

theorem VL.vrs {E : Emb} {x : List Value} {y : Array Value} (h : VL E x y.toList) : VRs E x y := by
  refine ⟨by simpa using h.length, fun i h1 h2 => ?_⟩
  obtain ⟨b, hb, hv⟩ := h.get (i := i) (a := x[i]) (by simp)
  have : y[i] = b := by
    rw [List.getElem?_eq_getElem (by simpa using h2)] at hb
    simpa using Option.some.inj hb
  rw [this]
  exact hv

theorem ac_calls {P : Program} {ng : Nat} {f : FuncId} {args : List Value} {args' : Array Value} {E : Emb} {S : Heap} {W : World} {u : Value} (h : AC P ng f args S fun v S' => v = u ∧ S' = S) (hu : flat u = true) (hI : Im E S W)
    (hg : ∀ g, g < ng → ∃ room, E g = some ⟨g, 0, room⟩ ∧ WholeV S g room) (hng : ng ≤ S.length) (hv : VL E args args'.toList) : Calls P f args' W fun e W' => e = .returned u ∧ Below W.heap.size W W' := by
  refine (h E args' W hv.vrs (hI.rel hg) hng).mono ?_
  rintro e W' ⟨v, v', S', E', rfl, ⟨rfl, rfl⟩, hvr, hr, _, hgr⟩
  rw [hvr.eq hu]
  refine ⟨rfl, hgr.os, hgr.tape, hgr.output, hgr.size, fun b hb => hgr.frame b hb fun id l bl h1 h2 h3 h4 _ => ?_⟩
  obtain ⟨b', q1, q2, _⟩ := hI.blk id l h1
  rw [h2] at q1
  obtain rfl := Option.some.inj q1
  rw [q2] at h4
  cases h4

/-- A call's arguments. -/
abbrev RepA (α : Type) := Heap → α → List Value → Prop
def RdA (P : Program) (ts : List TypeId) {α : Type} (R : RepA α) : Prop :=
  ∀ ⦃Hh : Type⦄ ⦃enc : TypeId × Value → Hh⦄ ⦃W : World⦄ ⦃base : Nat⦄ ⦃vs : List Value⦄ ⦃ds : List (DataW Hh)⦄ ⦃ps : List MemPlace⦄, DataW.TrodAll enc P W 0 (fun _ => true) true ts vs ds ps →
    (∀ (j : Nat) (t : TypeId) (v : Value), ts[j]? = some t → vs[j]? = some v → Value.okWide P W .any base t v) → (∀ n ∈ DataW.weightsEach P ts ds, n ≤ reachBytes) →
    ∀ ⦃E : Emb⦄ ⦃S : Heap⦄, Im E S W → ∃ a vs' E' G, VL E' vs' vs ∧ Im E' (S ++ G) W ∧ (∀ id l, E id = some l → E' id = some l) ∧ R (S ++ G) a vs'

def nilA : RepA Unit := fun _ _ vs => vs = []
theorem RdA.nil {P : Program} : RdA P [] nilA := by
  intro Hh enc W base vs ds ps h1 h2 h3 E S hI
  obtain ⟨rfl, rfl, rfl⟩ := trodAll_nil h1
  exact ⟨(), [], E, [], trivial, by simpa using hI, fun _ _ h => h, rfl⟩

/-- An argument of one cell. -/
def c1A {α β : Type} (R1 : RepT α) (R2 : RepA β) : RepA (α × β) := fun H x vs => ∃ v F vs', vs = v :: vs' ∧ R1 H x.1 [v] F ∧ R2 H x.2 vs'
section
variable {P : Program} {t : TypeId} {ts : List TypeId} {α β : Type} {R1 : RepT α} {R2 : RepA β}
theorem RdA.cons1 [hRp : Rp R1 1] (h : Rd P t R1) (hone : ∀ W base v, Value.okWide P W .any base t v → v.cells = #[v]) (h' : RdA P ts R2) : RdA P (t :: ts) (c1A R1 R2) := by
  intro Hh enc W base vs ds ps h1 h2 h3 E S hI
  obtain ⟨v, vs, d, ds, p, q, rfl, rfl, rfl, ⟨fuel, hd⟩, hrest⟩ := trodAll_cons h1
  obtain ⟨a, c1, F1, E1, G1, q1, q2, q3, q4⟩ := h hd (fun n hn => h3 n (by simp only [DataW.weightsEach]; exact List.mem_append_left _ hn)) hI
  obtain ⟨b, vs', E2, G2, w1, w2, w3, w4⟩ := h' (base := base) hrest (fun j t' v' a1 a2 => h2 (j + 1) t' v' (by simpa using a1) (by simpa using a2)) (fun n hn => h3 n (by simp only [DataW.weightsEach]; exact List.mem_append_right _ hn)) q2
  rw [hone W base v (h2 0 t v rfl rfl)] at q1
  obtain ⟨u, rfl⟩ := List.length_eq_one_iff.1 (hRp.len q4)
  refine ⟨(a, b), u :: vs', E2, G1 ++ G2, ⟨q1.1.mono w3, w1⟩, by rw [← List.append_assoc]; exact w2, fun id l he => w3 id l (q3 id l he), u, F1, vs', rfl, ?_, by rw [← List.append_assoc]; exact w4⟩
  rw [← List.append_assoc]
  exact Ext.rp q4 (Ext.app _ _)
end

theorem trodAll_below {Hh : Type} {enc : TypeId × Value → Hh} {P : Program} (hl : laidOutB P = true) {W W' : World} (hb : Below W.heap.size W W') : ∀ {ts : List TypeId} {vs : List Value} {ds : List (DataW Hh)} {ps : List MemPlace},
    (ts.all fun t => P.readableRec t && decide (t < P.types.size)) = true → DataW.TrodAll enc P W 0 (fun _ => true) true ts vs ds ps → (∀ x ∈ ps, x.block < W.heap.size) →
    DataW.TrodAll enc P W' 0 (fun b => decide (b < W.heap.size)) true ts vs ds ps
  | [], vs, ds, ps, _, h, _ => by
    obtain ⟨rfl, rfl, rfl⟩ := trodAll_nil h
    exact trodAll_mk0
  | t :: ts, vs, ds, ps, ht, h, hp => by
    obtain ⟨v, vs, d, ds, p, q, rfl, rfl, rfl, hd, hrest⟩ := trodAll_cons h
    rw [List.all_cons, Bool.and_eq_true, Bool.and_eq_true] at ht
    exact trodAll_cons_mk (Below.trod hl ht.1.1 (of_decide_eq_true ht.1.2) hd hb fun x hx => hp x (List.mem_append_left _ hx)) (trodAll_below hl hb ht.2 hrest fun x hx => hp x (List.mem_append_right _ hx))

theorem TrodAll.len {Hh : Type} {enc : TypeId × Value → Hh} {P : Program} {W : World} : ∀ {ts : List TypeId} {vs : List Value} {ds : List (DataW Hh)} {ps : List MemPlace}, DataW.TrodAll enc P W 0 (fun _ => true) true ts vs ds ps → ds.length = ts.length
  | [], vs, ds, ps, h => by
    obtain ⟨rfl, rfl, rfl⟩ := trodAll_nil h
    rfl
  | t :: ts, vs, ds, ps, h => by
    obtain ⟨v, vs, d, ds, p, q, rfl, rfl, rfl, hd, hrest⟩ := trodAll_cons h
    simp [TrodAll.len hrest]

/-- A plain value that a row lays. -/
def litV : DataW Unit → Value
  | .lit (.int k n) => .int k n
  | .lit (.bool b) => .bool b
  | .lit (.string l) => .string ⟨⟨l⟩⟩
  | _ => .nilIface
def datCells : DataW Unit → Array Value
  | .agg ps => (ps.map litV).toArray
  | d => #[litV d]
end Go.Am
