/- What a call has made and nobody holds is forgotten; weaker ends. No condition. -/
import Derived.Test.YtbigpkfdeaigeaaDoorAm22
namespace Go.Am
open Go
set_option linter.unusedSimpArgs false
set_option linter.unusedVariables false

variable {P : Program} {ng : Nat}

/-- What an abstract value says in a larger embedding it says in the smaller one, if it means anything there. -/
theorem VR.back {E E' : Emb} (hE : ∀ id l, E id = some l → E' id = some l) {v x : Value} (h : VR E v x) : ∀ {x' : Value}, VR E' v x' → VR E v x' := by
  induction h with
  | any v => intro x' h; cases h with | any => exact .any _ | tuple hs hh => exact .any _
  | skipped => intro x' h; cases h with
    | skipped => exact .skipped
    | tuple hs hh =>
      refine .tuple hs fun i a b => ?_
      have hi : i = 0 := by simp at a; omega
      subst hi
      have e := (hh 0 a b).eq0 rfl
      rw [e]
      exact .nilFunc
  | bool b => intro x' h; cases h; exact .bool b
  | int k n => intro x' h; cases h; exact .int k n
  | string s => intro x' h; cases h; exact .string s
  | nilPtr => intro x' h; cases h; exact .nilPtr
  | ptr off h => intro x' h'; cases h' with | ptr _ he => rw [hE _ _ h] at he; obtain rfl := Option.some.inj he; exact .ptr off h
  | nilSlice => intro x' h; cases h; exact .nilSlice
  | hollow a c => intro x' h; cases h; exact .hollow _ _
  | zero a => intro x' h; cases h; exact .zero _
  | slice off n sz c h hc hr => intro x' h'; cases h' with | slice _ _ _ c' he hc' hr' => rw [hE _ _ h] at he; obtain rfl := Option.some.inj he; exact .slice off n sz c' h hc' hr'
  | nilMap => intro x' h; cases h; exact .nilMap
  | map h => intro x' h'; cases h' with | map he => rw [hE _ _ h] at he; obtain rfl := Option.some.inj he; exact .map h
  | nilFunc => intro x' h; cases h; exact .nilFunc
  | func fn hs _ ih => intro x' h'; cases h' with | func _ hs' hh => exact .func fn hs' fun i a b => ih i a (by omega) (hh i a b)
  | nilIface => intro x' h; cases h; exact .nilIface
  | iface t _ ih => intro x' h'; cases h' with | iface _ hh => exact .iface t (ih hh)
  | agg hs _ ih => intro x' h'; cases h' with | agg hs' hh => exact .agg hs' fun i a b => ih i a (by omega) (hh i a b)
  | tuple hs _ ih => intro x' h'; cases h' with
    | any => exact .any _
    | skipped => exact .skipped
    | tuple hs' hh => exact .tuple hs' fun i a b => ih i a (by omega) (hh i a b)

theorem ObjR.back {E E' : Emb} (hE : ∀ id l, E id = some l → E' id = some l) {own : Bool} {l : Loc} {w w' : World} {o : Obj} (h : ObjR E own l w o) (h' : ObjR E' own l w' o) : ObjR E own l w' o := by
  cases o with
  | cells c e f =>
    obtain ⟨c1, e1, fr1, a1, a2, a3, a4, a5⟩ := h
    obtain ⟨c2, e2, fr2, b1, b2, b3, b4, b5⟩ := h'
    refine ⟨c2, e2, fr2, b1, b2, b3, fun i hi => ?_, b5⟩
    obtain ⟨v1, _, hv1⟩ := a4 i hi
    obtain ⟨v2, h2, hv2⟩ := b4 i hi
    exact ⟨v2, h2, hv1.back hE hv2⟩
  | map es clock =>
    obtain ⟨es1, a1, a2, a3, a4⟩ := h
    obtain ⟨es2, b1, b2, b3, b4⟩ := h'
    refine ⟨es2, b1, b2, b3, fun i hi hi' => ?_⟩
    obtain ⟨p1, p2, p3, p4⟩ := a4 i hi (by omega)
    obtain ⟨q1, q2, q3, q4⟩ := b4 i hi hi'
    exact ⟨q1, q2, q3, p4.back hE q4⟩
  | mapIter m since seen last =>
    obtain ⟨m1, a1, a2, a3⟩ := h
    obtain ⟨m2, b1, b2, b3⟩ := h'
    exact ⟨m2, b1, b2, a3.back hE b3⟩
  | stringIter s pos => exact h'
  | _ => exact h.elim

/-- An answer, or several, without an address. -/
def flatT (v : Value) : Bool :=
  match v with
  | .tuple vs => decide (2 ≤ vs.size) && vs.all flat
  | v => flat v
theorem flatT_tuple {l : List Value} : flatT (.tuple l.toArray) = (decide (2 ≤ l.length) && l.all flat) := by simp [flatT]
theorem VR.eqT {E : Emb} {v v' : Value} (h : VR E v v') (hf : flatT v = true) : v' = v := by
  cases v with
  | tuple vs =>
    simp only [flatT, Bool.and_eq_true, decide_eq_true_eq] at hf
    cases h with
    | any => simp at hf
    | skipped => simp at hf
    | tuple hs h =>
      congr 1
      apply Array.ext hs.symm
      intro i h1 h2
      exact (h i h2 h1).eq (Array.all_eq_true.1 hf.2 i h2)
  | _ => exact h.eq hf
theorem VR.reflT (E : Emb) {v : Value} (hf : flatT v = true) : VR E v v := by
  cases v with
  | tuple vs =>
    simp only [flatT, Bool.and_eq_true, decide_eq_true_eq] at hf
    exact .tuple rfl fun i h1 h2 => VR.refl E (Array.all_eq_true.1 hf.2 i h1)
  | _ => exact VR.refl E hf

/-- A call whose answer has no address and that leaves the caller's blocks as they were: what it made is forgotten. -/
theorem AC.gc {f : FuncId} {args : List Value} {S : Heap} {Q : Value → Prop} (h : AC P ng f args S fun v S' => Q v ∧ flatT v = true ∧ S <+: S') : AC P ng f args S fun v S' => Q v ∧ S' = S := by
  intro E args' w h1 h2 h3
  refine (h E args' w h1 h2 h3).mono ?_
  rintro e w' ⟨v, v', S', E', rfl, ⟨hq, hf, G, rfl⟩, hv, hr, hlen, hg⟩
  have hE : ∀ id l, E id = some l → E' id = some l := fun id l he => by rw [hg.keep id (h2.lt he)]; exact he
  refine ⟨v, v', S, E, rfl, ⟨hq, rfl⟩, ?_, ?_, Nat.le_refl _, ?_⟩
  · rw [hv.eqT hf]; exact VR.reflT E hf
  · refine ⟨fun id l he => ?_, h2.apart, h2.glob⟩
    obtain ⟨b, hb, hlt, ho⟩ := h2.blk id l he
    obtain ⟨b', hb', hlt', ho'⟩ := hr.blk id l (hE id l he)
    rw [List.getElem?_append_left (h2.lt he), hb] at hb'
    obtain rfl := Option.some.inj hb'
    exact ⟨b, hb, hlt', fun hl => (ho hl).back hE (ho' hl)⟩
  · exact ⟨fun _ _ => rfl, hg.os, hg.tape, hg.output, hg.size, hg.frame, fun id l bl a b c d _ => ⟨id, l, bl, a, b, c, d, rfl⟩⟩

end Go.Am
