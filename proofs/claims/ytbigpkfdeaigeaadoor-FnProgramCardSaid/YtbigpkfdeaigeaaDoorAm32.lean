/- Laws that read laid variables which the row names too. -/
import Derived.Test.YtbigpkfdeaigeaaDoorAm30
import Derived.OpenVars
namespace Go.Am
open Go Go.Deep Go.ChangeShapes Go.RowKit
set_option linter.unusedSimpArgs false
set_option linter.unusedVariables false

/-- A law that returns true whatever is read, where variables are laid, and the row names variables as well. -/
theorem law_contract_vars {P : Program} {f : FuncId} {fn : Func} {s : ChangeSpec} {H : Type} {enc : TypeId × Value → H} {tb : TypeId} {α : Type} {R : RepA α} {ng : Nat} {GP : Heap → Prop} {L : World → Prop}
    (hvars : varsRowed P s.vars = true) (hs : ∀ ds gs : List (DataW H), ds.length = fn.params.size → gs.length = s.vars.length → (s.fn H (ds ++ gs)).results = [.lit (.bool true)] ∧ (s.fn H (ds ++ gs)).args = ds ∧ (s.fn H (ds ++ gs)).vars = gs)
    (hres : fn.resultTypes = #[tb]) (htb : P.underlying tb = some .bool) (hl : laidOutB P = true) (hts : (fn.params.toList.all fun t => P.readableRec t && decide (t < P.types.size)) = true)
    (hLaid : ∀ W, L W → ∃ E S, Im E S W ∧ (∀ g, g < ng → ∃ room, E g = some ⟨g, 0, room⟩ ∧ WholeV S g room) ∧ ng ≤ S.length ∧ ∀ T, GP (S ++ T))
    (hR : RdA P fn.params.toList R) (hAC : ∀ S a vs, GP S → R S a vs → AC P ng f vs S fun v S' => v = .bool true ∧ S' = S)
    (W : World) (base : Nat) (args : Array Value) (ds gs : List (DataW H)) (before : List MemPlace)
    (hval : ∀ (j : Nat) (t : TypeId) (v : Value), fn.params[j]? = some t → args[j]? = some v → Value.okWide P W .any base t v) (hW : DataW.Whole enc P fn.params.toList s.vars false W args.toList ds gs before)
    (hsz : (DataW.weightsEach P (fn.params.toList ++ s.plain.varTypes P) (ds ++ gs)).all (· ≤ reachBytes) = true) (hLW : L W) :
    Calls P f args W fun e W' => ∃ v, e = .returned v ∧ s.post enc P fn false true false false W args v W' := by
  have hW' := hW
  obtain ⟨p, q, hA, hV, rfl, hfz, hnd⟩ := hW
  have hlt := hW'.lt
  have hlp : ∀ x ∈ p, x.block < W.heap.size := fun x hx => hlt x (List.mem_append_left _ hx)
  have hlen : ds.length = fn.params.size := by have := TrodAll.len hA; simpa using this
  have hlenv : gs.length = s.vars.length := by
    clear hsz hs hvars hnd hlt hW' hfz
    generalize s.vars = ns at hV
    induction ns generalizing gs q with
    | nil => obtain ⟨rfl, -⟩ := trodVars_none hV; rfl
    | cons n ns ih =>
      match gs, hV with
      | _ :: _, hV =>
        obtain ⟨_, _, _, _, _, q', _, _, _, _, hs, _⟩ := hV
        simp [ih _ q' hs]
  have hsz' : ∀ n ∈ DataW.weightsEach P fn.params.toList ds, n ≤ reachBytes := by
    have key : ∀ (ts us : List TypeId) (ds es : List (DataW H)), ds.length = ts.length → ∀ n ∈ DataW.weightsEach P ts ds, n ∈ DataW.weightsEach P (ts ++ us) (ds ++ es) := by
      intro ts
      induction ts with
      | nil => intro us ds es h n hn; cases ds with
        | nil => simp [DataW.weightsEach] at hn
        | cons _ _ => simp at h
      | cons t ts ih => intro us ds es h n hn; cases ds with
        | nil => simp at h
        | cons d ds =>
          simp only [DataW.weightsEach, List.cons_append, List.mem_append] at hn ⊢
          rcases hn with hn | hn
          · exact .inl hn
          · exact .inr (ih us ds es (by simpa using h) n hn)
    intro n hn
    have := List.all_eq_true.1 hsz n (key _ _ _ _ (by simpa using hlen) n hn)
    simpa using this
  obtain ⟨E0, S0, hI0, hg0, hng, hGP⟩ := hLaid W hLW
  obtain ⟨a, vs', E, G, h1, h2, h3, h4⟩ := hR (base := base) hA (fun j t v a1 a2 => hval j t v (by simpa using a1) (by simpa using a2)) hsz' hI0
  refine (ac_calls (hAC _ a vs' (hGP G) h4) rfl h2 (fun g hg => by obtain ⟨room, hr, hw⟩ := hg0 g hg; exact ⟨room, h3 _ _ hr, fun c e f hc => hw c e f (by rw [List.getElem?_append_left (by omega)] at hc; exact hc)⟩) (by simp; omega) h1).mono fun e W' ⟨he, bel⟩ => ?_
  obtain ⟨e1, e2, e3⟩ := hs ds gs hlen hlenv
  refine ⟨_, he, ds, gs, p ++ q, [], p, q, hW', ?_, ?_, ?_, bel.frame _, fun h => by cases h⟩
  · rw [e1, hres]
    exact trodAll_mk1 (shut_bool htb _)
  · rw [e2]
    exact trodAll_below hl bel hts hA hlp
  · rw [e3]
    exact Below.trodVars hl bel hvars hV
end Go.Am
