/- Maps that stand for lists of pairs. No condition. -/
import Derived.Test.YtbigpkfdeaigeaaDoorAm26
namespace Go.Am
open Go
set_option linter.unusedSimpArgs false
set_option linter.unusedVariables false

variable {P : Program} {ng n : Nat}

/-- How keys are told apart. -/
structure KeyT {κ : Type} [DecidableEq κ] (P : Program) (t : TypeId) (kf : κ → Value) (kt et : TypeId) (d : TypeDesc) (z : Value) : Prop where
  und : P.underlying t = some (.map kt et)
  key : P.underlying kt = some d
  zero : zero? P et = some z
  flatz : flat z = true
  plain : ∀ a, plainKey d (kf a) = true
  same : ∀ a b, Instr.sameNow d (kf a) (kf b) = some (decide (a = b))

/-- A map's pairs. -/
def MapL {κ : Type} (kf : κ → Value) (es : List MapEntry) (l : List (κ × Value)) : Prop := es.map (fun e => (e.key, e.val)) = l.map (fun p => (kf p.1, p.2))
def MapR {κ : Type} (kf : κ → Value) (H : Heap) (id : Nat) (l : List (κ × Value)) : Prop := ∃ es clock, H[id]? = some ⟨.map es clock, true, true⟩ ∧ MapL kf es.toList l ∧ (∀ e ∈ es.toList, e.born < clock) ∧ (es.toList.map (·.born)).Nodup
theorem MapR.lt {κ : Type} {kf : κ → Value} {H : Heap} {id : Nat} {l : List (κ × Value)} (h : MapR kf H id l) : id < H.length := by
  obtain ⟨es, c, h, _⟩ := h
  exact (List.getElem?_eq_some_iff.1 h).1
theorem MapR.fr {κ : Type} {kf : κ → Value} {H H' : Heap} {id : Nat} {l : List (κ × Value)} (h : MapR kf H id l) (he : H'[id]? = H[id]?) : MapR kf H' id l := by
  obtain ⟨es, c, h, h'⟩ := h
  exact ⟨es, c, he.trans h, h'⟩
theorem MapR.new {κ : Type} {kf : κ → Value} {H : Heap} {id : Nat} (h : H[id]? = some ⟨.map #[] 0, true, true⟩) : MapR kf H id [] := ⟨#[], 0, h, rfl, by simp, by simp⟩

section
variable {κ : Type} [DecidableEq κ] {kf : κ → Value} {t kt et : TypeId} {d : TypeDesc} {z : Value}
/-- The first pair with a key: its place. -/
def findP (a : κ) : List (κ × Value) → Nat → Option (Nat × Value)
  | [], _ => none
  | p :: l, i => if a = p.1 then some (i, p.2) else findP a l (i + 1)
def getP (a : κ) (l : List (κ × Value)) : Option Value := (findP a l 0).map (·.2)
def putP (a : κ) (v : Value) : List (κ × Value) → List (κ × Value)
  | [] => [(a, v)]
  | p :: l => if a = p.1 then (a, v) :: l else p :: putP a v l

theorem findNow_L (hk : KeyT P t kf kt et d z) (a : κ) : ∀ (es : List MapEntry) (l : List (κ × Value)) (i : Nat), MapL kf es l → Instr.findNow d (kf a) es i = some (findP a l i)
  | [], [], i, _ => rfl
  | [], _ :: _, i, h => by simp [MapL] at h
  | _ :: _, [], i, h => by simp [MapL] at h
  | e :: es, p :: l, i, h => by
    simp only [MapL, List.map_cons, List.cons.injEq, Prod.mk.injEq] at h
    obtain ⟨⟨h1, h2⟩, h3⟩ := h
    simp only [Instr.findNow, h1, hk.same, findP, h2]
    by_cases hc : a = p.1
    · simp [hc]
    · simp only [hc, decide_false, if_false]
      exact findNow_L hk a es l (i + 1) h3
theorem findP_shift (a : κ) : ∀ (l : List (κ × Value)) (i : Nat), findP a l (i + 1) = (findP a l i).map fun q => (q.1 + 1, q.2)
  | [], i => rfl
  | p :: l, i => by
    simp only [findP]
    split
    · rfl
    · exact findP_shift a l (i + 1)
theorem MapR.look {H : Heap} {id : Nat} {l : List (κ × Value)} (hk : KeyT P t kf kt et d z) (h : MapR kf H id l) (a : κ) (ok : Bool) :
    lookup? P H t (.map (some id)) (kf a) ok = some (match getP a l with | some v => if ok then .tuple #[v, .bool true] else v | none => if ok then .tuple #[z, .bool false] else z) := by
  obtain ⟨es, c, hb, hl, -⟩ := h
  simp only [lookup?, hk.und, hk.key, hk.zero, hk.plain, hk.flatz, Bool.and_self, if_true, hb, findNow_L hk a _ _ 0 hl, getP]
  cases findP a l 0 with
  | none => rfl
  | some q => rfl
theorem putP_modify (a : κ) (v : Value) : ∀ (es : List MapEntry) (l : List (κ × Value)), MapL kf es l →
    (∀ i w, findP a l 0 = some (i, w) → MapL kf (es.modify i fun e => { e with key := kf a, val := v }) (putP a v l)) ∧ (findP a l 0 = none → ∀ c, MapL kf (es ++ [{ key := kf a, val := v, born := c }]) (putP a v l))
  | [], [], _ => ⟨fun i w h => by simp [findP] at h, fun _ c => rfl⟩
  | [], _ :: _, h => by simp [MapL] at h
  | _ :: _, [], h => by simp [MapL] at h
  | e :: es, p :: l, h => by
    have h' := h
    simp only [MapL, List.map_cons, List.cons.injEq, Prod.mk.injEq] at h
    obtain ⟨⟨h1, h2⟩, h3⟩ := h
    obtain ⟨ih1, ih2⟩ := putP_modify a v es l h3
    by_cases hc : a = p.1
    · constructor
      · intro i w hf
        simp only [findP, if_pos hc, Option.some.injEq, Prod.mk.injEq] at hf
        obtain ⟨rfl, _⟩ := hf
        simp only [putP, if_pos hc, MapL, List.modify_zero_cons, List.map_cons]
        congr 1
      · intro hf
        simp [findP, hc] at hf
    · constructor
      · intro i w hf
        rw [findP, if_neg hc, findP_shift] at hf
        cases hq : findP a l 0 with
        | none => rw [hq] at hf; cases hf
        | some q =>
          rw [hq] at hf
          simp only [Option.map_some, Option.some.injEq, Prod.mk.injEq] at hf
          obtain ⟨rfl, _⟩ := hf
          have := ih1 q.1 q.2 hq
          simp only [putP, if_neg hc, MapL, List.modify_succ_cons, List.map_cons, h1, h2]
          congr 1
      · intro hf c
        rw [findP, if_neg hc, findP_shift] at hf
        have hq : findP a l 0 = none := by
          cases hq : findP a l 0 with
          | none => rfl
          | some q => rw [hq] at hf; cases hf
        have := ih2 hq c
        simp only [putP, if_neg hc, MapL, List.cons_append, List.map_cons, h1, h2]
        congr 1
theorem MapR.upd {H : Heap} {id : Nat} {l : List (κ × Value)} (hk : KeyT P t kf kt et d z) (h : MapR kf H id l) (a : κ) {v : Value} (hv : known v = true) :
    ∃ es c, mapUpdate? P H t (.map (some id)) (kf a) v = some (H.set id ⟨.map es c, true, true⟩) ∧ MapR kf (H.set id ⟨.map es c, true, true⟩) id (putP a v l) := by
  have hlt := h.lt
  obtain ⟨es, c, hb, hl, hbn, hnd⟩ := h
  obtain ⟨h1, h2⟩ := putP_modify a v _ _ hl
  simp only [mapUpdate?, hk.und, hk.key, hk.plain, hv, Bool.and_self, if_true, hb, findNow_L hk a _ _ 0 hl]
  cases hf : findP a l 0 with
  | none =>
    refine ⟨_, _, rfl, _, _, List.getElem?_set_self hlt, ?_, ?_, ?_⟩
    · have := h2 hf c
      simpa using this
    · intro e he
      simp only [Array.toList_push, List.mem_append, List.mem_singleton] at he
      rcases he with he | rfl
      · exact Nat.lt_succ_of_lt (hbn e he)
      · exact Nat.lt_succ_self _
    · simp only [Array.toList_push, List.map_append, List.map_cons, List.map_nil]
      rw [List.nodup_append]
      refine ⟨hnd, by simp, fun a ha b hb' hab => ?_⟩
      simp at hb'
      obtain ⟨e, he, hee⟩ := List.mem_map.1 ha
      have := hbn e he
      omega
  | some q =>
    have hb' : ∀ (es : List MapEntry) (i : Nat), (es.modify i fun e => { e with key := kf a, val := v }).map (·.born) = es.map (·.born) := fun es i => by
      apply List.ext_getElem
      · simp
      · intro j h1 h2
        simp only [List.getElem_map, List.getElem_modify]
        split <;> rfl
    refine ⟨_, _, rfl, _, _, List.getElem?_set_self hlt, ?_, ?_, ?_⟩
    · have := h1 q.1 q.2 hf
      simpa using this
    · intro e he
      have h3 : e.born ∈ (es.toList.modify q.1 fun e => { e with key := kf a, val := v }).map (·.born) := List.mem_map.2 ⟨e, by simpa using he, rfl⟩
      rw [hb'] at h3
      obtain ⟨e', he', hee⟩ := List.mem_map.1 h3
      rw [← hee]
      exact hbn e' he'
    · have := hb' es.toList q.1
      simp only [Array.toList_modify]
      rw [this]
      exact hnd
/-- The rules at a stop. -/
theorem LookK.map {H : Heap} {id : Nat} {l : List (κ × Value)} {a : κ} {ok : Bool} {tm : List Value} {dd : Option Nat} {k : St → Prop} (hk : KeyT P t kf kt et d z) (h : MapR kf H id l)
    (hn : normT (putT tm dd (match getP a l with | some v => if ok then .tuple #[v, .bool true] else v | none => if ok then .tuple #[z, .bool false] else z)) H k) : LookK P t (.map (some id)) (kf a) ok H tm dd k :=
  LookK.of (h.look hk a ok) hn
theorem UpdK.map {H : Heap} {id : Nat} {l : List (κ × Value)} {a : κ} {v : Value} {tm : List Value} {dd : Option Nat} {k : St → Prop} (hk : KeyT P t kf kt et d z) (h : MapR kf H id l) (hv : known v = true)
    (hn : ∀ es c, MapR kf (H.set id ⟨.map es c, true, true⟩) id (putP a v l) → normT (putT tm dd (.tuple #[])) (H.set id ⟨.map es c, true, true⟩) k) : UpdK P t (.map (some id)) (kf a) v H tm dd k := by
  obtain ⟨es, c, h1, h2⟩ := h.upd hk a hv
  exact UpdK.of h1 (hn es c h2)

end

end Go.Am
