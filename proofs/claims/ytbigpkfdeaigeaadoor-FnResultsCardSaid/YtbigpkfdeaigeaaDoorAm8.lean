/- The abstract meaning of maps and of ranging over a string, each with what the model does. No condition. -/
import Derived.Test.YtbigpkfdeaigeaaDoorAm7
import Derived.MapKept
namespace Go.Am
open Go
set_option linter.unusedSimpArgs false
set_option linter.unusedVariables false

variable {P : Program} {ng : Nat}

/-- Keys that are compared at once. -/
def plainKey : TypeDesc → Value → Bool
  | .string, .string _ => true
  | .int _, .int _ _ => true
  | _, _ => false

theorem plainKey_flat {d : TypeDesc} {k : Value} (h : plainKey d k = true) : flat k = true := by
  cases d <;> cases k <;> simp [plainKey] at h <;> rfl

theorem run_checkKey_succ {t : TypeId} {d : TypeDesc} {k : Value} (hu : P.underlying t = some d) (h : plainKey d k = true) (b : Bool) (n : Nat) (w : World) : (Instr.checkKey b (n + 1) t k).run P w = .ok () w := by
  cases d <;> cases k <;> simp [plainKey] at h <;> simp [Instr.checkKey, run_underlying hu]

theorem run_checkKey {t : TypeId} {d : TypeDesc} {k : Value} (hu : P.underlying t = some d) (h : plainKey d k = true) (b : Bool) (w : World) : (Instr.checkKey b 10000 t k).run P w = .ok () w := by
  exact run_checkKey_succ hu h b 9999 w

/-- Entries that stand for entries. -/
def EntR (E : Emb) (es es' : List MapEntry) : Prop :=
  es.length = es'.length ∧ ∀ (i : Nat) (h : i < es.length) (h' : i < es'.length), es'[i].key = es[i].key ∧ VR E es[i].val es'[i].val

theorem findNow_rel {E : Emb} (d : TypeDesc) (k : Value) : ∀ (es es' : List MapEntry) (i : Nat), EntR E es es' →
    (Instr.findNow d k es i = none → Instr.findNow d k es' i = none) ∧ (Instr.findNow d k es i = some none → Instr.findNow d k es' i = some none) ∧
    ∀ j v, Instr.findNow d k es i = some (some (j, v)) → ∃ v', Instr.findNow d k es' i = some (some (j, v')) ∧ VR E v v'
  | [], [], i, _ => ⟨fun h => by simp [Instr.findNow] at h, fun _ => rfl, fun j v h => by simp [Instr.findNow] at h⟩
  | [], _ :: _, _, h => by simp [EntR] at h
  | _ :: _, [], _, h => by simp [EntR] at h
  | e :: es, e' :: es', i, h => by
    have h0 := h.2 0 (by simp) (by simp)
    simp only [List.getElem_cons_zero] at h0
    have hr : EntR E es es' := ⟨by simpa using h.1, fun i h1 h2 => by
      have := h.2 (i + 1) (by simp; omega) (by simp; omega)
      simpa using this⟩
    have ih := findNow_rel d k es es' (i + 1) hr
    simp only [Instr.findNow, h0.1]
    cases Instr.sameNow d k e.key with
    | none => simp
    | some b => cases b with
      | true =>
        refine ⟨fun h => by simp at h, fun h => by simp at h, fun j v hjv => ?_⟩
        simp only [Option.some.injEq, Prod.mk.injEq] at hjv
        obtain ⟨rfl, rfl⟩ := hjv
        exact ⟨_, rfl, h0.2⟩
      | false => exact ih

def lookup? (P : Program) (S : Heap) (t : TypeId) (m k : Value) (ok : Bool) : Option Value :=
  match P.underlying t with
  | some (.map kt et) =>
    match P.underlying kt, zero? P et with
    | some d, some z =>
      if plainKey d k && flat z then
        match m with
        | .map none => some (if ok then .tuple #[z, .bool false] else z)
        | .map (some id) =>
          match S[id]? with
          | some ⟨.map es _, true, _⟩ =>
            match Instr.findNow d k es.toList 0 with
            | some (some (_, v)) => some (if ok then .tuple #[v, .bool true] else v)
            | some none => some (if ok then .tuple #[z, .bool false] else z)
            | none => none
          | _ => none
        | _ => none
      else none
    | _, _ => none
  | _ => none

theorem VR.pair {E : Emb} {a a' b b' : Value} (ha : VR E a a') (hb : VR E b b') : VR E (.tuple #[a, b]) (.tuple #[a', b']) := by
  refine .tuple rfl fun i h1 h2 => ?_
  have : i = 0 ∨ i = 1 := by simp at h1; omega
  rcases this with rfl | rfl
  · exact ha
  · exact hb

theorem entR_of {E : Emb} {es es' : Array MapEntry} (hs : es.size = es'.size)
    (h : ∀ (i : Nat) (h : i < es.size) (h' : i < es'.size), flat es[i].key = true ∧ es'[i].key = es[i].key ∧ es'[i].born = es[i].born ∧ VR E es[i].val es'[i].val) : EntR E es.toList es'.toList :=
  ⟨by simpa using hs, fun i h1 h2 => by
    simp only [Array.length_toList] at h1 h2
    simp only [Array.getElem_toList]
    exact ⟨(h i h1 h2).2.1, (h i h1 h2).2.2.2⟩⟩

theorem lookup_run {E : Emb} {S : Heap} {w : World} {t : TypeId} {m m' k k' v : Value} {ok : Bool} (h : lookup? P S t m k ok = some v) (hr : Rel ng E S w) (hm : VR E m m') (hk : VR E k k') :
    ∃ v', (Instr.lookup t m' k' ok).run P w = .ok v' w ∧ VR E v v' := by
  unfold lookup? at h
  split at h
  · rename_i kt et hu
    split at h
    · rename_i d z hd hz
      split at h
      · rename_i hc
        simp only [Bool.and_eq_true] at hc
        obtain ⟨hpk, hfz⟩ := hc
        obtain rfl := hk.eq (plainKey_flat hpk)
        have hzr := run_zero hz w
        split at h
        · obtain rfl := Option.some.inj h
          cases hm
          cases ok
          · exact ⟨z, by simp [Instr.lookup, run_underlying hu, run_checkKey hd hpk, Instr.findKey, run_underlying hd, Instr.findNow, hzr], VR.refl E hfz⟩
          · exact ⟨.tuple #[z, .bool false], by simp [Instr.lookup, run_underlying hu, run_checkKey hd hpk, Instr.findKey, run_underlying hd, Instr.findNow, hzr], .pair (VR.refl E hfz) (.bool _)⟩
        · rename_i id
          split at h
          · rename_i es clock own hb
            cases hm with
            | map he =>
              rename_i l
              obtain ⟨b, hb', hlt, ho⟩ := hr.blk id l he
              rw [hb] at hb'
              obtain rfl := Option.some.inj hb'
              obtain ⟨es', hw, hbase, hsz, hent⟩ := ho rfl
              have hf := findNow_rel (E := E) d k' es.toList es'.toList 0 (entR_of hsz hent)
              have hget : (getObj l.blk).run P w = .ok (.map es' clock) w := by simp [getObj, Sem.run, hw]
              split at h
              · rename_i j u hfn
                obtain rfl := Option.some.inj h
                obtain ⟨u', hfn', hu'⟩ := hf.2.2 j u hfn
                cases ok
                · exact ⟨u', by simp [Instr.lookup, run_underlying hu, run_checkKey hd hpk, Instr.findKey, run_underlying hd, hget, hfn'], hu'⟩
                · exact ⟨.tuple #[u', .bool true], by simp [Instr.lookup, run_underlying hu, run_checkKey hd hpk, Instr.findKey, run_underlying hd, hget, hfn'], .pair hu' (.bool _)⟩
              · rename_i hfn
                obtain rfl := Option.some.inj h
                have hfn' := hf.2.1 hfn
                cases ok
                · exact ⟨z, by simp [Instr.lookup, run_underlying hu, run_checkKey hd hpk, Instr.findKey, run_underlying hd, hget, hfn', hzr], VR.refl E hfz⟩
                · exact ⟨.tuple #[z, .bool false], by simp [Instr.lookup, run_underlying hu, run_checkKey hd hpk, Instr.findKey, run_underlying hd, hget, hfn', hzr], .pair (VR.refl E hfz) (.bool _)⟩
              · cases h
          · cases h
        · cases h
      · cases h
    · cases h
  · cases h

def mapUpdate? (P : Program) (S : Heap) (t : TypeId) (m k x : Value) : Option Heap :=
  match P.underlying t with
  | some (.map kt _) =>
    match P.underlying kt, m with
    | some d, .map (some id) =>
      if plainKey d k && known x then
        match S[id]? with
        | some ⟨.map es clock, true, true⟩ =>
          match Instr.findNow d k es.toList 0 with
          | some (some (i, _)) => some (S.set id ⟨.map (es.modify i fun e => { e with key := k, val := x }) clock, true, true⟩)
          | some none => some (S.set id ⟨.map (es.push { key := k, val := x, born := clock }) (clock + 1), true, true⟩)
          | none => none
        | _ => none
      else none
    | _, _ => none
  | _ => none

theorem findNow_at (d : TypeDesc) (k : Value) : ∀ (es : List MapEntry) (i j : Nat) (v : Value), Instr.findNow d k es i = some (some (j, v)) → i ≤ j ∧ ∃ h : j - i < es.length, Instr.sameNow d k es[j - i].key = some true
  | [], _, _, _, h => by simp [Instr.findNow] at h
  | e :: es, i, j, v, h => by
    simp only [Instr.findNow] at h
    split at h
    · rename_i hs
      simp only [Option.some.injEq, Prod.mk.injEq] at h
      obtain ⟨rfl, rfl⟩ := h
      exact ⟨Nat.le_refl _, by simp, by simpa using hs⟩
    · obtain ⟨h1, h2, h3⟩ := findNow_at d k es (i + 1) j v h
      refine ⟨by omega, by simp; omega, ?_⟩
      have : j - i = (j - (i + 1)) + 1 := by omega
      simp only [this, List.getElem_cons_succ]
      exact h3
    · cases h

theorem same_eq {d : TypeDesc} {k k2 : Value} (hp : plainKey d k = true) (h : Instr.sameNow d k k2 = some true) : k2 = k := by
  cases d <;> cases k <;> simp [plainKey] at hp <;> cases k2 <;> simp [Instr.sameNow] at h
  · obtain ⟨rfl, rfl⟩ := h; rfl
  · rw [(MapKept.bytes_beq _ _).1 h]

theorem run_setObj {r : Nat} {o o0 : Obj} {w : World} (h : w.heap[r]? = some o0) (hn : ∀ c e f, o0 ≠ .cells c e f) : (setObj r o).run P w = .ok () { w with heap := w.heap.setIfInBounds r o } := by
  simp only [setObj, Sem.run, h]

theorem sameBits_self {d : TypeDesc} {k : Value} (hp : plainKey d k = true) : Instr.sameBits 10000 k k = true := by
  cases d <;> cases k <;> simp [plainKey] at hp <;> simp [Instr.sameBits, MapKept.bytes_beq]

theorem mapUpdate_run {E : Emb} {S S' : Heap} {w : World} {t : TypeId} {m m' k k' x x' : Value} (h : mapUpdate? P S t m k x = some S') (hr : Rel ng E S w) (hm : VR E m m') (hk : VR E k k') (hx : VR E x x') :
    ∃ w', (Instr.mapUpdate t m' k' x').run P w = .ok () w' ∧ Rel ng E S' w' ∧ Grow S.length E S w E S' w' := by
  unfold mapUpdate? at h
  split at h
  · rename_i kt et hu
    split at h
    · rename_i d id hd
      split at h
      · rename_i hc
        simp only [Bool.and_eq_true] at hc
        obtain ⟨hpk, hkx⟩ := hc
        obtain rfl := hk.eq (plainKey_flat hpk)
        split at h
        · rename_i es clock hb
          cases hm with
          | map he =>
            rename_i l
            obtain ⟨b, hb', hlt, ho⟩ := hr.blk id l he
            rw [hb] at hb'
            obtain rfl := Option.some.inj hb'
            obtain ⟨es', hw, hbase, hsz, hent⟩ := ho rfl
            have hf := findNow_rel (E := E) d k' es.toList es'.toList 0 (entR_of hsz hent)
            have hget : (getObj l.blk).run P w = .ok (.map es' clock) w := by simp [getObj, Sem.run, hw]
            have hset : ∀ o, (setObj l.blk o).run P w = .ok () { w with heap := w.heap.setIfInBounds l.blk o } := fun o => run_setObj hw (fun c e f => by simp)
            have hhs : ∀ o, ({ w with heap := w.heap.setIfInBounds l.blk o } : World).heap.size = w.heap.size := fun o => by simp
            have hoth : ∀ o k, k ≠ l.blk → ({ w with heap := w.heap.setIfInBounds l.blk o } : World).heap[k]? = w.heap[k]? := fun o k hk => by
              simp [Array.getElem?_setIfInBounds, Ne.symm hk]
            have hself : ∀ o, ({ w with heap := w.heap.setIfInBounds l.blk o } : World).heap[l.blk]? = some o := fun o => by
              simp [Array.getElem?_setIfInBounds, hlt]
            split at h
            · rename_i j u hfn
              obtain rfl := Option.some.inj h
              obtain ⟨u', hfn', hu'⟩ := hf.2.2 j u hfn
              obtain ⟨_, hj1, hj2⟩ := findNow_at d k' es'.toList 0 j u' hfn'
              simp only [Nat.sub_zero, Array.length_toList, Array.getElem_toList] at hj1 hj2
              have hkey := same_eq hpk hj2
              refine ⟨{ w with heap := w.heap.setIfInBounds l.blk (.map (es'.modify j fun e => { e with key := k', val := x' }) clock) }, ?_, ?_, Grow.set _ he hb rfl rfl (hhs _) (hoth _) rfl rfl rfl⟩
              · simp [Instr.mapUpdate, run_underlying hu, run_checkKey hd hpk, Instr.findKey, run_underlying hd, hget, hfn', Instr.keyThatStays, Array.getElem?_eq_getElem hj1, hkey, sameBits_self hpk, hset]
              · refine hr.set he hb rfl rfl (hhs _) (hoth _) rfl fun _ => ⟨_, hself _, hbase, by simpa using hsz, fun i h1 h2 => ?_⟩
                simp only [Array.size_modify] at h1 h2
                obtain ⟨q1, q2, q3, q4⟩ := hent i h1 h2
                by_cases hij : j = i
                · subst hij
                  rw [Array.getElem_modify_self, Array.getElem_modify_self]
                  exact ⟨plainKey_flat hpk, rfl, q3, hx⟩
                · simp only [Array.getElem_modify_of_ne hij]
                  exact ⟨q1, q2, q3, q4⟩
            · rename_i hfn
              obtain rfl := Option.some.inj h
              have hfn' := hf.2.1 hfn
              refine ⟨{ w with heap := w.heap.setIfInBounds l.blk (.map (es'.push { key := k', val := x', born := clock }) (clock + 1)) }, ?_, ?_, Grow.set _ he hb rfl rfl (hhs _) (hoth _) rfl rfl rfl⟩
              · simp [Instr.mapUpdate, run_underlying hu, run_checkKey hd hpk, Instr.findKey, run_underlying hd, hget, hfn', hset]
              · refine hr.set he hb rfl rfl (hhs _) (hoth _) rfl fun _ => ⟨_, hself _, hbase, by simpa using hsz, fun i h1 h2 => ?_⟩
                simp only [Array.size_push] at h1 h2
                by_cases hi : i < es.size
                · rw [Array.getElem_push_lt hi, Array.getElem_push_lt (show i < es'.size by omega)]
                  exact hent i hi (by omega)
                · have e1 : i = es.size := by omega
                  subst e1
                  rw [Array.getElem_push_eq]
                  have : ∀ (n : Nat) (hn : n = es'.size) (h : n < (es'.push { key := k', val := x', born := clock : MapEntry }).size), (es'.push { key := k', val := x', born := clock : MapEntry })[n] = { key := k', val := x', born := clock } := by
                    intro n hn h
                    subst hn
                    exact Array.getElem_push_eq
                  rw [this _ hsz]
                  exact ⟨plainKey_flat hpk, rfl, rfl, hx⟩
            · cases h
        · cases h
      · cases h
    · cases h
  · cases h

def makeMap? (S : Heap) : Value × Heap := (.map (some S.length), S ++ [⟨.map #[] 0, true, true⟩])

theorem makeMap_run {E : Emb} {S : Heap} {w : World} (t : TypeId) (hr : Rel ng E S w) :
    ∃ v' E' w', (Instr.makeMap t none).run P w = .ok v' w' ∧ Rel ng E' (makeMap? S).2 w' ∧ VR E' (makeMap? S).1 v' ∧ Grow S.length E S w E' (makeMap? S).2 w' := by
  refine ⟨.map (some w.heap.size), Emb.push E S.length ⟨w.heap.size, 0, 0⟩, w.alloc (.map #[] 0), ?_, hr.push _ _ _ fun _ => ⟨#[], ?_, rfl, rfl, fun i h _ => by simp at h⟩, ?_, Grow.push hr _ _ _ rfl⟩
  · simp [Instr.makeMap, alloc_eq]
  · show (w.heap.push _)[w.heap.size]? = _
    simp
  · exact VR.map (l := ⟨w.heap.size, 0, 0⟩) (push_self _ _ _)

end Go.Am
