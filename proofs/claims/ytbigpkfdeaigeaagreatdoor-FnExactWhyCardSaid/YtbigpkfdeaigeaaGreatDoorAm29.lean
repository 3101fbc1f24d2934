/- Walking over a map. No condition. -/
import Derived.Test.YtbigpkfdeaigeaaGreatDoorAm27
import Derived.Test.YtbigpkfdeaigeaaGreatDoorAm28
namespace Go.Am
open Go
set_option linter.unusedSimpArgs false
set_option linter.unusedVariables false

variable {P : Program} {ng : Nat} {κ : Type} {kf : κ → Value}

/-- An iterator over a map: `done`, the places that it has shown. -/
def IterR (kf : κ → Value) (H : Heap) (r m : Nat) (l : List (κ × Value)) (done : List Nat) : Prop :=
  r ≠ m ∧ ∃ es clock, H[m]? = some ⟨.map es clock, true, true⟩ ∧ MapL kf es.toList l ∧ (∀ e ∈ es.toList, e.born < clock) ∧ (es.toList.map (·.born)).Nodup ∧
    ∃ seen : Array Nat, H[r]? = some ⟨.mapIter (some m) clock seen clock, true, true⟩ ∧ seen.toList = done.map (fun i => ((es.toList.map (·.born)).getD i 0)) ∧ ∀ i ∈ done, i < l.length
theorem IterR.fr {H H' : Heap} {r m : Nat} {l : List (κ × Value)} {done : List Nat} (h : IterR kf H r m l done) (h1 : H'[r]? = H[r]?) (h2 : H'[m]? = H[m]?) : IterR kf H' r m l done := by
  obtain ⟨hne, es, c, g1, g2, g3, g4, seen, g5, g6⟩ := h
  exact ⟨hne, es, c, h2.trans g1, g2, g3, g4, seen, h1.trans g5, g6⟩
theorem RangeK.map {H : Heap} {m : Nat} {t kt et : TypeId} {l : List (κ × Value)} {tm : List Value} {d : Option Nat} {k : St → Prop} (hu : P.underlying t = some (.map kt et)) (h : MapR kf H m l)
    (hn : ∀ b, IterR kf (H ++ [b]) H.length m l [] → normT (putT tm d (.pointer (some ⟨H.length, 0, none⟩))) (H ++ [b]) k) : RangeK P ng t (.map (some m)) H tm d k := by
  intro E x' w hx hr
  have hlt := h.lt
  obtain ⟨es, c, hb, hl, hbn, hnd⟩ := h
  cases hx with
  | map he =>
    rename_i l0
    obtain ⟨b0, hb', hlt', ho⟩ := hr.blk _ _ he
    rw [hb] at hb'
    obtain rfl := Option.some.inj hb'
    obtain ⟨es', hw, hbase, hsz, hent⟩ := ho rfl
    refine ⟨.pointer (some ⟨w.heap.size, 0, none⟩), w.alloc (.mapIter (some l0.blk) c #[] c), ?_, _, _, Emb.push E H.length ⟨w.heap.size, 0, 0⟩, hn ⟨.mapIter (some m) c #[] c, true, true⟩ ?_, VR.ptr (l := ⟨w.heap.size, 0, 0⟩) 0 (push_self _ _ _), hr.push _ _ _ fun _ => ⟨some l0.blk, ?_, rfl, VR.map (Emb.push_mono hr _ _ _ he)⟩, by simp, Grow.push hr _ _ _ rfl⟩
    · simp [Instr.range, run_underlying hu, getObj, Sem.run, hw, newObj, alloc_eq]
    · exact ⟨by omega, es, c, (get_ext hlt).trans hb, hl, hbn, hnd, #[], by simp, by simp, by simp⟩
    · show (w.heap.push _)[w.heap.size]? = _
      simp
theorem run_choose {α : Type} {n : Nat} {f : Nat → Sem α} {w : World} (hn : 0 < n) : ∃ i w', i < n ∧ w'.heap = w.heap ∧ w'.os = w.os ∧ w'.tape = w.tape ∧ w'.output = w.output ∧ (do let i ← choose (.mapNext n); f i : Sem α).run P w = (f i).run P w' := by
  by_cases h1 : n ≤ 1
  · exact ⟨0, w, hn, rfl, rfl, rfl, rfl, by simp [choose, Sem.run, Question.forced, h1, Bind.bind, Sem.bind]⟩
  · refine ⟨_, _, ?_, ?_, ?_, ?_, ?_, by simp [choose, Sem.run, Question.forced, h1, Bind.bind, Sem.bind, Question.cut]; rfl⟩
    · exact Nat.mod_lt _ hn
    all_goals rfl
theorem MapL.at {es : List MapEntry} {l : List (κ × Value)} (h : MapL kf es l) : es.length = l.length ∧ ∀ i (hi : i < es.length) (hi' : i < l.length), es[i].key = kf l[i].1 ∧ es[i].val = l[i].2 := by
  have hlen := congrArg List.length h
  simp only [List.length_map] at hlen
  refine ⟨hlen, fun i h1 h2 => ?_⟩
  have := congrArg (fun x => x[i]?) h
  simp [h1, h2] at this
  exact this
def nextF (r m c : Nat) (seen : Array Nat) (cand : Array (Option MapEntry)) (i : Nat) : Sem Value :=
  match cand[i]? with
  | some (some e) => do
    setObj r (.mapIter (some m) c (seen.push e.born) c)
    pure (.tuple #[.bool true, e.key, e.val])
  | some none => pure (.tuple #[.bool false])
  | none => stuck "Next: no such candidate"
theorem NextK.map {H : Heap} {r m : Nat} {l : List (κ × Value)} {done : List Nat} {oty : TypeId} {tm : List Value} {d : Option Nat} {k : St → Prop} (h : IterR kf H r m l done)
    (hn : ∀ i (hi : i < l.length), i ∉ done → ∀ H', IterR kf H' r m l (done ++ [i]) → (∀ j, j ≠ r → H'[j]? = H[j]?) → H'.length = H.length → normT (putT tm d (.tuple #[.bool true, kf l[i].1, l[i].2])) H' k)
    (h0 : (∀ i, i < l.length → i ∈ done) → normT (putT tm d (.tuple #[.bool false])) H k) : NextK P ng false oty (.pointer (some ⟨r, 0, none⟩)) H tm d k := by
  intro E x' w hx hr
  obtain ⟨hne, es, c, hb, hl, hbn, hnd, seen, hit, hseen, hdone⟩ := h
  obtain ⟨hlen, hat⟩ := hl.at
  cases hx with
  | ptr _ he =>
    rename_i lr
    obtain ⟨b0, hb', hltr, ho⟩ := hr.blk _ _ he
    rw [hit] at hb'
    obtain rfl := Option.some.inj hb'
    obtain ⟨m', hwr, hbase, hm'⟩ := ho rfl
    cases hm' with
    | map hem =>
      rename_i lm
      obtain ⟨b1, hb1, hltm, ho1⟩ := hr.blk _ _ hem
      rw [hb] at hb1
      obtain rfl := Option.some.inj hb1
      obtain ⟨es', hwm, hbasem, hsz, hent⟩ := ho1 rfl
      have hborn' : ∀ e' ∈ es', ∃ i, ∃ hi : i < es.toList.length, ∃ hi' : i < es'.size, es'[i] = e' ∧ es'[i].born = es.toList[i].born := by
        intro e' he'
        obtain ⟨i, hi, rfl⟩ := Array.mem_iff_getElem.1 he'
        have hi2 : i < es.size := by omega
        obtain ⟨q1, q2, q3, q4⟩ := hent i hi2 hi
        exact ⟨i, by simpa using hi2, hi, rfl, by simpa using q3⟩
      have hlt' : ∀ e' ∈ es', e'.born < c := fun e' he' => by
        obtain ⟨i, hi, hi', rfl, hbi⟩ := hborn' e' he'
        rw [hbi]
        exact hbn _ (List.getElem_mem hi)
      have hguard : (!seen.isEmpty && !es'.isEmpty && es'.all (fun e => decide (e.born ≥ c))) = false := by
        by_cases hz : es'.size = 0
        · have : es'.isEmpty = true := by simp [Array.isEmpty, hz]
          simp [this]
        · have h1 : es'[0] ∈ es' := Array.getElem_mem _
          have h2 := hlt' _ h1
          have : es'.all (fun e => decide (e.born ≥ c)) = false := by
            rw [Array.all_eq_false]
            exact ⟨0, by omega, by simpa using h2⟩
          rw [this, Bool.and_false]
      obtain ⟨L, hL⟩ : ∃ L, L = es'.filter (fun e => !seen.contains e.born) := ⟨_, rfl⟩
      have hLm : ∀ e, e ∈ L ↔ e ∈ es' ∧ e.born ∉ seen := fun e => by rw [hL, Array.mem_filter]; simp
      have hLo : L.filter (fun e => decide (e.born < c)) = L := by
        rw [Array.filter_eq_self]
        intro e he'
        simpa using hlt' e ((hLm e).1 he').1
      have hLn : L.filter (fun e => decide (e.born ≥ c)) = #[] := by
        rw [Array.filter_eq_empty_iff]
        intro e he'
        simpa using hlt' e ((hLm e).1 he').1
      have hget : ∀ w0 : World, w0.heap = w.heap → (getObj lm.blk).run P w0 = .ok (.map es' c) w0 := fun w0 h0 => by simp [getObj, Sem.run, h0, hwm]
      have hgetr : (getObj lr.blk).run P w = .ok (.mapIter (some lm.blk) c seen c) w := by simp [getObj, Sem.run, hwr]
      have hnx : (Instr.next (.pointer (some ⟨lr.blk, lr.base + 0, none⟩)) false oty).run P w = (do
          let i ← choose (.mapNext ((if L.isEmpty then #[none] else #[]) ++ L.map some).size)
          nextF lr.blk lm.blk c seen ((if L.isEmpty then #[none] else #[]) ++ L.map some) i : Sem Value).run P w := by
        simp only [Instr.next, hbase, Nat.zero_add]
        rw [Sem.run_bind, hgetr, Result.andThen_ok]
        simp only []
        rw [Sem.run_bind, hget w rfl, Result.andThen_ok]
        simp only [hguard, ← hL, hLo, hLn, Array.append_empty]
        rfl
      have hbi : ∀ i (hi : i < l.length), (es.toList.map (·.born)).getD i 0 = (es.toList[i]'(by omega)).born := fun i hi => by
        rw [List.getD_eq_getElem?_getD, List.getElem?_eq_getElem (by simp; simpa using (show i < es.toList.length by omega))]
        simp
      have hes : es.size = l.length := by simpa using hlen
      have hsm : ∀ b, b ∈ seen ↔ b ∈ seen.toList := fun b => by simp
      show ∃ v' w', (Instr.next (.pointer (some ⟨lr.blk, lr.base + 0, none⟩)) false oty).run P w = .ok v' w' ∧ _
      rw [hnx]
      by_cases hem0 : L = #[]
      · subst hem0
        have hall : ∀ i, i < l.length → i ∈ done := by
          intro i hi
          have hi2 : i < es.size := by simpa using (show i < es.toList.length by omega)
          have hi' : i < es'.size := by omega
          obtain ⟨q1, q2, q3, q4⟩ := hent i hi2 hi'
          have h1 : es'[i].born ∈ seen := by
            refine Decidable.byContradiction fun hc => ?_
            have := (hLm es'[i]).2 ⟨Array.getElem_mem _, hc⟩
            simp at this
          rw [hsm, hseen] at h1
          obtain ⟨j, hj, hjb⟩ := List.mem_map.1 h1
          have hjl := hdone j hj
          rw [hbi j hjl, q3] at hjb
          have : j = i := by
            refine Decidable.byContradiction fun hne' => ?_
            have hp := List.pairwise_iff_getElem.1 hnd
            rcases Nat.lt_or_gt_of_ne hne' with hlt | hlt
            · exact hp j i (by simp; omega) (by simpa using hi2) hlt (by simpa using hjb)
            · exact hp i j (by simpa using hi2) (by simp; omega) hlt (by simpa using hjb.symm)
          exact this ▸ hj
        obtain ⟨i, w1, hi, e1, e2, e3, e4, hc⟩ := run_choose (P := P) (w := w) (n := ((if (#[] : Array MapEntry).isEmpty then #[none] else #[]) ++ (#[] : Array MapEntry).map some).size) (f := fun i => nextF lr.blk lm.blk c seen ((if (#[] : Array MapEntry).isEmpty then #[none] else #[]) ++ (#[] : Array MapEntry).map some) i) (by simp)
        rw [hc]
        obtain rfl : i = 0 := by simpa using hi
        exact ⟨.tuple #[.bool false], w1, by simp [nextF, Sem.run_pure], _, _, E, h0 hall, .tuple rfl fun i h1 _ => by
          obtain rfl : i = 0 := by simpa using h1
          exact .bool false, hr.same e1, Nat.le_refl _, ⟨fun _ _ => rfl, e2, e3, e4, by rw [e1]; exact Nat.le_refl _, fun b _ _ => by rw [e1], fun id l bl h1 h2 h3 h4 _ => ⟨id, l, bl, h1, h2, h3, h4, rfl⟩⟩⟩
      · have hempty : L.isEmpty = false := by
          rw [Bool.eq_false_iff]
          intro h
          exact hem0 (Array.isEmpty_iff.1 h)
        have hsz0 : 0 < L.size := by
          rcases Nat.eq_zero_or_pos L.size with h | h
          · exact absurd (Array.eq_empty_of_size_eq_zero h) hem0
          · exact h
        obtain ⟨i, w1, hi, e1, e2, e3, e4, hc⟩ := run_choose (P := P) (w := w) (n := ((if L.isEmpty then #[none] else #[]) ++ L.map some).size) (f := fun i => nextF lr.blk lm.blk c seen ((if L.isEmpty then #[none] else #[]) ++ L.map some) i) (by simp [hempty, hsz0])
        rw [hc]
        simp only [hempty, Bool.false_eq_true, if_false, Array.empty_append, Array.size_map] at hi ⊢
        have hci : (L.map some)[i]? = some (some L[i]) := by simp [hi]
        simp only [nextF, hci]
        have hmem := (hLm L[i]).1 (Array.getElem_mem hi)
        generalize L[i] = e0 at *
        obtain ⟨p, hp, hp', rfl, hpb⟩ := hborn' e0 hmem.1
        have hpl : p < l.length := by omega
        have hp2 : p < es.size := by simpa using hp
        obtain ⟨q1, q2, q3, q4⟩ := hent p hp2 hp'
        obtain ⟨a1, a2⟩ := hat p hp hpl
        have hpd : p ∉ done := fun hd => hmem.2 (by
          rw [hsm, hseen, hpb]
          exact List.mem_map.2 ⟨p, hd, hbi p hpl⟩)
        have hset := run_setObj (P := P) (w := w1) (r := lr.blk) (o := .mapIter (some lm.blk) c (seen.push es'[p].born) c) (by rw [e1]; exact hwr) (fun c e f => by simp)
        refine ⟨.tuple #[.bool true, es'[p].key, es'[p].val], _, by rw [Sem.run_bind, hset, Result.andThen_ok]; rfl, .tuple #[.bool true, kf l[p].1, l[p].2], H.set r ⟨.mapIter (some m) c (seen.push es'[p].born) c, true, true⟩, E, hn p hpl hpd _ ?_ (fun j hj => List.getElem?_set_ne (Ne.symm hj)) (by simp), ?_, ?_, by simp, ?_⟩
        · refine ⟨hne, es, c, (List.getElem?_set_ne hne).trans hb, hl, hbn, hnd, seen.push es'[p].born, List.getElem?_set_self (List.getElem?_eq_some_iff.1 hit).1, ?_, ?_⟩
          · simp only [Array.toList_push, List.map_append, List.map_cons, List.map_nil, hseen, hbi p hpl, hpb]
          · intro i hi
            rcases List.mem_append.1 hi with h | h
            · exact hdone i h
            · obtain rfl : i = p := by simpa using h
              exact hpl
        · refine .tuple rfl fun i h1 h2 => ?_
          have e5 : es.toList[p] = es[p] := by simp
          rw [e5] at a1 a2
          rw [← a1, ← a2]
          match i, h1, h2 with
          | 0, _, _ => exact .bool true
          | 1, _, _ =>
            show VR E es[p].key es'[p].key
            rw [q2]
            exact VR.refl E q1
          | 2, _, _ => exact q4
        · refine (hr.same e1).set he hit rfl rfl (by simp) (fun k hk => by simp [Array.getElem?_setIfInBounds, Ne.symm hk]) rfl fun _ => ⟨some lm.blk, ?_, hbase, VR.map hem⟩
          have : lr.blk < w1.heap.size := by rw [e1]; exact hltr
          simp [Array.getElem?_setIfInBounds, this]
        · exact Grow.set _ he hit rfl rfl (by simp [e1]) (fun k hk => by simp [Array.getElem?_setIfInBounds, Ne.symm hk, e1]) e2 e3 e4
theorem EntryK.map {H : Heap} {r m : Nat} {l : List (κ × Value)} {done : List Nat} {i : Nat} (hi : i < l.length) {tm : List Value} {d : Option Nat} {k : St → Prop} (h : IterR kf H r m l (done ++ [i]))
    (hn : normT (putT tm d (.tuple #[kf l[i].1, l[i].2])) H k) : EntryK P ng (.pointer (some ⟨r, 0, none⟩)) H tm d k := by
  intro E x' w hx hr
  obtain ⟨hne, es, c, hb, hl, hbn, hnd, seen, hit, hseen, hdone⟩ := h
  obtain ⟨hlen, hat⟩ := hl.at
  cases hx with
  | ptr _ he =>
    rename_i lr
    obtain ⟨b0, hb', hltr, ho⟩ := hr.blk _ _ he
    rw [hit] at hb'
    obtain rfl := Option.some.inj hb'
    obtain ⟨m', hwr, hbase, hm'⟩ := ho rfl
    cases hm' with
    | map hem =>
      rename_i lm
      obtain ⟨b1, hb1, hltm, ho1⟩ := hr.blk _ _ hem
      rw [hb] at hb1
      obtain rfl := Option.some.inj hb1
      obtain ⟨es', hwm, hbasem, hsz, hent⟩ := ho1 rfl
      have hes : es.size = l.length := by simpa using hlen
      have hi2 : i < es.size := by omega
      have hi' : i < es'.size := by omega
      obtain ⟨q1, q2, q3, q4⟩ := hent i hi2 hi'
      obtain ⟨a1, a2⟩ := hat i (by simpa using hi2) hi
      have e5 : es.toList[i]'(by simpa using hi2) = es[i] := by simp
      rw [e5] at a1 a2
      have hback : seen.back? = some es'[i].born := by
        rw [← Array.getLast?_toList, hseen, List.map_append, List.map_cons, List.map_nil, List.getLast?_append]
        simp only [List.getLast?_singleton, Option.some_or]
        rw [List.getD_eq_getElem?_getD, List.getElem?_eq_getElem (by simpa using hi2)]
        simp [q3]
      have hfind : es'.find? (fun e => e.born == es'[i].born) = some es'[i] := by
        rw [Array.find?_eq_some_iff_getElem]
        refine ⟨by simp, i, hi', rfl, fun j hj => ?_⟩
        have hj2 : j < es.size := by omega
        obtain ⟨p1, p2, p3, p4⟩ := hent j hj2 (by omega)
        have hp := List.pairwise_iff_getElem.1 hnd j i (by simpa using hj2) (by simpa using hi2) hj
        simp only [List.getElem_map, Array.getElem_toList] at hp
        simp only [Bool.not_eq_true', beq_eq_false_iff_ne, ne_eq, p3, q3]
        exact hp
      have hgetr : (getObj lr.blk).run P w = .ok (.mapIter (some lm.blk) c seen c) w := by simp [getObj, Sem.run, hwr]
      have hgetm : (getObj lm.blk).run P w = .ok (.map es' c) w := by simp [getObj, Sem.run, hwm]
      refine ⟨.tuple #[es'[i].key, es'[i].val], w, ?_, _, _, E, hn, .tuple rfl fun j h1 h2 => ?_, hr, Nat.le_refl _, Grow.refl _ _ _ _⟩
      · simp only [Instr.entry, hbase, Nat.zero_add]
        rw [Sem.run_bind, hgetr, Result.andThen_ok]
        simp only [hback]
        rw [Sem.run_bind, hgetm, Result.andThen_ok]
        simp [hfind, Sem.run_pure]
      · rw [← a1, ← a2]
        match j, h1, h2 with
        | 0, _, _ =>
          show VR E es[i].key es'[i].key
          rw [q2]
          exact VR.refl E q1
        | 1, _, _ => exact q4
end Go.Am
