/- A region that draws its order is shown in the text's order. No condition. -/
import Derived.Test.YtbigpkfdeaigeaaDoorAm16
namespace Go.Am
open Go
set_option linter.unusedSimpArgs false
set_option linter.unusedVariables false

variable {P : Program} {ng : Nat}

theorem opsc_steps {n : Nat} {ops : Array Oper} : ∀ (l : List Oper) (s : St) (K : St → Prop), opsc P ng n (dsts ops.toList) l s K → ∀ (E : Emb) (a : Act) (w : World) (R : Act → World → Prop), RelT E s.tm a → Rel ng E s.hp w → ng ≤ n → n ≤ s.hp.length →
    (∀ s' E' a' w', K s' → RelT E' s'.tm a' → Rel ng E' s'.hp w' → n ≤ s'.hp.length → Grow n E s.hp w E' s'.hp w' → R a' w') → stepL P ops R l a w
  | [], s, K, h, E, a, w, R, h1, h2, h3, h4, hq => hq s E a w h h1 h2 h4 (Grow.refl _ _ _ _)
  | o :: l, s, K, h, E, a, w, R, h1, h2, h3, h4, hq => by
    unfold opsc at h
    unfold wantA at h
    split at h
    · rename_i b hw
      cases b with
      | false =>
        have hw' : Region.wanted o (yielded ops a.tmps) = false := awant_real hw h1
        show stepC P ops o R (stepL P ops R l) a w
        rw [stepC_off hw']
        exact opsc_steps l _ K h E _ w R (h1.put o.dst .skipped) h2 h3 h4 hq
      | true =>
        have hw' : Region.wanted o (yielded ops a.tmps) = true := awant_real hw h1
        simp only [ifA] at h
        show stepC P ops o R (stepL P ops R l) a w
        split at h
        · rename_i fo args ts hop
          have hk : kindOf P o = 2 := by simp [kindOf, hop]
          unfold goC at h
          split at h
          · rename_i f caps hc
            obtain ⟨⟨fn, q1, q2, q3⟩, hac⟩ := h
            rw [stepC_event (by omega) (by omega), if_pos hw']
            have hv : ∀ x, VR E (s.ev ng x) (a.eval x) := fun x => h1.ev h2 x
            have hfo := hv fo
            obtain ⟨caps', hfo', hcaps⟩ : ∃ caps', a.eval fo = .func (.func f) #[] caps' ∧ VRs E caps caps' := by
              unfold callee? at hc
              split at hc
              · rename_i g first cs hg
                split at hc
                · rename_i hfe
                  obtain ⟨rfl, rfl⟩ := Prod.mk.inj (Option.some.inj hc)
                  have : first = #[] := Array.isEmpty_iff.1 hfe
                  subst this
                  rw [hg] at hfo
                  generalize a.eval fo = q at hfo
                  cases hfo with
                  | func fn hs hh => exact ⟨_, rfl, by simpa using hs, fun i a b => by simpa using hh i (by simpa using a) b⟩
                · cases hc
              · cases hc
            have hargs : VRs E (args.toList.map (s.ev ng)) (args.map a.eval) := ⟨by simp, fun i x y => by
              simp only [List.getElem_map, Array.getElem_map, Array.getElem_toList]
              exact hv _⟩
            have hcall := hac E (args.map a.eval ++ caps') w (hargs.append hcaps) h2 (by omega)
            have hbn : ¬ fn.body = none := by intro e; simp [e] at q3
            have hnn : ¬ fn.name = "runtime.NumGoroutine" := by simpa using q2
            have hrun : (execOp a.eval o).run P w = .ok (.enter f (args.map a.eval ++ caps')) w := by
              simp [execOp, hop, resolve, Deferred.ofValue, hfo', invoke, callFunc, q1, hnn, hbn]
            unfold Oper.wp
            rw [hrun]
            refine hcall.mono ?_
            rintro e w' ⟨v, v', S', E', rfl, hk2, hvv, hr, hlen, hg⟩
            have hm : ∀ id l0, E id = some l0 → E' id = some l0 := fun id l0 he => by rw [hg.keep id (h2.lt he)]; exact he
            have hT := (h1.mono hm).put o.dst hvv
            exact opsc_steps l _ K hk2 E' (a.put o.dst v') w' R hT hr h3 (by show n ≤ S'.length; omega) fun s' E2 a2 w2 k t r len g => hq s' E2 a2 w2 k t r len (Grow.trans (m := n) (Nat.le_refl _) ⟨fun id hid => hg.keep id (by omega), hg.os, hg.tape, hg.output, hg.size, hg.frame, hg.owned⟩ g)
          · exact h.elim
        · rename_i t x hop
          have hk : kindOf P o = 2 := by simp [kindOf, hop]
          rw [stepC_event (by omega) (by omega), if_pos hw']
          obtain ⟨v', w', hr, v, S', E', hK, hv, hR, hlen, hg⟩ := h E (a.eval x) w (h1.ev h2 x) h2
          have hrun : (execOp a.eval o).run P w = .ok (.value v') w' := by simp [execOp, hop, hr]
          have hm : ∀ id l0, E id = some l0 → E' id = some l0 := fun id l0 he => by rw [hg.keep id (h2.lt he)]; exact he
          have hT := (h1.mono hm).put o.dst hv
          have key := opsc_steps l _ K hK E' (a.put o.dst v') w' R hT hR h3 (by show n ≤ S'.length; omega) fun s' E2 a2 w2 k t r len g => hq s' E2 a2 w2 k t r len (Grow.trans (m := n) (Nat.le_refl _) ⟨fun id hid => hg.keep id (by omega), hg.os, hg.tape, hg.output, hg.size, hg.frame, hg.owned⟩ g)
          unfold Oper.wp
          rw [hrun]
          exact key
        · rename_i x b hop
          have hk : kindOf P o = 2 := by simp [kindOf, hop]
          rw [stepC_event (by omega) (by omega), if_pos hw']
          obtain ⟨v', w', hr, v, S', E', hK, hv, hR, hlen, hg⟩ := h E (a.eval x) w (h1.ev h2 x) h2
          have hrun : (execOp a.eval o).run P w = .ok (.value v') w' := by simp [execOp, hop, hr]
          have hm : ∀ id l0, E id = some l0 → E' id = some l0 := fun id l0 he => by rw [hg.keep id (h2.lt he)]; exact he
          have hT := (h1.mono hm).put o.dst hv
          have key := opsc_steps l _ K hK E' (a.put o.dst v') w' R hT hR h3 (by show n ≤ S'.length; omega) fun s' E2 a2 w2 k t r len g => hq s' E2 a2 w2 k t r len (Grow.trans (m := n) (Nat.le_refl _) ⟨fun id hid => hg.keep id (by omega), hg.os, hg.tape, hg.output, hg.size, hg.frame, hg.owned⟩ g)
          unfold Oper.wp
          rw [hrun]
          exact key
        · rename_i x hop
          have hk : kindOf P o = 2 := by simp [kindOf, hop]
          rw [stepC_event (by omega) (by omega), if_pos hw']
          obtain ⟨v', w', hr, v, S', E', hK, hv, hR, hlen, hg⟩ := h E (a.eval x) w (h1.ev h2 x) h2
          have hrun : (execOp a.eval o).run P w = .ok (.value v') w' := by simp [execOp, hop, hr]
          have hm : ∀ id l0, E id = some l0 → E' id = some l0 := fun id l0 he => by rw [hg.keep id (h2.lt he)]; exact he
          have hT := (h1.mono hm).put o.dst hv
          have key := opsc_steps l _ K hK E' (a.put o.dst v') w' R hT hR h3 (by show n ≤ S'.length; omega) fun s' E2 a2 w2 k t r len g => hq s' E2 a2 w2 k t r len (Grow.trans (m := n) (Nat.le_refl _) ⟨fun id hid => hg.keep id (by omega), hg.os, hg.tape, hg.output, hg.size, hg.frame, hg.owned⟩ g)
          unfold Oper.wp
          rw [hrun]
          exact key
        · unfold goH at h
          split at h
          · rename_i v S' ha
            by_cases hk0 : kindOf P o = 0
            · obtain ⟨rfl, v', hrun, hv⟩ := aop_pure ha h1 h2 hk0
              rw [stepC_pure hw' hk0]
              exact ⟨v', hrun, opsc_steps l _ K h E _ w R (h1.put o.dst hv) h2 h3 h4 hq⟩
            · by_cases hk1 : kindOf P o = 1
              · obtain ⟨rfl, v', hrun, hv⟩ := aop_read ha h1 h2 hk1
                rw [stepC_read hw' hk1]
                exact ⟨v', hrun, opsc_steps l _ K h E _ w R (h1.put o.dst hv) h2 h3 h4 hq⟩
              · rw [stepC_event hk0 hk1, if_pos hw']
                obtain ⟨nx, v', E', w', hrun, hnx, hr, hv, hg⟩ := aop_sound ha h1 h2
                have hm : ∀ id l0, E id = some l0 → E' id = some l0 := fun id l0 he => by rw [hg.keep id (h2.lt he)]; exact he
                have hT := (h1.mono hm).put o.dst hv
                have hlen := aop_len ha
                have key := opsc_steps l _ K h E' (a.put o.dst v') w' R hT hr h3 (by show n ≤ S'.length; omega) fun s' E2 a2 w2 k t r len g => hq s' E2 a2 w2 k t r len (Grow.trans (m := n) (Nat.le_refl _) ⟨fun id hid => hg.keep id (by omega), hg.os, hg.tape, hg.output, hg.size, hg.frame, hg.owned⟩ g)
                unfold Oper.wp
                rw [hrun]
                rcases hnx with rfl | ⟨rfl, rfl⟩
                · exact key
                · exact key
          · exact h.elim
    · exact h.elim

theorem stepI_of_L {ops : Array Oper} {R : Act → World → Prop} : ∀ (l : List Oper) (k : Nat), (∀ i o, l[i]? = some o → ops[k + i]? = some o) → ∀ a w, stepL P ops R l a w → stepI P ops R (List.range' k l.length) a w
  | [], k, _, a, w, h => h
  | o :: l, k, hl, a, w, h => by
    have h0 := hl 0 o (by simp)
    simp only [List.length_cons, List.range'_succ, stepI]
    rw [show ops[k]? = some o from by simpa using h0]
    refine stepC_mono (fun a w => stepI_of_L l (k + 1) (fun i o' h => ?_) a w) h
    have := hl (i + 1) o' (by simpa using h)
    simpa [Nat.add_assoc, Nat.add_comm 1 i] using this

/-- A region that draws its order, in the text's order. -/
theorem AW.draw {n id : Nat} {l : List Oper} {s : St} {Q : Exit → St → Prop} (hm : P.follows .mixedOrders = true) (hp : plain P l = true) (h : opsc P ng n (dsts l) l s (Q .normal)) :
    AW P ng n (.region id l.toArray true) s Q := by
  intro E a w h1 h2 h3 h4
  have hst := opsc_steps (P := P) (ng := ng) (ops := l.toArray) l s (Q .normal) h E a { w with drawn := w.drawn + 1 } (fun a' w' => ∃ s' E', Q .normal s' ∧ RelT E' s'.tm a' ∧ Rel ng E' s'.hp w' ∧ n ≤ s'.hp.length ∧ Grow n E s.hp w E' s'.hp w') h1 (h2.same rfl) h3 h4
    (fun s' E' a' w' k t r len g => ⟨s', E', k, t, r, len, ⟨g.keep, g.os, g.tape, g.output, g.size, g.frame, g.owned⟩⟩)
  have hst2 := stepI_of_L l 0 (fun i o h => by simpa using h) _ _ hst
  have := any_of_text hp l.length (List.range' 0 l.length) (Array.replicate l.length false) a _ (by simp) (by simp) (fun i => by
    simp only [List.mem_range'_1, Nat.zero_le, Nat.zero_add, true_and]
    by_cases hi : i < l.length
    · simp [hi]
    · simp [hi]) (by exact List.pairwise_lt_range') (fun i o ho hi => by
    by_cases hlt : i < l.length
    · simp [hlt] at hi
    · simp [hlt] at hi) hst2
  have hsz : l.toArray.size = l.length := by simp
  rw [← hsz] at this
  refine wp_mono (wp_region_any hm (by rw [hsz]; rw [hsz] at this; exact this)) ?_
  rintro e a' w' ⟨rfl, s', E', hh⟩
  exact ⟨s', E', hh⟩

end Go.Am
