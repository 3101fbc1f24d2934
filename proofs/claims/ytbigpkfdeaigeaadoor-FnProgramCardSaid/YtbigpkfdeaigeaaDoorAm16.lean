/- The rule for a region that draws its order. No condition. -/
import Derived.Test.YtbigpkfdeaigeaaDoorAm15
namespace Go.Am
open Go
set_option linter.unusedSimpArgs false
set_option linter.unusedVariables false

variable {P : Program} {ng : Nat}

theorem valueP {m : Sem Value} {v' : Value} (h : ∀ w', m.run P w' = .ok v' w') (w' : World) : ((do let x ← m; pure (.value x)) : Sem Next).run P w' = .ok (.value v') w' := by simp [h w']

/-- An operation that looks at its slots alone does the same in every world. -/
theorem aop_pure {E : Emb} {w : World} {s : St} {a : Act} {o : Oper} {v : Value} {S' : Heap} (h : aop P ng s o = some (v, S')) (hT : RelT E s.tm a) (hr : Rel ng E s.hp w) (hk : kindOf P o = 0) :
    S' = s.hp ∧ ∃ v', (∀ w', (execOp a.eval o).run P w' = .ok (.value v') w') ∧ VR E v v' := by
  have hv : ∀ x, VR E (s.ev ng x) (a.eval x) := fun x => hT.ev hr x
  obtain ⟨dst, op, ty, pos, after, guard⟩ := o
  cases op with
  | move x =>
    simp only [aop, Option.some.injEq, Prod.mk.injEq] at h
    obtain ⟨rfl, rfl⟩ := h
    exact ⟨rfl, _, fun _ => rfl, hv x⟩
  | assign x =>
    simp only [aop, Option.some.injEq, Prod.mk.injEq] at h
    obtain ⟨rfl, rfl⟩ := h
    exact ⟨rfl, _, fun _ => rfl, hv x⟩
  | pick c x y =>
    simp only [aop, Option.map_eq_some_iff] at h
    obtain ⟨u, hu, h2⟩ := h
    obtain ⟨rfl, rfl⟩ := Prod.mk.inj h2
    unfold pick? at hu
    split at hu
    · rename_i t ht
      obtain rfl := Option.some.inj hu
      have hc := hv c
      rw [ht] at hc
      cases hcc : a.eval c <;> rw [hcc] at hc <;> cases hc
      refine ⟨rfl, if t then a.eval x else a.eval y, fun w' => by simp [execOp, hcc, asBool], ?_⟩
      cases t
      · exact hv y
      · exact hv x
    · cases hu
  | build t ps =>
    simp only [aop, Option.map_eq_some_iff] at h
    obtain ⟨u, hu, h2⟩ := h
    obtain ⟨rfl, rfl⟩ := Prod.mk.inj h2
    obtain ⟨hs, hp⟩ := parts_vr hv ps
    obtain ⟨v', h1, h2⟩ := build_run hu hs hp
    exact ⟨rfl, v', fun w' => valueP h1 w', h2⟩
  | nilCheck x =>
    simp only [aop, Option.map_eq_some_iff] at h
    obtain ⟨u, hu, h2⟩ := h
    obtain ⟨rfl, rfl⟩ := Prod.mk.inj h2
    have hx := hv x
    unfold nilCheck? at hu
    split at hu
    · rename_i ad hp
      obtain rfl := Option.some.inj hu
      rw [hp] at hx
      generalize hax : a.eval x = ax at hx
      have hx0 := hx
      cases hx with
      | ptr off he => exact ⟨rfl, _, fun w' => by simp [execOp, hax], hx0⟩
    · rename_i f first c hp
      split at hu
      · rename_i hf
        obtain rfl := Option.some.inj hu
        have : first = #[] := Array.isEmpty_iff.1 hf
        subst this
        rw [hp] at hx
        generalize hax : a.eval x = ax at hx
        have hx0 := hx
        cases hx with
        | func fn hs hh => exact ⟨rfl, _, fun w' => by simp [execOp, hax], hx0⟩
      · cases hu
    · cases hu
  | binOp op t x y ty =>
    simp only [aop, Option.map_eq_some_iff] at h
    obtain ⟨u, hu, h2⟩ := h
    obtain ⟨rfl, rfl⟩ := Prod.mk.inj h2
    exact ⟨rfl, u, fun w' => valueP (fun w2 => (bin_run hu (hv x) (hv y) w2).1) w', (bin_run hu (hv x) (hv y) w).2⟩
  | unOp op t x =>
    simp only [aop, Option.map_eq_some_iff] at h
    obtain ⟨u, hu, h2⟩ := h
    obtain ⟨rfl, rfl⟩ := Prod.mk.inj h2
    unfold un? at hu
    split at hu
    · rename_i hf
      have := (hv x).eq hf
      rw [← this] at hu
      exact ⟨rfl, u, fun w' => valueP (fun w2 => (purF_run hu w2).1) w', VR.refl E (purF_run hu w).2⟩
    · cases hu
  | convert c d x =>
    simp only [aop] at h
    unfold conv? at h
    split at h
    · rename_i e hs hd; simp [kindOf, hs, hd] at hk
    · rename_i e hs hd; simp [kindOf, hs, hd] at hk
    · rename_i d1 d2 hne1 hne2 hs hd
      split at h
      · rename_i hf
        simp only [Option.map_eq_some_iff] at h
        obtain ⟨u, hu, h2⟩ := h
        obtain ⟨rfl, rfl⟩ := Prod.mk.inj h2
        have := (hv x).eq hf
        rw [← this] at hu
        exact ⟨rfl, u, fun w' => valueP (fun w2 => (purF_run hu w2).1) w', VR.refl E (purF_run hu w).2⟩
      · cases h
    · cases h
  | makeInterface t x =>
    simp only [aop, Option.map_eq_some_iff] at h
    obtain ⟨u, hu, h2⟩ := h
    obtain ⟨rfl, rfl⟩ := Prod.mk.inj h2
    unfold mkIface? at hu
    split at hu
    · cases hu
    · rename_i d hne hud
      split at hu
      · obtain rfl := Option.some.inj hu
        refine ⟨rfl, .iface t (a.eval x), fun w' => valueP (fun w2 => ?_) w', .iface t (hv x)⟩
        cases d <;> first | (simp [Instr.makeInterface, run_underlying hud]; done) | exact absurd rfl (hne _)
      · cases hu
    · cases hu
  | makeFunc fn first cap =>
    simp only [aop, Option.map_eq_some_iff] at h
    obtain ⟨u, hu, h2⟩ := h
    obtain ⟨rfl, rfl⟩ := Prod.mk.inj h2
    unfold mkFunc? at hu
    split at hu
    · rename_i hf
      obtain rfl := Option.some.inj hu
      have : first = #[] := Array.isEmpty_iff.1 hf
      subst this
      refine ⟨rfl, .func fn #[] (cap.map a.eval), fun w' => valueP (fun w2 => by simp [Instr.makeFunc]) w', .func fn (by simp) fun i h1 h2 => ?_⟩
      simp only [Array.getElem_map]
      exact hv _
    · cases hu
  | slice t x lo hi mx =>
    simp only [aop, Option.map_eq_some_iff] at h
    obtain ⟨u, hu, h2⟩ := h
    obtain ⟨rfl, rfl⟩ := Prod.mk.inj h2
    obtain ⟨v', h1, h2⟩ := slice_run hu (hv x) (VRo.map hv lo) (VRo.map hv hi) (VRo.map hv mx)
    exact ⟨rfl, v', fun w' => valueP h1 w', h2⟩
  | fieldAddr t x f =>
    simp only [aop, Option.map_eq_some_iff] at h
    obtain ⟨u, hu, h2⟩ := h
    obtain ⟨rfl, rfl⟩ := Prod.mk.inj h2
    obtain ⟨v', h1, h2⟩ := fieldAddr_run hu (hv x)
    exact ⟨rfl, v', fun w' => valueP h1 w', h2⟩
  | field t x f =>
    simp only [aop, Option.map_eq_some_iff] at h
    obtain ⟨u, hu, h2⟩ := h
    obtain ⟨rfl, rfl⟩ := Prod.mk.inj h2
    obtain ⟨v', h1, h2⟩ := field_run hu (hv x)
    exact ⟨rfl, v', fun w' => valueP h1 w', h2⟩
  | indexAddr t x i =>
    simp only [aop, Option.map_eq_some_iff] at h
    obtain ⟨u, hu, h2⟩ := h
    obtain ⟨rfl, rfl⟩ := Prod.mk.inj h2
    obtain ⟨v', h1, h2⟩ := indexAddr_run hu (hv x) (hv i)
    exact ⟨rfl, v', fun w' => valueP h1 w', h2⟩
  | index t x i =>
    simp only [aop, Option.map_eq_some_iff] at h
    obtain ⟨u, hu, h2⟩ := h
    obtain ⟨rfl, rfl⟩ := Prod.mk.inj h2
    obtain ⟨v', h1, h2⟩ := index_run hu (hv x) (hv i)
    exact ⟨rfl, v', fun w' => valueP h1 w', h2⟩
  | extract x i =>
    simp only [aop, Option.map_eq_some_iff] at h
    obtain ⟨u, hu, h2⟩ := h
    obtain ⟨rfl, rfl⟩ := Prod.mk.inj h2
    have hx := hv x
    unfold extract? at hu
    split at hu
    · rename_i vs hp
      split at hu
      · rename_i h2v
        rw [hp] at hx
        generalize hax : a.eval x = ax at hx
        cases hx with
        | any v => simp [isOver] at h2v
        | skipped => simp [isOver] at h2v
        | tuple hs hh =>
          obtain ⟨hi, rfl⟩ := Array.getElem?_eq_some_iff.1 hu
          rename_i ys
          exact ⟨rfl, ys[i]'(by omega), fun w' => by simp [execOp, hax, Instr.extract, Array.getElem?_eq_getElem (show i < ys.size by omega)], hh i hi (by omega)⟩
      · cases hu
    · cases hu
  | call c =>
    obtain ⟨callee, args, argTypes⟩ := c
    cases callee with
    | value f => simp [aop] at h
    | invoke r n => simp [aop] at h
    | builtin b =>
      simp only [aop] at h
      unfold builtin? at h
      split at h
      · rename_i t x ht hx
        simp only [Option.map_eq_some_iff] at h
        obtain ⟨u, hu, h2⟩ := h
        obtain ⟨rfl, rfl⟩ := Prod.mk.inj h2
        obtain ⟨y, hy, rfl⟩ := one_arg hx
        have e1 : argTypes = #[t] := by apply Array.ext'; simpa using ht
        have e2 : args = #[y] := by apply Array.ext'; simpa using hy
        subst e1 e2
        have hnm : ∀ k e, P.underlying t ≠ some (.map k e) := by
          intro k e he
          simp [kindOf, he] at hk
        refine ⟨rfl, u, fun w' => ?_, (len_run (ty := ty) hu hr (hv y)).2⟩
        have h1 : (Builtin.len_ #[t] ty #[a.eval y]).run P w' = .ok u w' := by
          have hvy := hv y
          generalize a.eval y = yv at hvy
          unfold len? at hu
          split at hu
          · rename_i s hun hes
            obtain rfl := Option.some.inj hu
            rw [hes] at hvy; cases hvy
            simp [Builtin.len_, run_underlying hun, goInt]
          · rename_i e ad n c hun hes
            obtain rfl := Option.some.inj hu
            rw [hes] at hvy
            cases hvy <;> simp [Builtin.len_, run_underlying hun, goInt]
          · rename_i k e hun hes; exact absurd hun (hnm _ _)
          · rename_i k e id hun hes; exact absurd hun (hnm _ _)
          · cases hu
        simp [execOp, resolve, invoke, builtin, h1]
      · simp [kindOf] at hk
      · simp [kindOf] at hk
      · split at h
        · rename_i hf
          simp only [Option.map_eq_some_iff] at h
          obtain ⟨u, hu, h2⟩ := h
          obtain ⟨rfl, rfl⟩ := Prod.mk.inj h2
          have e := list_flat hv args.toList hf
          rw [← e] at hu
          have e3 : (args.toList.map a.eval).toArray = args.map a.eval := by apply Array.ext'; simp
          have e4 : argTypes.toList.toArray = argTypes := by simp
          rw [e3, e4] at hu
          exact ⟨rfl, u, fun w' => by simp [execOp, resolve, invoke, builtin, (purF_run hu w').1], VR.refl E (purF_run hu w).2⟩
        · cases h
      · split at h
        · rename_i hf
          simp only [Option.map_eq_some_iff] at h
          obtain ⟨u, hu, h2⟩ := h
          obtain ⟨rfl, rfl⟩ := Prod.mk.inj h2
          have e := list_flat hv args.toList hf
          rw [← e] at hu
          have e3 : (args.toList.map a.eval).toArray = args.map a.eval := by apply Array.ext'; simp
          have e4 : argTypes.toList.toArray = argTypes := by simp
          rw [e3, e4] at hu
          exact ⟨rfl, u, fun w' => by simp [execOp, resolve, invoke, builtin, (purF_run hu w').1], VR.refl E (purF_run hu w).2⟩
        · cases h
      · cases h
  | _ => first | (simp [aop] at h; done) | (simp [kindOf] at hk; done)

/-- An operation that reads leaves the world as it was. -/
theorem aop_read {E : Emb} {w : World} {s : St} {a : Act} {o : Oper} {v : Value} {S' : Heap} (h : aop P ng s o = some (v, S')) (hT : RelT E s.tm a) (hr : Rel ng E s.hp w) (hk : kindOf P o = 1) :
    S' = s.hp ∧ ∃ v', (execOp a.eval o).run P w = .ok (.value v') w ∧ VR E v v' := by
  have hv : ∀ x, VR E (s.ev ng x) (a.eval x) := fun x => hT.ev hr x
  obtain ⟨dst, op, ty, pos, after, guard⟩ := o
  cases op with
  | load t x =>
    simp only [aop, Option.map_eq_some_iff] at h
    obtain ⟨u, hu, h2⟩ := h
    obtain ⟨rfl, rfl⟩ := Prod.mk.inj h2
    obtain ⟨v', h1, h2⟩ := load_run hu hr (hv x)
    exact ⟨rfl, v', by simp [execOp, h1], h2⟩
  | lookup t m k ok =>
    simp only [aop, Option.map_eq_some_iff] at h
    obtain ⟨u, hu, h2⟩ := h
    obtain ⟨rfl, rfl⟩ := Prod.mk.inj h2
    obtain ⟨v', h1, h2⟩ := lookup_run hu hr (hv m) (hv k)
    exact ⟨rfl, v', by simp [execOp, h1], h2⟩
  | convert c d x =>
    simp only [aop] at h
    have hh := conv_run h hr (hv x)
    unfold conv? at h
    split at h
    · rename_i e hs hd; simp [kindOf, hs, hd] at hk
    · rename_i e hs hd
      have hS : S' = s.hp := by
        split at h
        · exact (Prod.mk.inj (Option.some.inj h)).2.symm
        · split at h
          · split at h
            · split at h
              · exact (Prod.mk.inj (Option.some.inj h)).2.symm
              · cases h
            · cases h
          · cases h
        · cases h
      subst hS
      refine ⟨rfl, ?_⟩
      obtain ⟨v', E', w', h1, h2, h3, h4⟩ := hh
      have hf : flat v = true := by
        split at h
        · obtain ⟨rfl, -⟩ := Prod.mk.inj (Option.some.inj h); rfl
        · split at h
          · split at h
            · split at h
              · obtain ⟨rfl, -⟩ := Prod.mk.inj (Option.some.inj h); rfl
              · cases h
            · cases h
          · cases h
        · cases h
      have hw : w' = w := by
        have hx := hv x
        generalize a.eval x = ax at hx h1
        split at h
        · rename_i he' hes
          rw [hes] at hx
          cases hx
          rw [run_convert_bytes_nil w c e hs he' _ _ d hd] at h1
          exact (Result.ok.inj h1).2.symm
        · rename_i id off n he' hes
          rw [hes] at hx
          split at h
          · rename_i cc e0 f0 ow hb
            split at h
            · rename_i hle
              split at h
              · rename_i ns hns
                cases hx with
                | slice _ _ _ cap hE hcap hroom =>
                  rename_i l
                  obtain ⟨b, hb', hlt, ho⟩ := hr.blk id l hE
                  rw [hb] at hb'
                  obtain rfl := Option.some.inj hb'
                  obtain ⟨c', e', fr, hw, hrm, hbase, hcell, _⟩ := ho rfl
                  have heq := numsOf_eq _ _ hns
                  have hlen : ns.length = n := by
                    have := congrArg List.length heq
                    simp at this
                    omega
                  rw [run_convert_bytes_arg w c e hs he' l.blk (l.base + off) n cap ns hlen (fun i hi => ?_) d hd] at h1
                  · exact (Result.ok.inj h1).2.symm
                  · obtain ⟨v', q1, q2⟩ := hcell (off + i) (by omega)
                    have e1 : cc[off + i]'(by omega) = .int .u8 (ns.getD i 0) := by
                      have h2 : (cc.extract off (off + n)).toList[i]? = (ns.map (.int .u8))[i]? := by rw [heq]
                      rw [Array.getElem?_toList, Array.getElem?_extract, if_pos (by omega), List.getElem?_map, List.getElem?_eq_getElem (by omega), Array.getElem?_eq_getElem (by omega)] at h2
                      rw [Option.some.inj h2]
                      simp [List.getD, List.getElem?_eq_getElem (show i < ns.length by omega)]
                    rw [e1] at q2
                    cases q2
                    have : l.base + off + i = l.base + (off + i) := by omega
                    simp [World.cell?, hw, this, q1]
              · cases h
            · cases h
          · cases h
        · cases h
      subst hw
      have e1 := h3.eq hf
      subst e1
      exact ⟨v', by simp [execOp, h1], VR.refl E hf⟩
    · rename_i d1 d2 hne1 hne2 hs hd
      exfalso
      unfold kindOf at hk
      simp only [hs, hd] at hk
      split at hk
      · rename_i e q1 q2
        exact hne1 _ (Option.some.inj q1) (Option.some.inj q2)
      · rename_i e q1 q2
        exact hne2 _ (Option.some.inj q1) (Option.some.inj q2)
      · cases hk
    · cases h
  | call c =>
    obtain ⟨callee, args, argTypes⟩ := c
    cases callee with
    | value f => simp [aop] at h
    | invoke r n => simp [aop] at h
    | builtin b =>
      simp only [aop] at h
      unfold builtin? at h
      split at h
      · rename_i t x ht hx
        simp only [Option.map_eq_some_iff] at h
        obtain ⟨u, hu, h2⟩ := h
        obtain ⟨rfl, rfl⟩ := Prod.mk.inj h2
        obtain ⟨y, hy, rfl⟩ := one_arg hx
        obtain ⟨h1, h2⟩ := len_run (ty := ty) hu hr (hv y)
        have e1 : argTypes = #[t] := by apply Array.ext'; simpa using ht
        have e2 : args = #[y] := by apply Array.ext'; simpa using hy
        subst e1 e2
        exact ⟨rfl, u, by simp [execOp, resolve, invoke, builtin, h1], h2⟩
      · simp [kindOf] at hk
      · simp [kindOf] at hk
      · simp [kindOf] at hk
      · simp [kindOf] at hk
      · cases h
  | _ => first | (simp [aop] at h; done) | (simp [kindOf] at hk; done)

end Go.Am
