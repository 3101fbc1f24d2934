/- A region that draws its order, shown in an order of one's choice: reads that stand unordered with an event are looked at again behind it. No condition. -/
import Derived.Test.YtbigpkfdeaigeaaDoorAm17
namespace Go.Am
open Go
set_option linter.unusedSimpArgs false
set_option linter.unusedVariables false

variable {P : Program} {ng n : Nat}

theorem opsc_mono {ds : List (Option Nat)} {o : Oper} {s : St} {K K' : St → Prop} (h : opsc P ng n ds [o] s K) (hk : ∀ s', (∃ u, s'.tm = putT s.tm o.dst u) → K s' → K' s') : opsc P ng n ds [o] s K' := by
  simp only [opsc] at *
  unfold wantA at *
  split at h
  · rename_i b hw
    cases b with
    | false => exact hk _ ⟨_, rfl⟩ h
    | true =>
      simp only [ifA] at *
      split at h
      · unfold goC at *
        split at h
        · exact ⟨h.1, h.2.mono fun v S' hq => hk _ ⟨_, rfl⟩ hq⟩
        · exact h
      · exact h.mono fun v S' hq => hk _ ⟨_, rfl⟩ hq
      · exact h.mono fun v S' hq => hk _ ⟨_, rfl⟩ hq
      · exact h.mono fun v S' hq => hk _ ⟨_, rfl⟩ hq
      · unfold goH at *
        split at h
        · exact hk _ ⟨_, rfl⟩ h
        · exact h
  · exact h

/-! ### What a step looks at -/
theorem ev_put {tm : List Value} {hp : Heap} {d : Option Nat} {v : Value} {x : Operand} (h : ∀ i, d = some i → x ≠ .tmp i) : St.ev ng ⟨putT tm d v, hp⟩ x = St.ev ng ⟨tm, hp⟩ x := by
  cases d with
  | none => rfl
  | some d =>
    cases x with
    | tmp t =>
      have : t ≠ d := fun e => h d rfl (by rw [e])
      simp [St.ev, putT, List.getD, Ne.symm this]
    | _ => rfl

theorem map_ev {s s' : St} {l : List Operand} (h : ∀ x ∈ l, s'.ev ng x = s.ev ng x) : l.map (s'.ev ng) = l.map (s.ev ng) := List.map_congr_left h

theorem amap_ev {s s' : St} {l : Array Operand} (h : ∀ x ∈ l, s'.ev ng x = s.ev ng x) : l.map (s'.ev ng) = l.map (s.ev ng) := Array.map_congr_left h
theorem pmap_ev {s s' : St} {l : Array (Nat × Operand)} (h : ∀ x ∈ l.toList.map (·.2), s'.ev ng x = s.ev ng x) : (l.map fun x => (x.1, s'.ev ng x.2)) = l.map fun x => (x.1, s.ev ng x.2) := by
  refine Array.map_congr_left fun x hx => ?_
  rw [h x.2 (List.mem_map.2 ⟨x, by simpa using hx, rfl⟩)]
theorem omap_ev {s s' : St} {x : Option Operand} (h : ∀ y ∈ x.toArray, s'.ev ng y = s.ev ng y) : x.map (s'.ev ng) = x.map (s.ev ng) := by
  cases x with
  | none => rfl
  | some x => simp [h x (by simp)]

theorem aop_ev {s s' : St} {o : Oper} (hh : s'.hp = s.hp) (h : ∀ x ∈ o.op.operands, s'.ev ng x = s.ev ng x) : aop P ng s' o = aop P ng s o := by
  obtain ⟨dst, op, ty, pos, after, guard⟩ := o
  cases op with
  | call c =>
    obtain ⟨callee, args, ts⟩ := c
    cases callee with
    | builtin b =>
      have : args.toList.map (s'.ev ng) = args.toList.map (s.ev ng) := map_ev fun x hx => h x (by simp [Op.operands, Call.operands]; simpa using hx)
      simp only [aop, hh, this]
    | _ => rfl
  | build t ps => simp only [aop, hh, pmap_ev (s := s) (s' := s') (fun x hx => h x (by simpa [Op.operands] using hx))]
  | buildSlice t k ps => simp only [aop, hh, pmap_ev (s := s) (s' := s') (fun x hx => h x (by simpa [Op.operands] using hx))]
  | makeFunc fn f c => simp only [aop, hh, amap_ev (s := s) (s' := s') (l := c) (fun x hx => h x (by simp [Op.operands, hx]))]
  | slice t x l hi m =>
    simp only [aop, hh]
    rw [h x (by simp [Op.operands]), omap_ev (s := s) (s' := s') (fun y hy => h y (by simp [Op.operands]; simp at hy; simp [hy])), omap_ev (s := s) (s' := s') (x := hi) (fun y hy => h y (by simp [Op.operands]; simp at hy; simp [hy])),
      omap_ev (s := s) (s' := s') (x := m) (fun y hy => h y (by simp [Op.operands]; simp at hy; simp [hy]))]
  | makeMap t r => cases r <;> simp [aop, hh]
  | move x => simp only [aop, hh, h x (by simp [Op.operands])]
  | assign x => simp only [aop, hh, h x (by simp [Op.operands])]
  | pick c a b => simp only [aop, hh, h c (by simp [Op.operands]), h a (by simp [Op.operands]), h b (by simp [Op.operands])]
  | alloc t => simp only [aop, hh]
  | box t x => simp only [aop, hh, h x (by simp [Op.operands])]
  | load t x => simp only [aop, hh, h x (by simp [Op.operands])]
  | store t x y => simp only [aop, hh, h x (by simp [Op.operands]), h y (by simp [Op.operands])]
  | nilCheck x => simp only [aop, hh, h x (by simp [Op.operands])]
  | binOp op t x y ty => simp only [aop, hh, h x (by simp [Op.operands]), h y (by simp [Op.operands])]
  | unOp op t x => simp only [aop, hh, h x (by simp [Op.operands])]
  | convert a b x => simp only [aop, hh, h x (by simp [Op.operands])]
  | makeInterface t x => simp only [aop, hh, h x (by simp [Op.operands])]
  | makeSlice t x y => simp only [aop, hh, h x (by simp [Op.operands]), h y (by simp [Op.operands])]
  | fieldAddr t x i => simp only [aop, hh, h x (by simp [Op.operands])]
  | field t x i => simp only [aop, hh, h x (by simp [Op.operands])]
  | indexAddr t x y => simp only [aop, hh, h x (by simp [Op.operands]), h y (by simp [Op.operands])]
  | index t x y => simp only [aop, hh, h x (by simp [Op.operands]), h y (by simp [Op.operands])]
  | lookup t x y ok => simp only [aop, hh, h x (by simp [Op.operands]), h y (by simp [Op.operands])]
  | mapUpdate t m k x => simp only [aop, hh, h m (by simp [Op.operands]), h k (by simp [Op.operands]), h x (by simp [Op.operands])]
  | insert t m k x => simp only [aop, hh, h m (by simp [Op.operands]), h k (by simp [Op.operands]), h x (by simp [Op.operands])]
  | extract x i => simp only [aop, hh, h x (by simp [Op.operands])]
  | _ => rfl

theorem looks_op {ops : Array Oper} {o : Oper} {d : Option Nat} (h : ∀ i, d = some i → i ∉ o.looksAt ops) {x : Operand} (hx : x ∈ o.op.operands) : ∀ i, d = some i → x ≠ .tmp i := by
  intro i hd e
  subst e
  exact h i hd (List.mem_append_left _ (List.mem_filterMap.2 ⟨.tmp i, by simpa using hx, rfl⟩))

theorem aop_put {ops : Array Oper} {o : Oper} {tm : List Value} {hp : Heap} {d : Option Nat} {v : Value} (h : ∀ i, d = some i → i ∉ o.looksAt ops) : aop P ng ⟨putT tm d v, hp⟩ o = aop P ng ⟨tm, hp⟩ o :=
  aop_ev rfl fun x hx => ev_put (looks_op h hx)

theorem awant_put {ops : Array Oper} {o : Oper} {tm : List Value} {d : Option Nat} {v : Value} (h : ∀ i, d = some i → i ∉ o.looksAt ops) : awant (dsts ops.toList) (putT tm d v) o.guard = awant (dsts ops.toList) tm o.guard := by
  cases d with
  | none => rfl
  | some d =>
    unfold awant
    cases hg : o.guard with
    | none => rfl
    | some g =>
      obtain ⟨j, want⟩ := g
      simp only [dsts, ds_at]
      cases ho : ops[j]? with
      | none => rfl
      | some oj =>
        simp only [Option.bind_some]
        cases hd : oj.dst with
        | none => rfl
        | some e =>
          have hne : e ≠ d := by
            rintro rfl
            refine h e rfl (List.mem_append_right _ ?_)
            simp [hg, ho, hd]
          simp only [putT]
          congr 1
          simp [List.getD, Ne.symm hne]

theorem putT_comm {tm : List Value} {d e : Option Nat} (u v : Value) (h : ∀ i, d = some i → e ≠ some i) : putT (putT tm d u) e v = putT (putT tm e v) d u := by
  cases d with
  | none => rfl
  | some d => cases e with
    | none => rfl
    | some e =>
      have : d ≠ e := fun he => h d rfl (by rw [he])
      simp only [putT]
      exact List.set_comm _ _ this

theorem putT_idem {tm : List Value} {d : Option Nat} (u v : Value) : putT (putT tm d u) d v = putT tm d v := by
  cases d with
  | none => rfl
  | some d => simp [putT]

/-! ### Steps without an event -/
theorem aop_keep {s : St} {o : Oper} {v : Value} {S' : Heap} (h : aop P ng s o = some (v, S')) (hk : kindOf P o = 0 ∨ kindOf P o = 1) : S' = s.hp := by
  obtain ⟨dst, op, ty, pos, after, guard⟩ := o
  have mp : ∀ {r : Option Value}, r.map (·, s.hp) = some (v, S') → S' = s.hp := by
    intro r h
    simp only [Option.map_eq_some_iff] at h
    obtain ⟨_, _, h2⟩ := h
    exact (Prod.mk.inj h2).2.symm
  cases op with
  | move x => simp only [aop, Option.some.injEq, Prod.mk.injEq] at h; exact h.2.symm
  | assign x => simp only [aop, Option.some.injEq, Prod.mk.injEq] at h; exact h.2.symm
  | convert a b x =>
    simp only [aop] at h
    unfold conv? at h
    split at h
    · rename_i e hs hd; simp [kindOf, hs, hd] at hk
    · split at h
      · exact (Prod.mk.inj (Option.some.inj h)).2.symm
      · split at h
        · split at h
          · split at h
            · exact (Prod.mk.inj (Option.some.inj h)).2.symm
            · cases h
          · cases h
        · cases h
      · cases h
    · split at h
      · exact mp h
      · cases h
    · cases h
  | call c =>
    obtain ⟨callee, args, ts⟩ := c
    cases callee with
    | builtin b =>
      simp only [aop] at h
      unfold builtin? at h
      split at h
      · exact mp h
      · simp [kindOf] at hk
      · simp [kindOf] at hk
      · split at h
        · exact mp h
        · cases h
      · split at h
        · exact mp h
        · cases h
      · cases h
    | _ => simp [aop] at h
  | _ => first | (simp [aop] at h; done) | (simp [kindOf] at hk; done) | exact mp h

/-- A pure operation's value hangs on no heap. -/
theorem aop_free {tm : List Value} {hp hp' : Heap} {o : Oper} {v : Value} {S' : Heap} (h : aop P ng ⟨tm, hp⟩ o = some (v, S')) (hk : kindOf P o = 0) : aop P ng ⟨tm, hp'⟩ o = some (v, hp') := by
  have hev : ∀ x, St.ev ng ⟨tm, hp'⟩ x = St.ev ng ⟨tm, hp⟩ x := fun x => by cases x <;> rfl
  have hevf : (St.ev ng ⟨tm, hp'⟩) = St.ev ng ⟨tm, hp⟩ := funext hev
  obtain ⟨dst, op, ty, pos, after, guard⟩ := o
  have mp : ∀ {r : Option Value}, r.map (·, hp) = some (v, S') → r.map (·, hp') = some (v, hp') := by
    intro r h
    simp only [Option.map_eq_some_iff] at h ⊢
    obtain ⟨u, hu, h2⟩ := h
    exact ⟨u, hu, by rw [(Prod.mk.inj h2).1]⟩
  cases op with
  | move x => simp only [aop, hevf, Option.some.injEq, Prod.mk.injEq] at h ⊢; exact ⟨h.1, trivial⟩
  | assign x => simp only [aop, hevf, Option.some.injEq, Prod.mk.injEq] at h ⊢; exact ⟨h.1, trivial⟩
  | convert a b x =>
    simp only [aop, hevf] at h ⊢
    unfold conv? at h ⊢
    split at h
    · rename_i e hs hd; simp [kindOf, hs, hd] at hk
    · rename_i e hs hd; simp [kindOf, hs, hd] at hk
    · rename_i d1 d2 hne1 hne2 hs hd
      split at h
      · rename_i hf
        rw [if_pos hf]
        exact mp h
      · cases h
    · cases h
  | call c =>
    obtain ⟨callee, args, ts⟩ := c
    cases callee with
    | builtin b =>
      simp only [aop, hevf] at h ⊢
      unfold builtin? at h ⊢
      split at h
      · rename_i t x ht hx
        have hnm : ∀ k e, P.underlying t ≠ some (.map k e) := by
          intro k e he
          simp [kindOf, ht, he] at hk
        have e1 : len? P hp' t x = len? P hp t x := by
          unfold len?
          split <;> first | rfl | (exact absurd (by assumption) (hnm _ _))
        rw [e1]
        exact mp h
      · simp [kindOf] at hk
      · simp [kindOf] at hk
      · split at h
        · rename_i hf
          rw [if_pos hf]
          exact mp h
        · cases h
      · split at h
        · rename_i hf
          rw [if_pos hf]
          exact mp h
        · cases h
      · cases h
    | _ => simp [aop] at h
  | _ => first | (simp [aop] at h; done) | (simp [kindOf] at hk; done) | (simp only [aop, hevf] at h ⊢; exact mp h)

/-- What a step without an event yields. -/
def det (P : Program) (ng : Nat) (ds : List (Option Nat)) (o : Oper) (s : St) : Option Value :=
  match awant ds s.tm o.guard with
  | some true => (aop P ng s o).map (·.1)
  | some false => some skipV
  | none => none

theorem det_intro {ds : List (Option Nat)} {o : Oper} {s : St} {K : St → Prop} (hk : kindOf P o = 0 ∨ kindOf P o = 1) (h : opsc P ng n ds [o] s K) : ∃ v, det P ng ds o s = some v ∧ K ⟨putT s.tm o.dst v, s.hp⟩ := by
  simp only [opsc] at h
  unfold wantA at h
  unfold det
  split at h
  · rename_i b hw
    rw [hw]
    cases b with
    | false => exact ⟨_, rfl, h⟩
    | true =>
      simp only [ifA] at h
      split at h
      · rename_i fo args ts hop
        simp [kindOf, hop] at hk
      · rename_i t x hop
        simp [kindOf, hop] at hk
      · rename_i x b hop
        simp [kindOf, hop] at hk
      · rename_i x hop
        simp [kindOf, hop] at hk
      · unfold goH at h
        split at h
        · rename_i v S' ha
          obtain rfl := aop_keep ha hk
          exact ⟨v, by simp [ha], h⟩
        · exact h.elim
  · exact h.elim

theorem det_elim {ds : List (Option Nat)} {o : Oper} {s : St} {K : St → Prop} {v : Value} (hk : kindOf P o = 0 ∨ kindOf P o = 1) (h : det P ng ds o s = some v) (hK : K ⟨putT s.tm o.dst v, s.hp⟩) : opsc P ng n ds [o] s K := by
  simp only [opsc]
  unfold wantA
  unfold det at h
  split at h
  · rename_i hw
    simp only [Option.map_eq_some_iff] at h
    obtain ⟨⟨u, S'⟩, ha, rfl⟩ := h
    obtain rfl := aop_keep ha hk
    simp only [hw, ifA]
    split
    · rename_i fo args ts hop
      simp [kindOf, hop] at hk
    · rename_i t x hop
      simp [kindOf, hop] at hk
    · rename_i x b hop
      simp [kindOf, hop] at hk
    · rename_i x hop
      simp [kindOf, hop] at hk
    · simp only [ha, goH]
      exact hK
  · rename_i hw
    obtain rfl := Option.some.inj h
    simp only [hw, ifA]
    exact hK
  · cases h

section
variable {ops : Array Oper}
theorem det_put {o : Oper} {tm : List Value} {hp : Heap} {d : Option Nat} {v : Value} (h : ∀ i, d = some i → i ∉ o.looksAt ops) : det P ng (dsts ops.toList) o ⟨putT tm d v, hp⟩ = det P ng (dsts ops.toList) o ⟨tm, hp⟩ := by
  unfold det
  simp only [awant_put h, aop_put h]

theorem det_free {ds : List (Option Nat)} {o : Oper} {tm : List Value} {hp hp' : Heap} {v : Value} (h : det P ng ds o ⟨tm, hp⟩ = some v) (hk : kindOf P o = 0) : det P ng ds o ⟨tm, hp'⟩ = some v := by
  unfold det at *
  split at h
  · rename_i hw
    simp only [Option.map_eq_some_iff] at h
    obtain ⟨⟨u, S'⟩, ha, rfl⟩ := h
    simp only [hw]
    rw [aop_free ha hk]
    rfl
  · rename_i hw
    simp only [hw]
    exact h
  · cases h

/-- A step goes on in the same way where another's slot is written. -/
theorem opsc_put {j : Oper} {tm : List Value} {hp : Heap} {d : Option Nat} {v : Value} {K : St → Prop} (h1 : ∀ i, d = some i → i ∉ j.looksAt ops) (h2 : ∀ i, d = some i → j.dst ≠ some i) (h : opsc P ng n (dsts ops.toList) [j] ⟨putT tm d v, hp⟩ K) :
    opsc P ng n (dsts ops.toList) [j] ⟨tm, hp⟩ (fun s' => K ⟨putT s'.tm d v, s'.hp⟩) := by
  simp only [opsc, awant_put h1] at *
  unfold wantA at *
  split at h
  · rename_i b hw
    cases b with
    | false =>
      simp only [ifA] at *
      have := putT_comm (tm := tm) (d := d) (e := j.dst) v skipV h2
      unfold normT at *
      simp only [← this]
      exact h
    | true =>
      simp only [ifA] at *
      split at h
      · rename_i fo args ts hop
        have e1 : St.ev ng ⟨putT tm d v, hp⟩ fo = St.ev ng ⟨tm, hp⟩ fo := ev_put (looks_op h1 (by simp [hop, Op.operands, Call.operands]))
        have e2 : args.toList.map (St.ev ng ⟨putT tm d v, hp⟩) = args.toList.map (St.ev ng ⟨tm, hp⟩) := map_ev fun x hx => ev_put (looks_op h1 (by simp [hop, Op.operands, Call.operands]; right; simpa using hx))
        rw [e1, e2] at h
        unfold goC at *
        split at h
        · refine ⟨h.1, h.2.mono fun u S' hq => ?_⟩
          have hq' : K ⟨putT (putT tm d v) j.dst u, S'⟩ := hq
          rw [putT_comm v u h2] at hq'
          exact hq'
        · exact h
      · rename_i t x hop
        have e1 : St.ev ng ⟨putT tm d v, hp⟩ x = St.ev ng ⟨tm, hp⟩ x := ev_put (looks_op h1 (by simp [hop, Op.operands]))
        rw [e1] at h
        refine h.mono fun u S' hq => ?_
        have hq' : K ⟨putT (putT tm d v) j.dst u, S'⟩ := hq
        rw [putT_comm v u h2] at hq'
        exact hq'
      · rename_i x b hop
        have e1 : St.ev ng ⟨putT tm d v, hp⟩ x = St.ev ng ⟨tm, hp⟩ x := ev_put (looks_op h1 (by simp [hop, Op.operands]))
        rw [e1] at h
        refine h.mono fun u S' hq => ?_
        have hq' : K ⟨putT (putT tm d v) j.dst u, S'⟩ := hq
        rw [putT_comm v u h2] at hq'
        exact hq'
      · rename_i x hop
        have e1 : St.ev ng ⟨putT tm d v, hp⟩ x = St.ev ng ⟨tm, hp⟩ x := ev_put (looks_op h1 (by simp [hop, Op.operands]))
        rw [e1] at h
        refine h.mono fun u S' hq => ?_
        have hq' : K ⟨putT (putT tm d v) j.dst u, S'⟩ := hq
        rw [putT_comm v u h2] at hq'
        exact hq'
      · rw [aop_put h1] at h
        unfold goH at *
        split at h
        · rename_i u S' ha
          have hq' : K ⟨putT (putT tm d v) j.dst u, S'⟩ := h
          rw [putT_comm v u h2] at hq'
          exact hq'
        · exact h
  · exact h

/-- A read, looked at again, finds what it found. -/
def again (P : Program) (ng n : Nat) (ops : Array Oper) (r : Oper) (s : St) : Prop := opsc P ng n (dsts ops.toList) [r] s (fun s' => s' = s)

theorem again_back {r : Oper} {tm : List Value} {hp : Heap} {d : Option Nat} {v : Value} (hk : kindOf P r = 0 ∨ kindOf P r = 1) (h1 : ∀ i, d = some i → i ∉ r.looksAt ops) (h2 : ∀ i, d = some i → r.dst ≠ some i) (h : again P ng n ops r ⟨putT tm d v, hp⟩) :
    again P ng n ops r ⟨tm, hp⟩ := by
  obtain ⟨w, hw, he⟩ := det_intro hk h
  rw [det_put h1] at hw
  refine det_elim hk hw ?_
  simp only [St.mk.injEq, and_true] at he ⊢
  cases hr : r.dst with
  | none => rfl
  | some e =>
    cases d with
    | none => rw [hr] at he; exact he
    | some d =>
      have hne : e ≠ d := fun e' => h2 d rfl (by rw [hr, e'])
      rw [hr] at he
      simp only [putT] at he ⊢
      apply List.ext_getElem?
      intro i
      have hi := congrArg (·[i]?) he
      simp only [List.getElem?_set] at hi ⊢
      by_cases h3 : e = i
      · subst h3
        simp only [if_true, if_neg (Ne.symm hne), List.length_set] at hi ⊢
        exact hi
      · rw [if_neg h3]

theorem swap_step {k j : Oper} {s : St} {M D : St → Prop} (hk : kindOf P k = 0 ∨ kindOf P k = 1) (hap : k.apart ops j = true) (hself : ∀ i, k.dst = some i → i ∉ k.looksAt ops)
    (hD : ∀ (s' : St) (v : Value), D ⟨putT s'.tm k.dst v, s'.hp⟩ → kindOf P k = 1 → kindOf P j ≠ 0 ∧ kindOf P j ≠ 1 → again P ng n ops k ⟨putT s'.tm k.dst v, s'.hp⟩)
    (h : opsc P ng n (dsts ops.toList) [k] s (fun s1 => opsc P ng n (dsts ops.toList) [j] s1 (fun s2 => D s2 ∧ M s2))) :
    opsc P ng n (dsts ops.toList) [j] s (fun s1 => (∃ v, D ⟨putT s1.tm k.dst v, s1.hp⟩) ∧ opsc P ng n (dsts ops.toList) [k] s1 M) := by
  obtain ⟨h1, h2, h3⟩ := Oper.apart_spec hap
  obtain ⟨v, hv, hj⟩ := det_intro hk h
  by_cases hjk : kindOf P j = 0 ∨ kindOf P j = 1
  · obtain ⟨u, hu, hd, hm⟩ := det_intro hjk hj
    have hu' : det P ng (dsts ops.toList) j s = some u := by rw [← hu]; exact (det_put (tm := s.tm) (hp := s.hp) h1).symm
    refine det_elim hjk hu' ⟨⟨v, ?_⟩, ?_⟩
    · have := putT_comm (tm := s.tm) (d := k.dst) (e := j.dst) v u h2
      simp only at hd ⊢
      rw [← this]
      exact hd
    · refine det_elim hk (v := v) ?_ ?_
      · rw [← hv]
        exact det_put (tm := s.tm) (hp := s.hp) h3
      · have := putT_comm (tm := s.tm) (d := k.dst) (e := j.dst) v u h2
        simp only at hm ⊢
        rw [← this]
        exact hm
  · have hj2 := opsc_put (tm := s.tm) (hp := s.hp) h1 h2 hj
    refine opsc_mono hj2 fun s' ⟨u, hu⟩ ⟨hd, hm⟩ => ⟨⟨v, hd⟩, ?_⟩
    by_cases hk0 : kindOf P k = 0
    · refine det_elim hk (v := v) ?_ hm
      have e1 : det P ng (dsts ops.toList) k ⟨putT s.tm j.dst u, s.hp⟩ = some v := by rw [← hv]; exact det_put (tm := s.tm) (hp := s.hp) h3
      have := det_free (hp' := s'.hp) e1 hk0
      rw [← hu] at this
      exact this
    · have hk1 : kindOf P k = 1 := by rcases hk with h | h; exact absurd h hk0; exact h
      have hag := hD s' v hd hk1 ⟨fun e => hjk (.inl e), fun e => hjk (.inr e)⟩
      obtain ⟨w, hw, he⟩ := det_intro hk hag
      rw [det_put hself] at hw
      refine det_elim hk hw ?_
      simp only [St.mk.injEq, and_true] at he
      rw [putT_idem] at he
      simp only [he]
      exact hm
end

theorem stepC_other {ops : Array Oper} {o : Oper} {R R' K : Act → World → Prop} {a : Act} {w : World} (h : stepC P ops o R K a w) : stepC P ops o R' K a w := by
  unfold stepC at *
  split
  · rename_i hw
    rw [if_pos hw] at h
    split
    · rename_i hk; rw [hk] at h; exact h
    · rename_i hk; rw [hk] at h; exact h
    · rename_i h0 h1
      split at h
      · rename_i hk; exact absurd hk h0
      · rename_i hk; exact absurd hk h1
      · unfold Oper.wp at *
        generalize (execOp a.eval o).run P w = r at *
        cases r with
        | ok n w' =>
          cases n <;> simp only [Oper.upon] at h ⊢
          case value v => exact h
          case skip => exact h
          case defer d => exact h
          case enter f args =>
            refine Calls.mono h fun e w'' he => ?_
            cases e with
            | returned u => exact he
            | panicked c => exact absurd he.1 (by simp)
            | outgrown => obtain ⟨_, _, h1, _⟩ := he; exact absurd h1 (by simp)
          case row row args => exact h
        | halt x w' =>
          cases x <;> simp only [Oper.upon] at h ⊢
          case panic u => exact absurd h.1 (by simp)
  · rename_i hw
    rw [if_neg hw] at h
    exact h

/-! ### Orders as a tree -/
def nthO (l : List Oper) (j : Nat) : Option Oper := l[j]?
def goO (r : Option Oper) (k : Oper → Prop) (_ : Tag k := .mk) : Prop :=
  match r with
  | some o => k o
  | none => False
@[congr] theorem goO_congr {r r' : Option Oper} {k : Oper → Prop} (h : Unit → r = r') : goO r k = goO r' k := by rw [h ()]
theorem goO_some {o : Oper} {k : Oper → Prop} : goO (some o) k = k o := opq rfl
section
variable {a0 a1 a2 a3 a4 a5 a6 a7 : Oper} {l : List Oper} {k : Nat}
theorem nthO_z : nthO (a0 :: l) 0 = some a0 := opq rfl
theorem nthO_s : nthO (a0 :: l) (k + 1) = nthO l k := opq rfl
theorem nthO_8 : nthO (a0 :: a1 :: a2 :: a3 :: a4 :: a5 :: a6 :: a7 :: l) (k + 8) = nthO l k := opq rfl
end
/-- How a region is shown: `take i`: an operation without an event is done now, wherever else it might be done; `one`, `two`: the operations that can be done now, each with the reads that are looked at again behind it. -/
inductive Ord where
  | done
  | take (i : Nat) (t : Ord)
  | one (i : Nat) (cs : List Nat) (t : Ord)
  | two (i : Nat) (cs : List Nat) (t : Ord) (j : Nat) (ds : List Nat) (u : Ord)

def readyL (l0 : List Oper) (listed : List Nat) : List Nat :=
  (List.range l0.length).filter fun i => !listed.contains i && (match l0[i]? with | some o => o.after.all (fun e => !Region.binds .any e || listed.contains e.on) | none => false)

/-- r's look is not disturbed by k. -/
def calm (l0 : List Oper) (r k : Nat) : Bool :=
  match l0[r]?, l0[k]? with
  | some x, some y => match y.dst with
    | some d => !(x.looksAt l0.toArray).contains d && x.dst != some d
    | none => true
  | _, _ => false

def isEv (P : Program) (l0 : List Oper) (i : Nat) : Bool := match l0[i]? with | some o => !(kindOf P o == 0 || kindOf P o == 1) | none => false

/-- Is i apart from all that is not done and does not wait for it? -/
def free (P : Program) (l0 : List Oper) (listed : List Nat) (i : Nat) : Bool :=
  (List.range l0.length).all fun k => listed.contains k || k == i || ((masks l0 []).getD k 0).testBit i || (match l0[i]?, l0[k]? with | some x, some y => x.apart l0.toArray y | _, _ => false)

/-- Reads that were taken are watched. -/
def wext (P : Program) (l0 : List Oper) (i : Nat) (W : List Nat) : List Nat :=
  match l0[i]? with
  | some x => bif kindOf P x == 1 then i :: W else W
  | none => W
theorem wext_sub {l0 : List Oper} {i r : Nat} {W : List Nat} (h : r ∈ W) : r ∈ wext P l0 i W := by
  unfold wext
  cases l0[i]? with
  | none => exact h
  | some x =>
    simp only []
    cases kindOf P x == 1
    · exact h
    · exact List.mem_cons_of_mem _ h
theorem wext_cases {l0 : List Oper} {i r : Nat} {W : List Nat} (h : r ∈ wext P l0 i W) : r = i ∨ r ∈ W := by
  unfold wext at h
  cases hx : l0[i]? with
  | none => rw [hx] at h; exact .inr h
  | some x =>
    rw [hx] at h
    simp only [] at h
    cases hk : kindOf P x == 1 <;> rw [hk] at h
    · exact .inr h
    · exact List.mem_cons.1 h

def okT (P : Program) (l0 : List Oper) : Nat → List Nat → List Nat → Ord → Bool
  | m, listed, W, .done => m == 0 && (readyL l0 listed).isEmpty
  | 0, _, _, _ => false
  | m + 1, listed, W, .take i t => (readyL l0 listed).contains i && !isEv P l0 i && (match l0[i]? with | some x => (match x.dst with | some d => !(x.looksAt l0.toArray).contains d | none => true) | none => false) &&
      free P l0 listed i && W.all (fun r => calm l0 r i) && okT P l0 m (i :: listed) (wext P l0 i W) t
  | m + 1, listed, W, .one i cs t => readyL l0 listed == [i] && W.all (fun r => !isEv P l0 i || ((masks l0 []).getD i 0).testBit r || cs.contains r) && okT P l0 m (i :: listed) W t
  | m + 1, listed, W, .two i cs t j ds u => readyL l0 listed == [i, j] && W.all (fun r => !isEv P l0 i || ((masks l0 []).getD i 0).testBit r || cs.contains r) && okT P l0 m (i :: listed) W t &&
      W.all (fun r => !isEv P l0 j || ((masks l0 []).getD j 0).testBit r || ds.contains r) && okT P l0 m (j :: listed) W u

/-- What is asked in every order. -/
def anyA (P : Program) (ng n : Nat) (l0 : List Oper) (K : St → Prop) (W : List Nat) : Nat → List Nat → St → Prop
  | 0, listed, s => readyL l0 listed = [] ∧ K s
  | m + 1, listed, s => (readyL l0 listed = [] → K s) ∧ ∀ i ∈ readyL l0 listed, ∀ o, l0[i]? = some o →
      opsc P ng n (dsts l0) [o] s (fun s' => (∀ r ∈ W, isEv P l0 i = true → ((masks l0 []).getD i 0).testBit r = false → ∃ x, l0[r]? = some x ∧ (kindOf P x = 0 ∨ kindOf P x = 1) ∧ again P ng n l0.toArray x s') ∧ anyA P ng n l0 K W m (i :: listed) s')

theorem mem_readyL {l0 : List Oper} {listed : List Nat} {i : Nat} : i ∈ readyL l0 listed ↔ i ∉ listed ∧ ∃ o, l0[i]? = some o ∧ ∀ e ∈ o.after, Region.binds .any e = true → e.on ∈ listed := by
  unfold readyL
  rw [List.mem_filter]
  constructor
  · rintro ⟨_, h⟩
    simp only [Bool.and_eq_true] at h
    refine ⟨by simpa using h.1, ?_⟩
    cases ho : l0[i]? with
    | none => rw [ho] at h; cases h.2
    | some o =>
      rw [ho] at h
      refine ⟨o, rfl, fun e he hb => ?_⟩
      have := Array.all_eq_true_iff_forall_mem.1 h.2 e he
      simpa [hb] using this
  · rintro ⟨h1, o, ho, h2⟩
    refine ⟨by simpa using (List.getElem?_eq_some_iff.1 ho).1, ?_⟩
    simp only [Bool.and_eq_true, ho]
    refine ⟨by simpa using h1, Array.all_eq_true_iff_forall_mem.2 fun e he => ?_⟩
    cases hb : Region.binds .any e with
    | false => rfl
    | true => simpa using h2 e he hb

theorem readyL_congr {l0 : List Oper} {a b : List Nat} (h : ∀ x, x ∈ a ↔ x ∈ b) : readyL l0 a = readyL l0 b := by
  unfold readyL
  refine List.filter_congr fun i _ => ?_
  have hc : ∀ x, a.contains x = b.contains x := fun x => by rw [Bool.eq_iff_iff]; simpa using h x
  simp only [hc]

theorem anyA_congr {l0 : List Oper} {K : St → Prop} {W : List Nat} : ∀ (m : Nat) {a b : List Nat} {s : St}, (∀ x, x ∈ a ↔ x ∈ b) → anyA P ng n l0 K W m a s → anyA P ng n l0 K W m b s
  | 0, a, b, s, h, ha => ⟨by rw [← readyL_congr h]; exact ha.1, ha.2⟩
  | m + 1, a, b, s, h, ha => by
    refine ⟨fun hr => ha.1 (by rw [readyL_congr h]; exact hr), fun i hi o ho => ?_⟩
    refine opsc_mono (ha.2 i (by rw [readyL_congr h]; exact hi) o ho) fun s' _ hs => ⟨hs.1, anyA_congr m (fun x => ?_) hs.2⟩
    simp only [List.mem_cons, h x]

theorem anyA_sub {l0 : List Oper} {K : St → Prop} {W W' : List Nat} (hW : ∀ r ∈ W, r ∈ W') : ∀ (m : Nat) {a : List Nat} {s : St}, anyA P ng n l0 K W' m a s → anyA P ng n l0 K W m a s
  | 0, a, s, h => h
  | m + 1, a, s, h => ⟨h.1, fun i hi o ho => opsc_mono (h.2 i hi o ho) fun s' _ hs => ⟨fun r hr => hs.1 r (hW r hr), anyA_sub hW m hs.2⟩⟩

def ClosedL (l0 : List Oper) (listed : List Nat) : Prop := ∀ i o, l0[i]? = some o → i ∈ listed → ∀ e ∈ o.after, Region.binds .any e = true → e.on ∈ listed

theorem ClosedL.cons {l0 : List Oper} {listed : List Nat} (h : ClosedL l0 listed) {k : Nat} (hk : k ∈ readyL l0 listed) : ClosedL l0 (k :: listed) := by
  obtain ⟨_, ok, hok, haft⟩ := mem_readyL.1 hk
  intro i o ho hi e he hb
  rcases List.mem_cons.1 hi with rfl | hi
  · rw [hok] at ho; obtain rfl := Option.some.inj ho
    exact List.mem_cons_of_mem _ (haft e he hb)
  · exact List.mem_cons_of_mem _ (h i o ho hi e he hb)

/-- What is ready does not wait for what is not done. -/
theorem no_bit {l0 : List Oper} {listed : List Nat} (hc : ClosedL l0 listed) {i k : Nat} (hk : k ∈ readyL l0 listed) (hi : i ∉ listed) (hne : k ≠ i) : ((masks l0 []).getD k 0).testBit i = false := by
  obtain ⟨_, ok, hok, haft⟩ := mem_readyL.1 hk
  cases hb : ((masks l0 []).getD k 0).testBit i with
  | false => rfl
  | true =>
    exfalso
    have hc' : Closed l0.toArray (fun x => x = k ∨ x ∈ listed) := by
      intro x o ho hx e he hbd
      have ho' : l0[x]? = some o := by simpa using ho
      rcases hx with rfl | hx
      · rw [hok] at ho'; obtain rfl := Option.some.inj ho'; exact .inr (haft e he hbd)
      · exact .inr (hc x o ho' hx e he hbd)
    have := masks_sound hc' l0 [] (fun i o h => by simpa using h) (fun i _ k h => by simp at h) k (.inl rfl) i hb
    rcases this with h' | h'
    · exact hne h'.symm
    · exact hi h'

theorem free_spec {l0 : List Oper} {listed : List Nat} {i k : Nat} (h : free P l0 listed i = true) {x y : Oper} (hx : l0[i]? = some x) (hy : l0[k]? = some y) (hk : k ∉ listed) (hne : k ≠ i) (hb : ((masks l0 []).getD k 0).testBit i = false) : x.apart l0.toArray y = true := by
  unfold free at h
  have := (List.all_eq_true.1 h) k (by simpa using (List.getElem?_eq_some_iff.1 hy).1)
  simp only [hx, hy, hb, Bool.or_false, Bool.or_eq_true] at this
  rcases this with (h1 | h1) | h1
  · exact absurd (by simpa using h1) hk
  · exact absurd (by simpa using h1) hne
  · exact h1

theorem free_cons {l0 : List Oper} {listed : List Nat} {i k : Nat} (h : free P l0 listed i = true) : free P l0 (k :: listed) i = true := by
  unfold free at *
  simp only [List.all_eq_true] at *
  intro x hx
  have := h x hx
  simp only [Bool.or_eq_true, List.contains_cons] at this ⊢
  rcases this with ((h1 | h1) | h1) | h1
  · exact .inl (.inl (.inl (.inr h1)))
  · exact .inl (.inl (.inr h1))
  · exact .inl (.inr h1)
  · exact .inr h1

theorem anyA_take {l0 : List Oper} {K : St → Prop} {i : Nat} {x : Oper} (hx : l0[i]? = some x) (hk : kindOf P x = 0 ∨ kindOf P x = 1) (hself : ∀ d, x.dst = some d → d ∉ x.looksAt l0.toArray) {W W' : List Nat} (hW : ∀ r ∈ W, r ∈ W') (hi1 : kindOf P x = 1 → i ∈ W')
    (hcalm : ∀ r ∈ W, calm l0 r i = true) : ∀ (m : Nat) (listed : List Nat) (s : St), i ∈ readyL l0 listed → free P l0 listed i = true → ClosedL l0 listed →
    opsc P ng n (dsts l0) [x] s (fun s1 => anyA P ng n l0 K W' m (i :: listed) s1) → anyA P ng n l0 K W (m + 1) listed s := by
  intro m
  induction m with
  | zero =>
    intro listed s hi hf hc h
    refine ⟨fun hr => (by rw [hr] at hi; cases hi), fun k hkr o ho => ?_⟩
    by_cases hki : k = i
    · subst hki
      rw [hx] at ho; obtain rfl := Option.some.inj ho
      refine opsc_mono h fun s' _ hs => ⟨fun r _ hev => ?_, anyA_sub hW 0 hs⟩
      simp [isEv, hx] at hev
      omega
    · exfalso
      obtain ⟨v, _, hs⟩ := det_intro hk h
      have : k ∈ readyL l0 (i :: listed) := by
        obtain ⟨h1, o', ho', h2⟩ := mem_readyL.1 hkr
        exact mem_readyL.2 ⟨by simp [hki, h1], o', ho', fun e he hb => List.mem_cons_of_mem _ (h2 e he hb)⟩
      rw [hs.1] at this
      cases this
  | succ m ih =>
    intro listed s hi hf hc h
    have hil : i ∉ listed := (mem_readyL.1 hi).1
    refine ⟨fun hr => (by rw [hr] at hi; cases hi), fun k hkr o ho => ?_⟩
    by_cases hki : k = i
    · subst hki
      rw [hx] at ho; obtain rfl := Option.some.inj ho
      refine opsc_mono h fun s' _ hs => ⟨fun r _ hev => ?_, anyA_sub hW _ hs⟩
      simp [isEv, hx] at hev
      omega
    · obtain ⟨hkl, o', ho', haft⟩ := mem_readyL.1 hkr
      rw [ho] at ho'; obtain rfl := Option.some.inj ho'
      have hkr' : k ∈ readyL l0 (i :: listed) := mem_readyL.2 ⟨by simp [hki, hkl], o, ho, fun e he hb => List.mem_cons_of_mem _ (haft e he hb)⟩
      have hnb := no_bit hc hkr hil hki
      have hap := free_spec hf hx ho hkl hki hnb
      have h1 := opsc_mono h fun s1 _ hs => hs.2 k hkr' o ho
      have hds : dsts l0 = dsts l0.toArray.toList := rfl
      rw [hds] at h1
      have h2 := swap_step (ops := l0.toArray) (M := fun s2 => anyA P ng n l0 K W' m (k :: i :: listed) s2)
        (D := fun s' => ∀ r ∈ W', isEv P l0 k = true → ((masks l0 []).getD k 0).testBit r = false → ∃ x, l0[r]? = some x ∧ (kindOf P x = 0 ∨ kindOf P x = 1) ∧ again P ng n l0.toArray x s') hk hap hself (by
          intro s' v hd hk1 hj
          obtain ⟨x', hx', _, ha⟩ := hd i (hi1 hk1) (by simp [isEv, ho, hj.1, hj.2]) hnb
          rw [hx] at hx'; obtain rfl := Option.some.inj hx'
          exact ha) h1
      refine opsc_mono h2 fun s' _ ⟨⟨v, hd⟩, hs⟩ => ⟨fun r hr hev hb => ?_, ?_⟩
      · obtain ⟨xr, hxr, hkr2, ha⟩ := hd r (hW r hr) hev hb
        refine ⟨xr, hxr, hkr2, ?_⟩
        have hcm := hcalm r hr
        simp only [calm, hxr, hx] at hcm
        refine again_back (d := x.dst) (v := v) hkr2 ?_ ?_ ha
        · intro d hd
          rw [hd] at hcm
          simp at hcm
          simpa using hcm.1
        · intro d hd
          rw [hd] at hcm
          simp at hcm
          exact hcm.2
      · refine ih (k :: listed) s' ?_ (free_cons hf) (hc.cons hkr) (opsc_mono hs fun s2 _ h2 => anyA_congr m (fun x => ?_) h2)
        · obtain ⟨_, oi, hoi, hai⟩ := mem_readyL.1 hi
          exact mem_readyL.2 ⟨by simp [Ne.symm hki, hil], oi, hoi, fun e he hb => List.mem_cons_of_mem _ (hai e he hb)⟩
        · simp only [List.mem_cons]
          constructor <;> (rintro (h | h | h) <;> simp [h])

/-- Reads that are looked at again, then what comes behind. -/
def againQ (P : Program) (ng n : Nat) (l0 : List Oper) : List Nat → St → (St → Prop) → Prop
  | [], s, X => X s
  | r :: cs, s, X => (goO (nthO l0 r) fun x => opsc P ng n (dsts l0) [x] s (fun s' => s' = s)) ∧ againQ P ng n l0 cs s X
def opscQ (P : Program) (ng n : Nat) (l0 : List Oper) : Ord → St → (St → Prop) → Prop
  | .done, s, K => K s
  | .take i t, s, K => goO (nthO l0 i) fun o => opsc P ng n (dsts l0) [o] s (fun s' => opscQ P ng n l0 t s' K)
  | .one i cs t, s, K => goO (nthO l0 i) fun o => opsc P ng n (dsts l0) [o] s (fun s' => againQ P ng n l0 cs s' (fun s' => opscQ P ng n l0 t s' K))
  | .two i cs t j ds u, s, K => (goO (nthO l0 i) fun o => opsc P ng n (dsts l0) [o] s (fun s' => againQ P ng n l0 cs s' (fun s' => opscQ P ng n l0 t s' K))) ∧
      (goO (nthO l0 j) fun o => opsc P ng n (dsts l0) [o] s (fun s' => againQ P ng n l0 ds s' (fun s' => opscQ P ng n l0 u s' K)))
theorem againQ_sound {l0 : List Oper} {X : St → Prop} : ∀ (cs : List Nat) (s : St), againQ P ng n l0 cs s X → (∀ r ∈ cs, ∃ x, l0[r]? = some x ∧ again P ng n l0.toArray x s) ∧ X s
  | [], s, h => ⟨fun r hr => (by cases hr), h⟩
  | r :: cs, s, h => by
    obtain ⟨h1, h2⟩ := h
    obtain ⟨h3, h4⟩ := againQ_sound cs s h2
    refine ⟨fun r' hr => ?_, h4⟩
    rcases List.mem_cons.1 hr with rfl | hr
    · unfold goO nthO at h1
      cases hx : l0[r']? with
      | none => rw [hx] at h1; exact h1.elim
      | some x => rw [hx] at h1; exact ⟨x, rfl, h1⟩
    · exact h3 r' hr

theorem goO_elim {l0 : List Oper} {i : Nat} {k : Oper → Prop} (h : goO (nthO l0 i) k) : ∃ o, l0[i]? = some o ∧ k o := by
  unfold goO nthO at h
  cases hx : l0[i]? with
  | none => rw [hx] at h; exact h.elim
  | some x => rw [hx] at h; exact ⟨x, rfl, h⟩

theorem tree_sound {l0 : List Oper} {K : St → Prop} : ∀ (t : Ord) (m : Nat) (listed W : List Nat) (s : St), okT P l0 m listed W t = true → ClosedL l0 listed → (∀ r ∈ W, ∃ x, l0[r]? = some x ∧ (kindOf P x = 0 ∨ kindOf P x = 1)) → opscQ P ng n l0 t s K → anyA P ng n l0 K W m listed s
  | .done, m, listed, W, s, ho, hc, hW, h => by
    simp only [okT, Bool.and_eq_true] at ho
    obtain ⟨h1, h2⟩ := ho
    obtain rfl : m = 0 := by simpa using h1
    exact ⟨by simpa using h2, h⟩
  | .take i t, 0, _, _, _, ho, _, _, _ => by simp [okT] at ho
  | .one i cs t, 0, _, _, _, ho, _, _, _ => by simp [okT] at ho
  | .two i cs t j ds u, 0, _, _, _, ho, _, _, _ => by simp [okT] at ho
  | .take i t, m + 1, listed, W, s, ho, hc, hW, h => by
    simp only [okT, Bool.and_eq_true] at ho
    obtain ⟨⟨⟨⟨⟨h1, h2⟩, h3⟩, h4⟩, h5⟩, h6⟩ := ho
    obtain ⟨x, hx, hs⟩ := goO_elim h
    have hi : i ∈ readyL l0 listed := by simpa using h1
    have hk : kindOf P x = 0 ∨ kindOf P x = 1 := by
      simp [isEv, hx] at h2
      omega
    rw [hx] at h3
    refine anyA_take hx hk ?_ (W' := wext P l0 i W) ?_ ?_ (fun r hr => (List.all_eq_true.1 h5) r hr) m listed s hi h4 hc ?_
    · intro d hd
      simp only [hd] at h3
      simpa using h3
    · exact fun r hr => wext_sub hr
    · intro hk1
      simp [wext, hx, hk1]
    · refine opsc_mono hs fun s' _ hs' => tree_sound t m (i :: listed) _ s' h6 (hc.cons hi) ?_ hs'
      intro r hr
      rcases wext_cases hr with rfl | hr
      · exact ⟨x, hx, hk⟩
      · exact hW r hr
  | .one i cs t, m + 1, listed, W, s, ho, hc, hW, h => by
    simp only [okT, Bool.and_eq_true] at ho
    obtain ⟨⟨h1, h2⟩, h3⟩ := ho
    have h1 : readyL l0 listed = [i] := by simpa using h1
    obtain ⟨x, hx, hs⟩ := goO_elim h
    refine ⟨fun hr => (by rw [h1] at hr; cases hr), fun k hk o hok => ?_⟩
    rw [h1] at hk
    obtain rfl : k = i := by simpa using hk
    rw [hx] at hok; obtain rfl := Option.some.inj hok
    refine opsc_mono hs fun s' _ hs' => ?_
    obtain ⟨ha, hq⟩ := againQ_sound cs s' hs'
    refine ⟨fun r hr hev hb => ?_, tree_sound t m (k :: listed) W s' h3 (hc.cons (by rw [h1]; simp)) hW hq⟩
    have := (List.all_eq_true.1 h2) r hr
    simp only [hev, hb, Bool.not_true, Bool.false_or] at this
    obtain ⟨xr, hxr, har⟩ := ha r (by simpa using this)
    obtain ⟨xr', hxr', hkr⟩ := hW r hr
    rw [hxr] at hxr'; obtain rfl := Option.some.inj hxr'
    exact ⟨xr, hxr, hkr, har⟩
  | .two i cs t j ds u, m + 1, listed, W, s, ho, hc, hW, h => by
    simp only [okT, Bool.and_eq_true] at ho
    obtain ⟨⟨⟨⟨h1, h2⟩, h3⟩, h4⟩, h5⟩ := ho
    have h1 : readyL l0 listed = [i, j] := by simpa using h1
    obtain ⟨g1, g2⟩ := h
    obtain ⟨x, hx, hs⟩ := goO_elim g1
    obtain ⟨y, hy, hu⟩ := goO_elim g2
    refine ⟨fun hr => (by rw [h1] at hr; cases hr), fun k hk o hok => ?_⟩
    have hk' : k = i ∨ k = j := by rw [h1] at hk; simpa using hk
    rcases hk' with rfl | rfl
    · rw [hx] at hok; obtain rfl := Option.some.inj hok
      refine opsc_mono hs fun s' _ hs' => ?_
      obtain ⟨ha, hq⟩ := againQ_sound cs s' hs'
      refine ⟨fun r hr hev hb => ?_, tree_sound t m (k :: listed) W s' h3 (hc.cons hk) hW hq⟩
      have := (List.all_eq_true.1 h2) r hr
      simp only [hev, hb, Bool.not_true, Bool.false_or] at this
      obtain ⟨xr, hxr, har⟩ := ha r (by simpa using this)
      obtain ⟨xr', hxr', hkr⟩ := hW r hr
      rw [hxr] at hxr'; obtain rfl := Option.some.inj hxr'
      exact ⟨xr, hxr, hkr, har⟩
    · rw [hy] at hok; obtain rfl := Option.some.inj hok
      refine opsc_mono hu fun s' _ hs' => ?_
      obtain ⟨ha, hq⟩ := againQ_sound ds s' hs'
      refine ⟨fun r hr hev hb => ?_, tree_sound u m (k :: listed) W s' h5 (hc.cons hk) hW hq⟩
      have := (List.all_eq_true.1 h4) r hr
      simp only [hev, hb, Bool.not_true, Bool.false_or] at this
      obtain ⟨xr, hxr, har⟩ := ha r (by simpa using this)
      obtain ⟨xr', hxr', hkr⟩ := hW r hr
      rw [hxr] at hxr'; obtain rfl := Option.some.inj hxr'
      exact ⟨xr, hxr, hkr, har⟩

theorem any_of_anyA {l0 : List Oper} {K : St → Prop} {n0 : Nat} {E0 : Emb} {S0 : Heap} {w0 : World} (hng : ng ≤ n0) :
    ∀ (m : Nat) (listed : List Nat) (ls : Array Bool) (s : St) (E : Emb) (a : Act) (w : World), ls.size = l0.length → (∀ i, i < l0.length → (ls.getD i false = true ↔ i ∈ listed)) → (∀ i ∈ listed, i < l0.length) →
      anyA P ng n0 l0 K [] m listed s → RelT E s.tm a → Rel ng E s.hp w → n0 ≤ s.hp.length → Grow n0 E0 S0 w0 E s.hp w →
      wpAny P .any l0.toArray (fun e a w => e = .normal ∧ ∃ s' E', K s' ∧ RelT E' s'.tm a ∧ Rel ng E' s'.hp w ∧ n0 ≤ s'.hp.length ∧ Grow n0 E0 S0 w0 E' s'.hp w) m ls a w := by
  have hready : ∀ (listed : List Nat) (ls : Array Bool), ls.size = l0.length → (∀ i, i < l0.length → (ls.getD i false = true ↔ i ∈ listed)) → (∀ i ∈ listed, i < l0.length) → ∀ i, i ∈ Region.ready .any l0.toArray ls ↔ i ∈ readyL l0 listed := by
    intro listed ls hsz hls hin i
    rw [mem_ready, mem_readyL]
    constructor
    · rintro ⟨h1, o, ho, h2⟩
      have ho' : l0[i]? = some o := by simpa using ho
      have hlt := (List.getElem?_eq_some_iff.1 ho').1
      refine ⟨fun hm => ?_, o, ho', fun e he hb => ?_⟩
      · have := (hls i hlt).2 hm
        rw [← listed_iff (by omega), h1] at this
        cases this
      · have := h2 e he hb
        have hlt2 : e.on < ls.size := by
          rcases Nat.lt_or_ge e.on ls.size with h | h
          · exact h
          · simp [Array.getElem?_eq_none h] at this
        exact (hls e.on (by omega)).1 this
    · rintro ⟨h1, o, ho, h2⟩
      have hlt := (List.getElem?_eq_some_iff.1 ho).1
      refine ⟨?_, o, by simpa using ho, fun e he hb => (hls e.on (hin _ (h2 e he hb))).2 (h2 e he hb)⟩
      cases hx : ls.getD i true with
      | false => rfl
      | true =>
        rw [listed_iff (by omega)] at hx
        exact absurd ((hls i hlt).1 hx) h1
  intro m
  induction m with
  | zero =>
    intro listed ls s E a w hsz hls hin h g1 g2 g3 g4
    refine ⟨?_, rfl, s, E, h.2, g1, g2, g3, g4⟩
    apply List.eq_nil_iff_forall_not_mem.2
    intro i hi
    have := (hready listed ls hsz hls hin i).1 hi
    rw [h.1] at this
    cases this
  | succ m ih =>
    intro listed ls s E a w hsz hls hin h g1 g2 g3 g4
    refine ⟨fun hr => ⟨rfl, s, E, h.1 ?_, g1, g2, g3, g4⟩, fun i hi => ?_⟩
    · apply List.eq_nil_iff_forall_not_mem.2
      intro i hi
      have := (hready listed ls hsz hls hin i).2 hi
      rw [hr] at this
      cases this
    · have hi' := (hready listed ls hsz hls hin i).1 hi
      obtain ⟨hil, o, ho, _⟩ := mem_readyL.1 hi'
      have hlt := (List.getElem?_eq_some_iff.1 ho).1
      have hst := opsc_steps (ops := l0.toArray) [o] s _ (h.2 i hi' o ho) E a w (fun a' w' => wpAny P .any l0.toArray (fun e a w => e = .normal ∧ ∃ s' E', K s' ∧ RelT E' s'.tm a ∧ Rel ng E' s'.hp w ∧ n0 ≤ s'.hp.length ∧ Grow n0 E0 S0 w0 E' s'.hp w) m (ls.setIfInBounds i true) a' w') g1 g2 hng g3 (by
        intro s' E' a' w' ⟨_, hk⟩ r1 r2 r3 r4
        refine ih (i :: listed) (ls.setIfInBounds i true) s' E' a' w' (by simp [hsz]) (fun k hk => ?_) (fun k hk => ?_) hk r1 r2 r3 (g4.trans (Nat.le_refl _) r4)
        · by_cases hki : k = i
          · subst hki
            simp [hsz, hlt]
          · rw [getD_set_ne false (Ne.symm hki), hls k hk]
            simp [hki]
        · rcases List.mem_cons.1 hk with rfl | hk
          · exact hlt
          · exact hin k hk)
      exact stepC_wp (by simpa using ho) (stepC_other hst)

/-- A region that draws its order, by a tree of orders. -/
theorem AW.drawP {n id : Nat} {l : List Oper} {s : St} {Q : Exit → St → Prop} (t : Ord) (hm : P.follows .mixedOrders = true) (hp : okT P l l.length [] [] t = true) (h : opscQ P ng n l t s (Q .normal)) :
    AW P ng n (.region id l.toArray true) s Q := by
  intro E a w h1 h2 h3 h4
  have hA := tree_sound t l.length [] [] s hp (fun i o _ hi => by cases hi) (fun r hr => by cases hr) h
  have := any_of_anyA h3 (K := Q .normal) (E0 := E) (S0 := s.hp) (w0 := w) l.length [] (Array.replicate l.length false) s E a { w with drawn := w.drawn + 1 } (by simp) (fun i hi => by simp [hi]) (fun i hi => by cases hi) hA h1 (h2.same rfl) h4
    ⟨fun _ _ => rfl, rfl, rfl, rfl, Nat.le_refl _, fun _ _ _ => rfl, fun id l bl h1 h2 h3 h4 _ => ⟨id, l, bl, h1, h2, h3, h4, rfl⟩⟩
  have hsz : l.toArray.size = l.length := by simp
  refine wp_mono (wp_region_any hm (by rw [hsz]; exact this)) ?_
  rintro e a' w' ⟨rfl, s', E', hh⟩
  exact ⟨s', E', hh⟩

section
variable {l0 : List Oper} {i j r : Nat} {cs ds : List Nat} {t u : Ord} {tm : List Value} {hp : Heap} {K : St → Prop}
@[congr] theorem opscQ_congr {s s' : St} (h : Unit → s = s') : opscQ P ng n l0 t s K = opscQ P ng n l0 t s' K := by rw [h ()]
@[congr] theorem againQ_congr {s s' : St} (h : Unit → s = s') : againQ P ng n l0 cs s K = againQ P ng n l0 cs s' K := by rw [h ()]
theorem opscQ_done : opscQ P ng n l0 .done ⟨tm, hp⟩ K = K ⟨tm, hp⟩ := opq rfl
theorem opscQ_take : opscQ P ng n l0 (.take i t) ⟨tm, hp⟩ K = goO (nthO l0 i) fun o => opsc P ng n (dsts l0) [o] ⟨tm, hp⟩ (fun s' => opscQ P ng n l0 t s' K) := opq rfl
theorem opscQ_one : opscQ P ng n l0 (.one i cs t) ⟨tm, hp⟩ K = goO (nthO l0 i) fun o => opsc P ng n (dsts l0) [o] ⟨tm, hp⟩ (fun s' => againQ P ng n l0 cs s' (fun s' => opscQ P ng n l0 t s' K)) := opq rfl
theorem opscQ_two : opscQ P ng n l0 (.two i cs t j ds u) ⟨tm, hp⟩ K = ((goO (nthO l0 i) fun o => opsc P ng n (dsts l0) [o] ⟨tm, hp⟩ (fun s' => againQ P ng n l0 cs s' (fun s' => opscQ P ng n l0 t s' K))) ∧
      (goO (nthO l0 j) fun o => opsc P ng n (dsts l0) [o] ⟨tm, hp⟩ (fun s' => againQ P ng n l0 ds s' (fun s' => opscQ P ng n l0 u s' K)))) := opq rfl
theorem againQ_nil : againQ P ng n l0 [] ⟨tm, hp⟩ K = K ⟨tm, hp⟩ := opq rfl
theorem againQ_cons : againQ P ng n l0 (r :: cs) ⟨tm, hp⟩ K = ((goO (nthO l0 r) fun x => opsc P ng n (dsts l0) [x] ⟨tm, hp⟩ (fun s' => s' = ⟨tm, hp⟩)) ∧ againQ P ng n l0 cs ⟨tm, hp⟩ K) := opq rfl
end

end Go.Am
