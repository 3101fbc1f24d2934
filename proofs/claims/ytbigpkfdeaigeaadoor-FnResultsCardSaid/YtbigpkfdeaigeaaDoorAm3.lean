/- The abstract meaning of operations that touch no memory, and those that make or write blocks of known cells. No condition. -/
import Derived.Test.YtbigpkfdeaigeaaDoorAm2
namespace Go.Am
open Go
set_option linter.unusedSimpArgs false
set_option linter.unusedVariables false

variable {P : Program} {ng : Nat}

/-- What running one operation comes to. -/
def Does (P : Program) (ng : Nat) (E : Emb) (S : Heap) (w : World) (m : Sem Next) (v : Value) (S' : Heap) : Prop :=
  ∃ nx v' E' w', m.run P w = .ok nx w' ∧ (nx = .value v' ∨ (nx = .skip ∧ v' = undef)) ∧ Rel ng E' S' w' ∧ VR E' v v' ∧ Grow S.length E S w E' S' w'

theorem Does.same {E : Emb} {S : Heap} {w : World} {m : Sem Value} {v v' : Value} (hr : Rel ng E S w) (hm : m.run P w = .ok v' w) (hv : VR E v v') :
    Does P ng E S w (do pure (Next.value (← m))) v S :=
  ⟨_, v', E, w, by simp [hm], .inl rfl, hr, hv, Grow.refl _ _ _ _⟩

theorem Does.value {E E' : Emb} {S S' : Heap} {w w' : World} {m : Sem Value} {v v' : Value} (hr : Rel ng E' S' w') (hm : m.run P w = .ok v' w') (hv : VR E' v v') (hg : Grow S.length E S w E' S' w') :
    Does P ng E S w (do pure (Next.value (← m))) v S' :=
  ⟨_, v', E', w', by simp [hm], .inl rfl, hr, hv, hg⟩

theorem Does.unit {E E' : Emb} {S S' : Heap} {w w' : World} {m : Sem Unit} (hr : Rel ng E' S' w') (hm : m.run P w = .ok () w') (hg : Grow S.length E S w E' S' w') :
    Does P ng E S w (do m; pure Next.skip) (.tuple #[]) S' :=
  ⟨_, undef, E', w', by simp [hm], .inr ⟨rfl, rfl⟩, hr, .any _, hg⟩

/-- A pure step whose answer has no address. -/
def purF (P : Program) (m : Sem Value) : Option Value :=
  match pur P m with
  | some v => if flat v then some v else none
  | none => none

theorem purF_run {m : Sem Value} {v : Value} (h : purF P m = some v) (w : World) : m.run P w = .ok v w ∧ flat v = true := by
  unfold purF at h
  split at h
  · rename_i u hu
    split at h
    · rename_i hf; obtain rfl := Option.some.inj h; exact ⟨pur_run m hu w, hf⟩
    · cases h
  · cases h

/-! ### Binary operators -/
def bin? (P : Program) (op : BinOp) (t : TypeId) (x y : Operand) (a b : Value) : Option Value :=
  if flat a && flat b then purF P (do eqGuard op t x y a b; binOp op t a b)
  else match op, P.underlying t, a, b with
    | .eql, some (.pointer _), .pointer (some _), .pointer none => some (.bool false)
    | .neq, some (.pointer _), .pointer (some _), .pointer none => some (.bool true)
    | .eql, some (.interface _), .iface _ _, .nilIface => some (.bool false)
    | .neq, some (.interface _), .iface _ _, .nilIface => some (.bool true)
    | .eql, some (.slice _), .slice (some ⟨_, _, none⟩) _ _, .slice none _ _ => some (.bool false)
    | .neq, some (.slice _), .slice (some ⟨_, _, none⟩) _ _, .slice none _ _ => some (.bool true)
    | _, _, _, _ => none

theorem eqIn_ptr_nil {t e : TypeId} (hu : P.underlying t = some (.pointer e)) (d : Nat) (a : Addr) (w : World) : (Op.equalIn (d + 1) t (.pointer (some a)) (.pointer none)).run P w = .ok false w := by
  simp [Op.equalIn, run_underlying hu]
theorem eqIn_iface_nil {t : TypeId} {ms : Array (String × TypeId)} (hu : P.underlying t = some (.interface ms)) (d : Nat) (u : TypeId) (x : Value) (w : World) : (Op.equalIn (d + 1) t (.iface u x) .nilIface).run P w = .ok false w := by
  simp [Op.equalIn, run_underlying hu]
theorem eqIn_slice_nil {t e : TypeId} (hu : P.underlying t = some (.slice e)) (d : Nat) (a : Addr) (n c n' c' : Nat) (w : World) : (Op.equalIn (d + 1) t (.slice (some a) n c) (.slice none n' c')).run P w = .ok false w := by
  simp [Op.equalIn, run_underlying hu]

theorem run_eql_of {t : TypeId} {a b : Value} {w : World} (h : ∀ d, (Op.equalIn (d + 1) t a b).run P w = .ok false w) : (Op.equal t a b).run P w = .ok false w := h 9999

theorem bin_run {E : Emb} {op : BinOp} {t : TypeId} {x y : Operand} {a b a' b' v : Value} (h : bin? P op t x y a b = some v) (ha : VR E a a') (hb : VR E b b') (w : World) :
    (do eqGuard op t x y a' b'; binOp op t a' b' : Sem Value).run P w = .ok v w ∧ VR E v v := by
  unfold bin? at h
  split at h
  · rename_i hf
    simp only [Bool.and_eq_true] at hf
    obtain rfl := ha.eq hf.1
    obtain rfl := hb.eq hf.2
    exact ⟨(purF_run h w).1, VR.refl E (purF_run h w).2⟩
  · split at h
    · rename_i e ad hu hnf
      obtain rfl := Option.some.inj h
      refine ⟨?_, .bool _⟩
      cases ha with | ptr off he =>
      cases hb
      show (Sem.bind (.pure ()) fun _ => (do pure (.bool (← Op.equal t _ _)) : Sem Value)).run P w = _
      simp only [Sem.bind, Sem.run_bind, run_eql_of (fun d => eqIn_ptr_nil (P := P) hu d _ w), Result.andThen_ok, Sem.run_pure]
    · rename_i e ad hu hnf
      obtain rfl := Option.some.inj h
      refine ⟨?_, .bool _⟩
      cases ha with | ptr off he =>
      cases hb
      show (Sem.bind (.pure ()) fun _ => (do pure (.bool (!(← Op.equal t _ _))) : Sem Value)).run P w = _
      simp only [Sem.bind, Sem.run_bind, run_eql_of (fun d => eqIn_ptr_nil (P := P) hu d _ w), Result.andThen_ok, Sem.run_pure, Bool.not_false]
    · rename_i ms u z hu hnf
      obtain rfl := Option.some.inj h
      refine ⟨?_, .bool _⟩
      cases ha with | iface _ hz =>
      cases hb
      show (Sem.bind (.pure ()) fun _ => (do pure (.bool (← Op.equal t _ _)) : Sem Value)).run P w = _
      simp only [Sem.bind, Sem.run_bind, run_eql_of (fun d => eqIn_iface_nil (P := P) hu d _ _ w), Result.andThen_ok, Sem.run_pure]
    · rename_i ms u z hu hnf
      obtain rfl := Option.some.inj h
      refine ⟨?_, .bool _⟩
      cases ha with | iface _ hz =>
      cases hb
      show (Sem.bind (.pure ()) fun _ => (do pure (.bool (!(← Op.equal t _ _))) : Sem Value)).run P w = _
      simp only [Sem.bind, Sem.run_bind, run_eql_of (fun d => eqIn_iface_nil (P := P) hu d _ _ w), Result.andThen_ok, Sem.run_pure, Bool.not_false]
    · rename_i e id0 off0 n c _ _ hu hnf
      obtain rfl := Option.some.inj h
      refine ⟨?_, .bool _⟩
      cases ha with | slice off _ sz c he hc hr =>
      cases hb
      show (Sem.bind (.pure ()) fun _ => (do pure (.bool (← Op.equal t _ _)) : Sem Value)).run P w = _
      simp only [Sem.bind, Sem.run_bind, run_eql_of (fun d => eqIn_slice_nil (P := P) hu d _ _ _ _ _ w), Result.andThen_ok, Sem.run_pure]
    · rename_i e id0 off0 n c _ _ hu hnf
      obtain rfl := Option.some.inj h
      refine ⟨?_, .bool _⟩
      cases ha with | slice off _ sz c he hc hr =>
      cases hb
      show (Sem.bind (.pure ()) fun _ => (do pure (.bool (!(← Op.equal t _ _))) : Sem Value)).run P w = _
      simp only [Sem.bind, Sem.run_bind, run_eql_of (fun d => eqIn_slice_nil (P := P) hu d _ _ _ _ _ w), Result.andThen_ok, Sem.run_pure, Bool.not_false]
    · cases h

/-! ### Structs by value -/
def field? (P : Program) (t : TypeId) (x : Value) (f : Nat) : Option Value :=
  match P.underlying t, x with
  | some (.struct fs), .agg cs => match fs[f]? with
    | some fd => part? P fd.type cs fd.offset
    | none => none
  | _, _ => none

theorem field_run {E : Emb} {t : TypeId} {x x' v : Value} {f : Nat} (h : field? P t x f = some v) (hx : VR E x x') :
    ∃ v', (∀ w, (Instr.field t x' f).run P w = .ok v' w) ∧ VR E v v' := by
  unfold field? at h
  split at h
  · rename_i fs cs hu
    split at h
    · rename_i fd hf
      cases hx with
      | agg hs hv =>
        obtain ⟨v', h1, h2⟩ := part_run h hs hv
        exact ⟨v', fun w => by simp [Instr.field, run_underlying hu, hf, asAgg, h1], h2⟩
    · cases h
  · cases h

/-- Parts laid into cells: abstract and real go alike. -/
theorem fold_put {E : Emb} (off : Nat) : ∀ (l l' : List (Value × Nat)) (cs cs' : Array Value), l.length = l'.length →
    (∀ i (h : i < l.length) (h' : i < l'.length), l[i].2 = l'[i].2 ∧ VR E l[i].1 l'[i].1) → cs.size = cs'.size →
    (∀ (i : Nat) (hx : i < cs.size) (hy : i < cs'.size), VR E cs[i] cs'[i]) →
    (l.foldl (fun cs (x : Value × Nat) => cs.setIfInBounds (off + x.2) x.1) cs).size = (l'.foldl (fun cs (x : Value × Nat) => cs.setIfInBounds (off + x.2) x.1) cs').size ∧
    ∀ (i : Nat) (hx : i < (l.foldl (fun cs (x : Value × Nat) => cs.setIfInBounds (off + x.2) x.1) cs).size) (hy : i < (l'.foldl (fun cs (x : Value × Nat) => cs.setIfInBounds (off + x.2) x.1) cs').size),
      VR E (l.foldl (fun cs (x : Value × Nat) => cs.setIfInBounds (off + x.2) x.1) cs)[i] (l'.foldl (fun cs (x : Value × Nat) => cs.setIfInBounds (off + x.2) x.1) cs')[i]
  | [], [], _, _, _, _, hs, hv => ⟨hs, hv⟩
  | [], _ :: _, _, _, hl, _, _, _ => by simp at hl
  | _ :: _, [], _, _, hl, _, _, _ => by simp at hl
  | (v, j) :: r, (v', j') :: r', cs, cs', hl, hp, hs, hv => by
    have h0 := hp 0 (by simp) (by simp)
    simp only [List.getElem_cons_zero] at h0
    obtain ⟨rfl, hvv⟩ := h0
    refine fold_put off r r' (cs.setIfInBounds (off + j) v) (cs'.setIfInBounds (off + j) v') (by simpa using hl) ?_ (by simpa using hs) ?_
    · intro i h h'
      have := hp (i + 1) (by simp; omega) (by simp; omega)
      simpa using this
    · intro i hx hy
      simp only [Array.size_setIfInBounds] at hx hy
      rw [Array.getElem_setIfInBounds hx, Array.getElem_setIfInBounds hy]
      split
      · exact hvv
      · exact hv _ _ _

theorem fill_run {E : Emb} (place : Nat → Option (Nat × Nat)) : ∀ (parts parts' : List (Nat × Value)) (cs cs' c : Array Value), parts.length = parts'.length →
    (∀ i (h : i < parts.length) (h' : i < parts'.length), parts[i].1 = parts'[i].1 ∧ VR E parts[i].2 parts'[i].2 ∧ known parts[i].2 = true) → cs.size = cs'.size →
    (∀ (i : Nat) (hx : i < cs.size) (hy : i < cs'.size), VR E cs[i] cs'[i]) → Instr.fill place cs parts = some c →
    ∃ c', Instr.fill place cs' parts' = some c' ∧ c.size = c'.size ∧ ∀ (i : Nat) (hx : i < c.size) (hy : i < c'.size), VR E c[i] c'[i]
  | [], [], cs, cs', c, _, _, hs, hv, h => by
    simp only [Instr.fill, Option.some.injEq] at h
    subst h
    exact ⟨cs', rfl, hs, hv⟩
  | [], _ :: _, _, _, _, hl, _, _, _, _ => by simp at hl
  | _ :: _, [], _, _, _, hl, _, _, _, _ => by simp at hl
  | (i, v) :: r, (i', v') :: r', cs, cs', c, hl, hp, hs, hv, h => by
    have h0 := hp 0 (by simp) (by simp)
    simp only [List.getElem_cons_zero] at h0
    obtain ⟨rfl, hvv, hk⟩ := h0
    obtain ⟨hcs, hcell⟩ := hvv.cells hk
    simp only [Instr.fill] at h ⊢
    cases hp' : place i with
    | none => simp [hp'] at h
    | some os =>
      obtain ⟨off, size⟩ := os
      simp only [hp', ← hcs, ← hs] at h ⊢
      split at h
      · cases h
      · rename_i hno
        rw [if_neg hno]
        have hz1 : v.cells.zipIdx.toList.length = v'.cells.zipIdx.toList.length := by simp [hcs]
        have hf := fold_put (E := E) off v.cells.zipIdx.toList v'.cells.zipIdx.toList cs cs' hz1 (by
          intro j h1 h2
          simp only [Array.length_toList, Array.size_zipIdx] at h1 h2
          simp only [Array.getElem_toList, Array.getElem_zipIdx]
          exact ⟨trivial, hcell j h1 h2⟩) hs hv
        simp only [← Array.foldl_toList] at h ⊢
        exact fill_run place r r' _ _ c (by simpa using hl) (by
          intro j h1 h2
          have := hp (j + 1) (by simp; omega) (by simp; omega)
          simpa using this) hf.1 hf.2 h

/-- Where a struct's fields lie. -/
def places (P : Program) (fs : Array Field) : Option (Array (Nat × Nat)) := fs.mapM fun f => (szT P f.type).map fun n => (f.offset, n)

theorem run_mapM_list {α β : Type} (w : World) (f : α → Sem β) (g : α → Option β) (hfg : ∀ a b, g a = some b → (f a).run P w = .ok b w) :
    ∀ (l : List α) (r : List β), l.mapM g = some r → (l.mapM f).run P w = .ok r w
  | [], r, h => by simp at h; subst h; rfl
  | a :: l, r, h => by
    simp only [List.mapM_cons, Option.bind_eq_bind, Option.pure_def, Option.bind_eq_some_iff, Option.some.injEq] at h
    obtain ⟨b, hb, r', hr', rfl⟩ := h
    simp [List.mapM_cons, hfg a b hb, run_mapM_list w f g hfg l r' hr']

theorem run_places {fs : Array Field} {ps : Array (Nat × Nat)} (h : places P fs = some ps) (w : World) :
    (fs.mapM fun f => Prod.mk f.offset <$> sizeOf f.type : Sem (Array (Nat × Nat))).run P w = .ok ps w := by
  unfold places at h
  rw [Array.mapM_eq_mapM_toList] at h ⊢
  cases hl : fs.toList.mapM (fun f => (szT P f.type).map fun n => (f.offset, n)) with
  | none => simp [hl] at h
  | some l =>
    simp only [hl, Option.map_eq_map, Option.map_some, Option.some.injEq] at h
    have := run_mapM_list (P := P) w (fun f : Field => (Prod.mk f.offset <$> sizeOf f.type : Sem (Nat × Nat))) (fun f => (szT P f.type).map fun n => (f.offset, n)) (by
      intro f b hb
      simp only [Option.map_eq_some_iff] at hb
      obtain ⟨n, hn, rfl⟩ := hb
      simp [run_sizeOf hn]) fs.toList l hl
    simp [this, h]

def build? (P : Program) (t : TypeId) (parts : Array (Nat × Value)) : Option Value :=
  match P.underlying t, (P.info? t).bind (·.zero) with
  | some (.struct fs), some z =>
    match places P fs with
    | some ps => if flat z && parts.all (fun x => known x.2) then (Instr.fill (ps[·]?) z.cells parts.toList).map .agg else none
    | none => none
  | _, _ => none

theorem flat_cells {E : Emb} {z : Value} (h : flat z = true) : ∀ (i : Nat) (hx : i < z.cells.size), VR E z.cells[i] z.cells[i] := by
  intro i hx
  cases z with
  | agg cs => exact VR.refl0 E (Array.all_eq_true.1 h i hx)
  | bool b => simp [Value.cells] at hx; subst hx; exact VR.refl0 E h
  | int k n => simp [Value.cells] at hx; subst hx; exact VR.refl0 E h
  | float k b => simp [Value.cells] at hx; subst hx; exact VR.refl0 E h
  | complex k a b => simp [Value.cells] at hx; subst hx; exact VR.refl0 E h
  | string s => simp [Value.cells] at hx; subst hx; exact VR.refl0 E h
  | pointer a => simp [Value.cells] at hx; subst hx; exact VR.refl0 E h
  | slice a n c => simp [Value.cells] at hx; subst hx; exact VR.refl0 E h
  | map r => simp [Value.cells] at hx; subst hx; exact VR.refl0 E h
  | chan r => simp [Value.cells] at hx; subst hx; exact VR.refl0 E h
  | func fn f c => simp [Value.cells] at hx; subst hx; exact VR.refl0 E h
  | nilFunc => simp [Value.cells] at hx; subst hx; exact VR.refl0 E h
  | iface t v => simp [Value.cells] at hx; subst hx; exact VR.refl0 E h
  | nilIface => simp [Value.cells] at hx; subst hx; exact VR.refl0 E h
  | tuple vs => simp [flat, flat0] at h

theorem run_zero {t : TypeId} {z : Value} (h : (P.info? t).bind (·.zero) = some z) (w : World) : (zeroValue t).run P w = .ok z w := by
  cases hi : P.info? t with
  | none => simp [hi] at h
  | some i =>
    simp [hi] at h
    simp [zeroValue, typeInfo, hi, h]

theorem build_run {E : Emb} {t : TypeId} {parts parts' : Array (Nat × Value)} {v : Value} (h : build? P t parts = some v) (hs : parts.size = parts'.size)
    (hp : ∀ i (h : i < parts.size) (h' : i < parts'.size), parts[i].1 = parts'[i].1 ∧ VR E parts[i].2 parts'[i].2) :
    ∃ v', (∀ w, (Instr.build t parts').run P w = .ok v' w) ∧ VR E v v' := by
  unfold build? at h
  split at h
  · rename_i fs z hu hz
    split at h
    · rename_i ps hps
      split at h
      · rename_i hf
        simp only [Bool.and_eq_true] at hf
        simp only [Option.map_eq_some_iff] at h
        obtain ⟨c, hc, rfl⟩ := h
        obtain ⟨c', h1, h2, h3⟩ := fill_run (E := E) (ps[·]?) parts.toList parts'.toList z.cells z.cells c (by simpa using hs) (by
          intro i h1 h2
          simp only [Array.length_toList] at h1 h2
          simp only [Array.getElem_toList]
          exact ⟨(hp i h1 h2).1, (hp i h1 h2).2, (Array.all_eq_true.1 hf.2) i h1⟩) rfl (fun i hx _ => flat_cells hf.1 i hx) hc
        refine ⟨.agg c', fun w => ?_, .agg h2 h3⟩
        simp [Instr.build, run_zero hz, run_underlying hu, run_places hps, h1]
      · cases h
    · cases h
  · cases h

/-! ### Addresses -/
def fieldAddr? (P : Program) (t : TypeId) (x : Value) (f : Nat) : Option Value :=
  match P.underlying t, x with
  | some (.struct fs), .pointer (some ⟨id, off, none⟩) => match fs[f]? with
    | some fd => match szT P fd.type with
      | some (_ + 1) => some (.pointer (some ⟨id, off + fd.offset, none⟩))
      | _ => none
    | none => none
  | _, _ => none

theorem fieldAddr_run {E : Emb} {t : TypeId} {x x' v : Value} {f : Nat} (h : fieldAddr? P t x f = some v) (hx : VR E x x') :
    ∃ v', (∀ w, (Instr.fieldAt t x' f).run P w = .ok v' w) ∧ VR E v v' := by
  unfold fieldAddr? at h
  split at h
  · rename_i fs id off hu
    split at h
    · rename_i fd hf
      split at h
      · rename_i n hn
        obtain rfl := Option.some.inj h
        cases hx with
        | ptr _ he =>
          rename_i l
          have := VR.ptr (E := E) (off + fd.offset) he
          refine ⟨_, fun w => ?_, this⟩
          simp [Instr.fieldAt, run_underlying hu, hf, Instr.sureAddr, fieldPlace, run_sizeOf hn, Addr.add_mid, Nat.add_assoc]
      · cases h
    · cases h
  · cases h

def indexAddr? (P : Program) (t : TypeId) (x i : Value) : Option Value :=
  match P.underlying t, x, i with
  | some (.slice e), .slice (some ⟨id, off, none⟩) n sz, .int _ j =>
    if 0 ≤ j ∧ j < n ∧ szT P e = some sz then some (.pointer (some ⟨id, off + j.toNat * sz, none⟩)) else none
  | some (.array n e), .pointer (some ⟨id, off, none⟩), .int _ j =>
    match szT P e with
    | some sz => if 0 ≤ j ∧ j < n then some (.pointer (some ⟨id, off + j.toNat * sz, none⟩)) else none
    | none => none
  | _, _, _ => none

theorem indexAddr_run {E : Emb} {t : TypeId} {x x' i i' v : Value} (h : indexAddr? P t x i = some v) (hx : VR E x x') (hi : VR E i i') :
    ∃ v', (∀ w, (Instr.indexAt t x' i').run P w = .ok v' w) ∧ VR E v v' := by
  unfold indexAddr? at h
  split at h
  · rename_i e id off n sz k j hu
    split at h
    · rename_i hc
      obtain ⟨h0, h1, h2⟩ := hc
      obtain rfl := Option.some.inj h
      cases hi
      cases hx with
      | slice _ _ _ c he hc hr =>
        rename_i l
        have := VR.ptr (E := E) (off + j.toNat * sz) he
        refine ⟨_, fun w => ?_, this⟩
        have hcc : 0 ≤ j ∧ j < (n : Int) := ⟨h0, h1⟩
        simp [Instr.indexAt, asIntOf, run_underlying hu, hcc, run_sizeOf h2, Addr.add_mid, Nat.add_assoc]
    · cases h
  · rename_i n e id off k j hu
    split at h
    · rename_i sz hz
      split at h
      · rename_i hc
        obtain rfl := Option.some.inj h
        cases hi
        cases hx with
        | ptr _ he =>
          rename_i l
          have := VR.ptr (E := E) (off + j.toNat * sz) he
          refine ⟨_, fun w => ?_, this⟩
          simp [Instr.indexAt, asIntOf, run_underlying hu, Instr.sureAddr, hc, run_sizeOf hz, Addr.add_mid, Nat.add_assoc]
      · cases h
    · cases h
  · cases h

end Go.Am
