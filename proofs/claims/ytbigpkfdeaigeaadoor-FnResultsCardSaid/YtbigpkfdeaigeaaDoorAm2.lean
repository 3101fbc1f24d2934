/- The abstract heap's three moves (a new block, a store, a block put in another's place) and reading, each with what the world does. No condition. -/
import Derived.Test.YtbigpkfdeaigeaaDoorAm1
namespace Go.Am
open Go
set_option linter.unusedSimpArgs false
set_option linter.unusedVariables false

variable {P : Program} {ng : Nat}

/-- What a pure step of the model comes to. -/
def pur (P : Program) {α : Type} : Sem α → Option α
  | .pure a => some a
  | .program k => pur P (k P)
  | _ => none

theorem pur_run {α : Type} : ∀ (m : Sem α) {a : α}, pur P m = some a → ∀ w, m.run P w = .ok a w
  | .pure _, _, h, w => by simp [pur] at h; subst h; rfl
  | .program k, _, h, w => by simp only [pur] at h; exact pur_run (k P) h w
  | .load .., _, h, _ => by simp [pur] at h
  | .store .., _, h, _ => by simp [pur] at h
  | .new .., _, h, _ => by simp [pur] at h
  | .shape .., _, h, _ => by simp [pur] at h
  | .freeze .., _, h, _ => by simp [pur] at h
  | .frozen .., _, h, _ => by simp [pur] at h
  | .getObj .., _, h, _ => by simp [pur] at h
  | .setObj .., _, h, _ => by simp [pur] at h
  | .choose .., _, h, _ => by simp [pur] at h
  | .sys .., _, h, _ => by simp [pur] at h
  | .mark .., _, h, _ => by simp [pur] at h
  | .halt .., _, h, _ => by simp [pur] at h

theorem ObjR.congr {E : Emb} {own : Bool} {l : Loc} {w w' : World} {o : Obj} (h : ObjR E own l w o) (hw : w'.heap[l.blk]? = w.heap[l.blk]?) : ObjR E own l w' o := by
  cases o <;> simp only [ObjR, hw] at h ⊢ <;> exact h

theorem ObjR.mono {E E' : Emb} (hE : ∀ id l, E id = some l → E' id = some l) {own : Bool} {l : Loc} {w : World} {o : Obj} (h : ObjR E own l w o) : ObjR E' own l w o := by
  cases o with
  | cells c e f =>
    obtain ⟨c', e', fr, h1, h2, h3, h4, h5⟩ := h
    exact ⟨c', e', fr, h1, h2, h3, fun i hi => let ⟨v', a, b⟩ := h4 i hi; ⟨v', a, b.mono hE⟩, h5⟩
  | map es clock =>
    obtain ⟨es', h1, h2, h3, h4⟩ := h
    exact ⟨es', h1, h2, h3, fun i a b => let ⟨p, q, r, s⟩ := h4 i a b; ⟨p, q, r, s.mono hE⟩⟩
  | mapIter m a b c =>
    obtain ⟨m', h1, h2, h3⟩ := h
    exact ⟨m', h1, h2, h3.mono hE⟩
  | stringIter s pos => exact h
  | _ => exact h.elim

theorem Rel.lt {E : Emb} {S : Heap} {w : World} (h : Rel ng E S w) {id : Nat} {l : Loc} (he : E id = some l) : id < S.length := by
  obtain ⟨b, hb, _⟩ := h.blk id l he
  exact (List.getElem?_eq_some_iff.1 hb).1

/-- A world with the same blocks. -/
theorem Rel.same {E : Emb} {S : Heap} {w w' : World} (h : Rel ng E S w) (hw : w'.heap = w.heap) : Rel ng E S w' where
  blk id l he := by
    obtain ⟨b, h1, h2, h3⟩ := h.blk id l he
    exact ⟨b, h1, by rw [hw]; exact h2, fun hl => (h3 hl).congr (by rw [hw])⟩
  apart := h.apart
  glob := h.glob

theorem Rel.drew {E : Emb} {S : Heap} {w : World} (h : Rel ng E S w) : Rel ng E S w.drew := h.same rfl

theorem Grow.drew (n : Nat) (E : Emb) (S : Heap) (w : World) : Grow n E S w E S w.drew :=
  ⟨fun _ _ => rfl, rfl, rfl, rfl, Nat.le_refl _, fun _ _ _ => rfl, fun id l bl h1 h2 h3 h4 _ => ⟨id, l, bl, h1, h2, h3, h4, rfl⟩⟩

/-- The embedding with one new block behind `n`. -/
def Emb.push (E : Emb) (n : Nat) (l : Loc) : Emb := fun id => if id = n then some l else E id

theorem Emb.push_mono {E : Emb} {S : Heap} {w : World} (h : Rel ng E S w) (l : Loc) : ∀ id l0, E id = some l0 → Emb.push E S.length l id = some l0 := by
  intro id l0 he
  have := h.lt he
  simp only [Emb.push]
  rw [if_neg (by omega)]
  exact he

/-- A NEW BLOCK. -/
theorem Rel.push {E : Emb} {S : Heap} {w : World} (h : Rel ng E S w) (b : Blk) (o : Obj) (room : Nat)
    (ho : b.live = true → ObjR (Emb.push E S.length ⟨w.heap.size, 0, room⟩) b.own ⟨w.heap.size, 0, room⟩ (w.alloc o) b.obj) :
    Rel ng (Emb.push E S.length ⟨w.heap.size, 0, room⟩) (S ++ [b]) (w.alloc o) where
  blk id l he := by
    simp only [Emb.push] at he
    split at he
    · rename_i hid
      subst hid
      obtain rfl := Option.some.inj he
      exact ⟨b, by simp, by simp, ho⟩
    · rename_i hid
      obtain ⟨b0, h1, h2, h3⟩ := h.blk id l he
      refine ⟨b0, by rw [List.getElem?_append_left (h.lt he)]; exact h1, by simp; omega, fun hl => ?_⟩
      exact ((h3 hl).mono (Emb.push_mono h _)).congr (RowKit.Below.heap_alloc w o l.blk h2)
  apart i j li lj bi bj hi hj gi gj hli hlj hoi hij := by
    simp only [Emb.push] at hi hj
    split at hi <;> split at hj
    · omega
    · rename_i e1 e2
      obtain rfl := Option.some.inj hi
      obtain ⟨b0, h1, h2, h3⟩ := h.blk j lj hj
      show w.heap.size ≠ lj.blk
      omega
    · rename_i e1 e2
      obtain rfl := Option.some.inj hj
      obtain ⟨b0, h1, h2, h3⟩ := h.blk i li hi
      show li.blk ≠ w.heap.size
      omega
    · rw [List.getElem?_append_left (h.lt hi)] at gi
      rw [List.getElem?_append_left (h.lt hj)] at gj
      exact h.apart i j li lj bi bj hi hj gi gj hli hlj hoi hij
  glob g hg := by
    obtain ⟨r, hr, hw⟩ := h.glob g hg
    exact ⟨r, Emb.push_mono h _ _ _ hr, fun c e f hc => hw c e f (by rw [List.getElem?_append_left (h.lt hr)] at hc; exact hc)⟩

theorem Grow.push {E : Emb} {S : Heap} {w : World} (h : Rel ng E S w) (b : Blk) (o : Obj) (l : Loc) (hl : l.blk = w.heap.size) :
    Grow S.length E S w (Emb.push E S.length l) (S ++ [b]) (w.alloc o) where
  keep id hid := by simp only [Emb.push]; rw [if_neg (by omega)]
  os := rfl
  tape := rfl
  output := rfl
  size := by simp
  frame k hk _ := RowKit.Below.heap_alloc w o k hk
  owned id l0 bl he hs h1 h2 hlt := by
    simp only [Emb.push] at he
    split at he
    · obtain rfl := Option.some.inj he
      omega
    · rw [List.getElem?_append_left (h.lt he)] at hs
      exact ⟨id, l0, bl, he, hs, h1, h2, rfl⟩

/-- A block's content replaced, in the abstract heap and in the world (the real block keeps its size). -/
theorem Rel.set {E : Emb} {S : Heap} {w w' : World} (h : Rel ng E S w) {id : Nat} {l : Loc} {b b' : Blk} (he : E id = some l) (hb : S[id]? = some b)
    (hlive : b.live = true) (hown : b.own = true) (hsz : w'.heap.size = w.heap.size) (hw : ∀ k, k ≠ l.blk → w'.heap[k]? = w.heap[k]?)
    (hown' : b'.own = true) (ho : b'.live = true → ObjR E true l w' b'.obj) : Rel ng E (S.set id b') w' where
  blk i li hi := by
    obtain ⟨b0, h1, h2, h3⟩ := h.blk i li hi
    by_cases hid : i = id
    · subst hid
      obtain rfl : l = li := Option.some.inj (he.symm.trans hi)
      refine ⟨b', by rw [List.getElem?_set_self (h.lt he)], by rw [hsz]; exact h2, fun hl => ?_⟩
      rw [hown']
      exact ho hl
    · refine ⟨b0, by rw [List.getElem?_set_ne (Ne.symm hid)]; exact h1, by rw [hsz]; exact h2, fun hl => (h3 hl).congr ?_⟩
      refine hw _ (Ne.symm ?_)
      exact h.apart id i l li b b0 he hi hb h1 hlive hl hown (Ne.symm hid)
  apart i j li lj bi bj hi hj gi gj hli hlj hoi hij := by
    rcases Decidable.em (i = id) with hii | hii <;> rcases Decidable.em (j = id) with hjj | hjj
    · omega
    · subst hii
      obtain rfl : l = li := Option.some.inj (he.symm.trans hi)
      rw [List.getElem?_set_ne (Ne.symm hjj)] at gj
      exact h.apart i j l lj b bj he hj hb gj hlive hlj hown hij
    · subst hjj
      obtain rfl : l = lj := Option.some.inj (he.symm.trans hj)
      rw [List.getElem?_set_ne (Ne.symm hii)] at gi
      exact h.apart i j li l bi b hi he gi hb hli hlive hoi hij
    · rw [List.getElem?_set_ne (Ne.symm hii)] at gi
      rw [List.getElem?_set_ne (Ne.symm hjj)] at gj
      exact h.apart i j li lj bi bj hi hj gi gj hli hlj hoi hij
  glob g hg := by
    obtain ⟨r, hr, hwv⟩ := h.glob g hg
    refine ⟨r, hr, fun c e f hc => ?_⟩
    by_cases hid : id = g
    · subst hid
      rw [List.getElem?_set_self (h.lt he)] at hc
      obtain rfl := Option.some.inj hc
      cases hown'
    · rw [List.getElem?_set_ne hid] at hc
      exact hwv c e f hc

theorem Grow.set {E : Emb} {S : Heap} {w w' : World} (n : Nat) {id : Nat} {l : Loc} {b b' : Blk} (he : E id = some l) (hb : S[id]? = some b)
    (hlive : b.live = true) (hown : b.own = true) (hsz : w'.heap.size = w.heap.size) (hw : ∀ k, k ≠ l.blk → w'.heap[k]? = w.heap[k]?)
    (hos : w'.os = w.os) (htape : w'.tape = w.tape) (hout : w'.output = w.output) :
    Grow n E S w E (S.set id b') w' where
  keep _ _ := rfl
  os := hos
  tape := htape
  output := hout
  size := by omega
  frame k _ hno := hw k (fun e => hno id l b he hb hlive hown e.symm)
  owned i li bl hi hs h1 h2 hlt := by
    by_cases hid : i = id
    · subst hid
      exact ⟨i, l, b, he, hb, hlive, hown, by rw [Option.some.inj (he.symm.trans hi)]⟩
    · rw [List.getElem?_set_ne (Ne.symm hid)] at hs
      exact ⟨i, li, bl, hi, hs, h1, h2, rfl⟩

/-- A block that is read no more. -/
theorem Rel.kill {E : Emb} {S : Heap} {w : World} (h : Rel ng E S w) (id : Nat) (b' : Blk) (hd : b'.live = false) : Rel ng E (S.set id b') w where
  blk i li hi := by
    obtain ⟨b0, h1, h2, h3⟩ := h.blk i li hi
    by_cases hid : i = id
    · subst hid
      exact ⟨b', by rw [List.getElem?_set_self (h.lt hi)], h2, fun hl => by rw [hd] at hl; cases hl⟩
    · exact ⟨b0, by rw [List.getElem?_set_ne (Ne.symm hid)]; exact h1, h2, h3⟩
  apart i j li lj bi bj hi hj gi gj hli hlj hoi hij := by
    have hii : i ≠ id := by
      rintro rfl
      rw [List.getElem?_set_self (h.lt hi)] at gi
      obtain rfl := Option.some.inj gi
      rw [hd] at hli; cases hli
    have hjj : j ≠ id := by
      rintro rfl
      rw [List.getElem?_set_self (h.lt hj)] at gj
      obtain rfl := Option.some.inj gj
      rw [hd] at hlj; cases hlj
    rw [List.getElem?_set_ne (Ne.symm hii)] at gi
    rw [List.getElem?_set_ne (Ne.symm hjj)] at gj
    exact h.apart i j li lj bi bj hi hj gi gj hli hlj hoi hij
  glob g hg := by
    obtain ⟨r, hr, hwv⟩ := h.glob g hg
    refine ⟨r, hr, fun c e f hc => ?_⟩
    by_cases hid : id = g
    · subst hid
      rw [List.getElem?_set_self (h.lt hr)] at hc
      obtain rfl := Option.some.inj hc
      cases hd
    · rw [List.getElem?_set_ne hid] at hc
      exact hwv c e f hc

theorem Grow.kill {E : Emb} {S : Heap} {w : World} (n : Nat) (id : Nat) (b' : Blk) (hd : b'.live = false) : Grow n E S w E (S.set id b') w where
  keep _ _ := rfl
  os := rfl
  tape := rfl
  output := rfl
  size := Nat.le_refl _
  frame _ _ _ := rfl
  owned i li bl hi hs h1 h2 _ := by
    have hid : i ≠ id := by
      rintro rfl
      rcases Nat.lt_or_ge i S.length with hlt | hge
      · rw [List.getElem?_set_self hlt] at hs
        obtain rfl := Option.some.inj hs
        rw [hd] at h1; cases h1
      · rw [List.getElem?_eq_none (by simpa using hge)] at hs; cases hs
    rw [List.getElem?_set_ne (Ne.symm hid)] at hs
    exact ⟨i, li, bl, hi, hs, h1, h2, rfl⟩

/-! ### Types -/
def aggT (P : Program) (t : TypeId) : Option Bool := (P.underlying t).map fun d => match d with | .struct _ | .array _ _ => true | _ => false
def szT (P : Program) (t : TypeId) : Option Nat := (P.info? t).map (·.size)

theorem run_isAgg {t : TypeId} {b : Bool} (h : aggT P t = some b) (w : World) : (isAgg t).run P w = .ok b w := by
  unfold aggT at h
  cases hu : P.underlying t with
  | none => simp [hu] at h
  | some d =>
    simp only [hu, Option.map_some, Option.some.injEq] at h
    unfold isAgg
    rw [Sem.run_bind, run_underlying hu w]
    cases d <;> simp_all

theorem run_sizeOf {t : TypeId} {n : Nat} (h : szT P t = some n) (w : World) : (sizeOf t).run P w = .ok n w := by
  unfold szT at h
  cases hu : P.info? t with
  | none => simp [hu] at h
  | some d => simp [hu] at h; simp [sizeOf, typeInfo, hu, h]

/-- A part of an aggregate's cells, as a value of type t. -/
def part? (P : Program) (t : TypeId) (cs : Array Value) (off : Nat) : Option Value :=
  match aggT P t, szT P t with
  | some true, some n => if off + n ≤ cs.size then some (.agg (cs.extract off (off + n))) else none
  | some false, some _ => cs[off]?
  | _, _ => none

theorem part_run {E : Emb} {t : TypeId} {cs cs' : Array Value} {off : Nat} {v : Value} (h : part? P t cs off = some v) (hs : cs.size = cs'.size)
    (hv : ∀ (i : Nat) (hx : i < cs.size) (hy : i < cs'.size), VR E cs[i] cs'[i]) : ∃ v', (∀ w, (part t cs' off).run P w = .ok v' w) ∧ VR E v v' := by
  unfold part? at h
  cases ha : aggT P t with
  | none => simp [ha] at h
  | some b =>
    cases hz : szT P t with
    | none => cases b <;> simp [ha, hz] at h
    | some n =>
      cases b with
      | true =>
        simp only [ha, hz] at h
        split at h
        · rename_i hle
          obtain rfl := Option.some.inj h
          refine ⟨.agg (cs'.extract off (off + n)), fun w => by simp [part, Sem.run_bind, run_isAgg ha, run_sizeOf hz], .agg (by simp [hs]) fun i hx hy => ?_⟩
          simp only [Array.getElem_extract]
          exact hv _ _ _
        · cases h
      | false =>
        simp only [ha, hz] at h
        obtain ⟨hlt, rfl⟩ := Array.getElem?_eq_some_iff.1 h
        refine ⟨cs'[off]'(by omega), fun w => ?_, hv _ _ _⟩
        simp [part, Sem.run_bind, run_isAgg ha, Array.getElem?_eq_getElem (show off < cs'.size by omega)]

/-- Reading a variable of type t through a pointer. -/
def load? (P : Program) (S : Heap) (t : TypeId) : Value → Option Value
  | .pointer (some ⟨id, off, none⟩) =>
    match S[id]? with
    | some ⟨.cells c _ _, true, _⟩ => part? P t c off
    | _ => none
  | _ => none

theorem load_run {E : Emb} {S : Heap} {w : World} {t : TypeId} {p p' v : Value} (h : load? P S t p = some v) (hr : Rel ng E S w) (hp : VR E p p') :
    ∃ v', (Instr.loadAt t p').run P w = .ok v' w ∧ VR E v v' := by
  unfold load? at h
  split at h
  · rename_i id off
    split at h
    · rename_i c e f own hb
      cases hp with
      | ptr _ he =>
        rename_i l
        obtain ⟨b, hb', hlt, ho⟩ := hr.blk id l he
        rw [hb] at hb'
        obtain rfl := Option.some.inj hb'
        obtain ⟨c', e', fr, hw, hroom, hbase, hcell, _⟩ := ho rfl
        have hc : ∀ i (hi : i < c.size), ∃ v', w.cell? ⟨l.blk, l.base + i, none⟩ = some v' ∧ VR E c[i] v' := by
          intro i hi
          obtain ⟨v', h1, h2⟩ := hcell i hi
          exact ⟨v', by simp [World.cell?, hw, h1], h2⟩
        unfold part? at h
        cases ha : aggT P t with
        | none => simp [ha] at h
        | some b =>
          cases hz : szT P t with
          | none => cases b <;> simp [ha, hz] at h
          | some n =>
            cases b with
            | false =>
              simp only [ha, hz] at h
              obtain ⟨hi, rfl⟩ := Array.getElem?_eq_some_iff.1 h
              obtain ⟨v', h1, h2⟩ := hc off hi
              refine ⟨v', ?_, h2⟩
              simp [Instr.loadAt, Instr.sureAddr, loadVar, Sem.run_bind, run_isAgg ha, h1]
            | true =>
              simp only [ha, hz] at h
              split at h
              · rename_i hle
                obtain rfl := Option.some.inj h
                have hlen : (c'.extract (l.base + off) (l.base + off + n)).size = n := by simp; omega
                refine ⟨.agg (c'.extract (l.base + off) (l.base + off + n)), ?_, .agg (by simp; omega) ?_⟩
                · have hu : ∃ d, P.underlying t = some d ∧ d.isRow = true := by
                    unfold aggT at ha
                    cases hu : P.underlying t with
                    | none => simp [hu] at ha
                    | some d => refine ⟨d, rfl, ?_⟩; simp [hu] at ha; cases d <;> simp_all
                  obtain ⟨d, hu, hd⟩ := hu
                  have := run_loadAt_mid (P := P) w l.blk (l.base + off) t (c'.extract (l.base + off) (l.base + off + n)).toList d ?_ hu hd ?_
                  · rw [Array.toArray_toList] at this; exact this
                  · intro j v hj
                    have : c'[l.base + off + j]? = some v := by
                      have hj' : (c'.extract (l.base + off) (l.base + off + n))[j]? = some v := by rw [Array.getElem?_toList] at hj; exact hj
                      rw [Array.getElem?_extract] at hj'
                      split at hj'
                      · exact hj'
                      · cases hj'
                    simp [World.cell?, hw, this]
                  · rw [Array.length_toList, hlen]; exact hz
                · intro i hx hy
                  simp only [Array.getElem_extract]
                  have hi : off + i < c.size := by simp at hx; omega
                  obtain ⟨v', h1, h2⟩ := hcell (off + i) hi
                  have : c'[l.base + off + i]'(by simp at hy; omega) = v' := by
                    have := (Array.getElem?_eq_some_iff.1 h1).2
                    rw [← this]; congr 1; omega
                  rw [this]; exact h2
              · cases h
    · cases h
  · cases h

end Go.Am
