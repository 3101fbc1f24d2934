/- The abstract meaning of stores, new blocks, slicing, append and copy, each with what the model does. No condition. -/
import Derived.Test.YtbigpkfdeaigeaaDoorAm3
import Derived.Deep.Upon
namespace Go.Am
open Go
set_option linter.unusedSimpArgs false
set_option linter.unusedVariables false

variable {P : Program} {ng : Nat}

/-- Cells written one behind the other. -/
def setL (c : Array Value) : Nat → List Value → Array Value
  | _, [] => c
  | o, v :: r => setL (c.setIfInBounds o v) (o + 1) r

theorem setL_size : ∀ (vs : List Value) (c : Array Value) (o : Nat), (setL c o vs).size = c.size
  | [], _, _ => rfl
  | v :: r, c, o => by simp [setL, setL_size r]

theorem setL_get : ∀ (vs : List Value) (c : Array Value) (o i : Nat), o + vs.length ≤ c.size → (setL c o vs)[i]? = if o ≤ i ∧ i < o + vs.length then vs[i - o]? else c[i]?
  | [], c, o, i, _ => by simp [setL]; omega
  | v :: r, c, o, i, h => by
    simp only [List.length_cons] at h
    rw [setL, setL_get r _ (o + 1) i (by simp; omega)]
    by_cases hi : i = o
    · subst hi
      rw [if_neg (by omega), if_pos (by simp)]
      simp [Array.getElem?_setIfInBounds]
      omega
    · by_cases h1 : o + 1 ≤ i ∧ i < o + 1 + r.length
      · rw [if_pos h1, if_pos (by simp only [List.length_cons]; omega), show i - o = (i - (o + 1)) + 1 by omega]
        simp
      · rw [if_neg h1, if_neg (by simp only [List.length_cons]; omega)]
        simp [Array.getElem?_setIfInBounds, Ne.symm hi]

theorem heap_setCells (b : Nat) (e : TypeId) (fr : Nat × Nat) : ∀ (vs : List Value) (o : Nat) (w : World) (c : Array Value), w.heap[b]? = some (.cells c e fr) →
    (w.setCells b o vs).heap[b]? = some (.cells (setL c o vs) e fr)
  | [], _, _, _, h => h
  | v :: r, o, w, c, h => by
    refine heap_setCells b e fr r (o + 1) (w.setCell ⟨b, o, none⟩ v) (c.setIfInBounds o v) ?_
    simp [World.setCell, Array.getElem?_modify, h]

theorem size_setCells (b : Nat) : ∀ (vs : List Value) (o : Nat) (w : World), (w.setCells b o vs).heap.size = w.heap.size
  | [], _, _ => rfl
  | v :: r, o, w => by
    have := size_setCells b r (o + 1) (w.setCell ⟨b, o, none⟩ v)
    simp only [World.setCells, this]
    simp [World.setCell]

theorem other_setCells (b : Nat) : ∀ (vs : List Value) (o : Nat) (w : World) (k : Nat), k ≠ b → (w.setCells b o vs).heap[k]? = w.heap[k]?
  | [], _, _, _, _ => rfl
  | v :: r, o, w, k, hk => by
    have := other_setCells b r (o + 1) (w.setCell ⟨b, o, none⟩ v) k hk
    simp only [World.setCells, this]
    exact RowKit.Below.heap_setCell w ⟨b, o, none⟩ v k hk

theorem os_setCells (b : Nat) : ∀ (vs : List Value) (o : Nat) (w : World), (w.setCells b o vs).os = w.os ∧ (w.setCells b o vs).tape = w.tape ∧ (w.setCells b o vs).output = w.output
  | [], _, _ => ⟨rfl, rfl, rfl⟩
  | v :: r, o, w => by
    have := os_setCells b r (o + 1) (w.setCell ⟨b, o, none⟩ v)
    simp only [World.setCells]
    exact this

/-- What the world must be for cells to be written, out of the description of an owned block. -/
theorem ObjR.writable {E : Emb} {l : Loc} {w : World} {c : Array Value} {e0 : TypeId} {f0 : Nat × Nat} (h : ObjR E true l w (.cells c e0 f0)) (o n : Nat) (ho : o + n ≤ l.room) :
    (∀ j, j < n → (w.cell? ⟨l.blk, o + j, none⟩).isSome = true) ∧ (∀ j, j < n → w.frozen? ⟨l.blk, o + j, none⟩ = false) := by
  obtain ⟨c', e', fr, hw, hroom, hbase, hcell, hfr, -⟩ := h
  refine ⟨fun j hj => ?_, fun j hj => ?_⟩
  · simp only [World.cell?, hw]
    simp; omega
  · have := hfr rfl (o + j) (by omega)
    simp only [World.frozen?, hw]
    simp only [Bool.and_eq_false_iff, decide_eq_false_iff_not]
    omega

/-- Cells of an owned block written: block and description go alike. -/
theorem setCells_rel {E : Emb} {S : Heap} {w : World} (hr : Rel ng E S w) {id : Nat} {l : Loc} {c : Array Value} {e : TypeId} {f : Nat × Nat} (he : E id = some l)
    (hb : S[id]? = some ⟨.cells c e f, true, true⟩) (off : Nat) (vs vs' : List Value) (hoff : off + vs.length ≤ c.size) (hlen : vs.length = vs'.length)
    (hv : ∀ i (h : i < vs.length) (h' : i < vs'.length), VR E vs[i] vs'[i]) :
    Rel ng E (S.set id ⟨.cells (setL c off vs) e f, true, true⟩) (w.setCells l.blk (l.base + off) vs') ∧
      ∀ n, Grow n E S w E (S.set id ⟨.cells (setL c off vs) e f, true, true⟩) (w.setCells l.blk (l.base + off) vs') := by
  obtain ⟨b, hb', hlt, ho⟩ := hr.blk id l he
  rw [hb] at hb'
  obtain rfl := Option.some.inj hb'
  obtain ⟨c', e', fr, hw, hroom, hbase, hcell, hfr⟩ := ho rfl
  have hos := os_setCells l.blk vs' (l.base + off) w
  refine ⟨hr.set he hb rfl rfl (size_setCells _ _ _ _) (fun k hk => other_setCells _ _ _ _ k hk) rfl fun _ => ?_,
    fun n => Grow.set n he hb rfl rfl (size_setCells _ _ _ _) (fun k hk => other_setCells _ _ _ _ k hk) hos.1 hos.2.1 hos.2.2⟩
  refine ⟨_, e', fr, heap_setCells l.blk e' fr vs' (l.base + off) w c' hw, by rw [setL_size]; exact hroom, by rw [setL_size]; exact hbase, fun i hi => ?_, hfr.1, hfr.2.1, fun hq => by rw [setL_size, setL_size]; exact hfr.2.2 hq⟩
  rw [setL_size] at hi
  rw [setL_get _ _ _ _ (by omega)]
  have hgi : (setL c off vs)[i]? = some ((setL c off vs)[i]'(by rw [setL_size]; exact hi)) := Array.getElem?_eq_getElem _
  rw [setL_get _ _ _ _ hoff] at hgi
  by_cases hin : off ≤ i ∧ i < off + vs.length
  · rw [if_pos hin] at hgi
    rw [if_pos (by omega), show l.base + i - (l.base + off) = i - off by omega]
    refine ⟨vs'[i - off]'(by omega), List.getElem?_eq_getElem _, ?_⟩
    have : (setL c off vs)[i]'(by rw [setL_size]; exact hi) = vs[i - off]'(by omega) := by
      rw [List.getElem?_eq_getElem (by omega)] at hgi
      exact (Option.some.inj hgi).symm
    rw [this]
    exact hv _ _ _
  · rw [if_neg hin] at hgi
    rw [if_neg (by omega)]
    obtain ⟨v', h1, h2⟩ := hcell i hi
    refine ⟨v', h1, ?_⟩
    have : (setL c off vs)[i]'(by rw [setL_size]; exact hi) = c[i] := by
      rw [Array.getElem?_eq_getElem hi] at hgi
      exact (Option.some.inj hgi).symm
    rw [this]
    exact h2

/-- All one-celled. -/
def ones (vs : List Value) : Bool := vs.all (·.oneCell')

theorem ones_real {E : Emb} {vs vs' : List Value} (h : ones vs = true) (hlen : vs.length = vs'.length) (hv : ∀ i (h : i < vs.length) (h' : i < vs'.length), VR E vs[i] vs'[i]) : ∀ v ∈ vs', v.oneCell' = true := by
  intro v hv'
  obtain ⟨i, hi, rfl⟩ := List.getElem_of_mem hv'
  exact (hv i (by omega) hi).oneCell ((List.all_eq_true.1 h) _ (List.getElem_mem _))

/-- A store through a pointer. -/
def store? (P : Program) (S : Heap) (t : TypeId) (p v : Value) : Option Heap :=
  match p with
  | .pointer (some ⟨id, off, none⟩) =>
    match S[id]? with
    | some ⟨.cells c e f, true, true⟩ =>
      if szT P t = some v.cells.size ∧ off + v.cells.size ≤ c.size ∧ known v = true ∧ ones v.cells.toList = true then some (S.set id ⟨.cells (setL c off v.cells.toList) e f, true, true⟩) else none
    | _ => none
  | _ => none

theorem store_run {E : Emb} {S S' : Heap} {w : World} {t : TypeId} {p p' v v' : Value} (h : store? P S t p v = some S') (hr : Rel ng E S w) (hp : VR E p p') (hv : VR E v v') :
    ∃ w', (Instr.storeAt t p' v').run P w = .ok () w' ∧ Rel ng E S' w' ∧ Grow S.length E S w E S' w' := by
  unfold store? at h
  split at h
  · rename_i id off
    split at h
    · rename_i c e f hb
      split at h
      · rename_i hc
        obtain ⟨hsz, hle, hk, h1⟩ := hc
        obtain rfl := Option.some.inj h
        cases hp with
        | ptr _ he =>
          rename_i l
          obtain ⟨hcs, hcv⟩ := hv.cells hk
          have hpw : ∀ i (h : i < v.cells.toList.length) (h' : i < v'.cells.toList.length), VR E v.cells.toList[i] v'.cells.toList[i] := by
            intro i a b
            simp only [Array.length_toList] at a b
            simp only [Array.getElem_toList]
            exact hcv i a b
          obtain ⟨g1, g2⟩ := setCells_rel hr he hb off v.cells.toList v'.cells.toList (by simpa using hle) (by simpa using hcs) hpw
          refine ⟨_, ?_, g1, g2 _⟩
          obtain ⟨b, hb', hlt, ho⟩ := hr.blk id l he
          rw [hb] at hb'
          obtain rfl := Option.some.inj hb'
          have ho' := ho rfl
          obtain ⟨hw1, hw2⟩ := ObjR.writable ho' (l.base + off) v'.cells.size (by
            obtain ⟨c', e', fr, hw, hroom, hbase, hcell, hfr⟩ := ho'
            omega)
          have hrun := run_storeCells_cells (P := P) l.blk (l.base + off) v'.cells.toList 0 w (fun j hj => by simpa using hw1 j (by simpa using hj)) (fun j hj => by simpa using hw2 j (by simpa using hj))
            (ones_real h1 (by simpa using hcs) hpw)
          simp only [Nat.add_zero] at hrun
          have hsz' : szT P t = some v'.cells.size := by rw [hsz, hcs]
          simp [Instr.storeAt, Instr.sureAddr, storeVar, run_sizeOf hsz', hrun]
      · cases h
    · cases h
  · cases h

/-! ### New blocks -/
theorem alloc_eq (w : World) (o : Obj) : ({ w with heap := w.heap.push o } : World) = w.alloc o := rfl

/-- A new row of cells. -/
theorem newRow_rel {E : Emb} {S : Heap} {w : World} (hr : Rel ng E S w) (c c' : Array Value) (e : TypeId) (f fr : Nat × Nat) (own : Bool) (hs : c.size ≤ c'.size)
    (hv : ∀ (i : Nat) (hx : i < c.size) (hy : i < c'.size), VR E c[i] c'[i]) (hfr : ∀ o, o < c'.size → ¬ (fr.1 ≤ o ∧ o < fr.2)) (hex : f = (0, 0) → c'.size = c.size) :
    Rel ng (Emb.push E S.length ⟨w.heap.size, 0, c'.size⟩) (S ++ [⟨.cells c e f, true, own⟩]) (w.alloc (.cells c' e fr)) ∧
      Grow S.length E S w (Emb.push E S.length ⟨w.heap.size, 0, c'.size⟩) (S ++ [⟨.cells c e f, true, own⟩]) (w.alloc (.cells c' e fr)) := by
  refine ⟨hr.push _ _ _ fun _ => ⟨c', e, fr, ?_, rfl, by simpa using hs, fun i hi => ⟨c'[i]'(by omega), ?_, (hv i hi (by omega)).mono (Emb.push_mono hr _)⟩, fun _ => hfr, fun _ => rfl, fun hq => ⟨rfl, hex hq⟩⟩, Grow.push hr _ _ _ rfl⟩
  · show (w.heap.push _)[w.heap.size]? = _
    simp
  · simp [Array.getElem?_eq_getElem (show i < c'.size by omega)]

theorem push_self (E : Emb) (n : Nat) (l : Loc) : Emb.push E n l n = some l := by simp [Emb.push]

/-- An element type's zero value and cells. -/
def zero? (P : Program) (t : TypeId) : Option Value := (P.info? t).bind fun i => i.zero

def ptrTo (S : Heap) : Value := .pointer (some ⟨S.length, 0, none⟩)

def alloc? (P : Program) (S : Heap) (t : TypeId) : Option (Value × Heap) :=
  match zero? P t with
  | some z => if flat z then some (ptrTo S, S ++ [⟨.cells z.cells t (0, 0), true, true⟩]) else none
  | none => none

theorem alloc_run {E : Emb} {S S' : Heap} {w : World} {t : TypeId} {v : Value} (h : alloc? P S t = some (v, S')) (hr : Rel ng E S w) :
    ∃ v' E' w', (Instr.alloc t true (.tuple #[])).run P w = .ok v' w' ∧ Rel ng E' S' w' ∧ VR E' v v' ∧ Grow S.length E S w E' S' w' := by
  unfold alloc? at h
  split at h
  · rename_i z hz
    split at h
    · rename_i hf
      obtain ⟨rfl, rfl⟩ := Prod.mk.inj (Option.some.inj h)
      obtain ⟨g1, g2⟩ := newRow_rel hr z.cells z.cells t (0, 0) (0, 0) true (Nat.le_refl _) (fun i hx _ => flat_cells hf i hx) (fun o _ => by omega) (fun _ => rfl)
      refine ⟨.pointer (some ⟨w.heap.size, 0, none⟩), _, _, ?_, g1, ?_, g2⟩
      · simp [Instr.alloc, run_zero hz, newVar, newRow, alloc_eq]
      · exact VR.ptr (l := ⟨w.heap.size, 0, z.cells.size⟩) 0 (push_self _ _ _)
    · cases h
  · cases h

def box? (S : Heap) (t : TypeId) (x : Value) : Option (Value × Heap) :=
  if known x then some (ptrTo S, S ++ [⟨.cells x.cells t (0, 0), true, true⟩]) else none

theorem box_run {E : Emb} {S S' : Heap} {w : World} {t : TypeId} {x x' v : Value} (h : box? S t x = some (v, S')) (hr : Rel ng E S w) (hx : VR E x x') :
    ∃ v' E' w', (Instr.box t x').run P w = .ok v' w' ∧ Rel ng E' S' w' ∧ VR E' v v' ∧ Grow S.length E S w E' S' w' := by
  unfold box? at h
  split at h
  · rename_i hk
    obtain ⟨rfl, rfl⟩ := Prod.mk.inj (Option.some.inj h)
    obtain ⟨hcs, hcv⟩ := hx.cells hk
    obtain ⟨g1, g2⟩ := newRow_rel hr x.cells x'.cells t (0, 0) (0, 0) true (by omega) hcv (fun o _ => by omega) (fun _ => by omega)
    refine ⟨.pointer (some ⟨w.heap.size, 0, none⟩), _, _, ?_, g1, ?_, g2⟩
    · simp [Instr.box, newVar, newRow, alloc_eq]
    · exact VR.ptr (l := ⟨w.heap.size, 0, x'.cells.size⟩) 0 (push_self _ _ _)
  · cases h

/-- The zero cells of n elements. -/
def zerosOf (z : Array Value) (n : Nat) : Array Value := (Array.range n).map (z[· % z.size]!)

theorem zerosOf_vr {E : Emb} {z : Value} (h : flat z = true) (n : Nat) (hz : 0 < z.cells.size) : ∀ (i : Nat) (hx : i < (zerosOf z.cells n).size), VR E (zerosOf z.cells n)[i] (zerosOf z.cells n)[i] := by
  intro i hx
  have hm : i % z.cells.size < z.cells.size := Nat.mod_lt _ hz
  have : (zerosOf z.cells n)[i] = z.cells[i % z.cells.size] := by
    simp [zerosOf, getElem!_pos, hm]
  rw [this]
  exact flat_cells h _ hm

def buildSlice? (P : Program) (S : Heap) (t : TypeId) (len : Nat) (parts : Array (Nat × Value)) : Option (Value × Heap) :=
  match P.underlying t with
  | some (.slice e) =>
    match zero? P e, szT P e with
    | some z, some sz =>
      if flat z ∧ 0 < z.cells.size ∧ z.cells.size = sz ∧ len * sz ≤ 2 ^ 24 ∧ parts.all (fun x => known x.2) = true then
        match Instr.fill (fun i => some (i * sz, sz)) (if len * sz = 0 then #[] else zerosOf z.cells (len * sz)) parts.toList with
        | some c => some (.slice (some ⟨S.length, 0, none⟩) len sz, S ++ [⟨.cells c e (0, 0), true, true⟩])
        | none => none
      else none
    | _, _ => none
  | _ => none

theorem fold_size (off : Nat) : ∀ (l : List (Value × Nat)) (cs : Array Value), (l.foldl (fun cs (x : Value × Nat) => cs.setIfInBounds (off + x.2) x.1) cs).size = cs.size
  | [], _ => rfl
  | x :: xs, cs => by simp only [List.foldl_cons]; rw [fold_size off xs]; simp

theorem fill_size (place : Nat → Option (Nat × Nat)) : ∀ (parts : List (Nat × Value)) (cs c : Array Value), Instr.fill place cs parts = some c → c.size = cs.size
  | [], cs, c, h => by simp only [Instr.fill, Option.some.injEq] at h; rw [h]
  | (i, v) :: r, cs, c, h => by
    simp only [Instr.fill] at h
    split at h
    · cases h
    · split at h
      · cases h
      · rw [fill_size place r _ c h]
        rename_i off size _ _
        rw [← Array.foldl_toList]
        generalize v.cells.zipIdx.toList = l
        exact fold_size off l cs

theorem buildSlice_run {E : Emb} {S S' : Heap} {w : World} {t : TypeId} {len : Nat} {parts parts' : Array (Nat × Value)} {v : Value} (h : buildSlice? P S t len parts = some (v, S')) (hr : Rel ng E S w)
    (hs : parts.size = parts'.size) (hp : ∀ i (h : i < parts.size) (h' : i < parts'.size), parts[i].1 = parts'[i].1 ∧ VR E parts[i].2 parts'[i].2) :
    ∃ v' E' w', (Instr.buildSlice t len parts').run P w = .ok v' w' ∧ Rel ng E' S' w' ∧ VR E' v v' ∧ Grow S.length E S w E' S' w' := by
  unfold buildSlice? at h
  split at h
  · rename_i e hu
    split at h
    · rename_i z sz hz hsz
      split at h
      · rename_i hc
        obtain ⟨hf, hpos, hzs, hle, hk⟩ := hc
        split at h
        · rename_i c hfill
          obtain ⟨rfl, rfl⟩ := Prod.mk.inj (Option.some.inj h)
          have hcell0 : ∀ (i : Nat) (hx : i < (if len * sz = 0 then #[] else zerosOf z.cells (len * sz)).size) (hy : i < (if len * sz = 0 then #[] else zerosOf z.cells (len * sz)).size),
              VR E (if len * sz = 0 then #[] else zerosOf z.cells (len * sz))[i] (if len * sz = 0 then #[] else zerosOf z.cells (len * sz))[i] := by
            intro i hx hy
            split
            · simp_all
            · exact zerosOf_vr hf _ hpos i _
          obtain ⟨c', h1, h2, h3⟩ := fill_run (E := E) (fun i => some (i * sz, sz)) parts.toList parts'.toList _ _ c (by simpa using hs) (by
            intro i h1 h2
            simp only [Array.length_toList] at h1 h2
            simp only [Array.getElem_toList]
            exact ⟨(hp i h1 h2).1, (hp i h1 h2).2, (Array.all_eq_true.1 hk) i h1⟩) rfl hcell0 hfill
          have hsize : c'.size = len * sz := by
            rw [fill_size _ _ _ _ h1]
            split
            · simp_all
            · simp [zerosOf]
          obtain ⟨g1, g2⟩ := newRow_rel hr c c' e (0, 0) (0, 0) true (by omega) h3 (fun o _ => by omega) (fun _ => by omega)
          refine ⟨.slice (some ⟨w.heap.size, 0, none⟩) len len, _, _, ?_, g1, ?_, g2⟩
          · have hno : ¬ (16777216 < len * sz) := by
              have : (2:Nat) ^ 24 = 16777216 := rfl
              omega
            by_cases h0 : len * sz = 0
            · rw [if_pos h0] at h1
              have hl0 : len = 0 := by
                rcases Nat.mul_eq_zero.1 h0 with h | h
                · exact h
                · omega
              subst hl0
              simp [Instr.buildSlice, run_underlying hu, run_sizeOf hsz, show Array.range 0 = #[] from rfl, h1, newRow, alloc_eq]
            · rw [if_neg h0] at h1
              simp only [zerosOf] at h1
              simp [Instr.buildSlice, run_underlying hu, run_sizeOf hsz, run_zero hz, h0, hno, h1, newRow, alloc_eq]
          · exact VR.slice (l := ⟨w.heap.size, 0, c'.size⟩) 0 len sz len (push_self _ _ _) (Nat.le_refl _) (by simp; omega)
        · cases h
      · cases h
    · cases h
  · cases h

end Go.Am
