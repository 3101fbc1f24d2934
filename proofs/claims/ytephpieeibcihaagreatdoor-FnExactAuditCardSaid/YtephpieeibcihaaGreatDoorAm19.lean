/- Building structs and slices, conversions, flatness: as rewrites. No condition. -/
import Derived.Test.YtephpieeibcihaaGreatDoorAm12
namespace Go.Am
open Go
set_option linter.unusedSimpArgs false
set_option linter.unusedVariables false

variable {P : Program} {ng n : Nat}

/-! ### Flatness -/
section
variable {k : IntKind} {i : Int} {b : Bool} {r : ByteArray} {a : Option Addr} {m c : Nat} {v : Value} {l : List Value}
theorem flat0_int : flat0 (.int k i) = true := opq rfl
theorem flat0_bool : flat0 (.bool b) = true := opq rfl
theorem flat0_str : flat0 (.string r) = true := opq rfl
theorem flat0_nilp : flat0 (.pointer none) = true := opq rfl
theorem flat0_nils : flat0 (.slice none 0 0) = true := opq rfl
theorem flat0_nilm : flat0 (.map none) = true := opq rfl
theorem flat0_nilf : flat0 .nilFunc = true := opq rfl
theorem flat0_nili : flat0 .nilIface = true := opq rfl
theorem flat_int : flat (.int k i) = true := opq rfl
theorem flat_bool : flat (.bool b) = true := opq rfl
theorem flat_str : flat (.string r) = true := opq rfl
theorem flat_nilp : flat (.pointer none) = true := opq rfl
theorem flat_nils : flat (.slice none 0 0) = true := opq rfl
theorem flat_nilm : flat (.map none) = true := opq rfl
theorem flat_nilf : flat .nilFunc = true := opq rfl
theorem flat_nili : flat .nilIface = true := opq rfl
theorem flat_agg : flat (.agg l.toArray) = l.all flat0 := by simp [flat]
theorem oneC_int : (Value.int k i).oneCell' = true := opq rfl
theorem oneC_bool : (Value.bool b).oneCell' = true := opq rfl
theorem oneC_str : (Value.string r).oneCell' = true := opq rfl
theorem oneC_ptr : (Value.pointer a).oneCell' = true := opq rfl
theorem oneC_slice : (Value.slice a m c).oneCell' = true := opq rfl
theorem oneC_map {o : Option Nat} : (Value.map o).oneCell' = true := opq rfl
theorem oneC_nilf : Value.nilFunc.oneCell' = true := opq rfl
theorem oneC_nili : Value.nilIface.oneCell' = true := opq rfl
theorem oneC_func {f : Fn} {xs ys : Array Value} : (Value.func f xs ys).oneCell' = true := opq rfl
theorem oneC_iface {t : TypeId} {x : Value} : (Value.iface t x).oneCell' = true := opq rfl
theorem ones_nil : ones [] = true := opq rfl
theorem ones_cons : ones (v :: l) = (v.oneCell' && ones l) := opq rfl
theorem ones_append {l' : List Value} : ones (l ++ l') = (ones l && ones l') := by simp [ones]
end

/-! ### A struct built of its parts -/
def partsK : List (Nat × Value) → Bool
  | [] => true
  | (_, v) :: r => known v && partsK r
theorem partsK_eq : ∀ (l : List (Nat × Value)), partsK l = l.all (fun x => known x.2)
  | [] => rfl
  | (_, v) :: r => by simp [partsK, partsK_eq r]
theorem partsK_nil : partsK [] = true := opq rfl
theorem partsK_cons {i : Nat} {v : Value} {r : List (Nat × Value)} : partsK ((i, v) :: r) = (known v && partsK r) := opq rfl
/-- Cells put one behind the other. -/
def setP (zs : List Value) (o : Nat) : List Value → List Value
  | [] => zs
  | v :: r => setP (zs.set o v) (o + 1) r

theorem setP_length : ∀ (r : List Value) (zs : List Value) (o : Nat), (setP zs o r).length = zs.length
  | [], _, _ => rfl
  | v :: r, zs, o => by rw [setP, setP_length r]; simp

def placesL (P : Program) : List Field → Option (List (Nat × Nat))
  | [] => some []
  | f :: fs => match szT P f.type, placesL P fs with
    | some n, some r => some ((f.offset, n) :: r)
    | _, _ => none

def fillL (ps : List (Nat × Nat)) (zs : List Value) : List (Nat × Value) → Option (List Value)
  | [] => some zs
  | (i, v) :: r => match ps[i]? with
    | none => none
    | some (o, n) => if v.cells.size = n ∧ o + n ≤ zs.length then fillL ps (setP zs o v.cells.toList) r else none

theorem places_L {fs : Array Field} : places P fs = (placesL P fs.toList).map List.toArray := by
  unfold places
  rw [Array.mapM_eq_mapM_toList]
  have : ∀ l : List Field, l.mapM (fun f => (szT P f.type).map fun n => (f.offset, n)) = placesL P l := by
    intro l
    induction l with
    | nil => rfl
    | cons f l ih =>
      simp only [List.mapM_cons, ih, placesL]
      cases szT P f.type <;> simp <;> cases placesL P l <;> rfl
  rw [this]
  cases placesL P fs.toList <;> rfl

theorem fold_setP (o : Nat) : ∀ (l : List Value) (k : Nat) (zs : List Value), (l.zipIdx k).foldl (fun cs (x : Value × Nat) => cs.setIfInBounds (o + x.2) x.1) zs.toArray = (setP zs (o + k) l).toArray
  | [], k, zs => rfl
  | v :: r, k, zs => by
    rw [List.zipIdx_cons, List.foldl_cons, setP]
    have : zs.toArray.setIfInBounds (o + (v, k).2) (v, k).1 = (zs.set (o + k) v).toArray := by simp
    rw [this, fold_setP o r (k + 1) (zs.set (o + k) v), Nat.add_assoc]

theorem fill_L {ps : List (Nat × Nat)} : ∀ (parts : List (Nat × Value)) (zs : List Value), Instr.fill (fun i => ps.toArray[i]?) zs.toArray parts = (fillL ps zs parts).map List.toArray
  | [], zs => rfl
  | (i, v) :: r, zs => by
    simp only [Instr.fill, fillL, List.getElem?_toArray]
    cases hp : ps[i]? with
    | none => rfl
    | some os =>
      obtain ⟨o, n⟩ := os
      simp only []
      by_cases h : v.cells.size = n ∧ o + n ≤ zs.length
      · rw [if_pos h, if_neg (by simp; omega)]
        have e := fold_setP o v.cells.toList 0 zs
        have : Array.foldl (fun cs (x : Value × Nat) => cs.setIfInBounds (o + x.2) x.1) zs.toArray v.cells.zipIdx = (setP zs o v.cells.toList).toArray := by
          rw [← Array.foldl_toList, Array.toList_zipIdx]
          simpa using e
        rw [this]
        have ih := fill_L (ps := ps) r (setP zs o v.cells.toList)
        simpa only [List.getElem?_toArray] using ih
      · rw [if_neg h, if_pos (by simp; omega)]
        rfl

def buildZ (P : Program) (d : Option TypeDesc) (z : Option Value) (parts : List (Nat × Value)) : Option Value :=
  match d, z with
  | some (.struct fs), some z =>
    match placesL P fs.toList with
    | some ps => if flat z && parts.all (fun x => known x.2) then (fillL ps z.cells.toList parts).map fun l => .agg l.toArray else none
    | none => none
  | _, _ => none
theorem build_of {t : TypeId} {parts : List (Nat × Value)} : build? P t parts.toArray = buildZ P (P.underlying t) (zero? P t) parts := by
  unfold build? buildZ zero?
  cases P.underlying t with
  | none => rfl
  | some d =>
    cases h : (P.info? t).bind (·.zero) with
    | none => cases d <;> rfl
    | some z =>
      cases d with
      | struct fs =>
        simp only [places_L]
        cases placesL P fs.toList with
        | none => rfl
        | some ps =>
          simp only [Option.map_some, List.all_toArray]
          split
          · have := fill_L (ps := ps) parts z.cells.toList
            simp only [Array.toArray_toList] at this
            rw [this]
            cases fillL ps z.cells.toList parts <;> rfl
          · rfl
      | _ => rfl

def buildY (ps : Option (List (Nat × Nat))) (z : List Value) (parts : List (Nat × Value)) : Option Value :=
  match ps with
  | some ps => (fillL ps z parts).map fun l => .agg l.toArray
  | none => none
theorem buildZ_of {fs : List Field} {z : List Value} {parts : List (Nat × Value)} (h1 : z.all flat0 = true) (h2 : partsK parts = true) :
    buildZ P (some (.struct fs.toArray)) (some (.agg z.toArray)) parts = buildY (placesL P fs) z parts := by
  rw [partsK_eq] at h2
  unfold buildZ buildY
  simp only []
  cases placesL P fs with
  | none => rfl
  | some ps => simp [flat, h1, h2, Value.cells]
def placesC (o : Nat) (n : Option Nat) (r : Option (List (Nat × Nat))) : Option (List (Nat × Nat)) :=
  match n, r with
  | some n, some r => some ((o, n) :: r)
  | _, _ => none
theorem placesC_some {o m : Nat} {r : List (Nat × Nat)} : placesC o (some m) (some r) = some ((o, m) :: r) := opq rfl
theorem placesL_nil : placesL P [] = some [] := opq rfl
theorem placesL_cons {nm tag pk : String} {ft : TypeId} {o : Nat} {em : Bool} {bo : Nat} {fs : List Field} : placesL P ({ name := nm, type := ft, offset := o, embedded := em, tag := tag, pkgPath := pk, byteOffset := bo } :: fs) = placesC o (szT P ft) (placesL P fs) := opq rfl
theorem buildY_some {ps : List (Nat × Nat)} {z : List Value} {parts : List (Nat × Value)} : buildY (some ps) z parts = (fillL ps z parts).map fun l => .agg l.toArray := opq rfl
theorem fillL_nil {ps : List (Nat × Nat)} {z : List Value} : fillL ps z [] = some z := opq rfl
def fillC (q : Option (Nat × Nat)) (ps : List (Nat × Nat)) (z : List Value) (v : Value) (r : List (Nat × Value)) : Option (List Value) :=
  match q with
  | none => none
  | some (o, n) => if v.cells.size = n ∧ o + n ≤ z.length then fillL ps (setP z o v.cells.toList) r else none
theorem fillL_cons {ps : List (Nat × Nat)} {z : List Value} {i : Nat} {v : Value} {r : List (Nat × Value)} : fillL ps z ((i, v) :: r) = fillC ps[i]? ps z v r := opq rfl
theorem fillC_some {ps : List (Nat × Nat)} {z : List Value} {v : Value} {r : List (Nat × Value)} {o m : Nat} (h1 : v.cells.size = m) (h2 : o + m ≤ z.length) : fillC (some (o, m)) ps z v r = fillL ps (setP z o v.cells.toList) r := by
  simp only [fillC, if_pos (And.intro h1 h2)]
theorem setP_nil {z : List Value} {o : Nat} : setP z o [] = z := opq rfl
theorem setP_cons {z r : List Value} {o : Nat} {v : Value} : setP z o (v :: r) = setP (z.set o v) (o + 1) r := opq rfl

/-! ### A slice built of its parts -/
def fillS (sz : Nat) (zs : List Value) : List (Nat × Value) → Option (List Value)
  | [] => some zs
  | (i, v) :: r => if v.cells.size = sz ∧ i * sz + sz ≤ zs.length then fillS sz (setP zs (i * sz) v.cells.toList) r else none
theorem fill_S {sz : Nat} : ∀ (parts : List (Nat × Value)) (zs : List Value), Instr.fill (fun i => some (i * sz, sz)) zs.toArray parts = (fillS sz zs parts).map List.toArray
  | [], zs => rfl
  | (i, v) :: r, zs => by
    simp only [Instr.fill, fillS]
    by_cases h : v.cells.size = sz ∧ i * sz + sz ≤ zs.length
    · rw [if_pos h, if_neg (by simp; omega)]
      have e := fold_setP (i * sz) v.cells.toList 0 zs
      have : Array.foldl (fun cs (x : Value × Nat) => cs.setIfInBounds (i * sz + x.2) x.1) zs.toArray v.cells.zipIdx = (setP zs (i * sz) v.cells.toList).toArray := by
        rw [← Array.foldl_toList, Array.toList_zipIdx]
        simpa using e
      rw [this]
      exact fill_S r _
    · rw [if_neg h, if_pos (by simp; omega)]
      rfl
def zerosL (z : List Value) : Nat → List Value
  | 0 => []
  | n + 1 => z ++ zerosL z n
theorem zerosL_length (z : List Value) : ∀ n, (zerosL z n).length = n * z.length
  | 0 => by simp [zerosL]
  | n + 1 => by simp [zerosL, zerosL_length z n, Nat.add_mul, Nat.add_comm]
theorem zerosL_get (z : List Value) (hz : 0 < z.length) : ∀ (n i : Nat), i < n * z.length → (zerosL z n)[i]? = z[i % z.length]?
  | 0, i, h => by simp at h
  | n + 1, i, h => by
    rw [Nat.add_mul] at h
    by_cases hi : i < z.length
    · rw [zerosL, List.getElem?_append_left hi, Nat.mod_eq_of_lt hi]
    · rw [zerosL, List.getElem?_append_right (by omega), zerosL_get z hz n (i - z.length) (by omega), Nat.mod_eq_sub_mod (a := i) (b := z.length) (by omega)]
theorem zerosOf_L (z : Array Value) (hz : 0 < z.size) (m : Nat) : zerosOf z (m * z.size) = (zerosL z.toList m).toArray := by
  apply Array.ext
  · simp [zerosOf, zerosL_length]
  · intro i h1 h2
    have hi : i < m * z.size := by simpa [zerosOf] using h1
    have hm : i % z.size < z.size := Nat.mod_lt _ hz
    have := zerosL_get z.toList (by simpa using hz) m i (by simpa using hi)
    simp only [zerosOf, Array.getElem_map, Array.getElem_range, List.getElem_toArray]
    have e2 : (zerosL z.toList m)[i]? = some (z[i % z.size]) := by
      rw [this, Array.length_toList, Array.getElem?_toList, Array.getElem?_eq_getElem hm]
    rw [(List.getElem?_eq_some_iff.1 e2).2, getElem!_pos z _ hm]

def buildSliceZ (P : Program) (S : Heap) (d : Option TypeDesc) (k : Nat) (parts : List (Nat × Value)) : Option (Value × Heap) :=
  match d with
  | some (.slice e) =>
    match zero? P e, szT P e with
    | some z, some sz =>
      if flat z ∧ 0 < z.cells.size ∧ z.cells.size = sz ∧ k * sz ≤ 2 ^ 24 ∧ parts.all (fun x => known x.2) = true then
        match fillS sz (zerosL z.cells.toList k) parts with
        | some c => some (.slice (some ⟨S.length, 0, none⟩) k sz, S ++ [⟨.cells c.toArray e (0, 0), true, true⟩])
        | none => none
      else none
    | _, _ => none
  | _ => none
theorem buildSlice_of {S : Heap} {t : TypeId} {k : Nat} {parts : List (Nat × Value)} : buildSlice? P S t k parts.toArray = buildSliceZ P S (P.underlying t) k parts := by
  unfold buildSlice? buildSliceZ
  cases P.underlying t with
  | none => rfl
  | some d =>
    cases d with
    | slice e =>
      simp only []
      cases zero? P e with
      | none => rfl
      | some z =>
        cases szT P e with
        | none => rfl
        | some sz =>
          simp only [List.all_toArray]
          by_cases h : flat z = true ∧ 0 < z.cells.size ∧ z.cells.size = sz ∧ k * sz ≤ 2 ^ 24 ∧ (parts.all fun x => known x.2) = true
          · rw [if_pos h, if_pos h]
            have e1 : (if k * sz = 0 then #[] else zerosOf z.cells (k * sz)) = (zerosL z.cells.toList k).toArray := by
              rw [← h.2.2.1]
              split
              · rename_i h0
                have : k = 0 := by
                  rcases Nat.mul_eq_zero.1 h0 with h' | h'
                  · exact h'
                  · omega
                subst this
                rfl
              · exact zerosOf_L _ h.2.1 k
            rw [e1, fill_S]
            cases fillS sz (zerosL z.cells.toList k) parts <;> rfl
          · rw [if_neg h, if_neg h]
    | _ => rfl
def buildSliceY (S : Heap) (e : TypeId) (k : Nat) (sz : Nat) (c : Option (List Value)) : Option (Value × Heap) :=
  match c with
  | some c => some (.slice (some ⟨S.length, 0, none⟩) k sz, S ++ [⟨.cells c.toArray e (0, 0), true, true⟩])
  | none => none
def buildSliceX (S : Heap) (e : TypeId) (k : Nat) (z : Option Value) (sz : Option Nat) (parts : List (Nat × Value)) : Option (Value × Heap) :=
  match z, sz with
  | some z, some sz =>
    if flat z ∧ 0 < z.cells.size ∧ z.cells.size = sz ∧ k * sz ≤ 2 ^ 24 ∧ parts.all (fun x => known x.2) = true then buildSliceY S e k sz (fillS sz (zerosL z.cells.toList k) parts) else none
  | _, _ => none
theorem buildSliceZ_of {S : Heap} {e : TypeId} {k : Nat} {parts : List (Nat × Value)} : buildSliceZ P S (some (.slice e)) k parts = buildSliceX S e k (zero? P e) (szT P e) parts := by
  unfold buildSliceZ buildSliceX
  rfl
theorem buildSliceX_of {S : Heap} {e : TypeId} {k sz : Nat} {z : Value} {parts : List (Nat × Value)} (h1 : flat z = true) (h2 : 0 < z.cells.size) (h3 : z.cells.size = sz) (h4 : k * sz ≤ 16777216) (h5 : partsK parts = true) :
    buildSliceX S e k (some z) (some sz) parts = buildSliceY S e k sz (fillS sz (zerosL z.cells.toList k) parts) := by
  rw [partsK_eq] at h5
  unfold buildSliceX
  simp only []
  rw [if_pos ⟨h1, h2, h3, h4, h5⟩]
theorem buildSliceY_some {S : Heap} {e : TypeId} {k sz : Nat} {c : List Value} : buildSliceY S e k sz (some c) = some (.slice (some ⟨S.length, 0, none⟩) k sz, S ++ [⟨.cells c.toArray e (0, 0), true, true⟩]) := opq rfl
theorem fillS_nil {sz : Nat} {z : List Value} : fillS sz z [] = some z := opq rfl
theorem fillS_cons {sz i : Nat} {z : List Value} {v : Value} {r : List (Nat × Value)} (h1 : v.cells.size = sz) (h2 : i * sz + sz ≤ z.length) : fillS sz z ((i, v) :: r) = fillS sz (setP z (i * sz) v.cells.toList) r := by
  simp only [fillS, if_pos (And.intro h1 h2)]
theorem zerosL_z {z : List Value} : zerosL z 0 = [] := opq rfl
theorem zerosL_s {z : List Value} {k : Nat} : zerosL z (k + 1) = z ++ zerosL z k := opq rfl

/-! ### Conversions -/
def convB (S : Heap) (e : TypeId) (d : Option TypeDesc) (s : ByteArray) : Option (Value × Heap) :=
  match d with
  | some (.int .u8) => some (.slice (some ⟨S.length, 0, none⟩) s.size 1, S ++ [⟨.cells (byteCells s).toArray e (0, 1), true, true⟩])
  | _ => none
def convS (S : Heap) (d : Option TypeDesc) (x : Value) : Option (Value × Heap) :=
  match d, x with
  | some (.int .u8), .slice none 0 0 => some (.string ByteArray.empty, S)
  | some (.int .u8), .slice (some ⟨id, off, none⟩) n 1 =>
    match S[id]? with
    | some ⟨.cells c _ _, true, _⟩ =>
      if off + n ≤ c.size then
        match numsOf? (c.extract off (off + n)).toList with
        | some ns => some (.string (strOfNums ns), S)
        | none => none
      else none
    | _ => none
  | _, _ => none
def convY (P : Program) (S : Heap) (a b : TypeId) (da db : Option TypeDesc) (x : Value) : Option (Value × Heap) :=
  match da, db, x with
  | some (.int _), some (.int k2), .int _ n => some (.int k2 (k2.wrap n), S)
  | some .string, some .string, .string s => some (.string s, S)
  | some .string, some (.slice e), .string s => convB S e (P.underlying e) s
  | some (.slice e), some .string, x => convS S (P.underlying e) x
  | _, _, _ => conv? P S a b x
theorem pur_bind {α β : Type} (m : Sem α) (f : α → Sem β) : pur P (m >>= f) = (pur P m).bind fun a => pur P (f a) := by
  show pur P (Sem.bind m f) = _
  induction m with
  | pure a => rfl
  | program k ih => simp only [Sem.bind, pur]; exact ih P
  | _ => rfl
theorem pur_underlying {t : TypeId} {d : TypeDesc} (h : P.underlying t = some d) : pur P (underlying t) = some d := by
  unfold underlying
  simp only [pur_bind, program, pur, Option.bind_some, h]
  rfl
theorem pur_pure {α : Type} (a : α) : pur P (pure a) = some a := rfl
theorem conv_of {S : Heap} {a b : TypeId} {x : Value} : conv? P S a b x = convY P S a b (P.underlying a) (P.underlying b) x := by
  unfold convY
  split
  · rename_i k1 k2 k3 m h1 h2
    unfold conv?
    simp [h1, h2, flat_int, purF, convert, pur_bind, pur_underlying h1, pur_underlying h2, Conv.intToInt, pur_pure]
  · rename_i s h1 h2
    unfold conv?
    simp [h1, h2, flat_str, purF, convert, pur_bind, pur_underlying h1, pur_underlying h2, pur_pure]
  · rename_i e s h1 h2
    unfold conv? convB
    rw [h1, h2]
    simp only []
    cases P.underlying e with
    | none => rfl
    | some d => cases d with
      | int k => cases k <;> rfl
      | _ => rfl
  · rename_i x e h1 h2
    unfold conv? convS
    rw [h1, h2]
    simp only []
    cases P.underlying e with
    | none => rfl
    | some d => cases d with
      | int k => cases k <;> rfl
      | _ => rfl
  · rfl

theorem convY_int {S : Heap} {a b : TypeId} {k1 k2 k3 : IntKind} {m : Int} : convY P S a b (some (.int k1)) (some (.int k2)) (.int k3 m) = some (.int k2 (k2.wrap m), S) := opq rfl
theorem convY_str {S : Heap} {a b : TypeId} {s : ByteArray} : convY P S a b (some .string) (some .string) (.string s) = some (.string s, S) := opq rfl
theorem convY_bytes {S : Heap} {a b e : TypeId} {s : ByteArray} : convY P S a b (some .string) (some (.slice e)) (.string s) = convB S e (P.underlying e) s := opq rfl
theorem convY_text {S : Heap} {a b e : TypeId} {x : Value} : convY P S a b (some (.slice e)) (some .string) x = convS S (P.underlying e) x := opq rfl

end Go.Am
