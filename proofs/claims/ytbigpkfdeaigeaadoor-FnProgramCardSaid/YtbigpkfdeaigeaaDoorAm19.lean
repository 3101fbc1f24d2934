/- Building structs and slices, conversions, flatness: as rewrites. No condition. -/
import Derived.Test.YtbigpkfdeaigeaaDoorAm12
namespace Go.Am
open Go
set_option linter.unusedSimpArgs false
set_option linter.unusedVariables false

variable {P : Program} {ng n : Nat}

/-! ### Flatness -/
section
variable {k : IntKind} {i : Int} {b : Bool} {r : ByteArray} {a : Option Addr} {m c : Nat} {v : Value} {l : List Value}
theorem flat0_int : flat0 (.int k i) = true := opq rfl
theorem flat0_bool : flat0 (.bool b) = true := opq rfl
theorem flat0_str : flat0 (.string r) = true := opq rfl
theorem flat0_nilp : flat0 (.pointer none) = true := opq rfl
theorem flat0_nils : flat0 (.slice none 0 0) = true := opq rfl
theorem flat0_nilm : flat0 (.map none) = true := opq rfl
theorem flat0_nilf : flat0 .nilFunc = true := opq rfl
theorem flat0_nili : flat0 .nilIface = true := opq rfl
theorem flat_int : flat (.int k i) = true := opq rfl
theorem flat_bool : flat (.bool b) = true := opq rfl
theorem flat_str : flat (.string r) = true := opq rfl
theorem flat_nilp : flat (.pointer none) = true := opq rfl
theorem flat_nils : flat (.slice none 0 0) = true := opq rfl
theorem flat_nilm : flat (.map none) = true := opq rfl
theorem flat_nilf : flat .nilFunc = true := opq rfl
theorem flat_nili : flat .nilIface = true := opq rfl
theorem flat_agg : flat (.agg l.toArray) = l.all flat0 := by simp [flat]
theorem ones_append {l' : List Value} : ones (l ++ l') = (ones l && ones l') := by simp [ones]
end

/-! ### A struct built of its parts -/
def partsK : List (Nat × Value) → Bool
  | [] => true
  | (_, v) :: r => known v && partsK r
theorem partsK_eq : ∀ (l : List (Nat × Value)), partsK l = l.all (fun x => known x.2)
  | [] => rfl
  | (_, v) :: r => by simp [partsK, partsK_eq r]
/-- Cells put one behind the other. -/
def setP (zs : List Value) (o : Nat) : List Value → List Value
  | [] => zs
  | v :: r => setP (zs.set o v) (o + 1) r

def placesL (P : Program) : List Field → Option (List (Nat × Nat))
  | [] => some []
  | f :: fs => match szT P f.type, placesL P fs with
    | some n, some r => some ((f.offset, n) :: r)
    | _, _ => none

def fillL (ps : List (Nat × Nat)) (zs : List Value) : List (Nat × Value) → Option (List Value)
  | [] => some zs
  | (i, v) :: r => match ps[i]? with
    | none => none
    | some (o, n) => if v.cells.size = n ∧ o + n ≤ zs.length then fillL ps (setP zs o v.cells.toList) r else none

theorem places_L {fs : Array Field} : places P fs = (placesL P fs.toList).map List.toArray := by
  unfold places
  rw [Array.mapM_eq_mapM_toList]
  have : ∀ l : List Field, l.mapM (fun f => (szT P f.type).map fun n => (f.offset, n)) = placesL P l := by
    intro l
    induction l with
    | nil => rfl
    | cons f l ih =>
      simp only [List.mapM_cons, ih, placesL]
      cases szT P f.type <;> simp <;> cases placesL P l <;> rfl
  rw [this]
  cases placesL P fs.toList <;> rfl

theorem fold_setP (o : Nat) : ∀ (l : List Value) (k : Nat) (zs : List Value), (l.zipIdx k).foldl (fun cs (x : Value × Nat) => cs.setIfInBounds (o + x.2) x.1) zs.toArray = (setP zs (o + k) l).toArray
  | [], k, zs => rfl
  | v :: r, k, zs => by
    rw [List.zipIdx_cons, List.foldl_cons, setP]
    have : zs.toArray.setIfInBounds (o + (v, k).2) (v, k).1 = (zs.set (o + k) v).toArray := by simp
    rw [this, fold_setP o r (k + 1) (zs.set (o + k) v), Nat.add_assoc]

theorem fill_L {ps : List (Nat × Nat)} : ∀ (parts : List (Nat × Value)) (zs : List Value), Instr.fill (fun i => ps.toArray[i]?) zs.toArray parts = (fillL ps zs parts).map List.toArray
  | [], zs => rfl
  | (i, v) :: r, zs => by
    simp only [Instr.fill, fillL, List.getElem?_toArray]
    cases hp : ps[i]? with
    | none => rfl
    | some os =>
      obtain ⟨o, n⟩ := os
      simp only []
      by_cases h : v.cells.size = n ∧ o + n ≤ zs.length
      · rw [if_pos h, if_neg (by simp; omega)]
        have e := fold_setP o v.cells.toList 0 zs
        have : Array.foldl (fun cs (x : Value × Nat) => cs.setIfInBounds (o + x.2) x.1) zs.toArray v.cells.zipIdx = (setP zs o v.cells.toList).toArray := by
          rw [← Array.foldl_toList, Array.toList_zipIdx]
          simpa using e
        rw [this]
        have ih := fill_L (ps := ps) r (setP zs o v.cells.toList)
        simpa only [List.getElem?_toArray] using ih
      · rw [if_neg h, if_pos (by simp; omega)]
        rfl

def buildZ (P : Program) (d : Option TypeDesc) (z : Option Value) (parts : List (Nat × Value)) : Option Value :=
  match d, z with
  | some (.struct fs), some z =>
    match placesL P fs.toList with
    | some ps => if flat z && parts.all (fun x => known x.2) then (fillL ps z.cells.toList parts).map fun l => .agg l.toArray else none
    | none => none
  | _, _ => none
theorem build_of {t : TypeId} {parts : List (Nat × Value)} : build? P t parts.toArray = buildZ P (P.underlying t) (zero? P t) parts := by
  unfold build? buildZ zero?
  cases P.underlying t with
  | none => rfl
  | some d =>
    cases h : (P.info? t).bind (·.zero) with
    | none => cases d <;> rfl
    | some z =>
      cases d with
      | struct fs =>
        simp only [places_L]
        cases placesL P fs.toList with
        | none => rfl
        | some ps =>
          simp only [Option.map_some, List.all_toArray]
          split
          · have := fill_L (ps := ps) parts z.cells.toList
            simp only [Array.toArray_toList] at this
            rw [this]
            cases fillL ps z.cells.toList parts <;> rfl
          · rfl
      | _ => rfl

/-! ### A slice built of its parts -/
def fillS (sz : Nat) (zs : List Value) : List (Nat × Value) → Option (List Value)
  | [] => some zs
  | (i, v) :: r => if v.cells.size = sz ∧ i * sz + sz ≤ zs.length then fillS sz (setP zs (i * sz) v.cells.toList) r else none
theorem fill_S {sz : Nat} : ∀ (parts : List (Nat × Value)) (zs : List Value), Instr.fill (fun i => some (i * sz, sz)) zs.toArray parts = (fillS sz zs parts).map List.toArray
  | [], zs => rfl
  | (i, v) :: r, zs => by
    simp only [Instr.fill, fillS]
    by_cases h : v.cells.size = sz ∧ i * sz + sz ≤ zs.length
    · rw [if_pos h, if_neg (by simp; omega)]
      have e := fold_setP (i * sz) v.cells.toList 0 zs
      have : Array.foldl (fun cs (x : Value × Nat) => cs.setIfInBounds (i * sz + x.2) x.1) zs.toArray v.cells.zipIdx = (setP zs (i * sz) v.cells.toList).toArray := by
        rw [← Array.foldl_toList, Array.toList_zipIdx]
        simpa using e
      rw [this]
      exact fill_S r _
    · rw [if_neg h, if_pos (by simp; omega)]
      rfl
def zerosL (z : List Value) : Nat → List Value
  | 0 => []
  | n + 1 => z ++ zerosL z n
theorem zerosL_length (z : List Value) : ∀ n, (zerosL z n).length = n * z.length
  | 0 => by simp [zerosL]
  | n + 1 => by simp [zerosL, zerosL_length z n, Nat.add_mul, Nat.add_comm]
theorem zerosL_get (z : List Value) (hz : 0 < z.length) : ∀ (n i : Nat), i < n * z.length → (zerosL z n)[i]? = z[i % z.length]?
  | 0, i, h => by simp at h
  | n + 1, i, h => by
    rw [Nat.add_mul] at h
    by_cases hi : i < z.length
    · rw [zerosL, List.getElem?_append_left hi, Nat.mod_eq_of_lt hi]
    · rw [zerosL, List.getElem?_append_right (by omega), zerosL_get z hz n (i - z.length) (by omega), Nat.mod_eq_sub_mod (a := i) (b := z.length) (by omega)]
theorem zerosOf_L (z : Array Value) (hz : 0 < z.size) (m : Nat) : zerosOf z (m * z.size) = (zerosL z.toList m).toArray := by
  apply Array.ext
  · simp [zerosOf, zerosL_length]
  · intro i h1 h2
    have hi : i < m * z.size := by simpa [zerosOf] using h1
    have hm : i % z.size < z.size := Nat.mod_lt _ hz
    have := zerosL_get z.toList (by simpa using hz) m i (by simpa using hi)
    simp only [zerosOf, Array.getElem_map, Array.getElem_range, List.getElem_toArray]
    have e2 : (zerosL z.toList m)[i]? = some (z[i % z.size]) := by
      rw [this, Array.length_toList, Array.getElem?_toList, Array.getElem?_eq_getElem hm]
    rw [(List.getElem?_eq_some_iff.1 e2).2, getElem!_pos z _ hm]

def buildSliceZ (P : Program) (S : Heap) (d : Option TypeDesc) (k : Nat) (parts : List (Nat × Value)) : Option (Value × Heap) :=
  match d with
  | some (.slice e) =>
    match zero? P e, szT P e with
    | some z, some sz =>
      if flat z ∧ 0 < z.cells.size ∧ z.cells.size = sz ∧ k * sz ≤ 2 ^ 24 ∧ parts.all (fun x => known x.2) = true then
        match fillS sz (zerosL z.cells.toList k) parts with
        | some c => some (.slice (some ⟨S.length, 0, none⟩) k sz, S ++ [⟨.cells c.toArray e (0, 0), true, true⟩])
        | none => none
      else none
    | _, _ => none
  | _ => none
theorem buildSlice_of {S : Heap} {t : TypeId} {k : Nat} {parts : List (Nat × Value)} : buildSlice? P S t k parts.toArray = buildSliceZ P S (P.underlying t) k parts := by
  unfold buildSlice? buildSliceZ
  cases P.underlying t with
  | none => rfl
  | some d =>
    cases d with
    | slice e =>
      simp only []
      cases zero? P e with
      | none => rfl
      | some z =>
        cases szT P e with
        | none => rfl
        | some sz =>
          simp only [List.all_toArray]
          by_cases h : flat z = true ∧ 0 < z.cells.size ∧ z.cells.size = sz ∧ k * sz ≤ 2 ^ 24 ∧ (parts.all fun x => known x.2) = true
          · rw [if_pos h, if_pos h]
            have e1 : (if k * sz = 0 then #[] else zerosOf z.cells (k * sz)) = (zerosL z.cells.toList k).toArray := by
              rw [← h.2.2.1]
              split
              · rename_i h0
                have : k = 0 := by
                  rcases Nat.mul_eq_zero.1 h0 with h' | h'
                  · exact h'
                  · omega
                subst this
                rfl
              · exact zerosOf_L _ h.2.1 k
            rw [e1, fill_S]
            cases fillS sz (zerosL z.cells.toList k) parts <;> rfl
          · rw [if_neg h, if_neg h]
    | _ => rfl
/-! ### Conversions -/
def convB (S : Heap) (e : TypeId) (d : Option TypeDesc) (s : ByteArray) : Option (Value × Heap) :=
  match d with
  | some (.int .u8) => some (.slice (some ⟨S.length, 0, none⟩) s.size 1, S ++ [⟨.cells (byteCells s).toArray e (0, 1), true, true⟩])
  | _ => none
def convS (S : Heap) (d : Option TypeDesc) (x : Value) : Option (Value × Heap) :=
  match d, x with
  | some (.int .u8), .slice none 0 0 => some (.string ByteArray.empty, S)
  | some (.int .u8), .slice (some ⟨id, off, none⟩) n 1 =>
    match S[id]? with
    | some ⟨.cells c _ _, true, _⟩ =>
      if off + n ≤ c.size then
        match numsOf? (c.extract off (off + n)).toList with
        | some ns => some (.string (strOfNums ns), S)
        | none => none
      else none
    | _ => none
  | _, _ => none
def convY (P : Program) (S : Heap) (a b : TypeId) (da db : Option TypeDesc) (x : Value) : Option (Value × Heap) :=
  match da, db, x with
  | some (.int _), some (.int k2), .int _ n => some (.int k2 (k2.wrap n), S)
  | some .string, some .string, .string s => some (.string s, S)
  | some .string, some (.slice e), .string s => convB S e (P.underlying e) s
  | some (.slice e), some .string, x => convS S (P.underlying e) x
  | _, _, _ => conv? P S a b x
theorem pur_bind {α β : Type} (m : Sem α) (f : α → Sem β) : pur P (m >>= f) = (pur P m).bind fun a => pur P (f a) := by
  show pur P (Sem.bind m f) = _
  induction m with
  | pure a => rfl
  | program k ih => simp only [Sem.bind, pur]; exact ih P
  | _ => rfl
theorem pur_underlying {t : TypeId} {d : TypeDesc} (h : P.underlying t = some d) : pur P (underlying t) = some d := by
  unfold underlying
  simp only [pur_bind, program, pur, Option.bind_some, h]
  rfl
theorem pur_pure {α : Type} (a : α) : pur P (pure a) = some a := rfl
theorem conv_of {S : Heap} {a b : TypeId} {x : Value} : conv? P S a b x = convY P S a b (P.underlying a) (P.underlying b) x := by
  unfold convY
  split
  · rename_i k1 k2 k3 m h1 h2
    unfold conv?
    simp [h1, h2, flat_int, purF, convert, pur_bind, pur_underlying h1, pur_underlying h2, Conv.intToInt, pur_pure]
  · rename_i s h1 h2
    unfold conv?
    simp [h1, h2, flat_str, purF, convert, pur_bind, pur_underlying h1, pur_underlying h2, pur_pure]
  · rename_i e s h1 h2
    unfold conv? convB
    rw [h1, h2]
    simp only []
    cases P.underlying e with
    | none => rfl
    | some d => cases d with
      | int k => cases k <;> rfl
      | _ => rfl
  · rename_i x e h1 h2
    unfold conv? convS
    rw [h1, h2]
    simp only []
    cases P.underlying e with
    | none => rfl
    | some d => cases d with
      | int k => cases k <;> rfl
      | _ => rfl
  · rfl

end Go.Am
