/- The abstract meaning of copy, len, conversions, indexing of strings, maps, each with what the model does. No condition. -/
import Derived.Test.YtbigpkfdeaigeaaDoorAm6
import Derived.Laws.BytesArg
import Derived.Laws.IdiomStrings
namespace Go.Am
open Go
set_option linter.unusedSimpArgs false
set_option linter.unusedVariables false

variable {P : Program} {ng : Nat}

/-! ### copy -/
def copy? (P : Program) (S : Heap) (td tx : TypeId) (d x : Value) : Option (Value × Heap) :=
  match P.underlying td with
  | some (.slice e) =>
    match szT P e with
    | some sz =>
      match src? P S sz tx x with
      | some (n, news) =>
        match d with
        | .slice (some ⟨id, off, none⟩) dn sz' =>
          match S[id]? with
          | some ⟨.cells c e0 f, true, true⟩ =>
            if sz' = sz ∧ off + dn * sz ≤ c.size then some (.int .i64 (Nat.min n dn), S.set id ⟨.cells (setL c off (news.take (Nat.min n dn * sz))) e0 f, true, true⟩) else none
          | _ => none
        | .slice (some ⟨0, 0, some 1⟩) 0 0 => some (.int .i64 0, S)
        | _ => none
      | none => none
    | none => none
  | _ => none

theorem copy_run {E : Emb} {S S' : Heap} {w : World} {td tx ty : TypeId} {d d' x x' v : Value} (h : copy? P S td tx d x = some (v, S')) (hr : Rel ng E S w) (hd : VR E d d') (hx : VR E x x') :
    ∃ v' E' w', (Builtin.copy_ #[td, tx] ty #[d', x']).run P w = .ok v' w' ∧ Rel ng E' S' w' ∧ VR E' v v' ∧ Grow S.length E S w E' S' w' := by
  unfold copy? at h
  split at h
  · rename_i e hu
    split at h
    · rename_i sz hsz
      split at h
      · rename_i n news hsrc
        obtain ⟨news', hs⟩ := src_run hr hsrc hx
        split at h
        · rename_i id off dn sz'
          split at h
          · rename_i c e0 f hb
            split at h
            · rename_i hc
              obtain ⟨rfl, hle⟩ := hc
              obtain ⟨rfl, rfl⟩ := Prod.mk.inj (Option.some.inj h)
              cases hd with
              | slice _ _ _ cap he hcap hroom =>
                rename_i l
                have hm1 : Nat.min n dn ≤ n := Nat.min_le_left _ _
                have hm2 : Nat.min n dn ≤ dn := Nat.min_le_right _ _
                generalize hmm : Nat.min n dn = m at hm1 hm2
                have hmul1 : m * sz' ≤ n * sz' := Nat.mul_le_mul_right _ hm1
                have hmul2 : m * sz' ≤ dn * sz' := Nat.mul_le_mul_right _ hm2
                have hmul3 : dn * sz' ≤ cap * sz' := Nat.mul_le_mul_right _ hcap
                have hl1 := hs.nlen
                have hl2 := hs.len
                have hvr : ∀ i (h : i < (news.take (m * sz')).length) (h' : i < (news'.take (m * sz')).length), VR E (news.take (m * sz'))[i] (news'.take (m * sz'))[i] := by
                  intro i a b
                  simp only [List.getElem_take]
                  exact hs.vr _ _ _
                obtain ⟨g1, g2⟩ := setCells_rel hr he hb off (news.take (m * sz')) (news'.take (m * sz')) (by rw [List.length_take]; omega) (by rw [List.length_take, List.length_take]; omega) hvr
                refine ⟨.int .i64 m, E, _, ?_, g1, .int _ _, g2 _⟩
                obtain ⟨b, hb', hlt, ho⟩ := hr.blk id l he
                rw [hb] at hb'
                obtain rfl := Option.some.inj hb'
                obtain ⟨hw1, hw2⟩ := ObjR.writable (ho rfl) (l.base + off) (news'.take (m * sz')).length (by rw [List.length_take]; omega)
                have hst := run_storeCells_cells (P := P) l.blk (l.base + off) (news'.take (m * sz')) 0 w (fun j hj => by simpa using hw1 j hj) (fun j hj => by simpa using hw2 j hj) (fun v hv => hs.src.one v (List.mem_of_mem_take hv))
                simp only [Nat.add_zero] at hst
                have hf := hs.first m hm1
                simp [Builtin.copy_, run_underlying hu, run_sizeOf hsz, hs.src.len, hmm, hf, hst, goInt]
            · cases h
          · cases h
        · obtain ⟨rfl, rfl⟩ := Prod.mk.inj (Option.some.inj h)
          cases hd with
          | hollow a c =>
            refine ⟨.int .i64 0, E, w, ?_, hr, .int _ _, Grow.refl _ _ _ _⟩
            have hf := hs.first 0 (Nat.zero_le _)
            simp only [Nat.zero_mul, List.take_zero] at hf
            have hm0 : Nat.min n 0 = 0 := Nat.min_eq_right (Nat.zero_le _)
            cases a <;> simp [Builtin.copy_, run_underlying hu, run_sizeOf hsz, hs.src.len, hm0, hf, goInt, storeCells]
        · cases h
      · cases h
    · cases h
  · cases h

/-! ### len -/
def len? (P : Program) (S : Heap) (t : TypeId) (x : Value) : Option Value :=
  match P.underlying t, x with
  | some .string, .string s => some (.int .i64 s.size)
  | some (.slice _), .slice _ n _ => some (.int .i64 n)
  | some (.map _ _), .map none => some (.int .i64 0)
  | some (.map _ _), .map (some id) =>
    match S[id]? with
    | some ⟨.map es _, true, _⟩ => some (.int .i64 es.size)
    | _ => none
  | _, _ => none

theorem len_run {E : Emb} {S : Heap} {w : World} {t ty : TypeId} {x x' v : Value} (h : len? P S t x = some v) (hr : Rel ng E S w) (hx : VR E x x') :
    (Builtin.len_ #[t] ty #[x']).run P w = .ok v w ∧ VR E v v := by
  unfold len? at h
  split at h
  · rename_i s hu
    obtain rfl := Option.some.inj h
    cases hx
    exact ⟨by simp [Builtin.len_, run_underlying hu, goInt], .int _ _⟩
  · rename_i e a n c hu
    obtain rfl := Option.some.inj h
    cases hx <;> exact ⟨by simp [Builtin.len_, run_underlying hu, goInt], .int _ _⟩
  · rename_i k e hu
    obtain rfl := Option.some.inj h
    cases hx
    exact ⟨by simp [Builtin.len_, run_underlying hu, goInt], .int _ _⟩
  · rename_i k e id hu
    split at h
    · rename_i es clock own hb
      obtain rfl := Option.some.inj h
      cases hx with
      | map he =>
        rename_i l
        obtain ⟨b, hb', hlt, ho⟩ := hr.blk id l he
        rw [hb] at hb'
        obtain rfl := Option.some.inj hb'
        obtain ⟨es', hw, hbase, hsz, hent⟩ := ho rfl
        exact ⟨by simp [Builtin.len_, run_underlying hu, getObj, Sem.run, hw, goInt, hsz], .int _ _⟩
    · cases h
  · cases h

/-! ### Conversions -/
def numsOf? : List Value → Option (List Int)
  | [] => some []
  | .int .u8 n :: r => (numsOf? r).map (n :: ·)
  | _ :: _ => none

theorem numsOf_eq : ∀ (l : List Value) (r : List Int), numsOf? l = some r → l = r.map (.int .u8)
  | [], r, h => by simp [numsOf?] at h; subst h; rfl
  | v :: l, r, h => by
    cases v with
    | int k n =>
      cases k with
      | u8 =>
        simp only [numsOf?, Option.map_eq_some_iff] at h
        obtain ⟨r', hr', rfl⟩ := h
        rw [List.map_cons, numsOf_eq l r' hr']
      | _ => simp [numsOf?] at h
    | _ => simp [numsOf?] at h

def conv? (P : Program) (S : Heap) (src dst : TypeId) (x : Value) : Option (Value × Heap) :=
  match P.underlying src, P.underlying dst with
  | some .string, some (.slice e) =>
    match P.underlying e, x with
    | some (.int .u8), .string s => some (.slice (some ⟨S.length, 0, none⟩) s.size 1, S ++ [⟨.cells (byteCells s).toArray e (0, 1), true, true⟩])
    | _, _ => none
  | some (.slice e), some .string =>
    match P.underlying e, x with
    | some (.int .u8), .slice none 0 0 => some (.string ByteArray.empty, S)
    | some (.int .u8), .slice (some ⟨id, off, none⟩) n 1 =>
      match S[id]? with
      | some ⟨.cells c _ _, true, _⟩ =>
        if off + n ≤ c.size then
          match numsOf? (c.extract off (off + n)).toList with
          | some ns => some (.string (strOfNums ns), S)
          | none => none
        else none
      | _ => none
    | _, _ => none
  | some _, some _ => if flat x then (purF P (convert src dst x)).map (·, S) else none
  | _, _ => none

theorem conv_run {E : Emb} {S S' : Heap} {w : World} {src dst : TypeId} {x x' v : Value} (h : conv? P S src dst x = some (v, S')) (hr : Rel ng E S w) (hx : VR E x x') :
    ∃ v' E' w', (convert src dst x').run P w = .ok v' w' ∧ Rel ng E' S' w' ∧ VR E' v v' ∧ Grow S.length E S w E' S' w' := by
  unfold conv? at h
  split at h
  · rename_i e hs hd
    split at h
    · · rename_i s he'
        obtain ⟨rfl, rfl⟩ := Prod.mk.inj (Option.some.inj h)
        cases hx
        have hrun := run_bytes_of_string (P := P) w src dst e s hs hd he'
        have hle : s.size ≤ grownCap w s.size 0 e := le_grownCap _ _ _ _
        have hds : s.data.size = s.size := rfl
        have hbl := byteCells_length s
        have hbs : (bytesRow s (grownCap w s.size 0 e)).size = grownCap w s.size 0 e := by
          simp only [bytesRow, Array.size_append, Array.size_map, Array.size_replicate]; omega
        obtain ⟨g1, g2⟩ := newRow_rel (w := w.drew) hr.drew (byteCells s).toArray (bytesRow s (grownCap w s.size 0 e)) e (0, 1) ((bytesRow s (grownCap w s.size 0 e)).size, (bytesRow s (grownCap w s.size 0 e)).size + 1) true (by
            rw [hbs, List.size_toArray, hbl]; exact hle) (by
            intro i h1 h2
            rw [List.size_toArray, hbl] at h1
            have h3 : i < (s.data.map fun b => Value.int .u8 b.toNat).size := by rw [Array.size_map]; omega
            have e1 : (bytesRow s (grownCap w s.size 0 e))[i] = .int .u8 (s.data[i]'(by omega)).toNat := by
              simp only [bytesRow]
              rw [Array.getElem_append_left h3, Array.getElem_map]
            have e2 : (byteCells s).toArray[i]'(by rw [List.size_toArray, hbl]; exact h1) = .int .u8 (s.data[i]'(by omega)).toNat := by
              simp [byteCells]
            rw [e1, e2]
            exact .int _ _) (fun o ho => by simp only; omega) (fun hq => by simp at hq)
        refine ⟨_, _, _, hrun, g1, ?_, (Grow.drew _ _ _ _).trans (Nat.le_refl _) g2⟩
        exact VR.slice (l := ⟨w.heap.size, 0, (bytesRow s (grownCap w s.size 0 e)).size⟩) 0 s.size 1 (grownCap w s.size 0 e) (push_self _ _ _) hle (by simp only [hbs]; omega)
    · cases h
  · rename_i e hs hd
    · split at h
      · rename_i he'
        obtain ⟨rfl, rfl⟩ := Prod.mk.inj (Option.some.inj h)
        cases hx
        exact ⟨_, E, w, run_convert_bytes_nil w src e hs he' _ _ dst hd, hr, .string _, Grow.refl _ _ _ _⟩
      · rename_i id off n he'
        split at h
        · rename_i c e0 f0 ow hb
          split at h
          · rename_i hle
            split at h
            · rename_i ns hns
              obtain ⟨rfl, rfl⟩ := Prod.mk.inj (Option.some.inj h)
              cases hx with
              | slice _ _ _ cap hE hcap hroom =>
                rename_i l
                obtain ⟨b, hb', hlt, ho⟩ := hr.blk id l hE
                rw [hb] at hb'
                obtain rfl := Option.some.inj hb'
                obtain ⟨c', e', fr, hw, hrm, hbase, hcell, _⟩ := ho rfl
                have heq := numsOf_eq _ _ hns
                have hlen : ns.length = n := by
                  have := congrArg List.length heq
                  simp at this
                  omega
                refine ⟨_, E, w, run_convert_bytes_arg w src e hs he' l.blk (l.base + off) n cap ns hlen (fun i hi => ?_) dst hd, hr, .string _, Grow.refl _ _ _ _⟩
                obtain ⟨v', q1, q2⟩ := hcell (off + i) (by omega)
                have e1 : c[off + i]'(by omega) = .int .u8 (ns.getD i 0) := by
                  have h2 : (c.extract off (off + n)).toList[i]? = (ns.map (.int .u8))[i]? := by rw [heq]
                  rw [Array.getElem?_toList, Array.getElem?_extract, if_pos (by omega), List.getElem?_map, List.getElem?_eq_getElem (by omega), Array.getElem?_eq_getElem (by omega)] at h2
                  rw [Option.some.inj h2]
                  simp [List.getD, List.getElem?_eq_getElem (show i < ns.length by omega)]
                rw [e1] at q2
                cases q2
                have : l.base + off + i = l.base + (off + i) := by omega
                simp [World.cell?, hw, this, q1]
            · cases h
          · cases h
        · cases h
      · cases h
  · split at h
    · rename_i hf
      simp only [Option.map_eq_some_iff] at h
      obtain ⟨u, hu, h2⟩ := h
      obtain ⟨rfl, rfl⟩ := Prod.mk.inj h2
      obtain rfl := hx.eq hf
      exact ⟨u, E, w, (purF_run hu w).1, hr, VR.refl E (purF_run hu w).2, Grow.refl _ _ _ _⟩
    · cases h
  · cases h

/-! ### x[i] of a string or of an array by value -/
def index? (P : Program) (t : TypeId) (x i : Value) : Option Value :=
  match P.underlying t, x, i with
  | some .string, .string s, .int _ j => if 0 ≤ j then (s.data[j.toNat]?).map fun b => .int .u8 b.toNat else none
  | some (.array n e), .agg cs, .int _ j =>
    match szT P e with
    | some sz => if 0 ≤ j ∧ j < n then part? P e cs (j.toNat * sz) else none
    | none => none
  | _, _, _ => none

theorem index_run {E : Emb} {t : TypeId} {x x' i i' v : Value} (h : index? P t x i = some v) (hx : VR E x x') (hi : VR E i i') :
    ∃ v', (∀ w, (Instr.index t x' i').run P w = .ok v' w) ∧ VR E v v' := by
  unfold index? at h
  split at h
  · rename_i s k j hu
    split at h
    · rename_i h0
      simp only [Option.map_eq_some_iff] at h
      obtain ⟨b, hb, rfl⟩ := h
      cases hx; cases hi
      refine ⟨_, fun w => ?_, .int _ _⟩
      have hb2 : s[j.toNat]? = some b := hb
      simp [Instr.index, asIntOf, run_underlying hu, h0, hb2]
    · cases h
  · rename_i n e cs k j hu
    split at h
    · rename_i sz hsz
      split at h
      · rename_i hc
        cases hi
        cases hx with
        | agg hs hv =>
          obtain ⟨v', h1, h2⟩ := part_run h hs hv
          exact ⟨v', fun w => by simp [Instr.index, asIntOf, run_underlying hu, hc, run_sizeOf hsz, h1], h2⟩
      · cases h
    · cases h
  · cases h

end Go.Am
