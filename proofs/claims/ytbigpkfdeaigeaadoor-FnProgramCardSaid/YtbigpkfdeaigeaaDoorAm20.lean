/- Appending, slicing, making of slices that stand for lists. No condition. -/
import Derived.Test.YtbigpkfdeaigeaaDoorAm18
namespace Go.Am
open Go
set_option linter.unusedSimpArgs false
set_option linter.unusedVariables false

variable {P : Program} {ng n : Nat}

/-- A slice type: its element's type, cells, bytes. -/
structure SlT (P : Program) (t e : TypeId) (sz b : Nat) : Prop where
  und : P.underlying t = some (.slice e)
  inf : ∃ i z, P.info? e = some i ∧ i.size = sz ∧ i.bytes = b ∧ i.zero = some z ∧ flat z = true ∧ z.cells.size = sz
  pos : 0 < sz

theorem SlT.szT {t e : TypeId} {sz b : Nat} (h : SlT P t e sz b) : Am.szT P e = some sz := by
  obtain ⟨i, z, h1, h2, _⟩ := h.inf
  simp [Am.szT, h1, h2]
theorem SlT.zero {t e : TypeId} {sz b : Nat} (h : SlT P t e sz b) : ∃ z, zero? P e = some z ∧ flat z = true ∧ z.cells.size = sz := by
  obtain ⟨i, z, h1, h2, h3, h4, h5, h6⟩ := h.inf
  exact ⟨z, by simp [zero?, h1, h4], h5, h6⟩

section
variable {α : Type} {R : RepT α} {sz : Nat} [hRp : Rp R sz] {H H' : Heap} {own : Bool} {l l2 : List α} {s s2 : Value} {F F2 : List Nat}

/-- What a slice hands to append or copy. -/
theorem SlR.src (h : SlR own sz R H l [s] F) {tx e : TypeId} (hu : P.underlying tx = some (.slice e)) : ∃ c, src? P H sz tx s = some (l.length, c) ∧ RepL R H l c F.tail := by
  obtain ⟨hl, s', hs, h⟩ := h
  obtain rfl : s = s' := by simpa using hs
  unfold src?
  rw [hu]
  rcases h with ⟨rfl, rfl, rfl | ⟨_, rfl⟩ | ⟨_, rfl⟩⟩ | ⟨id, off, c, e, f, o, G, rfl, hb, ho, rfl, hle, hr⟩
  · exact ⟨[], rfl, rfl, rfl⟩
  · exact ⟨[], rfl, rfl, rfl⟩
  · exact ⟨[], rfl, rfl, rfl⟩
  · refine ⟨seg c off (l.length * sz), ?_, hr⟩
    have h1 : ones (c.extract off (off + l.length * sz)).toList = true := by
      rw [extract_seg]
      exact hr.one
    have h2 : (c.extract off (off + l.length * sz)).toList = seg c off (l.length * sz) := by rw [extract_seg]
    simp only [cellsOf?, hb]
    rw [if_pos ⟨trivial, hle, h1⟩, h2]

theorem SlR.lit {j : Nat} {c : List Value} {e : TypeId} {f : Nat × Nat} {o : Bool} {G : List Nat} (hb : H[j]? = some ⟨.cells c.toArray e f, true, o⟩) (hr : RepL R H l c G) (hl : l.length ≤ 140737488355328) (ho : own = true → o = true) :
    SlR own sz R H l [.slice (some ⟨j, 0, none⟩) l.length sz] (j :: G) := by
  have hlen := hr.len
  refine ⟨hl, _, rfl, .inr ⟨j, 0, c.toArray, e, f, o, G, rfl, hb, ho, rfl, by simp; omega, ?_⟩⟩
  have : seg c.toArray 0 (l.length * sz) = c := by simp [seg, ← hlen]
  rw [this]
  exact hr

/-- Append: the old block goes, a new one comes. -/
theorem SlR.append {t tx e e2 : TypeId} {b : Nat} {own2 : Bool} (ht : SlT P t e sz b) (htx : P.underlying tx = some (.slice e2)) (hs : SlR true sz R H l [s] F) (h2 : SlR own2 sz R H l2 [s2] F2)
    (hd : ∀ id, F.head? = some id → id ∉ F.tail ∧ id ∉ F2.tail) (hfit : (2 * (l.length + l2.length) + 192) * b ≤ 281474976710656) (hb : 1 ≤ b) :
    ∃ s' H' F', append? P H t tx s s2 = some (s', H') ∧ SlR true sz R H' (l ++ l2) [s'] F' ∧ (F' = [] ∧ l = [] ∧ l2 = [] ∨ F' = H.length :: (F.tail ++ F2.tail)) ∧ H.length ≤ H'.length ∧ H'.length ≤ H.length + 1 ∧
      (∀ j, j < H.length → F.head? ≠ some j → H'[j]? = H[j]?) := by
  obtain ⟨c2, hsrc, hr2⟩ := h2.src htx
  obtain ⟨i, z, hi, hisz, hib, hiz, hfz, hzs⟩ := ht.inf
  have hz : zero? P e = some z := by simp [zero?, hi, hiz]
  have hbig : l.length + l2.length ≤ 140737488355328 := by
    have := Nat.mul_le_mul_left (2 * (l.length + l2.length) + 192) hb
    omega
  have h2l := h2.1
  obtain ⟨hl, s', hs', h⟩ := hs
  obtain rfl : s = s' := by simpa using hs'
  rw [← hisz] at hsrc
  unfold append?
  rw [ht.und]
  simp only [hz, hi, hsrc]
  rw [if_pos ⟨by omega, by omega⟩]
  have hnew : ∀ (hl2 : l2 ≠ []), SlR true sz R (H ++ [⟨.cells c2.toArray e (0, 1), true, true⟩]) l2 [.slice (some ⟨H.length, 0, none⟩) l2.length i.size] (H.length :: F2.tail) := by
    intro hl2
    rw [hisz]
    exact SlR.lit (e := e) (f := (0, 1)) (o := true) (by simp) (hr2.fr fun j hj => get_ext (hr2.lt j hj)) h2l (fun _ => rfl)
  have hfit2 : (2 * l2.length + 192) * i.bytes ≤ 281474976710656 := by
    rw [hib]
    exact Nat.le_trans (Nat.mul_le_mul_right _ (by omega)) hfit
  rcases h with ⟨rfl, rfl, rfl | ⟨h0, _⟩ | ⟨h0, _⟩⟩ | ⟨id, off, c, e0, f, o, G, rfl, hblk, ho, rfl, hle, hr⟩
  · simp only []
    by_cases h0 : l2 = []
    · subst h0
      exact ⟨.slice none 0 0, H, [], by simp, SlR.nil, .inl (by simp), Nat.le_refl _, by omega, fun j hj _ => rfl⟩
    · have hlen : ¬ l2.length = 0 := by simpa using h0
      rw [if_neg hlen, if_pos hfit2]
      exact ⟨_, _, H.length :: F2.tail, rfl, by simpa using hnew h0, .inr (by simp), by simp, by simp, fun j hj _ => get_ext hj⟩
  · cases h0
  · cases h0
  · obtain rfl := ho rfl
    simp only [hblk]
    have hext : c.extract off (off + l.length * sz) = (seg c off (l.length * sz)).toArray := extract_seg _ _ _
    have h1 : ones (c.extract off (off + l.length * sz)).toList = true := by rw [hext]; exact hr.one
    rw [if_pos ⟨hisz.symm, hle, h1, by omega, by rw [hib]; exact hfit⟩]
    have hlt := (List.getElem?_eq_some_iff.1 hblk).1
    obtain ⟨hn1, hn2⟩ := hd id rfl
    have hfr : ∀ j ∈ G ++ F2.tail, (H.set id deadBlk ++ [⟨.cells (seg c off (l.length * sz) ++ c2).toArray e (mkQ e e0 f), true, true⟩])[j]? = H[j]? := by
      intro j hj
      have hjl : j < H.length := by
        rcases List.mem_append.1 hj with h | h
        · exact hr.lt j h
        · exact hr2.lt j h
      have hne : id ≠ j := by
        rintro rfl
        rcases List.mem_append.1 hj with h | h
        · exact hn1 h
        · exact hn2 h
      rw [get_ext (by simpa using hjl), List.getElem?_set_ne hne]
    refine ⟨_, _, H.length :: (G ++ F2.tail), rfl, ?_, .inr rfl, by simp, by simp, fun j hj hne => ?_⟩
    · rw [hext]
      have e1 : (seg c off (l.length * sz)).toArray ++ c2.toArray = (seg c off (l.length * sz) ++ c2).toArray := by simp
      rw [e1]
      have := SlR.lit (own := true) (R := R) (sz := sz) (H := H.set id deadBlk ++ [⟨.cells (seg c off (l.length * sz) ++ c2).toArray e (mkQ e e0 f), true, true⟩]) (l := l ++ l2) (j := H.length) (c := seg c off (l.length * sz) ++ c2) (e := e) (f := mkQ e e0 f) (o := true) (G := G ++ F2.tail)
        (by rw [List.getElem?_append_right (by simp)]; simp) ((hr.append hr2).fr hfr) (by simpa using hbig) (fun _ => rfl)
      simpa using this
    · have hne' : id ≠ j := fun e => hne (by rw [e]; rfl)
      rw [get_ext (by simpa using hj), List.getElem?_set_ne hne']

/-- One more element. -/
theorem SlR.append1 {t e e2 : TypeId} {b j : Nat} {x : α} {cx : List Value} {Fx : List Nat} {ex : TypeId} {fx : Nat × Nat} {ox : Bool} {tx : TypeId} (ht : SlT P t e sz b) (htx : P.underlying tx = some (.slice e2)) (hs : SlR true sz R H l [s] F)
    (hj : H[j]? = some ⟨.cells cx.toArray ex fx, true, ox⟩) (hx : R H x cx Fx) (hd : ∀ id, F.head? = some id → id ∉ F.tail ∧ id ∉ Fx) (hfit : (2 * (l.length + 1) + 192) * b ≤ 281474976710656) (hb : 1 ≤ b) :
    ∃ s' H', append? P H t tx s (.slice (some ⟨j, 0, none⟩) 1 sz) = some (s', H') ∧ SlR true sz R H' (l ++ [x]) [s'] (H.length :: (F.tail ++ Fx)) ∧ H'.length = H.length + 1 ∧
      (∀ j, j < H.length → F.head? ≠ some j → H'[j]? = H[j]?) := by
  have h2 : SlR false sz R H [x] [.slice (some ⟨j, 0, none⟩) 1 sz] (j :: Fx) := SlR.lit (l := [x]) hj (RepL.single hx) (by simp) (by simp)
  obtain ⟨s', H', F', q1, q2, q3, q4, q5, q6⟩ := SlR.append ht htx hs h2 hd hfit hb
  rcases q3 with ⟨_, _, h0⟩ | rfl
  · cases h0
  · refine ⟨s', H', q1, q2, ?_, q6⟩
    have := hRp
    have hlt := (SlR.rp (own := true) (R := R) (sz := sz)).lt q2 H.length (by simp)
    omega

/-- A slice's slice. -/
theorem SlR.cut {et : TypeId} (hs : SlR own sz R H l [s] F) (lo hi : Nat) (h1 : lo ≤ hi) (h2 : hi ≤ l.length) (hz : szT P et = some sz) : ∃ s' F', (own = true → lo = 0) → SlR own sz R H ((l.take hi).drop lo) [s'] F' ∧ (∀ j ∈ F', j ∈ F) ∧ (F.Nodup → F'.Nodup) ∧ (F'.head? = F.head? ∨ F' = []) ∧
    (∀ k k', sliceZ P (some (.slice et)) s (some (.int k (lo : Int))) (some (.int k' (hi : Int))) none = some s') ∧
    (hi = l.length → ∀ k, sliceZ P (some (.slice et)) s (some (.int k (lo : Int))) none none = some s') ∧
    (lo = 0 → ∀ k, sliceZ P (some (.slice et)) s none (some (.int k (hi : Int))) none = some s') := by
  obtain ⟨hl, s0, hs0, h⟩ := hs
  obtain rfl : s = s0 := by simpa using hs0
  have hnat : ∀ (m : Nat) (k : IntKind), natOf? (some (.int k (m : Int))) = some (some m) := fun m k => by simp [natOf?]
  rcases h with ⟨rfl, rfl, h⟩ | ⟨id, off, c, e0, f, o, G, rfl, hblk, ho, rfl, hle, hr⟩
  · have e1 : hi = 0 := by simpa using h2
    subst e1
    have e2 : lo = 0 := by omega
    subst e2
    refine ⟨s, [], fun _ => ⟨⟨by simp, s, rfl, .inl ⟨by simp, rfl, h⟩⟩, by simp, fun _ => List.nodup_nil, .inr rfl, ?_⟩⟩
    rcases h with rfl | ⟨_, rfl⟩ | ⟨hown0, rfl⟩
    · simp [sliceZ, natOf?, hz, cut?]
    · simp [sliceZ, natOf?, hz, cut?, hollowV]
    · simp [sliceZ, natOf?, hz, cut?, zeroV]
  · by_cases h0 : lo = 0
    · subst h0
      have e : l = l.take hi ++ l.drop hi := (List.take_append_drop hi l).symm
      have hr' := hr
      rw [e] at hr'
      obtain ⟨c1, c2, F1, F2, hc, rfl, r1, r2⟩ := RepL.split hr'
      rw [← e] at hc
      have hl1 := r1.len
      rw [List.length_take, Nat.min_eq_left h2] at hl1
      have hseg : seg c off (hi * sz) = c1 := by
        have e3 : seg c off (hi * sz) = (seg c off (l.length * sz)).take (hi * sz) := by
          simp only [seg, List.take_take]
          rw [Nat.min_eq_left (Nat.mul_le_mul_right _ h2)]
        rw [e3, hc, ← hl1, List.take_left]
      refine ⟨.slice (some ⟨id, off, none⟩) hi sz, id :: F1, fun _ => ⟨⟨by simp; omega, _, rfl, .inr ⟨id, off, c, e0, f, o, F1, by simp [Nat.min_eq_left h2], hblk, ho, rfl, ?_, ?_⟩⟩, ?_, ?_, .inl rfl, ?_⟩⟩
      · simp only [List.drop_zero, List.length_take, Nat.min_eq_left h2]
        have := Nat.mul_le_mul_right sz h2
        omega
      · simp only [List.drop_zero, List.length_take, Nat.min_eq_left h2]
        rw [hseg]
        exact r1
      · intro j hj
        rcases List.mem_cons.1 hj with rfl | hj
        · simp
        · simp [hj]
      · intro hnd
        have := List.nodup_cons.1 hnd
        exact List.nodup_cons.2 ⟨fun hm => this.1 (by simp [hm]), (List.nodup_append.1 this.2).1⟩
      · refine ⟨fun k k' => ?_, fun he k => ?_, fun _ k => ?_⟩
        · simp only [sliceZ, hz, hnat]
          simp [natOf?, cut?, h2]
        · simp only [sliceZ, hz, hnat]
          simp [natOf?, cut?, he]
        · simp only [sliceZ, hz, hnat]
          simp [natOf?, cut?, h2]
    · by_cases heq : lo = hi
      · subst heq
        refine ⟨hollowV, [], fun hown => ⟨⟨by simp, hollowV, rfl, .inl ⟨by simp, rfl, .inr (.inl ⟨?_, rfl⟩)⟩⟩, by simp, fun _ => List.nodup_nil, .inr rfl, fun k k' => ?_, fun he k => ?_, fun h => absurd h h0⟩⟩
        · cases own with
          | true => exact absurd (hown rfl) h0
          | false => rfl
        · simp only [sliceZ, hz, hnat]
          simp [natOf?, cut?, h2, h0]
        · simp only [sliceZ, hz, hnat]
          simp [natOf?, cut?, h2, h0, he]
          intro hnil
          exact absurd (he.trans (by simp [hnil])) h0
      · have hlt : lo < hi := by omega
        have e : l = l.take lo ++ ((l.take hi).drop lo ++ l.drop hi) := by
          have : l.take lo = (l.take hi).take lo := by rw [List.take_take, Nat.min_eq_left h1]
          rw [this, ← List.append_assoc, List.take_append_drop, List.take_append_drop]
        have hr' := hr
        rw [e] at hr'
        obtain ⟨c1, c2', F1, F2', hc, rfl, r1, r2'⟩ := RepL.split hr'
        rw [← e] at hc
        obtain ⟨c2, c3, F2, F3, rfl, rfl, r2, r3⟩ := RepL.split r2'
        have hl1 := r1.len
        have hl2 := r2.len
        rw [List.length_take, Nat.min_eq_left (by omega)] at hl1
        have hlen2 : ((l.take hi).drop lo).length = hi - lo := by simp [Nat.min_eq_left h2]
        rw [hlen2] at hl2
        obtain ⟨g1, g2⟩ := seg_of hc hle
        rw [hl1, hl2] at g1 g2
        refine ⟨.slice (some ⟨id, off + lo * sz, none⟩) (hi - lo) sz, id :: F2, fun hown => ⟨⟨by rw [hlen2]; omega, _, rfl, .inr ⟨id, off + lo * sz, c, e0, f, o, F2, by rw [hlen2], hblk, ho, rfl, by rw [hlen2]; exact g2, by rw [hlen2, g1]; exact r2⟩⟩, ?_, ?_, .inl rfl, fun k k' => ?_, fun he k => ?_, fun h => absurd h h0⟩⟩
        · intro j hj
          rcases List.mem_cons.1 hj with rfl | hj
          · simp
          · simp [hj]
        · intro hnd
          have := List.nodup_cons.1 hnd
          exact List.nodup_cons.2 ⟨fun hm => this.1 (by simp [hm]), (List.nodup_append.1 (List.nodup_append.1 this.2).2.1).1⟩
        · simp only [sliceZ, hz, hnat]
          simp [natOf?, cut?, h2, h0, h1, hlt]
        · have hnone : natOf? none = some none := rfl
          simp only [sliceZ, hz, hnat, hnone, Option.getD_some, Option.getD_none]
          rw [if_pos (by exact ⟨by omega, Nat.le_refl _, Nat.le_refl _, rfl⟩)]
          simp only [cut?]
          rw [if_neg h0, if_pos (by omega), if_pos trivial, he]

/-- A slice of n zeros. -/
theorem SlR.make {t e : TypeId} {b m : Nat} {z : Value} (ht : SlT P t e sz b) (hz : zero? P e = some z) (x : α) (hx : ∀ H, R H x z.cells.toList []) (hm : m * b ≤ 281474976710656) (hm2 : m ≤ 140737488355328) :
    makeSlice? P H t (.int .i64 (m : Int)) (.int .i64 (m : Int)) = some (.slice (some ⟨H.length, 0, none⟩) m sz, H ++ [⟨.cells (zerosOf z.cells (m * sz)) e (0, 1), true, true⟩]) ∧
      SlR true sz R (H ++ [⟨.cells (zerosOf z.cells (m * sz)) e (0, 1), true, true⟩]) (List.replicate m x) [.slice (some ⟨H.length, 0, none⟩) m sz] [H.length] := by
  obtain ⟨i, z', hi, hisz, hib, hiz, hfz, hzs⟩ := ht.inf
  have hz' : zero? P e = some z' := by simp [zero?, hi, hiz]
  obtain rfl : z = z' := by rw [hz] at hz'; exact Option.some.inj hz'
  have hpos : 0 < z.cells.size := by rw [hzs]; exact ht.pos
  constructor
  · unfold makeSlice?
    rw [ht.und]
    simp only [hz, hi]
    rw [if_pos ⟨by omega, by omega, by omega, by rw [hib, ← Int.natCast_mul]; omega, hfz, hpos, by omega⟩, hisz]
    rfl
  · have e1 : zerosOf z.cells (m * sz) = (zerosL z.cells.toList m).toArray := by rw [← hzs]; exact zerosOf_L _ hpos m
    rw [e1]
    have hr : ∀ (H : Heap) (m : Nat), RepL R H (List.replicate m x) (zerosL z.cells.toList m) [] := by
      intro H m
      induction m with
      | zero => exact ⟨rfl, rfl⟩
      | succ m ih => exact ⟨z.cells.toList, _, [], [], rfl, rfl, hx H, ih⟩
    have := SlR.lit (own := true) (R := R) (sz := sz) (H := H ++ [⟨.cells (zerosL z.cells.toList m).toArray e (0, 1), true, true⟩]) (l := List.replicate m x) (j := H.length) (e := e) (f := (0, 1)) (o := true) (by rw [List.getElem?_append_right (Nat.le_refl _), Nat.sub_self]; rfl) (hr _ m) (by simpa using hm2) (fun _ => rfl)
    simpa using this
end

section
variable {α : Type} {R : RepT α} {sz : Nat} {H : Heap} {own : Bool} {l : List α} {s : Value} {F : List Nat} {i : Nat} {x : α} {id o : Nat} {c : Array Value} {e : TypeId} {f : Nat × Nat} {ow : Bool} {cs : List Value} {Fi : List Nat}
/-- An element written whole. -/
theorem Elt.set (E : Elt R sz own H l s F i x id o c e f ow cs Fi) (hn : F.Nodup) (how : ow = true) {x' : α} {cs' : List Value} (hl : cs'.length = sz) (hR : R H x' cs' Fi) :
    SlR own sz R (H.set id ⟨.cells (setL c o cs') e f, true, ow⟩) (l.set i x') [s] F := by
  have hle := E.le
  refine E.put hn how _ x' cs' (setL_size _ _ _) hl (fun j hj => ?_) (fun k hk => ?_) hR
  · rw [setL_get _ _ _ _ (by omega), if_pos (by omega)]
    congr 1; omega
  · rw [setL_get _ _ _ _ (by omega), if_neg (by omega)]
end

theorem bin_rem {t : TypeId} {x y : Operand} {k : IntKind} {a b : Int} (hb : b ≠ 0) : bin? P .rem t x y (.int k a) (.int k b) = some (.int k (a.tmod b)) := by
  simp [bin?, flat, flat0, purF, eqGuard, binOp, Op.intDiv, hb]
  rfl
theorem bin_quo {t : TypeId} {x y : Operand} {k : IntKind} {a b : Int} (hb : b ≠ 0) : bin? P .quo t x y (.int k a) (.int k b) = some (.int k (k.wrap (a.tdiv b))) := by
  simp [bin?, flat, flat0, purF, eqGuard, binOp, Op.intDiv, hb]
  rfl
attribute [simp] bin_rem bin_quo
/-- A slice of one byte, as a string. -/
theorem conv_byte {a b e ex : TypeId} {f : Nat × Nat} {o : Bool} {S : Heap} {id : Nat} {n : Int} (ha : P.underlying a = some (.slice e)) (he : P.underlying e = some (.int .u8)) (hb : P.underlying b = some .string) (h0 : 0 ≤ n) (h1 : n < 256)
    (hS : S[id]? = some ⟨.cells #[.int .u8 n] ex f, true, o⟩) : conv? P S a b (.slice (some ⟨id, 0, none⟩) 1 1) = some (.string ⟨⟨[UInt8.ofNat n.toNat]⟩⟩, S) := by
  simp [conv?, ha, he, hb, hS, numsOf?, strOfNums]

theorem conv_byteN {a b e ex : TypeId} {f : Nat × Nat} {o : Bool} {S : Heap} {id m : Nat} (ha : P.underlying a = some (.slice e)) (he : P.underlying e = some (.int .u8)) (hb : P.underlying b = some .string) (h1 : m < 256)
    (hS : S[id]? = some ⟨.cells #[.int .u8 (m : Int)] ex f, true, o⟩) : conv? P S a b (.slice (some ⟨id, 0, none⟩) 1 1) = some (.string ⟨⟨[UInt8.ofNat m]⟩⟩, S) := by
  have := conv_byte (o := o) ha he hb (n := (m : Int)) (by omega) (by omega) hS
  simpa using this

theorem bin_xorN {t : TypeId} {x y : Operand} {a b : Nat} (ha : a < 4611686018427387904) (hb : b < 4611686018427387904) : bin? P .xor t x y (.int .i64 (a : Int)) (.int .i64 (b : Int)) = some (.int .i64 ((a ^^^ b : Nat) : Int)) := by
  have h : a ^^^ b < 4611686018427387904 := Nat.xor_lt_two_pow (n := 62) ha hb
  have e : (BitVec.ofInt 64 (a : Int) ^^^ BitVec.ofInt 64 (b : Int)).toNat = a ^^^ b := by
    rw [BitVec.toNat_xor, BitVec.ofInt_natCast, BitVec.ofInt_natCast, BitVec.toNat_ofNat, BitVec.toNat_ofNat, Nat.mod_eq_of_lt (by omega), Nat.mod_eq_of_lt (by omega)]
  have e2 : binOp .xor t (.int .i64 (a : Int)) (.int .i64 (b : Int)) = .pure (.int .i64 (IntKind.i64.wrap ((a ^^^ b : Nat) : Int))) := by
    rw [← e]; rfl
  rw [wrap_of _ (by omega) (by omega)] at e2
  simp [bin?, flat, flat0, purF, eqGuard, e2, pur]

end Go.Am
