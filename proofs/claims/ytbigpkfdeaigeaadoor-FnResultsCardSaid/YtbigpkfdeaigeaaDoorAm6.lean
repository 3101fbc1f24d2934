/- The abstract meaning of append, copy and len, each with what the model does. No condition. -/
import Derived.Test.YtbigpkfdeaigeaaDoorAm5
namespace Go.Am
open Go
set_option linter.unusedSimpArgs false
set_option linter.unusedVariables false

variable {P : Program} {ng : Nat}

/-- A block that is read no more. -/
def deadBlk : Blk := ⟨.cells #[] 0 (0, 0), false, false⟩

/-- An owned block that goes on under a new name, with another content. -/
theorem move_rel {E : Emb} {S : Heap} {w w' : World} (hr : Rel ng E S w) {id : Nat} {l l' : Loc} {b b' : Blk} (he : E id = some l) (hb : S[id]? = some b)
    (hlive : b.live = true) (hown : b.own = true) (hl : l'.blk = l.blk) (hsz : w'.heap.size = w.heap.size) (hw : ∀ k, k ≠ l.blk → w'.heap[k]? = w.heap[k]?)
    (hos : w'.os = w.os) (htape : w'.tape = w.tape) (hout : w'.output = w.output)
    (ho : b'.live = true → ObjR (Emb.push E S.length l') b'.own l' w' b'.obj) :
    Rel ng (Emb.push E S.length l') (S.set id deadBlk ++ [b']) w' ∧ Grow S.length E S w (Emb.push E S.length l') (S.set id deadBlk ++ [b']) w' := by
  have hlen : (S.set id deadBlk).length = S.length := List.length_set
  have hmono := Emb.push_mono hr l'
  have hk := hr.kill id deadBlk rfl
  constructor
  · refine ⟨fun i li hi => ?_, fun i j li lj bi bj hi hj gi gj hli hlj hoi hij => ?_, fun g hg => ?_⟩
    · simp only [Emb.push] at hi
      split at hi
      · rename_i e
        subst e
        obtain rfl := Option.some.inj hi
        obtain ⟨b0, h1, h2, h3⟩ := hr.blk id l he
        exact ⟨b', by rw [List.getElem?_append_right (by omega)]; simp [hlen], by rw [hsz, hl]; exact h2, ho⟩
      · obtain ⟨b0, h1, h2, h3⟩ := hk.blk i li hi
        refine ⟨b0, by rw [List.getElem?_append_left (hk.lt hi)]; exact h1, by rw [hsz]; exact h2, fun hlv => ?_⟩
        refine ((h3 hlv).mono hmono).congr (hw _ ?_)
        intro e
        have hne : i ≠ id := by
          rintro rfl
          rw [List.getElem?_set_self (hr.lt hi)] at h1
          obtain rfl := Option.some.inj h1
          cases hlv
        rw [List.getElem?_set_ne (Ne.symm hne)] at h1
        exact hr.apart id i l li b b0 he hi hb h1 hlive hlv hown (Ne.symm hne) e.symm
    · have hlow : ∀ i li bi, E i = some li → (S.set id deadBlk ++ [b'])[i]? = some bi → bi.live = true → i ≠ id ∧ S[i]? = some bi := by
        intro i li bi hi gi hv
        rw [List.getElem?_append_left (hk.lt hi)] at gi
        have hne : i ≠ id := by
          rintro rfl
          rw [List.getElem?_set_self (hr.lt hi)] at gi
          obtain rfl := Option.some.inj gi
          cases hv
        exact ⟨hne, by rw [List.getElem?_set_ne (Ne.symm hne)] at gi; exact gi⟩
      simp only [Emb.push] at hi hj
      split at hi <;> split at hj
      · omega
      · obtain rfl := Option.some.inj hi
        obtain ⟨hne, hs⟩ := hlow j lj bj hj gj hlj
        rw [hl]
        exact hr.apart id j l lj b bj he hj hb hs hlive hlj hown (Ne.symm hne)
      · obtain rfl := Option.some.inj hj
        obtain ⟨hne, hs⟩ := hlow i li bi hi gi hli
        rw [hl]
        exact hr.apart i id li l bi b hi he hs hb hli hlive hoi hne
      · obtain ⟨_, hs1⟩ := hlow i li bi hi gi hli
        obtain ⟨_, hs2⟩ := hlow j lj bj hj gj hlj
        exact hr.apart i j li lj bi bj hi hj hs1 hs2 hli hlj hoi hij
    · obtain ⟨r, hgr, hwv⟩ := hk.glob g hg
      exact ⟨r, hmono _ _ hgr, fun c e f hc => hwv c e f (by rw [List.getElem?_append_left (hk.lt hgr)] at hc; exact hc)⟩
  · refine ⟨fun i hi => by simp only [Emb.push]; rw [if_neg (by omega)], hos, htape, hout, by omega, fun k hk' hno => hw k (fun e => hno id l b he hb hlive hown e.symm), fun i li bl hi hs h1 h2 hlt => ?_⟩
    simp only [Emb.push] at hi
    split at hi
    · obtain rfl := Option.some.inj hi
      exact ⟨id, l, b, he, hb, hlive, hown, hl.symm⟩
    · rw [List.getElem?_append_left (hk.lt hi)] at hs
      have hne : i ≠ id := by
        rintro rfl
        rw [List.getElem?_set_self (hr.lt hi)] at hs
        obtain rfl := Option.some.inj hs
        cases h1
      rw [List.getElem?_set_ne (Ne.symm hne)] at hs
      exact ⟨i, li, bl, hi, hs, h1, h2, rfl⟩

/-! ### What is appended or copied -/
/-- The cells of the first n elements of a slice. -/
def cellsOf? (S : Heap) (sz : Nat) : Value → Option (Nat × List Value)
  | .slice none 0 0 => some (0, [])
  | .slice (some ⟨0, 0, some 1⟩) 0 0 => some (0, [])
  | .slice (some ⟨0, 0, some 0⟩) 0 0 => some (0, [])
  | .slice (some ⟨id, off, none⟩) n sz' =>
    match S[id]? with
    | some ⟨.cells c _ _, true, _⟩ => if sz' = sz ∧ off + n * sz ≤ c.size ∧ ones (c.extract off (off + n * sz)).toList = true then some (n, (c.extract off (off + n * sz)).toList) else none
    | _ => none
  | _ => none

def src? (P : Program) (S : Heap) (sz : Nat) (tx : TypeId) (x : Value) : Option (Nat × List Value) :=
  match P.underlying tx with
  | some .string => match x with
    | .string s => if sz = 1 then some (s.size, byteCells s) else none
    | _ => none
  | some (.slice _) => cellsOf? S sz x
  | _ => none

/-- The real cells that a source stands for. -/
structure SrcR (P : Program) (E : Emb) (w : World) (size : Nat) (tx : TypeId) (x' : Value) (n : Nat) (news : List Value) (news' : List Value) : Prop where
  src : Src P size tx x' n news' w
  len : news.length = news'.length
  vr : ∀ i (h : i < news.length) (h' : i < news'.length), VR E news[i] news'[i]
  nlen : news.length = n * size
  first : ∀ m, m ≤ n → (Builtin.firstCells size m x').run P w = .ok (news'.take (m * size)).toArray w

theorem first_nil (size c m : Nat) (hm : m ≤ 0) (w : World) : (Builtin.firstCells size m (.slice none 0 c)).run P w = .ok (([] : List Value).take (m * size)).toArray w := by
  rw [List.take_nil]; exact run_firstCells_none w size m 0 c

theorem first_some (size n m : Nat) (a : Addr) (c : Nat) (l : List Value) (w : World) (hl : l.length = n * size) (hm : m ≤ n) (h : ∀ j v, l[j]? = some v → w.cell? (a.add j) = some v) :
    (Builtin.firstCells size m (.slice (some a) n c)).run P w = .ok (l.take (m * size)).toArray w := by
  have hmul : m * size ≤ n * size := Nat.mul_le_mul_right _ hm
  have := run_firstCells_some (P := P) w size m a n c (l.take (m * size)) (by rw [List.length_take]; omega) (fun j v hj => h j v (by
    rw [List.getElem?_take] at hj
    split at hj
    · exact hj
    · cases hj))
  exact this

theorem first_string (s : ByteArray) (m : Nat) (w : World) : (Builtin.firstCells 1 m (.string s)).run P w = .ok ((byteCells s).take (m * 1)).toArray w := by
  simp [Builtin.firstCells, byteCells]
  apply Array.ext'
  simp [← List.map_take]

theorem src_run {E : Emb} {S : Heap} {w : World} (hr : Rel ng E S w) {sz n : Nat} {tx : TypeId} {x x' : Value} {news : List Value} (h : src? P S sz tx x = some (n, news)) (hx : VR E x x') :
    ∃ news', SrcR P E w sz tx x' n news news' := by
  unfold src? at h
  split at h
  · rename_i hu
    split at h
    · rename_i s
      split at h
      · rename_i h1
        subst h1
        obtain ⟨rfl, rfl⟩ := Prod.mk.inj (Option.some.inj h)
        cases hx
        refine ⟨byteCells s, Src.ofString w hu s, rfl, fun i h1 h2 => ?_, by rw [byteCells_length]; omega, fun m _ => first_string s m w⟩
        refine VR.refl0 E ?_
        have : ∀ v ∈ byteCells s, flat0 v = true := by
          intro v hv
          obtain ⟨_, _, rfl⟩ := List.mem_map.1 hv
          rfl
        exact this _ (List.getElem_mem _)
      · cases h
    · cases h
  · rename_i e hu
    unfold cellsOf? at h
    split at h
    · obtain ⟨rfl, rfl⟩ := Prod.mk.inj (Option.some.inj h)
      cases hx
      exact ⟨[], Src.ofNil w hu 0, rfl, fun i h1 _ => by simp at h1, by simp, fun m hm => first_nil _ _ m hm w⟩
    · obtain ⟨rfl, rfl⟩ := Prod.mk.inj (Option.some.inj h)
      cases hx with
      | hollow a c =>
        cases a with
        | none => exact ⟨[], Src.ofNil w hu c, rfl, fun i h1 _ => by simp at h1, by simp, fun m hm => first_nil _ _ m hm w⟩
        | some a => exact ⟨[], Src.ofSlice w hu a 0 c [] (by simp) (fun j u h => by simp at h) (fun u h => by simp at h), rfl, fun i h1 _ => by simp at h1, by simp, fun m hm => first_some _ 0 m a _ [] w (by simp) hm (fun j v h => by simp at h)⟩
    · obtain ⟨rfl, rfl⟩ := Prod.mk.inj (Option.some.inj h)
      cases hx with
      | zero a =>
        cases a with
        | none => exact ⟨[], Src.ofNil w hu 0, rfl, fun i h1 _ => by simp at h1, by simp, fun m hm => first_nil _ _ m hm w⟩
        | some a => exact ⟨[], Src.ofSlice w hu a 0 0 [] (by simp) (fun j u h => by simp at h) (fun u h => by simp at h), rfl, fun i h1 _ => by simp at h1, by simp, fun m hm => first_some _ 0 m a _ [] w (by simp) hm (fun j v h => by simp at h)⟩
    · rename_i id off n1 sz1
      split at h
      · rename_i cs e0 f0 ow hb
        split at h
        · rename_i hc
          obtain ⟨rfl, hle, h1⟩ := hc
          obtain ⟨rfl, rfl⟩ := Prod.mk.inj (Option.some.inj h)
          cases hx with
          | slice _ _ _ cap he hcap hroom =>
            rename_i l
            obtain ⟨b, hb', hlt, ho⟩ := hr.blk id l he
            rw [hb] at hb'
            obtain rfl := Option.some.inj hb'
            obtain ⟨c', e', fr, hw, hrm, hbase, hcell, _⟩ := ho rfl
            have hsz' : (c'.extract (l.base + off) (l.base + off + n1 * sz1)).size = n1 * sz1 := by simp; omega
            have hlen : (cs.extract off (off + n1 * sz1)).toList.length = (c'.extract (l.base + off) (l.base + off + n1 * sz1)).toList.length := by
              rw [Array.length_toList, Array.length_toList, hsz']; simp; omega
            have hvr : ∀ i (h : i < (cs.extract off (off + n1 * sz1)).toList.length) (h' : i < (c'.extract (l.base + off) (l.base + off + n1 * sz1)).toList.length),
                VR E (cs.extract off (off + n1 * sz1)).toList[i] (c'.extract (l.base + off) (l.base + off + n1 * sz1)).toList[i] := by
              intro i h1 h2
              simp only [Array.getElem_toList, Array.getElem_extract]
              have hi : off + i < cs.size := by simp at h1; omega
              obtain ⟨v', g1, g2⟩ := hcell (off + i) hi
              have : c'[l.base + off + i]'(by simp at h2; omega) = v' := by
                have := (Array.getElem?_eq_some_iff.1 g1).2
                rw [← this]; congr 1; omega
              rw [this]; exact g2
            have hcl : ∀ j u, (c'.extract (l.base + off) (l.base + off + n1 * sz1)).toList[j]? = some u → w.cell? ((⟨l.blk, l.base + off, none⟩ : Addr).add j) = some u := by
              intro j u hj
              rw [Array.getElem?_toList, Array.getElem?_extract] at hj
              split at hj
              · rw [Addr.add_mid]
                simp [World.cell?, hw, hj]
              · cases hj
            exact ⟨(c'.extract (l.base + off) (l.base + off + n1 * sz1)).toList, ⟨Src.ofSlice w hu ⟨l.blk, l.base + off, none⟩ n1 cap _ (by rw [Array.length_toList, hsz']) hcl (ones_real h1 hlen hvr), hlen, hvr, by rw [hlen, Array.length_toList, hsz'],
              fun m hm => first_some _ n1 m _ _ _ w (by rw [Array.length_toList, hsz']) hm hcl⟩⟩
        · cases h
      · cases h
    · cases h
  · cases h

theorem le_grownCap (w : World) (need old : Nat) (e : TypeId) : need ≤ grownCap w need old e := by
  show need ≤ need + _
  omega

theorem nextslicecap_le {need old : Nat} (h : old < need) : Builtin.nextslicecap need old ≤ 2 * need + 192 := by
  have grow : ∀ r c, c < need → Builtin.growBy need r c ≤ 2 * need + 192 := by
    intro r
    induction r with
    | zero => intro c hc; simp only [Builtin.growBy]; omega
    | succ r ih =>
      intro c hc
      simp only [Builtin.growBy]
      split
      · omega
      · by_cases h2 : c + (c + 768) / 4 < need
        · exact ih _ h2
        · cases r with
          | zero => simp only [Builtin.growBy]; omega
          | succ r => simp only [Builtin.growBy]; rw [if_pos (by omega)]; omega
  unfold Builtin.nextslicecap
  split
  · omega
  · split
    · omega
    · exact grow 4 old h

/-- What is known of a row behind another. -/
def mkQ (e e0 : TypeId) (f0 : Nat × Nat) : Nat × Nat := (if e0 = e then f0.1 else 1, 1)

theorem mkQ_typ {e e0 e' : TypeId} {f0 : Nat × Nat} (h : f0.1 = 0 → e' = e0) (hq : (mkQ e e0 f0).1 = 0) : e' = e := by
  unfold mkQ at hq
  dsimp only at hq
  split at hq
  · rename_i he0
    rw [h hq, he0]
  · cases hq

def append? (P : Program) (S : Heap) (t tx : TypeId) (s x : Value) : Option (Value × Heap) :=
  match P.underlying t with
  | some (.slice e) =>
    match zero? P e, P.info? e with
    | some z, some i =>
      match src? P S i.size tx x with
      | some (n, news) =>
        if z.cells.size = i.size ∧ n ≤ 140737488355328 then
          match s with
          | .slice none 0 0 =>
            if n = 0 then some (.slice none 0 0, S)
            else if (2 * n + 192) * i.bytes ≤ 281474976710656 then some (.slice (some ⟨S.length, 0, none⟩) n i.size, S ++ [⟨.cells news.toArray e (0, 1), true, true⟩]) else none
          | .slice (some ⟨0, 0, some 0⟩) 0 0 =>
            if n = 0 then some (zeroV, S)
            else if (2 * n + 192) * i.bytes ≤ 281474976710656 then some (.slice (some ⟨S.length, 0, none⟩) n i.size, S ++ [⟨.cells news.toArray e (0, 1), true, true⟩]) else none
          | .slice (some ⟨0, 0, some 1⟩) 0 0 => if n = 0 then some (hollowV, S) else none
          | .slice (some ⟨id, off, none⟩) len sz =>
            match S[id]? with
            | some ⟨.cells c e0 f0, true, true⟩ =>
              if sz = i.size ∧ off + len * sz ≤ c.size ∧ ones (c.extract off (off + len * sz)).toList = true ∧ len ≤ 140737488355328 ∧ (2 * (len + n) + 192) * i.bytes ≤ 281474976710656 then
                some (.slice (some ⟨S.length, 0, none⟩) (len + n) sz, S.set id deadBlk ++ [⟨.cells (c.extract off (off + len * sz) ++ news.toArray) e (mkQ e e0 f0), true, true⟩])
              else none
            | _ => none
          | _ => none
        else none
      | none => none
    | _, _ => none
  | _ => none

theorem zeroCells_size (z : Array Value) (n : Nat) : (Builtin.zeroCells z n).size = n * z.size := by simp [Builtin.zeroCells]

/-- A new row behind a draw, from known real cells. -/
theorem grown_rel {E : Emb} {S : Heap} {w : World} (hr : Rel ng E S w) (c c' : Array Value) (e : TypeId) (q : Nat × Nat) (hq : q.2 = 1) (hs : c.size ≤ c'.size)
    (hv : ∀ (i : Nat) (hx : i < c.size) (hy : i < c'.size), VR E c[i] c'[i]) :
    Rel ng (Emb.push E S.length ⟨w.heap.size, 0, c'.size⟩) (S ++ [⟨.cells c e q, true, true⟩]) (w.drew.alloc (.cells c' e)) ∧
      Grow S.length E S w (Emb.push E S.length ⟨w.heap.size, 0, c'.size⟩) (S ++ [⟨.cells c e q, true, true⟩]) (w.drew.alloc (.cells c' e)) := by
  obtain ⟨g1, g2⟩ := newRow_rel (w := w.drew) hr.drew c c' e q (0, 0) true hs hv (fun o _ => by omega) (fun h => by rw [h] at hq; cases hq)
  exact ⟨g1, (Grow.drew _ _ _ _).trans (Nat.le_refl _) g2⟩

theorem append_own {E : Emb} {S : Heap} {w : World} {t tx ty e e0 : TypeId} {i : TypeInfo} {z x' : Value} {n id off len cap : Nat} {l : Loc} {news news' : List Value} {c : Array Value} {f0 : Nat × Nat} (hr : Rel ng E S w)
    (hu : P.underlying t = some (.slice e)) (hi : P.info? e = some i) (hz0 : i.zero = some z) (hzs : z.cells.size = i.size) (hn : n ≤ 140737488355328)
    (hsr : SrcR P E w i.size tx x' n news news') (he : E id = some l) (hb : S[id]? = some ⟨.cells c e0 f0, true, true⟩) (hcap : len ≤ cap) (hroom : l.base + off + cap * i.size ≤ l.room)
    (hle : off + len * i.size ≤ c.size) (h1 : ones (c.extract off (off + len * i.size)).toList = true) (hlen : len ≤ 140737488355328) (hfit : (2 * (len + n) + 192) * i.bytes ≤ 281474976710656) :
    ∃ v' E' w', (Builtin.append_ #[t, tx] ty #[.slice (some ⟨l.blk, l.base + off, none⟩) len cap, x']).run P w = .ok v' w' ∧
      Rel ng E' (S.set id deadBlk ++ [⟨.cells (c.extract off (off + len * i.size) ++ news.toArray) e (mkQ e e0 f0), true, true⟩]) w' ∧ VR E' (.slice (some ⟨S.length, 0, none⟩) (len + n) i.size) v' ∧
      Grow S.length E S w E' (S.set id deadBlk ++ [⟨.cells (c.extract off (off + len * i.size) ++ news.toArray) e (mkQ e e0 f0), true, true⟩]) w' := by
  obtain ⟨b, hb', hlt, ho⟩ := hr.blk id l he
  rw [hb] at hb'
  obtain rfl := Option.some.inj hb'
  have ho' := ho rfl
  obtain ⟨c', e', fr, hw, hrm, hbase, hcell, hfr⟩ := ho'
  have hmulcap : len * i.size ≤ cap * i.size := Nat.mul_le_mul_right _ hcap
  have hxs : (c.extract off (off + len * i.size)).size = len * i.size := by simp; omega
  by_cases hfits : len + n ≤ cap
  · have hmul : (len + n) * i.size ≤ cap * i.size := Nat.mul_le_mul_right _ hfits
    have hnl : news'.length = n * i.size := by rw [← hsr.len]; exact hsr.nlen
    have hadd : (len + n) * i.size = len * i.size + n * i.size := Nat.add_mul _ _ _
    obtain ⟨hw1, hw2⟩ := ObjR.writable (ho rfl) (l.base + off + len * i.size) news'.length (by omega)
    have hrun := run_append_room_src (P := P) w t tx ty e i hu hi l.blk (l.base + off) len cap x' n news' hsr.src hfits hw1 hw2
    have hos := os_setCells l.blk news' (l.base + off + len * i.size) w
    obtain ⟨g1, g2⟩ := move_rel (w' := w.setCells l.blk (l.base + off + len * i.size) news') (l' := ⟨l.blk, l.base + off, l.room⟩)
      (b' := ⟨.cells (c.extract off (off + len * i.size) ++ news.toArray) e (mkQ e e0 f0), true, true⟩) hr he hb rfl rfl rfl (size_setCells _ _ _ _) (fun k hk => other_setCells _ _ _ _ k hk) hos.1 hos.2.1 hos.2.2 (by
        intro _
        refine ⟨_, e', fr, heap_setCells l.blk e' fr news' _ w c' hw, by rw [setL_size]; exact hrm, by
          rw [Array.size_append, hxs]
          simp only [List.size_toArray, hsr.nlen]
          show l.base + off + _ ≤ l.room
          omega, fun k hk => ?_, hfr.1, mkQ_typ hfr.2.1, fun hq => by simp [mkQ] at hq⟩
        show ∃ v', (setL c' (l.base + off + len * i.size) news')[l.base + off + k]? = some v' ∧ _
        rw [Array.size_append, hxs] at hk
        simp only [List.size_toArray, hsr.nlen] at hk
        rw [setL_get _ _ _ _ (by omega)]
        by_cases hk2 : k < len * i.size
        · rw [if_neg (by omega)]
          obtain ⟨v', q1, q2⟩ := hcell (off + k) (by omega)
          refine ⟨v', by rw [← q1]; congr 1; omega, ?_⟩
          rw [Array.getElem_append_left (by rw [hxs]; exact hk2)]
          simp only [Array.getElem_extract]
          exact q2.mono (Emb.push_mono hr _)
        · rw [if_pos (by omega)]
          refine ⟨news'[k - len * i.size]'(by omega), by rw [show l.base + off + k - (l.base + off + len * i.size) = k - len * i.size by omega]; exact List.getElem?_eq_getElem _, ?_⟩
          rw [Array.getElem_append_right (by rw [hxs]; omega)]
          simp only [List.getElem_toArray, hxs]
          exact (hsr.vr _ (by rw [hsr.nlen]; omega) _).mono (Emb.push_mono hr _))
    refine ⟨_, _, _, hrun, g1, ?_, g2⟩
    have := VR.slice (E := Emb.push E S.length ⟨l.blk, l.base + off, l.room⟩) 0 (len + n) i.size cap (push_self _ _ _) hfits (by show l.base + off + 0 + _ ≤ l.room; omega)
    simpa using this
  · have holdl : (c'.extract (l.base + off) (l.base + off + len * i.size)).size = len * i.size := by simp; omega
    have hold : (Builtin.firstCells i.size len (.slice (some ⟨l.blk, l.base + off, none⟩) len cap)).run P w.drew = .ok (c'.extract (l.base + off) (l.base + off + len * i.size)).toList.toArray w.drew := by
      refine run_firstCells_some w.drew i.size len _ _ _ _ (by rw [Array.length_toList, holdl]) fun j u hj => ?_
      rw [Array.getElem?_toList, Array.getElem?_extract] at hj
      split at hj
      · rw [Addr.add_mid]
        have : w.drew.cell? ⟨l.blk, l.base + off + j, none⟩ = w.cell? ⟨l.blk, l.base + off + j, none⟩ := rfl
        rw [this]
        simp [World.cell?, hw, hj]
      · cases hj
    have hrun := run_append_grow_src (P := P) w t tx ty e i z hu hi hz0 (some ⟨l.blk, l.base + off, none⟩) len cap _ hold x' n news' hsr.src (by omega) (by omega) (by
      have h1 := nextslicecap_le (need := len + n) (old := cap) (by omega)
      exact Nat.le_trans (Nat.mul_le_mul_right _ h1) hfit)
    have hleg : len + n ≤ grownCap w (len + n) cap e := le_grownCap _ _ _ _
    generalize hgc : grownCap w (len + n) cap e = gc at hrun hleg
    have hnl : news'.length = n * i.size := by rw [← hsr.len]; exact hsr.nlen
    have hsize : (((c'.extract (l.base + off) (l.base + off + len * i.size)).toList ++ news').toArray ++ Builtin.zeroCells z.cells (gc - (len + n))).size = gc * i.size := by
      rw [Array.size_append, zeroCells_size, hzs]
      simp only [List.size_toArray, List.length_append, Array.length_toList, holdl, hnl]
      rw [Nat.sub_mul, Nat.add_mul]
      have := Nat.mul_le_mul_right i.size hleg
      rw [Nat.add_mul] at this
      omega
    have hk := hr.kill id deadBlk rfl
    have hlenS : (S.set id deadBlk).length = S.length := List.length_set
    obtain ⟨g1, g2⟩ := grown_rel hk (c.extract off (off + len * i.size) ++ news.toArray) (((c'.extract (l.base + off) (l.base + off + len * i.size)).toList ++ news').toArray ++ Builtin.zeroCells z.cells (gc - (len + n))) e (mkQ e e0 f0) rfl (by
        rw [Array.size_append, Array.size_append, hxs]
        simp only [List.size_toArray, List.length_append, Array.length_toList, holdl, hsr.len]
        omega) (by
        intro k hk1 hk2
        rw [Array.size_append, hxs] at hk1
        simp only [List.size_toArray, hsr.nlen] at hk1
        have hlt2 : k < (((c'.extract (l.base + off) (l.base + off + len * i.size)).toList ++ news').toArray).size := by
          simp only [List.size_toArray, List.length_append, Array.length_toList, holdl, hnl]; omega
        rw [Array.getElem_append_left hlt2]
        simp only [List.getElem_toArray]
        by_cases hk3 : k < len * i.size
        · rw [Array.getElem_append_left (by rw [hxs]; exact hk3), List.getElem_append_left (by rw [Array.length_toList, holdl]; exact hk3)]
          simp only [Array.getElem_extract, Array.getElem_toList]
          obtain ⟨v', q1, q2⟩ := hcell (off + k) (by omega)
          have : c'[l.base + off + k]'(by omega) = v' := by
            have := (Array.getElem?_eq_some_iff.1 q1).2
            rw [← this]; congr 1; omega
          rw [this]; exact q2
        · rw [Array.getElem_append_right (by rw [hxs]; omega), List.getElem_append_right (by rw [Array.length_toList, holdl]; omega)]
          simp only [List.getElem_toArray, hxs, Array.length_toList, holdl]
          exact hsr.vr _ (by rw [hsr.nlen]; omega) _)
    rw [hlenS] at g1 g2
    refine ⟨_, _, _, hrun, g1, ?_, (Grow.kill _ id deadBlk rfl).trans (Nat.le_refl _) g2⟩
    have := VR.slice (E := Emb.push E S.length ⟨w.heap.size, 0, (((c'.extract (l.base + off) (l.base + off + len * i.size)).toList ++ news').toArray ++ Builtin.zeroCells z.cells (gc - (len + n))).size⟩) 0 (len + n) i.size gc (push_self _ _ _) (by omega) (by simp only [hsize]; omega)
    simpa using this

theorem append_run {E : Emb} {S S' : Heap} {w : World} {t tx ty : TypeId} {s s' x x' v : Value} (h : append? P S t tx s x = some (v, S')) (hr : Rel ng E S w) (hs : VR E s s') (hx : VR E x x') :
    ∃ v' E' w', (Builtin.append_ #[t, tx] ty #[s', x']).run P w = .ok v' w' ∧ Rel ng E' S' w' ∧ VR E' v v' ∧ Grow S.length E S w E' S' w' := by
  unfold append? at h
  split at h
  · rename_i e hu
    split at h
    · rename_i z i hz hi
      have hz0 : i.zero = some z := by simp [zero?, hi] at hz; exact hz
      split at h
      · rename_i n news hsrc
        obtain ⟨news', hsr⟩ := src_run hr hsrc hx
        split at h
        · rename_i hzn
          obtain ⟨hzs, hn⟩ := hzn
          have hnew : ∀ (old : Option Addr) (holds : (Builtin.firstCells i.size 0 (.slice old 0 0)).run P w.drew = .ok ([] : List Value).toArray w.drew) (h0 : ¬ n = 0) (hfit : (2 * n + 192) * i.bytes ≤ 281474976710656),
              ∃ v' E' w', (Builtin.append_ #[t, tx] ty #[.slice old 0 0, x']).run P w = .ok v' w' ∧ Rel ng E' (S ++ [⟨.cells news.toArray e (0, 1), true, true⟩]) w' ∧ VR E' (.slice (some ⟨S.length, 0, none⟩) n i.size) v' ∧
                Grow S.length E S w E' (S ++ [⟨.cells news.toArray e (0, 1), true, true⟩]) w' := by
            intro old holds h0 hfit
            have hrun := run_append_grow_src (P := P) w t tx ty e i z hu hi hz0 old 0 0 [] holds x' n news' hsr.src (by omega) (by omega) (by
              have h1 := nextslicecap_le (need := 0 + n) (old := 0) (by omega)
              refine Nat.le_trans (Nat.mul_le_mul_right _ h1) ?_
              rw [Nat.zero_add]; exact hfit)
            have hle : 0 + n ≤ grownCap w (0 + n) 0 e := le_grownCap _ _ _ _
            have hsize : (([] ++ news').toArray ++ Builtin.zeroCells z.cells (grownCap w (0 + n) 0 e - (0 + n))).size = grownCap w (0 + n) 0 e * i.size := by
              rw [Array.size_append, zeroCells_size, hzs]
              simp only [List.nil_append, List.size_toArray]
              rw [← hsr.len, hsr.nlen, Nat.sub_mul]
              have := Nat.mul_le_mul_right i.size hle
              simp only [Nat.zero_add] at this ⊢
              omega
            obtain ⟨g1, g2⟩ := grown_rel hr news.toArray (([] ++ news').toArray ++ Builtin.zeroCells z.cells (grownCap w (0 + n) 0 e - (0 + n))) e (0, 1) rfl (by
                rw [Array.size_append]; simp [hsr.len]) (by
                intro k hk hk'
                have hk2 : k < news'.length := by rw [← hsr.len]; simpa using hk
                rw [Array.getElem_append_left (by simpa using hk2)]
                simp only [List.nil_append, List.getElem_toArray]
                exact hsr.vr k (by simpa using hk) hk2)
            refine ⟨_, _, _, hrun, g1, ?_, g2⟩
            have := VR.slice (E := Emb.push E S.length ⟨w.heap.size, 0, (([] ++ news').toArray ++ Builtin.zeroCells z.cells (grownCap w (0 + n) 0 e - (0 + n))).size⟩) 0 n i.size (grownCap w (0 + n) 0 e) (push_self _ _ _) (by omega) (by simp only [hsize]; omega)
            simpa using this
          split at h
          · split at h
            · rename_i h0
              subst h0
              obtain ⟨rfl, rfl⟩ := Prod.mk.inj (Option.some.inj h)
              cases hs
              refine ⟨.slice none 0 0, E, w, ?_, hr, .nilSlice, Grow.refl _ _ _ _⟩
              have hs0 := hsr.src
              rcases hs0.kind with ⟨e', hk⟩ | hk <;> simp [Builtin.append_, run_underlying hu, run_underlying hk, sizeOf, typeInfo, hi, hs0.len, hs0.cells]
            · rename_i h0
              split at h
              · rename_i hfit
                obtain ⟨rfl, rfl⟩ := Prod.mk.inj (Option.some.inj h)
                cases hs
                exact hnew none (run_firstCells_none _ _ _ _ _) h0 hfit
              · cases h
          · split at h
            · rename_i h0
              subst h0
              obtain ⟨rfl, rfl⟩ := Prod.mk.inj (Option.some.inj h)
              cases hs with
              | zero a =>
                refine ⟨.slice a 0 0, E, w, ?_, hr, .zero a, Grow.refl _ _ _ _⟩
                have hs0 := hsr.src
                have hn0 : news' = [] := by
                  have := hsr.nlen
                  have h2 := hsr.len
                  simp at this
                  apply List.eq_nil_of_length_eq_zero
                  rw [← h2, this]; rfl
                subst hn0
                cases a <;> rcases hs0.kind with ⟨e', hk⟩ | hk <;> simp [Builtin.append_, run_underlying hu, run_underlying hk, sizeOf, typeInfo, hi, hs0.len, hs0.cells, storeCells]
            · rename_i h0
              split at h
              · rename_i hfit
                obtain ⟨rfl, rfl⟩ := Prod.mk.inj (Option.some.inj h)
                cases hs with
                | zero a =>
                  refine hnew a ?_ h0 hfit
                  cases a with
                  | none => exact run_firstCells_none _ _ _ _ _
                  | some a => exact run_firstCells_some _ _ _ a _ _ [] (by simp) (fun j v h => by simp at h)
              · cases h
          · split at h
            · rename_i h0
              subst h0
              obtain ⟨rfl, rfl⟩ := Prod.mk.inj (Option.some.inj h)
              cases hs with
              | hollow a c =>
                refine ⟨.slice a 0 c, E, w, ?_, hr, .hollow a c, Grow.refl _ _ _ _⟩
                have hs0 := hsr.src
                have hn0 : news' = [] := by
                  have := hsr.nlen
                  have h2 := hsr.len
                  simp at this
                  apply List.eq_nil_of_length_eq_zero
                  rw [← h2, this]; rfl
                subst hn0
                cases a <;> rcases hs0.kind with ⟨e', hk⟩ | hk <;> simp [Builtin.append_, run_underlying hu, run_underlying hk, sizeOf, typeInfo, hi, hs0.len, hs0.cells, storeCells]
            · cases h
          · rename_i id off len sz
            split at h
            · rename_i c e0 f0 hb
              split at h
              · rename_i hc
                obtain ⟨rfl, hle, h1, hlen, hfit⟩ := hc
                obtain ⟨rfl, rfl⟩ := Prod.mk.inj (Option.some.inj h)
                cases hs with
                | slice _ _ _ cap he hcap hroom =>
                  rename_i l
                  exact append_own hr hu hi hz0 hzs hn hsr he hb hcap hroom hle h1 hlen hfit
              · cases h
            · cases h
          · cases h
        · cases h
      · cases h
    · cases h
  · cases h

end Go.Am
