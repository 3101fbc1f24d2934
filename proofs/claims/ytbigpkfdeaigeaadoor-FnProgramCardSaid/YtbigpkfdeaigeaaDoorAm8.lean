import Derived.Test.YtbigpkfdeaigeaaDoorAm4
import Derived.Laws.BytesArg
import Derived.Laws.IdiomStrings
import Derived.MapKept
/- The abstract meaning of make, slicing, append, copy and len, each with what the model does. No condition. -/
namespace Go.Am
open Go
set_option linter.unusedSimpArgs false
set_option linter.unusedVariables false

variable {P : Program} {ng : Nat}

/-! ### make -/
def makeSlice? (P : Program) (S : Heap) (t : TypeId) (l c : Value) : Option (Value × Heap) :=
  match P.underlying t, l, c with
  | some (.slice e), .int .i64 n, .int .i64 m =>
    match zero? P e, P.info? e with
    | some z, some i =>
      if 0 ≤ n ∧ n ≤ m ∧ m ≤ 281474976710656 ∧ m * i.bytes ≤ 281474976710656 ∧ flat z = true ∧ 0 < z.cells.size ∧ z.cells.size = i.size then
        some (.slice (some ⟨S.length, 0, none⟩) n.toNat i.size, S ++ [⟨.cells (zerosOf z.cells (n.toNat * i.size)) e (0, 1), true, true⟩])
      else none
    | _, _ => none
  | _, _, _ => none

theorem makeSlice_run {E : Emb} {S S' : Heap} {w : World} {t : TypeId} {l l' c c' v : Value} (h : makeSlice? P S t l c = some (v, S')) (hr : Rel ng E S w) (hl : VR E l l') (hc : VR E c c') :
    ∃ v' E' w', (Instr.makeSlice t l' c').run P w = .ok v' w' ∧ Rel ng E' S' w' ∧ VR E' v v' ∧ Grow S.length E S w E' S' w' := by
  unfold makeSlice? at h
  split at h
  · rename_i e n m hu
    split at h
    · rename_i z i hz hi
      split at h
      · rename_i hcond
        obtain ⟨h0, hnm, hm, hb, hf, hpos, hzs⟩ := hcond
        obtain ⟨rfl, rfl⟩ := Prod.mk.inj (Option.some.inj h)
        cases hl; cases hc
        have hz0 : i.zero = some z := by simp [zero?, hi] at hz; exact hz
        have hwn : IntKind.i64.wrap n = n := by rw [IntKind.wrap_i64]; omega
        have hwm : IntKind.i64.wrap m = m := by rw [IntKind.wrap_i64]; omega
        have hw0 : IntKind.i64.wrap 0 = 0 := by rw [IntKind.wrap_i64]; rfl
        obtain ⟨N, rfl⟩ : ∃ N : Nat, n = N := ⟨n.toNat, by omega⟩
        obtain ⟨M, rfl⟩ : ∃ M : Nat, m = M := ⟨m.toNat, by omega⟩
        have hNM : N ≤ M := by omega
        obtain ⟨g1, g2⟩ := newRow_rel hr (zerosOf z.cells (N * i.size)) (zerosOf z.cells (M * i.size)) e (0, 1) (0, 0) true (by
            simp [zerosOf]; exact Nat.mul_le_mul_right _ hNM) (by
            intro k hx hy
            have := zerosOf_vr (E := E) hf (N * i.size) hpos k hx
            have e2 : (zerosOf z.cells (M * i.size))[k] = (zerosOf z.cells (N * i.size))[k] := by simp [zerosOf]
            rw [e2]; exact this) (fun o _ => by omega) (fun hq => by simp at hq)
        refine ⟨.slice (some ⟨w.heap.size, 0, none⟩) N M, _, _, ?_, g1, ?_, g2⟩
        · have hb1 : ¬ (281474976710656 < (i.bytes : Int) * M) := by rw [Int.mul_comm]; omega
          by_cases hM0 : M = 0
          · subst hM0
            have : N = 0 := by omega
            subst this
            simp [Instr.makeSlice, run_underlying hu, asInt, asIntOf, typeInfo, hi, hw0, sizeOf, newRow, alloc_eq, zerosOf, show Array.range 0 = #[] from rfl]
          · have hMs : ¬ (M * i.size = 0) := by
              intro h0
              rcases Nat.mul_eq_zero.1 h0 with h | h <;> omega
            have hc2 : ¬ (((M : Int) < 0 ∨ (N : Int) < 0) ∨ M < N) := by omega
            simp [Instr.makeSlice, run_underlying hu, asInt, asIntOf, typeInfo, hi, hwn, hwm, hb1, hc2, hMs, sizeOf, zeroValue, hz0, newRow, alloc_eq, zerosOf]
        · exact VR.slice (l := ⟨w.heap.size, 0, (zerosOf z.cells (M * i.size)).size⟩) 0 N i.size M (push_self _ _ _) hNM (by simp [zerosOf])
      · cases h
    · cases h
  · cases h

/-! ### x[lo:hi] -/
def hollowV : Value := .slice (some ⟨0, 0, some 1⟩) 0 0
def zeroV : Value := .slice (some ⟨0, 0, some 0⟩) 0 0

/-- A slice's slice. -/
def cut? (s : Nat) (a : Option Addr) (n sz l h : Nat) (mx : Option Nat) : Option Value :=
  match mx, a with
  | none, none => if n = 0 ∧ sz = 0 then some (.slice none 0 0) else none
  | none, some ⟨id, off, none⟩ =>
    if l = 0 then some (.slice (some ⟨id, off, none⟩) h sz)
    else if l < h then (if s = sz then some (.slice (some ⟨id, off + l * sz, none⟩) (h - l) sz) else none)
    else some hollowV
  | none, some ⟨0, 0, some 1⟩ => if n = 0 ∧ sz = 0 then some hollowV else none
  | none, some ⟨0, 0, some 0⟩ => if n = 0 ∧ sz = 0 then some zeroV else none
  | some 0, none => if n = 0 ∧ sz = 0 then some (.slice none 0 0) else none
  | some 0, some ⟨_, _, none⟩ => some zeroV
  | _, _ => none

def natOf? : Option Value → Option (Option Nat)
  | none => some none
  | some (.int _ n) => if 0 ≤ n then some (some n.toNat) else none
  | some _ => none

def slice? (P : Program) (t : TypeId) (x : Value) (lo hi mx : Option Value) : Option Value :=
  match P.underlying t, x with
  | some .string, .string s =>
    match natOf? lo, natOf? hi, mx with
    | some l, some h, none => if l.getD 0 ≤ h.getD s.size ∧ h.getD s.size ≤ s.size then some (.string (s.extract (l.getD 0) (h.getD s.size))) else none
    | _, _, _ => none
  | some (.slice e), .slice a n sz =>
    match szT P e, natOf? lo, natOf? hi, natOf? mx with
    | some s, some l, some h, some m => if l.getD 0 ≤ h.getD n ∧ h.getD n ≤ n ∧ h.getD n ≤ m.getD n ∧ (m.isNone || h.isSome) = true then cut? s a n sz (l.getD 0) (h.getD n) m else none
    | _, _, _, _ => none
  | _, _ => none

/-- Optional operands. -/
def VRo (E : Emb) : Option Value → Option Value → Prop
  | none, none => True
  | some a, some b => VR E a b
  | _, _ => False

theorem nat_eq {E : Emb} {x x' : Option Value} {r : Option Nat} (h : natOf? x = some r) (hv : VRo E x x') :
    (x' = none ∧ r = none) ∨ ∃ (k : IntKind) (n : Nat), x' = some (.int k n) ∧ r = some n := by
  cases x with
  | none => cases x' with
    | none => simp [natOf?] at h; exact .inl ⟨rfl, h.symm⟩
    | some _ => exact hv.elim
  | some a => cases x' with
    | none => exact hv.elim
    | some b =>
      cases a <;> simp [natOf?] at h
      obtain ⟨h0, rfl⟩ := h
      cases hv
      rename_i k n
      exact .inr ⟨k, n.toNat, by rw [Int.toNat_of_nonneg h0], rfl⟩

theorem sliceBound_nat {k : IntKind} {n y : Nat} {code : BoundsCode} (h1 : n ≤ y) (w : World) : (Instr.sliceBound (.int k n) y code).run P w = .ok n w := by
  simp [Instr.sliceBound, asIntOf, h1]

theorem sliceBounds_run {E : Emb} {len cap : Nat} {lo hi mx lo' hi' mx' : Option Value} {l h m : Option Nat} (hl : natOf? lo = some l) (hh : natOf? hi = some h) (hm : natOf? mx = some m) (vl : VRo E lo lo') (vh : VRo E hi hi') (vm : VRo E mx mx')
    (h1 : l.getD 0 ≤ h.getD len) (h2 : h.getD len ≤ len) (h3 : h.getD len ≤ m.getD len) (h4 : m.getD cap ≤ cap) (hc : len ≤ cap) (h5 : m = none ∨ h.isSome = true) (b : Bool) (w : World) :
    (Instr.sliceBounds b len cap lo' hi' mx').run P w = .ok (l.getD 0, h.getD len, m.getD cap) w := by
  rcases nat_eq hl vl with ⟨rfl, rfl⟩ | ⟨k, nl, rfl, rfl⟩ <;> rcases nat_eq hh vh with ⟨rfl, rfl⟩ | ⟨k2, nh, rfl, rfl⟩ <;> rcases nat_eq hm vm with ⟨rfl, rfl⟩ | ⟨k3, nm, rfl, rfl⟩ <;>
    simp only [Option.getD_none, Option.getD_some] at h1 h2 h3 h4 h5 ⊢
  · simp [Instr.sliceBounds]
  · simp at h5
  · simp [Instr.sliceBounds, sliceBound_nat (P := P) (show nh ≤ cap by omega)]
  · simp [Instr.sliceBounds, sliceBound_nat (P := P) h4, sliceBound_nat (P := P) h3]
  · simp [Instr.sliceBounds, sliceBound_nat (P := P) h1]
  · simp at h5
  · simp [Instr.sliceBounds, sliceBound_nat (P := P) (show nh ≤ cap by omega), sliceBound_nat (P := P) h1]
  · simp [Instr.sliceBounds, sliceBound_nat (P := P) h4, sliceBound_nat (P := P) h3, sliceBound_nat (P := P) h1]

theorem map_add0 (a : Option Addr) : a.map (·.add 0) = a := by
  cases a <;> simp [Addr.add]

theorem slice_run {E : Emb} {t : TypeId} {x x' : Value} {lo hi mx lo' hi' mx' : Option Value} {v : Value} (h : slice? P t x lo hi mx = some v) (hx : VR E x x') (vl : VRo E lo lo') (vh : VRo E hi hi') (vm : VRo E mx mx') :
    ∃ v', (∀ w, (Instr.sliceAt t x' lo' hi' mx').run P w = .ok v' w) ∧ VR E v v' := by
  unfold slice? at h
  split at h
  · rename_i s hu
    split at h
    · rename_i l hh hl hhh
      split at h
      · rename_i hb
        obtain rfl := Option.some.inj h
        cases hx
        have e3 : mx' = none := by cases mx' with | none => rfl | some _ => exact vm.elim
        subst e3
        refine ⟨_, fun w => ?_, .string _⟩
        have := fun w => sliceBounds_run (P := P) (mx := none) (mx' := none) (m := none) (cap := s.size) hl hhh rfl vl vh trivial hb.1 hb.2 hb.2 (Nat.le_refl _) (Nat.le_refl _) (.inl rfl) false w
        simp [Instr.sliceAt, run_underlying hu, Instr.slice, this]
      · cases h
    · cases h
  · rename_i e a n sz hu
    split at h
    · rename_i s l hh m hs hl hhh hm
      split at h
      · rename_i hb
        obtain ⟨h1, h2, h3, h5⟩ := hb
        have h5' : m = none ∨ hh.isSome = true := by
          cases m with
          | none => exact .inl rfl
          | some _ => exact .inr (by simpa using h5)
        unfold cut? at h
        split at h
        · split at h
          · rename_i hz
            obtain ⟨rfl, rfl⟩ := hz
            obtain rfl := Option.some.inj h
            cases hx
            refine ⟨.slice none 0 0, fun w => ?_, .nilSlice⟩
            have := fun w => sliceBounds_run (P := P) (cap := 0) hl hhh hm vl vh vm h1 h2 h3 (Nat.le_refl _) (Nat.le_refl _) (.inl rfl) true w
            simp only [Option.getD_none] at this
            have e1 : hh.getD 0 = 0 := by omega
            have e2 : l.getD 0 = 0 := by omega
            simp [Instr.sliceAt, run_underlying hu, Instr.slice, this, run_sizeOf hs, e1, e2]
          · cases h
        · rename_i id off
          cases hx with
          | slice _ _ _ c he hc hroom =>
            rename_i lc
            have hbd := fun w => sliceBounds_run (P := P) (cap := c) hl hhh hm vl vh vm h1 h2 h3 (Nat.le_refl _) hc (.inl rfl) true w
            simp only [Option.getD_none] at hbd
            split at h
            · rename_i hl0
              obtain rfl := Option.some.inj h
              refine ⟨_, fun w => ?_, .slice off (hh.getD n) sz c he (by omega) hroom⟩
              simp [Instr.sliceAt, run_underlying hu, Instr.slice, hbd, run_sizeOf hs, hl0, Addr.add]
            · rename_i hl0
              split at h
              · rename_i hlt
                split at h
                · rename_i hse
                  obtain rfl := Option.some.inj h
                  subst hse
                  have := VR.slice (E := E) (off + l.getD 0 * s) (hh.getD n - l.getD 0) s (c - l.getD 0) he (by omega) (by
                    have e1 : (c - l.getD 0) * s = c * s - l.getD 0 * s := Nat.sub_mul _ _ _
                    have e2 : l.getD 0 * s ≤ c * s := Nat.mul_le_mul_right _ (by omega)
                    omega)
                  refine ⟨_, fun w => ?_, this⟩
                  have hne : ¬ c = l.getD 0 := by omega
                  simp [Instr.sliceAt, run_underlying hu, Instr.slice, hbd, run_sizeOf hs, hne, Addr.add_mid, Nat.add_assoc]
                · cases h
              · rename_i hnlt
                obtain rfl := Option.some.inj h
                have e1 : hh.getD n - l.getD 0 = 0 := by omega
                refine ⟨.slice (if c = l.getD 0 then some ⟨lc.blk, lc.base + off, none⟩ else some ((⟨lc.blk, lc.base + off, none⟩ : Addr).add (l.getD 0 * s))) 0 (c - l.getD 0), fun w => ?_, .hollow _ _⟩
                simp [Instr.sliceAt, run_underlying hu, Instr.slice, hbd, run_sizeOf hs, e1]
        · split at h
          · rename_i hz
            obtain ⟨rfl, rfl⟩ := hz
            obtain rfl := Option.some.inj h
            cases hx with
            | hollow a c =>
              have := fun w => sliceBounds_run (P := P) (cap := c) hl hhh hm vl vh vm h1 h2 h3 (Nat.le_refl _) (Nat.zero_le _) (.inl rfl) true w
              simp only [Option.getD_none] at this
              have e1 : hh.getD 0 = 0 := by omega
              have e2 : l.getD 0 = 0 := by omega
              refine ⟨.slice a 0 c, fun w => ?_, .hollow a c⟩
              simp [Instr.sliceAt, run_underlying hu, Instr.slice, this, run_sizeOf hs, e1, e2, map_add0]
          · cases h
        · split at h
          · rename_i hz
            obtain ⟨rfl, rfl⟩ := hz
            obtain rfl := Option.some.inj h
            cases hx with
            | zero a =>
              have := fun w => sliceBounds_run (P := P) (cap := 0) hl hhh hm vl vh vm h1 h2 h3 (Nat.le_refl _) (Nat.zero_le _) (.inl rfl) true w
              simp only [Option.getD_none] at this
              have e1 : hh.getD 0 = 0 := by omega
              have e2 : l.getD 0 = 0 := by omega
              refine ⟨.slice a 0 0, fun w => ?_, .zero a⟩
              simp [Instr.sliceAt, run_underlying hu, Instr.slice, this, run_sizeOf hs, e1, e2]
          · cases h
        · split at h
          · rename_i hz
            obtain ⟨rfl, rfl⟩ := hz
            obtain rfl := Option.some.inj h
            cases hx
            simp only [Option.getD_some] at h3
            have := fun w => sliceBounds_run (P := P) (cap := 0) hl hhh hm vl vh vm h1 h2 h3 (Nat.le_refl _) (Nat.le_refl _) h5' true w
            simp only [Option.getD_some] at this
            have e1 : hh.getD 0 = 0 := by omega
            have e2 : l.getD 0 = 0 := by omega
            refine ⟨.slice none 0 0, fun w => ?_, .nilSlice⟩
            simp [Instr.sliceAt, run_underlying hu, Instr.slice, this, run_sizeOf hs, e1, e2]
          · cases h
        · rename_i id off
          obtain rfl := Option.some.inj h
          cases hx with
          | slice _ _ _ c he hc hroom =>
            rename_i lc
            simp only [Option.getD_some] at h3
            have := fun w => sliceBounds_run (P := P) (cap := c) hl hhh hm vl vh vm h1 h2 h3 (by simp) hc h5' true w
            simp only [Option.getD_some] at this
            have e1 : hh.getD n = 0 := by omega
            have e2 : l.getD 0 = 0 := by omega
            refine ⟨.slice (some ⟨lc.blk, lc.base + off, none⟩) 0 0, fun w => ?_, .zero _⟩
            simp [Instr.sliceAt, run_underlying hu, Instr.slice, this, run_sizeOf hs, e1, e2]
        · cases h
      · cases h
    · cases h
  · cases h

end Go.Am

/- The abstract meaning of append, copy and len, each with what the model does. No condition. -/
namespace Go.Am
open Go
set_option linter.unusedSimpArgs false
set_option linter.unusedVariables false

variable {P : Program} {ng : Nat}

/-- A block that is read no more. -/
def deadBlk : Blk := ⟨.cells #[] 0 (0, 0), false, false⟩

/-- An owned block that goes on under a new name, with another content. -/
theorem move_rel {E : Emb} {S : Heap} {w w' : World} (hr : Rel ng E S w) {id : Nat} {l l' : Loc} {b b' : Blk} (he : E id = some l) (hb : S[id]? = some b)
    (hlive : b.live = true) (hown : b.own = true) (hl : l'.blk = l.blk) (hsz : w'.heap.size = w.heap.size) (hw : ∀ k, k ≠ l.blk → w'.heap[k]? = w.heap[k]?)
    (hos : w'.os = w.os) (htape : w'.tape = w.tape) (hout : w'.output = w.output)
    (ho : b'.live = true → ObjR (Emb.push E S.length l') b'.own l' w' b'.obj) :
    Rel ng (Emb.push E S.length l') (S.set id deadBlk ++ [b']) w' ∧ Grow S.length E S w (Emb.push E S.length l') (S.set id deadBlk ++ [b']) w' := by
  have hlen : (S.set id deadBlk).length = S.length := List.length_set
  have hmono := Emb.push_mono hr l'
  have hk := hr.kill id deadBlk rfl
  constructor
  · refine ⟨fun i li hi => ?_, fun i j li lj bi bj hi hj gi gj hli hlj hoi hij => ?_, fun g hg => ?_⟩
    · simp only [Emb.push] at hi
      split at hi
      · rename_i e
        subst e
        obtain rfl := Option.some.inj hi
        obtain ⟨b0, h1, h2, h3⟩ := hr.blk id l he
        exact ⟨b', by rw [List.getElem?_append_right (by omega)]; simp [hlen], by rw [hsz, hl]; exact h2, ho⟩
      · obtain ⟨b0, h1, h2, h3⟩ := hk.blk i li hi
        refine ⟨b0, by rw [List.getElem?_append_left (hk.lt hi)]; exact h1, by rw [hsz]; exact h2, fun hlv => ?_⟩
        refine ((h3 hlv).mono hmono).congr (hw _ ?_)
        intro e
        have hne : i ≠ id := by
          rintro rfl
          rw [List.getElem?_set_self (hr.lt hi)] at h1
          obtain rfl := Option.some.inj h1
          cases hlv
        rw [List.getElem?_set_ne (Ne.symm hne)] at h1
        exact hr.apart id i l li b b0 he hi hb h1 hlive hlv hown (Ne.symm hne) e.symm
    · have hlow : ∀ i li bi, E i = some li → (S.set id deadBlk ++ [b'])[i]? = some bi → bi.live = true → i ≠ id ∧ S[i]? = some bi := by
        intro i li bi hi gi hv
        rw [List.getElem?_append_left (hk.lt hi)] at gi
        have hne : i ≠ id := by
          rintro rfl
          rw [List.getElem?_set_self (hr.lt hi)] at gi
          obtain rfl := Option.some.inj gi
          cases hv
        exact ⟨hne, by rw [List.getElem?_set_ne (Ne.symm hne)] at gi; exact gi⟩
      simp only [Emb.push] at hi hj
      split at hi <;> split at hj
      · omega
      · obtain rfl := Option.some.inj hi
        obtain ⟨hne, hs⟩ := hlow j lj bj hj gj hlj
        rw [hl]
        exact hr.apart id j l lj b bj he hj hb hs hlive hlj hown (Ne.symm hne)
      · obtain rfl := Option.some.inj hj
        obtain ⟨hne, hs⟩ := hlow i li bi hi gi hli
        rw [hl]
        exact hr.apart i id li l bi b hi he hs hb hli hlive hoi hne
      · obtain ⟨_, hs1⟩ := hlow i li bi hi gi hli
        obtain ⟨_, hs2⟩ := hlow j lj bj hj gj hlj
        exact hr.apart i j li lj bi bj hi hj hs1 hs2 hli hlj hoi hij
    · obtain ⟨r, hgr, hwv⟩ := hk.glob g hg
      exact ⟨r, hmono _ _ hgr, fun c e f hc => hwv c e f (by rw [List.getElem?_append_left (hk.lt hgr)] at hc; exact hc)⟩
  · refine ⟨fun i hi => by simp only [Emb.push]; rw [if_neg (by omega)], hos, htape, hout, by omega, fun k hk' hno => hw k (fun e => hno id l b he hb hlive hown e.symm), fun i li bl hi hs h1 h2 hlt => ?_⟩
    simp only [Emb.push] at hi
    split at hi
    · obtain rfl := Option.some.inj hi
      exact ⟨id, l, b, he, hb, hlive, hown, hl.symm⟩
    · rw [List.getElem?_append_left (hk.lt hi)] at hs
      have hne : i ≠ id := by
        rintro rfl
        rw [List.getElem?_set_self (hr.lt hi)] at hs
        obtain rfl := Option.some.inj hs
        cases h1
      rw [List.getElem?_set_ne (Ne.symm hne)] at hs
      exact ⟨i, li, bl, hi, hs, h1, h2, rfl⟩

/-! ### What is appended or copied -/
/-- The cells of the first n elements of a slice. -/
def cellsOf? (S : Heap) (sz : Nat) : Value → Option (Nat × List Value)
  | .slice none 0 0 => some (0, [])
  | .slice (some ⟨0, 0, some 1⟩) 0 0 => some (0, [])
  | .slice (some ⟨0, 0, some 0⟩) 0 0 => some (0, [])
  | .slice (some ⟨id, off, none⟩) n sz' =>
    match S[id]? with
    | some ⟨.cells c _ _, true, _⟩ => if sz' = sz ∧ off + n * sz ≤ c.size ∧ ones (c.extract off (off + n * sz)).toList = true then some (n, (c.extract off (off + n * sz)).toList) else none
    | _ => none
  | _ => none

def src? (P : Program) (S : Heap) (sz : Nat) (tx : TypeId) (x : Value) : Option (Nat × List Value) :=
  match P.underlying tx with
  | some .string => match x with
    | .string s => if sz = 1 then some (s.size, byteCells s) else none
    | _ => none
  | some (.slice _) => cellsOf? S sz x
  | _ => none

/-- The real cells that a source stands for. -/
structure SrcR (P : Program) (E : Emb) (w : World) (size : Nat) (tx : TypeId) (x' : Value) (n : Nat) (news : List Value) (news' : List Value) : Prop where
  src : Src P size tx x' n news' w
  len : news.length = news'.length
  vr : ∀ i (h : i < news.length) (h' : i < news'.length), VR E news[i] news'[i]
  nlen : news.length = n * size
  first : ∀ m, m ≤ n → (Builtin.firstCells size m x').run P w = .ok (news'.take (m * size)).toArray w

theorem first_nil (size c m : Nat) (hm : m ≤ 0) (w : World) : (Builtin.firstCells size m (.slice none 0 c)).run P w = .ok (([] : List Value).take (m * size)).toArray w := by
  rw [List.take_nil]; exact run_firstCells_none w size m 0 c

theorem first_some (size n m : Nat) (a : Addr) (c : Nat) (l : List Value) (w : World) (hl : l.length = n * size) (hm : m ≤ n) (h : ∀ j v, l[j]? = some v → w.cell? (a.add j) = some v) :
    (Builtin.firstCells size m (.slice (some a) n c)).run P w = .ok (l.take (m * size)).toArray w := by
  have hmul : m * size ≤ n * size := Nat.mul_le_mul_right _ hm
  have := run_firstCells_some (P := P) w size m a n c (l.take (m * size)) (by rw [List.length_take]; omega) (fun j v hj => h j v (by
    rw [List.getElem?_take] at hj
    split at hj
    · exact hj
    · cases hj))
  exact this

theorem first_string (s : ByteArray) (m : Nat) (w : World) : (Builtin.firstCells 1 m (.string s)).run P w = .ok ((byteCells s).take (m * 1)).toArray w := by
  simp [Builtin.firstCells, byteCells]
  apply Array.ext'
  simp [← List.map_take]

theorem src_run {E : Emb} {S : Heap} {w : World} (hr : Rel ng E S w) {sz n : Nat} {tx : TypeId} {x x' : Value} {news : List Value} (h : src? P S sz tx x = some (n, news)) (hx : VR E x x') :
    ∃ news', SrcR P E w sz tx x' n news news' := by
  unfold src? at h
  split at h
  · rename_i hu
    split at h
    · rename_i s
      split at h
      · rename_i h1
        subst h1
        obtain ⟨rfl, rfl⟩ := Prod.mk.inj (Option.some.inj h)
        cases hx
        refine ⟨byteCells s, Src.ofString w hu s, rfl, fun i h1 h2 => ?_, by rw [byteCells_length]; omega, fun m _ => first_string s m w⟩
        refine VR.refl0 E ?_
        have : ∀ v ∈ byteCells s, flat0 v = true := by
          intro v hv
          obtain ⟨_, _, rfl⟩ := List.mem_map.1 hv
          rfl
        exact this _ (List.getElem_mem _)
      · cases h
    · cases h
  · rename_i e hu
    unfold cellsOf? at h
    split at h
    · obtain ⟨rfl, rfl⟩ := Prod.mk.inj (Option.some.inj h)
      cases hx
      exact ⟨[], Src.ofNil w hu 0, rfl, fun i h1 _ => by simp at h1, by simp, fun m hm => first_nil _ _ m hm w⟩
    · obtain ⟨rfl, rfl⟩ := Prod.mk.inj (Option.some.inj h)
      cases hx with
      | hollow a c =>
        cases a with
        | none => exact ⟨[], Src.ofNil w hu c, rfl, fun i h1 _ => by simp at h1, by simp, fun m hm => first_nil _ _ m hm w⟩
        | some a => exact ⟨[], Src.ofSlice w hu a 0 c [] (by simp) (fun j u h => by simp at h) (fun u h => by simp at h), rfl, fun i h1 _ => by simp at h1, by simp, fun m hm => first_some _ 0 m a _ [] w (by simp) hm (fun j v h => by simp at h)⟩
    · obtain ⟨rfl, rfl⟩ := Prod.mk.inj (Option.some.inj h)
      cases hx with
      | zero a =>
        cases a with
        | none => exact ⟨[], Src.ofNil w hu 0, rfl, fun i h1 _ => by simp at h1, by simp, fun m hm => first_nil _ _ m hm w⟩
        | some a => exact ⟨[], Src.ofSlice w hu a 0 0 [] (by simp) (fun j u h => by simp at h) (fun u h => by simp at h), rfl, fun i h1 _ => by simp at h1, by simp, fun m hm => first_some _ 0 m a _ [] w (by simp) hm (fun j v h => by simp at h)⟩
    · rename_i id off n1 sz1
      split at h
      · rename_i cs e0 f0 ow hb
        split at h
        · rename_i hc
          obtain ⟨rfl, hle, h1⟩ := hc
          obtain ⟨rfl, rfl⟩ := Prod.mk.inj (Option.some.inj h)
          cases hx with
          | slice _ _ _ cap he hcap hroom =>
            rename_i l
            obtain ⟨b, hb', hlt, ho⟩ := hr.blk id l he
            rw [hb] at hb'
            obtain rfl := Option.some.inj hb'
            obtain ⟨c', e', fr, hw, hrm, hbase, hcell, _⟩ := ho rfl
            have hsz' : (c'.extract (l.base + off) (l.base + off + n1 * sz1)).size = n1 * sz1 := by simp; omega
            have hlen : (cs.extract off (off + n1 * sz1)).toList.length = (c'.extract (l.base + off) (l.base + off + n1 * sz1)).toList.length := by
              rw [Array.length_toList, Array.length_toList, hsz']; simp; omega
            have hvr : ∀ i (h : i < (cs.extract off (off + n1 * sz1)).toList.length) (h' : i < (c'.extract (l.base + off) (l.base + off + n1 * sz1)).toList.length),
                VR E (cs.extract off (off + n1 * sz1)).toList[i] (c'.extract (l.base + off) (l.base + off + n1 * sz1)).toList[i] := by
              intro i h1 h2
              simp only [Array.getElem_toList, Array.getElem_extract]
              have hi : off + i < cs.size := by simp at h1; omega
              obtain ⟨v', g1, g2⟩ := hcell (off + i) hi
              have : c'[l.base + off + i]'(by simp at h2; omega) = v' := by
                have := (Array.getElem?_eq_some_iff.1 g1).2
                rw [← this]; congr 1; omega
              rw [this]; exact g2
            have hcl : ∀ j u, (c'.extract (l.base + off) (l.base + off + n1 * sz1)).toList[j]? = some u → w.cell? ((⟨l.blk, l.base + off, none⟩ : Addr).add j) = some u := by
              intro j u hj
              rw [Array.getElem?_toList, Array.getElem?_extract] at hj
              split at hj
              · rw [Addr.add_mid]
                simp [World.cell?, hw, hj]
              · cases hj
            exact ⟨(c'.extract (l.base + off) (l.base + off + n1 * sz1)).toList, ⟨Src.ofSlice w hu ⟨l.blk, l.base + off, none⟩ n1 cap _ (by rw [Array.length_toList, hsz']) hcl (ones_real h1 hlen hvr), hlen, hvr, by rw [hlen, Array.length_toList, hsz'],
              fun m hm => first_some _ n1 m _ _ _ w (by rw [Array.length_toList, hsz']) hm hcl⟩⟩
        · cases h
      · cases h
    · cases h
  · cases h

theorem le_grownCap (w : World) (need old : Nat) (e : TypeId) : need ≤ grownCap w need old e := by
  show need ≤ need + _
  omega

theorem nextslicecap_le {need old : Nat} (h : old < need) : Builtin.nextslicecap need old ≤ 2 * need + 192 := by
  have grow : ∀ r c, c < need → Builtin.growBy need r c ≤ 2 * need + 192 := by
    intro r
    induction r with
    | zero => intro c hc; simp only [Builtin.growBy]; omega
    | succ r ih =>
      intro c hc
      simp only [Builtin.growBy]
      split
      · omega
      · by_cases h2 : c + (c + 768) / 4 < need
        · exact ih _ h2
        · cases r with
          | zero => simp only [Builtin.growBy]; omega
          | succ r => simp only [Builtin.growBy]; rw [if_pos (by omega)]; omega
  unfold Builtin.nextslicecap
  split
  · omega
  · split
    · omega
    · exact grow 4 old h

/-- What is known of a row behind another. -/
def mkQ (e e0 : TypeId) (f0 : Nat × Nat) : Nat × Nat := (if e0 = e then f0.1 else 1, 1)

theorem mkQ_typ {e e0 e' : TypeId} {f0 : Nat × Nat} (h : f0.1 = 0 → e' = e0) (hq : (mkQ e e0 f0).1 = 0) : e' = e := by
  unfold mkQ at hq
  dsimp only at hq
  split at hq
  · rename_i he0
    rw [h hq, he0]
  · cases hq

def append? (P : Program) (S : Heap) (t tx : TypeId) (s x : Value) : Option (Value × Heap) :=
  match P.underlying t with
  | some (.slice e) =>
    match zero? P e, P.info? e with
    | some z, some i =>
      match src? P S i.size tx x with
      | some (n, news) =>
        if z.cells.size = i.size ∧ n ≤ 140737488355328 then
          match s with
          | .slice none 0 0 =>
            if n = 0 then some (.slice none 0 0, S)
            else if (2 * n + 192) * i.bytes ≤ 281474976710656 then some (.slice (some ⟨S.length, 0, none⟩) n i.size, S ++ [⟨.cells news.toArray e (0, 1), true, true⟩]) else none
          | .slice (some ⟨0, 0, some 0⟩) 0 0 =>
            if n = 0 then some (zeroV, S)
            else if (2 * n + 192) * i.bytes ≤ 281474976710656 then some (.slice (some ⟨S.length, 0, none⟩) n i.size, S ++ [⟨.cells news.toArray e (0, 1), true, true⟩]) else none
          | .slice (some ⟨0, 0, some 1⟩) 0 0 => if n = 0 then some (hollowV, S) else none
          | .slice (some ⟨id, off, none⟩) len sz =>
            match S[id]? with
            | some ⟨.cells c e0 f0, true, true⟩ =>
              if sz = i.size ∧ off + len * sz ≤ c.size ∧ ones (c.extract off (off + len * sz)).toList = true ∧ len ≤ 140737488355328 ∧ (2 * (len + n) + 192) * i.bytes ≤ 281474976710656 then
                some (.slice (some ⟨S.length, 0, none⟩) (len + n) sz, S.set id deadBlk ++ [⟨.cells (c.extract off (off + len * sz) ++ news.toArray) e (mkQ e e0 f0), true, true⟩])
              else none
            | _ => none
          | _ => none
        else none
      | none => none
    | _, _ => none
  | _ => none

theorem zeroCells_size (z : Array Value) (n : Nat) : (Builtin.zeroCells z n).size = n * z.size := by simp [Builtin.zeroCells]

/-- A new row behind a draw, from known real cells. -/
theorem grown_rel {E : Emb} {S : Heap} {w : World} (hr : Rel ng E S w) (c c' : Array Value) (e : TypeId) (q : Nat × Nat) (hq : q.2 = 1) (hs : c.size ≤ c'.size)
    (hv : ∀ (i : Nat) (hx : i < c.size) (hy : i < c'.size), VR E c[i] c'[i]) :
    Rel ng (Emb.push E S.length ⟨w.heap.size, 0, c'.size⟩) (S ++ [⟨.cells c e q, true, true⟩]) (w.drew.alloc (.cells c' e)) ∧
      Grow S.length E S w (Emb.push E S.length ⟨w.heap.size, 0, c'.size⟩) (S ++ [⟨.cells c e q, true, true⟩]) (w.drew.alloc (.cells c' e)) := by
  obtain ⟨g1, g2⟩ := newRow_rel (w := w.drew) hr.drew c c' e q (0, 0) true hs hv (fun o _ => by omega) (fun h => by rw [h] at hq; cases hq)
  exact ⟨g1, (Grow.drew _ _ _ _).trans (Nat.le_refl _) g2⟩

theorem append_own {E : Emb} {S : Heap} {w : World} {t tx ty e e0 : TypeId} {i : TypeInfo} {z x' : Value} {n id off len cap : Nat} {l : Loc} {news news' : List Value} {c : Array Value} {f0 : Nat × Nat} (hr : Rel ng E S w)
    (hu : P.underlying t = some (.slice e)) (hi : P.info? e = some i) (hz0 : i.zero = some z) (hzs : z.cells.size = i.size) (hn : n ≤ 140737488355328)
    (hsr : SrcR P E w i.size tx x' n news news') (he : E id = some l) (hb : S[id]? = some ⟨.cells c e0 f0, true, true⟩) (hcap : len ≤ cap) (hroom : l.base + off + cap * i.size ≤ l.room)
    (hle : off + len * i.size ≤ c.size) (h1 : ones (c.extract off (off + len * i.size)).toList = true) (hlen : len ≤ 140737488355328) (hfit : (2 * (len + n) + 192) * i.bytes ≤ 281474976710656) :
    ∃ v' E' w', (Builtin.append_ #[t, tx] ty #[.slice (some ⟨l.blk, l.base + off, none⟩) len cap, x']).run P w = .ok v' w' ∧
      Rel ng E' (S.set id deadBlk ++ [⟨.cells (c.extract off (off + len * i.size) ++ news.toArray) e (mkQ e e0 f0), true, true⟩]) w' ∧ VR E' (.slice (some ⟨S.length, 0, none⟩) (len + n) i.size) v' ∧
      Grow S.length E S w E' (S.set id deadBlk ++ [⟨.cells (c.extract off (off + len * i.size) ++ news.toArray) e (mkQ e e0 f0), true, true⟩]) w' := by
  obtain ⟨b, hb', hlt, ho⟩ := hr.blk id l he
  rw [hb] at hb'
  obtain rfl := Option.some.inj hb'
  have ho' := ho rfl
  obtain ⟨c', e', fr, hw, hrm, hbase, hcell, hfr⟩ := ho'
  have hmulcap : len * i.size ≤ cap * i.size := Nat.mul_le_mul_right _ hcap
  have hxs : (c.extract off (off + len * i.size)).size = len * i.size := by simp; omega
  by_cases hfits : len + n ≤ cap
  · have hmul : (len + n) * i.size ≤ cap * i.size := Nat.mul_le_mul_right _ hfits
    have hnl : news'.length = n * i.size := by rw [← hsr.len]; exact hsr.nlen
    have hadd : (len + n) * i.size = len * i.size + n * i.size := Nat.add_mul _ _ _
    obtain ⟨hw1, hw2⟩ := ObjR.writable (ho rfl) (l.base + off + len * i.size) news'.length (by omega)
    have hrun := run_append_room_src (P := P) w t tx ty e i hu hi l.blk (l.base + off) len cap x' n news' hsr.src hfits hw1 hw2
    have hos := os_setCells l.blk news' (l.base + off + len * i.size) w
    obtain ⟨g1, g2⟩ := move_rel (w' := w.setCells l.blk (l.base + off + len * i.size) news') (l' := ⟨l.blk, l.base + off, l.room⟩)
      (b' := ⟨.cells (c.extract off (off + len * i.size) ++ news.toArray) e (mkQ e e0 f0), true, true⟩) hr he hb rfl rfl rfl (size_setCells _ _ _ _) (fun k hk => other_setCells _ _ _ _ k hk) hos.1 hos.2.1 hos.2.2 (by
        intro _
        refine ⟨_, e', fr, heap_setCells l.blk e' fr news' _ w c' hw, by rw [setL_size]; exact hrm, by
          rw [Array.size_append, hxs]
          simp only [List.size_toArray, hsr.nlen]
          show l.base + off + _ ≤ l.room
          omega, fun k hk => ?_, hfr.1, mkQ_typ hfr.2.1, fun hq => by simp [mkQ] at hq⟩
        show ∃ v', (setL c' (l.base + off + len * i.size) news')[l.base + off + k]? = some v' ∧ _
        rw [Array.size_append, hxs] at hk
        simp only [List.size_toArray, hsr.nlen] at hk
        rw [setL_get _ _ _ _ (by omega)]
        by_cases hk2 : k < len * i.size
        · rw [if_neg (by omega)]
          obtain ⟨v', q1, q2⟩ := hcell (off + k) (by omega)
          refine ⟨v', by rw [← q1]; congr 1; omega, ?_⟩
          rw [Array.getElem_append_left (by rw [hxs]; exact hk2)]
          simp only [Array.getElem_extract]
          exact q2.mono (Emb.push_mono hr _)
        · rw [if_pos (by omega)]
          refine ⟨news'[k - len * i.size]'(by omega), by rw [show l.base + off + k - (l.base + off + len * i.size) = k - len * i.size by omega]; exact List.getElem?_eq_getElem _, ?_⟩
          rw [Array.getElem_append_right (by rw [hxs]; omega)]
          simp only [List.getElem_toArray, hxs]
          exact (hsr.vr _ (by rw [hsr.nlen]; omega) _).mono (Emb.push_mono hr _))
    refine ⟨_, _, _, hrun, g1, ?_, g2⟩
    have := VR.slice (E := Emb.push E S.length ⟨l.blk, l.base + off, l.room⟩) 0 (len + n) i.size cap (push_self _ _ _) hfits (by show l.base + off + 0 + _ ≤ l.room; omega)
    simpa using this
  · have holdl : (c'.extract (l.base + off) (l.base + off + len * i.size)).size = len * i.size := by simp; omega
    have hold : (Builtin.firstCells i.size len (.slice (some ⟨l.blk, l.base + off, none⟩) len cap)).run P w.drew = .ok (c'.extract (l.base + off) (l.base + off + len * i.size)).toList.toArray w.drew := by
      refine run_firstCells_some w.drew i.size len _ _ _ _ (by rw [Array.length_toList, holdl]) fun j u hj => ?_
      rw [Array.getElem?_toList, Array.getElem?_extract] at hj
      split at hj
      · rw [Addr.add_mid]
        have : w.drew.cell? ⟨l.blk, l.base + off + j, none⟩ = w.cell? ⟨l.blk, l.base + off + j, none⟩ := rfl
        rw [this]
        simp [World.cell?, hw, hj]
      · cases hj
    have hrun := run_append_grow_src (P := P) w t tx ty e i z hu hi hz0 (some ⟨l.blk, l.base + off, none⟩) len cap _ hold x' n news' hsr.src (by omega) (by omega) (by
      have h1 := nextslicecap_le (need := len + n) (old := cap) (by omega)
      exact Nat.le_trans (Nat.mul_le_mul_right _ h1) hfit)
    have hleg : len + n ≤ grownCap w (len + n) cap e := le_grownCap _ _ _ _
    generalize hgc : grownCap w (len + n) cap e = gc at hrun hleg
    have hnl : news'.length = n * i.size := by rw [← hsr.len]; exact hsr.nlen
    have hsize : (((c'.extract (l.base + off) (l.base + off + len * i.size)).toList ++ news').toArray ++ Builtin.zeroCells z.cells (gc - (len + n))).size = gc * i.size := by
      rw [Array.size_append, zeroCells_size, hzs]
      simp only [List.size_toArray, List.length_append, Array.length_toList, holdl, hnl]
      rw [Nat.sub_mul, Nat.add_mul]
      have := Nat.mul_le_mul_right i.size hleg
      rw [Nat.add_mul] at this
      omega
    have hk := hr.kill id deadBlk rfl
    have hlenS : (S.set id deadBlk).length = S.length := List.length_set
    obtain ⟨g1, g2⟩ := grown_rel hk (c.extract off (off + len * i.size) ++ news.toArray) (((c'.extract (l.base + off) (l.base + off + len * i.size)).toList ++ news').toArray ++ Builtin.zeroCells z.cells (gc - (len + n))) e (mkQ e e0 f0) rfl (by
        rw [Array.size_append, Array.size_append, hxs]
        simp only [List.size_toArray, List.length_append, Array.length_toList, holdl, hsr.len]
        omega) (by
        intro k hk1 hk2
        rw [Array.size_append, hxs] at hk1
        simp only [List.size_toArray, hsr.nlen] at hk1
        have hlt2 : k < (((c'.extract (l.base + off) (l.base + off + len * i.size)).toList ++ news').toArray).size := by
          simp only [List.size_toArray, List.length_append, Array.length_toList, holdl, hnl]; omega
        rw [Array.getElem_append_left hlt2]
        simp only [List.getElem_toArray]
        by_cases hk3 : k < len * i.size
        · rw [Array.getElem_append_left (by rw [hxs]; exact hk3), List.getElem_append_left (by rw [Array.length_toList, holdl]; exact hk3)]
          simp only [Array.getElem_extract, Array.getElem_toList]
          obtain ⟨v', q1, q2⟩ := hcell (off + k) (by omega)
          have : c'[l.base + off + k]'(by omega) = v' := by
            have := (Array.getElem?_eq_some_iff.1 q1).2
            rw [← this]; congr 1; omega
          rw [this]; exact q2
        · rw [Array.getElem_append_right (by rw [hxs]; omega), List.getElem_append_right (by rw [Array.length_toList, holdl]; omega)]
          simp only [List.getElem_toArray, hxs, Array.length_toList, holdl]
          exact hsr.vr _ (by rw [hsr.nlen]; omega) _)
    rw [hlenS] at g1 g2
    refine ⟨_, _, _, hrun, g1, ?_, (Grow.kill _ id deadBlk rfl).trans (Nat.le_refl _) g2⟩
    have := VR.slice (E := Emb.push E S.length ⟨w.heap.size, 0, (((c'.extract (l.base + off) (l.base + off + len * i.size)).toList ++ news').toArray ++ Builtin.zeroCells z.cells (gc - (len + n))).size⟩) 0 (len + n) i.size gc (push_self _ _ _) (by omega) (by simp only [hsize]; omega)
    simpa using this

theorem append_run {E : Emb} {S S' : Heap} {w : World} {t tx ty : TypeId} {s s' x x' v : Value} (h : append? P S t tx s x = some (v, S')) (hr : Rel ng E S w) (hs : VR E s s') (hx : VR E x x') :
    ∃ v' E' w', (Builtin.append_ #[t, tx] ty #[s', x']).run P w = .ok v' w' ∧ Rel ng E' S' w' ∧ VR E' v v' ∧ Grow S.length E S w E' S' w' := by
  unfold append? at h
  split at h
  · rename_i e hu
    split at h
    · rename_i z i hz hi
      have hz0 : i.zero = some z := by simp [zero?, hi] at hz; exact hz
      split at h
      · rename_i n news hsrc
        obtain ⟨news', hsr⟩ := src_run hr hsrc hx
        split at h
        · rename_i hzn
          obtain ⟨hzs, hn⟩ := hzn
          have hnew : ∀ (old : Option Addr) (holds : (Builtin.firstCells i.size 0 (.slice old 0 0)).run P w.drew = .ok ([] : List Value).toArray w.drew) (h0 : ¬ n = 0) (hfit : (2 * n + 192) * i.bytes ≤ 281474976710656),
              ∃ v' E' w', (Builtin.append_ #[t, tx] ty #[.slice old 0 0, x']).run P w = .ok v' w' ∧ Rel ng E' (S ++ [⟨.cells news.toArray e (0, 1), true, true⟩]) w' ∧ VR E' (.slice (some ⟨S.length, 0, none⟩) n i.size) v' ∧
                Grow S.length E S w E' (S ++ [⟨.cells news.toArray e (0, 1), true, true⟩]) w' := by
            intro old holds h0 hfit
            have hrun := run_append_grow_src (P := P) w t tx ty e i z hu hi hz0 old 0 0 [] holds x' n news' hsr.src (by omega) (by omega) (by
              have h1 := nextslicecap_le (need := 0 + n) (old := 0) (by omega)
              refine Nat.le_trans (Nat.mul_le_mul_right _ h1) ?_
              rw [Nat.zero_add]; exact hfit)
            have hle : 0 + n ≤ grownCap w (0 + n) 0 e := le_grownCap _ _ _ _
            have hsize : (([] ++ news').toArray ++ Builtin.zeroCells z.cells (grownCap w (0 + n) 0 e - (0 + n))).size = grownCap w (0 + n) 0 e * i.size := by
              rw [Array.size_append, zeroCells_size, hzs]
              simp only [List.nil_append, List.size_toArray]
              rw [← hsr.len, hsr.nlen, Nat.sub_mul]
              have := Nat.mul_le_mul_right i.size hle
              simp only [Nat.zero_add] at this ⊢
              omega
            obtain ⟨g1, g2⟩ := grown_rel hr news.toArray (([] ++ news').toArray ++ Builtin.zeroCells z.cells (grownCap w (0 + n) 0 e - (0 + n))) e (0, 1) rfl (by
                rw [Array.size_append]; simp [hsr.len]) (by
                intro k hk hk'
                have hk2 : k < news'.length := by rw [← hsr.len]; simpa using hk
                rw [Array.getElem_append_left (by simpa using hk2)]
                simp only [List.nil_append, List.getElem_toArray]
                exact hsr.vr k (by simpa using hk) hk2)
            refine ⟨_, _, _, hrun, g1, ?_, g2⟩
            have := VR.slice (E := Emb.push E S.length ⟨w.heap.size, 0, (([] ++ news').toArray ++ Builtin.zeroCells z.cells (grownCap w (0 + n) 0 e - (0 + n))).size⟩) 0 n i.size (grownCap w (0 + n) 0 e) (push_self _ _ _) (by omega) (by simp only [hsize]; omega)
            simpa using this
          split at h
          · split at h
            · rename_i h0
              subst h0
              obtain ⟨rfl, rfl⟩ := Prod.mk.inj (Option.some.inj h)
              cases hs
              refine ⟨.slice none 0 0, E, w, ?_, hr, .nilSlice, Grow.refl _ _ _ _⟩
              have hs0 := hsr.src
              rcases hs0.kind with ⟨e', hk⟩ | hk <;> simp [Builtin.append_, run_underlying hu, run_underlying hk, sizeOf, typeInfo, hi, hs0.len, hs0.cells]
            · rename_i h0
              split at h
              · rename_i hfit
                obtain ⟨rfl, rfl⟩ := Prod.mk.inj (Option.some.inj h)
                cases hs
                exact hnew none (run_firstCells_none _ _ _ _ _) h0 hfit
              · cases h
          · split at h
            · rename_i h0
              subst h0
              obtain ⟨rfl, rfl⟩ := Prod.mk.inj (Option.some.inj h)
              cases hs with
              | zero a =>
                refine ⟨.slice a 0 0, E, w, ?_, hr, .zero a, Grow.refl _ _ _ _⟩
                have hs0 := hsr.src
                have hn0 : news' = [] := by
                  have := hsr.nlen
                  have h2 := hsr.len
                  simp at this
                  apply List.eq_nil_of_length_eq_zero
                  rw [← h2, this]; rfl
                subst hn0
                cases a <;> rcases hs0.kind with ⟨e', hk⟩ | hk <;> simp [Builtin.append_, run_underlying hu, run_underlying hk, sizeOf, typeInfo, hi, hs0.len, hs0.cells, storeCells]
            · rename_i h0
              split at h
              · rename_i hfit
                obtain ⟨rfl, rfl⟩ := Prod.mk.inj (Option.some.inj h)
                cases hs with
                | zero a =>
                  refine hnew a ?_ h0 hfit
                  cases a with
                  | none => exact run_firstCells_none _ _ _ _ _
                  | some a => exact run_firstCells_some _ _ _ a _ _ [] (by simp) (fun j v h => by simp at h)
              · cases h
          · split at h
            · rename_i h0
              subst h0
              obtain ⟨rfl, rfl⟩ := Prod.mk.inj (Option.some.inj h)
              cases hs with
              | hollow a c =>
                refine ⟨.slice a 0 c, E, w, ?_, hr, .hollow a c, Grow.refl _ _ _ _⟩
                have hs0 := hsr.src
                have hn0 : news' = [] := by
                  have := hsr.nlen
                  have h2 := hsr.len
                  simp at this
                  apply List.eq_nil_of_length_eq_zero
                  rw [← h2, this]; rfl
                subst hn0
                cases a <;> rcases hs0.kind with ⟨e', hk⟩ | hk <;> simp [Builtin.append_, run_underlying hu, run_underlying hk, sizeOf, typeInfo, hi, hs0.len, hs0.cells, storeCells]
            · cases h
          · rename_i id off len sz
            split at h
            · rename_i c e0 f0 hb
              split at h
              · rename_i hc
                obtain ⟨rfl, hle, h1, hlen, hfit⟩ := hc
                obtain ⟨rfl, rfl⟩ := Prod.mk.inj (Option.some.inj h)
                cases hs with
                | slice _ _ _ cap he hcap hroom =>
                  rename_i l
                  exact append_own hr hu hi hz0 hzs hn hsr he hb hcap hroom hle h1 hlen hfit
              · cases h
            · cases h
          · cases h
        · cases h
      · cases h
    · cases h
  · cases h

end Go.Am

/- The abstract meaning of copy, len, conversions, indexing of strings, maps, each with what the model does. No condition. -/
namespace Go.Am
open Go
set_option linter.unusedSimpArgs false
set_option linter.unusedVariables false

variable {P : Program} {ng : Nat}

/-! ### copy -/
def copy? (P : Program) (S : Heap) (td tx : TypeId) (d x : Value) : Option (Value × Heap) :=
  match P.underlying td with
  | some (.slice e) =>
    match szT P e with
    | some sz =>
      match src? P S sz tx x with
      | some (n, news) =>
        match d with
        | .slice (some ⟨id, off, none⟩) dn sz' =>
          match S[id]? with
          | some ⟨.cells c e0 f, true, true⟩ =>
            if sz' = sz ∧ off + dn * sz ≤ c.size then some (.int .i64 (Nat.min n dn), S.set id ⟨.cells (setL c off (news.take (Nat.min n dn * sz))) e0 f, true, true⟩) else none
          | _ => none
        | .slice (some ⟨0, 0, some 1⟩) 0 0 => some (.int .i64 0, S)
        | _ => none
      | none => none
    | none => none
  | _ => none

theorem copy_run {E : Emb} {S S' : Heap} {w : World} {td tx ty : TypeId} {d d' x x' v : Value} (h : copy? P S td tx d x = some (v, S')) (hr : Rel ng E S w) (hd : VR E d d') (hx : VR E x x') :
    ∃ v' E' w', (Builtin.copy_ #[td, tx] ty #[d', x']).run P w = .ok v' w' ∧ Rel ng E' S' w' ∧ VR E' v v' ∧ Grow S.length E S w E' S' w' := by
  unfold copy? at h
  split at h
  · rename_i e hu
    split at h
    · rename_i sz hsz
      split at h
      · rename_i n news hsrc
        obtain ⟨news', hs⟩ := src_run hr hsrc hx
        split at h
        · rename_i id off dn sz'
          split at h
          · rename_i c e0 f hb
            split at h
            · rename_i hc
              obtain ⟨rfl, hle⟩ := hc
              obtain ⟨rfl, rfl⟩ := Prod.mk.inj (Option.some.inj h)
              cases hd with
              | slice _ _ _ cap he hcap hroom =>
                rename_i l
                have hm1 : Nat.min n dn ≤ n := Nat.min_le_left _ _
                have hm2 : Nat.min n dn ≤ dn := Nat.min_le_right _ _
                generalize hmm : Nat.min n dn = m at hm1 hm2
                have hmul1 : m * sz' ≤ n * sz' := Nat.mul_le_mul_right _ hm1
                have hmul2 : m * sz' ≤ dn * sz' := Nat.mul_le_mul_right _ hm2
                have hmul3 : dn * sz' ≤ cap * sz' := Nat.mul_le_mul_right _ hcap
                have hl1 := hs.nlen
                have hl2 := hs.len
                have hvr : ∀ i (h : i < (news.take (m * sz')).length) (h' : i < (news'.take (m * sz')).length), VR E (news.take (m * sz'))[i] (news'.take (m * sz'))[i] := by
                  intro i a b
                  simp only [List.getElem_take]
                  exact hs.vr _ _ _
                obtain ⟨g1, g2⟩ := setCells_rel hr he hb off (news.take (m * sz')) (news'.take (m * sz')) (by rw [List.length_take]; omega) (by rw [List.length_take, List.length_take]; omega) hvr
                refine ⟨.int .i64 m, E, _, ?_, g1, .int _ _, g2 _⟩
                obtain ⟨b, hb', hlt, ho⟩ := hr.blk id l he
                rw [hb] at hb'
                obtain rfl := Option.some.inj hb'
                obtain ⟨hw1, hw2⟩ := ObjR.writable (ho rfl) (l.base + off) (news'.take (m * sz')).length (by rw [List.length_take]; omega)
                have hst := run_storeCells_cells (P := P) l.blk (l.base + off) (news'.take (m * sz')) 0 w (fun j hj => by simpa using hw1 j hj) (fun j hj => by simpa using hw2 j hj) (fun v hv => hs.src.one v (List.mem_of_mem_take hv))
                simp only [Nat.add_zero] at hst
                have hf := hs.first m hm1
                simp [Builtin.copy_, run_underlying hu, run_sizeOf hsz, hs.src.len, hmm, hf, hst, goInt]
            · cases h
          · cases h
        · obtain ⟨rfl, rfl⟩ := Prod.mk.inj (Option.some.inj h)
          cases hd with
          | hollow a c =>
            refine ⟨.int .i64 0, E, w, ?_, hr, .int _ _, Grow.refl _ _ _ _⟩
            have hf := hs.first 0 (Nat.zero_le _)
            simp only [Nat.zero_mul, List.take_zero] at hf
            have hm0 : Nat.min n 0 = 0 := Nat.min_eq_right (Nat.zero_le _)
            cases a <;> simp [Builtin.copy_, run_underlying hu, run_sizeOf hsz, hs.src.len, hm0, hf, goInt, storeCells]
        · cases h
      · cases h
    · cases h
  · cases h

/-! ### len -/
def len? (P : Program) (S : Heap) (t : TypeId) (x : Value) : Option Value :=
  match P.underlying t, x with
  | some .string, .string s => some (.int .i64 s.size)
  | some (.slice _), .slice _ n _ => some (.int .i64 n)
  | some (.map _ _), .map none => some (.int .i64 0)
  | some (.map _ _), .map (some id) =>
    match S[id]? with
    | some ⟨.map es _, true, _⟩ => some (.int .i64 es.size)
    | _ => none
  | _, _ => none

theorem len_run {E : Emb} {S : Heap} {w : World} {t ty : TypeId} {x x' v : Value} (h : len? P S t x = some v) (hr : Rel ng E S w) (hx : VR E x x') :
    (Builtin.len_ #[t] ty #[x']).run P w = .ok v w ∧ VR E v v := by
  unfold len? at h
  split at h
  · rename_i s hu
    obtain rfl := Option.some.inj h
    cases hx
    exact ⟨by simp [Builtin.len_, run_underlying hu, goInt], .int _ _⟩
  · rename_i e a n c hu
    obtain rfl := Option.some.inj h
    cases hx <;> exact ⟨by simp [Builtin.len_, run_underlying hu, goInt], .int _ _⟩
  · rename_i k e hu
    obtain rfl := Option.some.inj h
    cases hx
    exact ⟨by simp [Builtin.len_, run_underlying hu, goInt], .int _ _⟩
  · rename_i k e id hu
    split at h
    · rename_i es clock own hb
      obtain rfl := Option.some.inj h
      cases hx with
      | map he =>
        rename_i l
        obtain ⟨b, hb', hlt, ho⟩ := hr.blk id l he
        rw [hb] at hb'
        obtain rfl := Option.some.inj hb'
        obtain ⟨es', hw, hbase, hsz, hent⟩ := ho rfl
        exact ⟨by simp [Builtin.len_, run_underlying hu, getObj, Sem.run, hw, goInt, hsz], .int _ _⟩
    · cases h
  · cases h

/-! ### Conversions -/
def numsOf? : List Value → Option (List Int)
  | [] => some []
  | .int .u8 n :: r => (numsOf? r).map (n :: ·)
  | _ :: _ => none

theorem numsOf_eq : ∀ (l : List Value) (r : List Int), numsOf? l = some r → l = r.map (.int .u8)
  | [], r, h => by simp [numsOf?] at h; subst h; rfl
  | v :: l, r, h => by
    cases v with
    | int k n =>
      cases k with
      | u8 =>
        simp only [numsOf?, Option.map_eq_some_iff] at h
        obtain ⟨r', hr', rfl⟩ := h
        rw [List.map_cons, numsOf_eq l r' hr']
      | _ => simp [numsOf?] at h
    | _ => simp [numsOf?] at h

def conv? (P : Program) (S : Heap) (src dst : TypeId) (x : Value) : Option (Value × Heap) :=
  match P.underlying src, P.underlying dst with
  | some .string, some (.slice e) =>
    match P.underlying e, x with
    | some (.int .u8), .string s => some (.slice (some ⟨S.length, 0, none⟩) s.size 1, S ++ [⟨.cells (byteCells s).toArray e (0, 1), true, true⟩])
    | _, _ => none
  | some (.slice e), some .string =>
    match P.underlying e, x with
    | some (.int .u8), .slice none 0 0 => some (.string ByteArray.empty, S)
    | some (.int .u8), .slice (some ⟨id, off, none⟩) n 1 =>
      match S[id]? with
      | some ⟨.cells c _ _, true, _⟩ =>
        if off + n ≤ c.size then
          match numsOf? (c.extract off (off + n)).toList with
          | some ns => some (.string (strOfNums ns), S)
          | none => none
        else none
      | _ => none
    | _, _ => none
  | some _, some _ => if flat x then (purF P (convert src dst x)).map (·, S) else none
  | _, _ => none

theorem conv_run {E : Emb} {S S' : Heap} {w : World} {src dst : TypeId} {x x' v : Value} (h : conv? P S src dst x = some (v, S')) (hr : Rel ng E S w) (hx : VR E x x') :
    ∃ v' E' w', (convert src dst x').run P w = .ok v' w' ∧ Rel ng E' S' w' ∧ VR E' v v' ∧ Grow S.length E S w E' S' w' := by
  unfold conv? at h
  split at h
  · rename_i e hs hd
    split at h
    · · rename_i s he'
        obtain ⟨rfl, rfl⟩ := Prod.mk.inj (Option.some.inj h)
        cases hx
        have hrun := run_bytes_of_string (P := P) w src dst e s hs hd he'
        have hle : s.size ≤ grownCap w s.size 0 e := le_grownCap _ _ _ _
        have hds : s.data.size = s.size := rfl
        have hbl := byteCells_length s
        have hbs : (bytesRow s (grownCap w s.size 0 e)).size = grownCap w s.size 0 e := by
          simp only [bytesRow, Array.size_append, Array.size_map, Array.size_replicate]; omega
        obtain ⟨g1, g2⟩ := newRow_rel (w := w.drew) hr.drew (byteCells s).toArray (bytesRow s (grownCap w s.size 0 e)) e (0, 1) ((bytesRow s (grownCap w s.size 0 e)).size, (bytesRow s (grownCap w s.size 0 e)).size + 1) true (by
            rw [hbs, List.size_toArray, hbl]; exact hle) (by
            intro i h1 h2
            rw [List.size_toArray, hbl] at h1
            have h3 : i < (s.data.map fun b => Value.int .u8 b.toNat).size := by rw [Array.size_map]; omega
            have e1 : (bytesRow s (grownCap w s.size 0 e))[i] = .int .u8 (s.data[i]'(by omega)).toNat := by
              simp only [bytesRow]
              rw [Array.getElem_append_left h3, Array.getElem_map]
            have e2 : (byteCells s).toArray[i]'(by rw [List.size_toArray, hbl]; exact h1) = .int .u8 (s.data[i]'(by omega)).toNat := by
              simp [byteCells]
            rw [e1, e2]
            exact .int _ _) (fun o ho => by simp only; omega) (fun hq => by simp at hq)
        refine ⟨_, _, _, hrun, g1, ?_, (Grow.drew _ _ _ _).trans (Nat.le_refl _) g2⟩
        exact VR.slice (l := ⟨w.heap.size, 0, (bytesRow s (grownCap w s.size 0 e)).size⟩) 0 s.size 1 (grownCap w s.size 0 e) (push_self _ _ _) hle (by simp only [hbs]; omega)
    · cases h
  · rename_i e hs hd
    · split at h
      · rename_i he'
        obtain ⟨rfl, rfl⟩ := Prod.mk.inj (Option.some.inj h)
        cases hx
        exact ⟨_, E, w, run_convert_bytes_nil w src e hs he' _ _ dst hd, hr, .string _, Grow.refl _ _ _ _⟩
      · rename_i id off n he'
        split at h
        · rename_i c e0 f0 ow hb
          split at h
          · rename_i hle
            split at h
            · rename_i ns hns
              obtain ⟨rfl, rfl⟩ := Prod.mk.inj (Option.some.inj h)
              cases hx with
              | slice _ _ _ cap hE hcap hroom =>
                rename_i l
                obtain ⟨b, hb', hlt, ho⟩ := hr.blk id l hE
                rw [hb] at hb'
                obtain rfl := Option.some.inj hb'
                obtain ⟨c', e', fr, hw, hrm, hbase, hcell, _⟩ := ho rfl
                have heq := numsOf_eq _ _ hns
                have hlen : ns.length = n := by
                  have := congrArg List.length heq
                  simp at this
                  omega
                refine ⟨_, E, w, run_convert_bytes_arg w src e hs he' l.blk (l.base + off) n cap ns hlen (fun i hi => ?_) dst hd, hr, .string _, Grow.refl _ _ _ _⟩
                obtain ⟨v', q1, q2⟩ := hcell (off + i) (by omega)
                have e1 : c[off + i]'(by omega) = .int .u8 (ns.getD i 0) := by
                  have h2 : (c.extract off (off + n)).toList[i]? = (ns.map (.int .u8))[i]? := by rw [heq]
                  rw [Array.getElem?_toList, Array.getElem?_extract, if_pos (by omega), List.getElem?_map, List.getElem?_eq_getElem (by omega), Array.getElem?_eq_getElem (by omega)] at h2
                  rw [Option.some.inj h2]
                  simp [List.getD, List.getElem?_eq_getElem (show i < ns.length by omega)]
                rw [e1] at q2
                cases q2
                have : l.base + off + i = l.base + (off + i) := by omega
                simp [World.cell?, hw, this, q1]
            · cases h
          · cases h
        · cases h
      · cases h
  · split at h
    · rename_i hf
      simp only [Option.map_eq_some_iff] at h
      obtain ⟨u, hu, h2⟩ := h
      obtain ⟨rfl, rfl⟩ := Prod.mk.inj h2
      obtain rfl := hx.eq hf
      exact ⟨u, E, w, (purF_run hu w).1, hr, VR.refl E (purF_run hu w).2, Grow.refl _ _ _ _⟩
    · cases h
  · cases h

/-! ### x[i] of a string or of an array by value -/
def index? (P : Program) (t : TypeId) (x i : Value) : Option Value :=
  match P.underlying t, x, i with
  | some .string, .string s, .int _ j => if 0 ≤ j then (s.data[j.toNat]?).map fun b => .int .u8 b.toNat else none
  | some (.array n e), .agg cs, .int _ j =>
    match szT P e with
    | some sz => if 0 ≤ j ∧ j < n then part? P e cs (j.toNat * sz) else none
    | none => none
  | _, _, _ => none

theorem index_run {E : Emb} {t : TypeId} {x x' i i' v : Value} (h : index? P t x i = some v) (hx : VR E x x') (hi : VR E i i') :
    ∃ v', (∀ w, (Instr.index t x' i').run P w = .ok v' w) ∧ VR E v v' := by
  unfold index? at h
  split at h
  · rename_i s k j hu
    split at h
    · rename_i h0
      simp only [Option.map_eq_some_iff] at h
      obtain ⟨b, hb, rfl⟩ := h
      cases hx; cases hi
      refine ⟨_, fun w => ?_, .int _ _⟩
      have hb2 : s[j.toNat]? = some b := hb
      simp [Instr.index, asIntOf, run_underlying hu, h0, hb2]
    · cases h
  · rename_i n e cs k j hu
    split at h
    · rename_i sz hsz
      split at h
      · rename_i hc
        cases hi
        cases hx with
        | agg hs hv =>
          obtain ⟨v', h1, h2⟩ := part_run h hs hv
          exact ⟨v', fun w => by simp [Instr.index, asIntOf, run_underlying hu, hc, run_sizeOf hsz, h1], h2⟩
      · cases h
    · cases h
  · cases h

end Go.Am

/- The abstract meaning of maps and of ranging over a string, each with what the model does. No condition. -/
namespace Go.Am
open Go
set_option linter.unusedSimpArgs false
set_option linter.unusedVariables false

variable {P : Program} {ng : Nat}

/-- Keys that are compared at once. -/
def plainKey : TypeDesc → Value → Bool
  | .string, .string _ => true
  | .int _, .int _ _ => true
  | _, _ => false

theorem plainKey_flat {d : TypeDesc} {k : Value} (h : plainKey d k = true) : flat k = true := by
  cases d <;> cases k <;> simp [plainKey] at h <;> rfl

theorem run_checkKey_succ {t : TypeId} {d : TypeDesc} {k : Value} (hu : P.underlying t = some d) (h : plainKey d k = true) (b : Bool) (n : Nat) (w : World) : (Instr.checkKey b (n + 1) t k).run P w = .ok () w := by
  cases d <;> cases k <;> simp [plainKey] at h <;> simp [Instr.checkKey, run_underlying hu]

theorem run_checkKey {t : TypeId} {d : TypeDesc} {k : Value} (hu : P.underlying t = some d) (h : plainKey d k = true) (b : Bool) (w : World) : (Instr.checkKey b 10000 t k).run P w = .ok () w := by
  exact run_checkKey_succ hu h b 9999 w

/-- Entries that stand for entries. -/
def EntR (E : Emb) (es es' : List MapEntry) : Prop :=
  es.length = es'.length ∧ ∀ (i : Nat) (h : i < es.length) (h' : i < es'.length), es'[i].key = es[i].key ∧ VR E es[i].val es'[i].val

theorem findNow_rel {E : Emb} (d : TypeDesc) (k : Value) : ∀ (es es' : List MapEntry) (i : Nat), EntR E es es' →
    (Instr.findNow d k es i = none → Instr.findNow d k es' i = none) ∧ (Instr.findNow d k es i = some none → Instr.findNow d k es' i = some none) ∧
    ∀ j v, Instr.findNow d k es i = some (some (j, v)) → ∃ v', Instr.findNow d k es' i = some (some (j, v')) ∧ VR E v v'
  | [], [], i, _ => ⟨fun h => by simp [Instr.findNow] at h, fun _ => rfl, fun j v h => by simp [Instr.findNow] at h⟩
  | [], _ :: _, _, h => by simp [EntR] at h
  | _ :: _, [], _, h => by simp [EntR] at h
  | e :: es, e' :: es', i, h => by
    have h0 := h.2 0 (by simp) (by simp)
    simp only [List.getElem_cons_zero] at h0
    have hr : EntR E es es' := ⟨by simpa using h.1, fun i h1 h2 => by
      have := h.2 (i + 1) (by simp; omega) (by simp; omega)
      simpa using this⟩
    have ih := findNow_rel d k es es' (i + 1) hr
    simp only [Instr.findNow, h0.1]
    cases Instr.sameNow d k e.key with
    | none => simp
    | some b => cases b with
      | true =>
        refine ⟨fun h => by simp at h, fun h => by simp at h, fun j v hjv => ?_⟩
        simp only [Option.some.injEq, Prod.mk.injEq] at hjv
        obtain ⟨rfl, rfl⟩ := hjv
        exact ⟨_, rfl, h0.2⟩
      | false => exact ih

def lookup? (P : Program) (S : Heap) (t : TypeId) (m k : Value) (ok : Bool) : Option Value :=
  match P.underlying t with
  | some (.map kt et) =>
    match P.underlying kt, zero? P et with
    | some d, some z =>
      if plainKey d k && flat z then
        match m with
        | .map none => some (if ok then .tuple #[z, .bool false] else z)
        | .map (some id) =>
          match S[id]? with
          | some ⟨.map es _, true, _⟩ =>
            match Instr.findNow d k es.toList 0 with
            | some (some (_, v)) => some (if ok then .tuple #[v, .bool true] else v)
            | some none => some (if ok then .tuple #[z, .bool false] else z)
            | none => none
          | _ => none
        | _ => none
      else none
    | _, _ => none
  | _ => none

theorem VR.pair {E : Emb} {a a' b b' : Value} (ha : VR E a a') (hb : VR E b b') : VR E (.tuple #[a, b]) (.tuple #[a', b']) := by
  refine .tuple rfl fun i h1 h2 => ?_
  have : i = 0 ∨ i = 1 := by simp at h1; omega
  rcases this with rfl | rfl
  · exact ha
  · exact hb

theorem entR_of {E : Emb} {es es' : Array MapEntry} (hs : es.size = es'.size)
    (h : ∀ (i : Nat) (h : i < es.size) (h' : i < es'.size), flat es[i].key = true ∧ es'[i].key = es[i].key ∧ es'[i].born = es[i].born ∧ VR E es[i].val es'[i].val) : EntR E es.toList es'.toList :=
  ⟨by simpa using hs, fun i h1 h2 => by
    simp only [Array.length_toList] at h1 h2
    simp only [Array.getElem_toList]
    exact ⟨(h i h1 h2).2.1, (h i h1 h2).2.2.2⟩⟩

theorem lookup_run {E : Emb} {S : Heap} {w : World} {t : TypeId} {m m' k k' v : Value} {ok : Bool} (h : lookup? P S t m k ok = some v) (hr : Rel ng E S w) (hm : VR E m m') (hk : VR E k k') :
    ∃ v', (Instr.lookup t m' k' ok).run P w = .ok v' w ∧ VR E v v' := by
  unfold lookup? at h
  split at h
  · rename_i kt et hu
    split at h
    · rename_i d z hd hz
      split at h
      · rename_i hc
        simp only [Bool.and_eq_true] at hc
        obtain ⟨hpk, hfz⟩ := hc
        obtain rfl := hk.eq (plainKey_flat hpk)
        have hzr := run_zero hz w
        split at h
        · obtain rfl := Option.some.inj h
          cases hm
          cases ok
          · exact ⟨z, by simp [Instr.lookup, run_underlying hu, run_checkKey hd hpk, Instr.findKey, run_underlying hd, Instr.findNow, hzr], VR.refl E hfz⟩
          · exact ⟨.tuple #[z, .bool false], by simp [Instr.lookup, run_underlying hu, run_checkKey hd hpk, Instr.findKey, run_underlying hd, Instr.findNow, hzr], .pair (VR.refl E hfz) (.bool _)⟩
        · rename_i id
          split at h
          · rename_i es clock own hb
            cases hm with
            | map he =>
              rename_i l
              obtain ⟨b, hb', hlt, ho⟩ := hr.blk id l he
              rw [hb] at hb'
              obtain rfl := Option.some.inj hb'
              obtain ⟨es', hw, hbase, hsz, hent⟩ := ho rfl
              have hf := findNow_rel (E := E) d k' es.toList es'.toList 0 (entR_of hsz hent)
              have hget : (getObj l.blk).run P w = .ok (.map es' clock) w := by simp [getObj, Sem.run, hw]
              split at h
              · rename_i j u hfn
                obtain rfl := Option.some.inj h
                obtain ⟨u', hfn', hu'⟩ := hf.2.2 j u hfn
                cases ok
                · exact ⟨u', by simp [Instr.lookup, run_underlying hu, run_checkKey hd hpk, Instr.findKey, run_underlying hd, hget, hfn'], hu'⟩
                · exact ⟨.tuple #[u', .bool true], by simp [Instr.lookup, run_underlying hu, run_checkKey hd hpk, Instr.findKey, run_underlying hd, hget, hfn'], .pair hu' (.bool _)⟩
              · rename_i hfn
                obtain rfl := Option.some.inj h
                have hfn' := hf.2.1 hfn
                cases ok
                · exact ⟨z, by simp [Instr.lookup, run_underlying hu, run_checkKey hd hpk, Instr.findKey, run_underlying hd, hget, hfn', hzr], VR.refl E hfz⟩
                · exact ⟨.tuple #[z, .bool false], by simp [Instr.lookup, run_underlying hu, run_checkKey hd hpk, Instr.findKey, run_underlying hd, hget, hfn', hzr], .pair (VR.refl E hfz) (.bool _)⟩
              · cases h
          · cases h
        · cases h
      · cases h
    · cases h
  · cases h

def mapUpdate? (P : Program) (S : Heap) (t : TypeId) (m k x : Value) : Option Heap :=
  match P.underlying t with
  | some (.map kt _) =>
    match P.underlying kt, m with
    | some d, .map (some id) =>
      if plainKey d k && known x then
        match S[id]? with
        | some ⟨.map es clock, true, true⟩ =>
          match Instr.findNow d k es.toList 0 with
          | some (some (i, _)) => some (S.set id ⟨.map (es.modify i fun e => { e with key := k, val := x }) clock, true, true⟩)
          | some none => some (S.set id ⟨.map (es.push { key := k, val := x, born := clock }) (clock + 1), true, true⟩)
          | none => none
        | _ => none
      else none
    | _, _ => none
  | _ => none

theorem findNow_at (d : TypeDesc) (k : Value) : ∀ (es : List MapEntry) (i j : Nat) (v : Value), Instr.findNow d k es i = some (some (j, v)) → i ≤ j ∧ ∃ h : j - i < es.length, Instr.sameNow d k es[j - i].key = some true
  | [], _, _, _, h => by simp [Instr.findNow] at h
  | e :: es, i, j, v, h => by
    simp only [Instr.findNow] at h
    split at h
    · rename_i hs
      simp only [Option.some.injEq, Prod.mk.injEq] at h
      obtain ⟨rfl, rfl⟩ := h
      exact ⟨Nat.le_refl _, by simp, by simpa using hs⟩
    · obtain ⟨h1, h2, h3⟩ := findNow_at d k es (i + 1) j v h
      refine ⟨by omega, by simp; omega, ?_⟩
      have : j - i = (j - (i + 1)) + 1 := by omega
      simp only [this, List.getElem_cons_succ]
      exact h3
    · cases h

theorem same_eq {d : TypeDesc} {k k2 : Value} (hp : plainKey d k = true) (h : Instr.sameNow d k k2 = some true) : k2 = k := by
  cases d <;> cases k <;> simp [plainKey] at hp <;> cases k2 <;> simp [Instr.sameNow] at h
  · obtain ⟨rfl, rfl⟩ := h; rfl
  · rw [(MapKept.bytes_beq _ _).1 h]

theorem run_setObj {r : Nat} {o o0 : Obj} {w : World} (h : w.heap[r]? = some o0) (hn : ∀ c e f, o0 ≠ .cells c e f) : (setObj r o).run P w = .ok () { w with heap := w.heap.setIfInBounds r o } := by
  simp only [setObj, Sem.run, h]

theorem sameBits_self {d : TypeDesc} {k : Value} (hp : plainKey d k = true) : Instr.sameBits 10000 k k = true := by
  cases d <;> cases k <;> simp [plainKey] at hp <;> simp [Instr.sameBits, MapKept.bytes_beq]

theorem mapUpdate_run {E : Emb} {S S' : Heap} {w : World} {t : TypeId} {m m' k k' x x' : Value} (h : mapUpdate? P S t m k x = some S') (hr : Rel ng E S w) (hm : VR E m m') (hk : VR E k k') (hx : VR E x x') :
    ∃ w', (Instr.mapUpdate t m' k' x').run P w = .ok () w' ∧ Rel ng E S' w' ∧ Grow S.length E S w E S' w' := by
  unfold mapUpdate? at h
  split at h
  · rename_i kt et hu
    split at h
    · rename_i d id hd
      split at h
      · rename_i hc
        simp only [Bool.and_eq_true] at hc
        obtain ⟨hpk, hkx⟩ := hc
        obtain rfl := hk.eq (plainKey_flat hpk)
        split at h
        · rename_i es clock hb
          cases hm with
          | map he =>
            rename_i l
            obtain ⟨b, hb', hlt, ho⟩ := hr.blk id l he
            rw [hb] at hb'
            obtain rfl := Option.some.inj hb'
            obtain ⟨es', hw, hbase, hsz, hent⟩ := ho rfl
            have hf := findNow_rel (E := E) d k' es.toList es'.toList 0 (entR_of hsz hent)
            have hget : (getObj l.blk).run P w = .ok (.map es' clock) w := by simp [getObj, Sem.run, hw]
            have hset : ∀ o, (setObj l.blk o).run P w = .ok () { w with heap := w.heap.setIfInBounds l.blk o } := fun o => run_setObj hw (fun c e f => by simp)
            have hhs : ∀ o, ({ w with heap := w.heap.setIfInBounds l.blk o } : World).heap.size = w.heap.size := fun o => by simp
            have hoth : ∀ o k, k ≠ l.blk → ({ w with heap := w.heap.setIfInBounds l.blk o } : World).heap[k]? = w.heap[k]? := fun o k hk => by
              simp [Array.getElem?_setIfInBounds, Ne.symm hk]
            have hself : ∀ o, ({ w with heap := w.heap.setIfInBounds l.blk o } : World).heap[l.blk]? = some o := fun o => by
              simp [Array.getElem?_setIfInBounds, hlt]
            split at h
            · rename_i j u hfn
              obtain rfl := Option.some.inj h
              obtain ⟨u', hfn', hu'⟩ := hf.2.2 j u hfn
              obtain ⟨_, hj1, hj2⟩ := findNow_at d k' es'.toList 0 j u' hfn'
              simp only [Nat.sub_zero, Array.length_toList, Array.getElem_toList] at hj1 hj2
              have hkey := same_eq hpk hj2
              refine ⟨{ w with heap := w.heap.setIfInBounds l.blk (.map (es'.modify j fun e => { e with key := k', val := x' }) clock) }, ?_, ?_, Grow.set _ he hb rfl rfl (hhs _) (hoth _) rfl rfl rfl⟩
              · simp [Instr.mapUpdate, run_underlying hu, run_checkKey hd hpk, Instr.findKey, run_underlying hd, hget, hfn', Instr.keyThatStays, Array.getElem?_eq_getElem hj1, hkey, sameBits_self hpk, hset]
              · refine hr.set he hb rfl rfl (hhs _) (hoth _) rfl fun _ => ⟨_, hself _, hbase, by simpa using hsz, fun i h1 h2 => ?_⟩
                simp only [Array.size_modify] at h1 h2
                obtain ⟨q1, q2, q3, q4⟩ := hent i h1 h2
                by_cases hij : j = i
                · subst hij
                  rw [Array.getElem_modify_self, Array.getElem_modify_self]
                  exact ⟨plainKey_flat hpk, rfl, q3, hx⟩
                · simp only [Array.getElem_modify_of_ne hij]
                  exact ⟨q1, q2, q3, q4⟩
            · rename_i hfn
              obtain rfl := Option.some.inj h
              have hfn' := hf.2.1 hfn
              refine ⟨{ w with heap := w.heap.setIfInBounds l.blk (.map (es'.push { key := k', val := x', born := clock }) (clock + 1)) }, ?_, ?_, Grow.set _ he hb rfl rfl (hhs _) (hoth _) rfl rfl rfl⟩
              · simp [Instr.mapUpdate, run_underlying hu, run_checkKey hd hpk, Instr.findKey, run_underlying hd, hget, hfn', hset]
              · refine hr.set he hb rfl rfl (hhs _) (hoth _) rfl fun _ => ⟨_, hself _, hbase, by simpa using hsz, fun i h1 h2 => ?_⟩
                simp only [Array.size_push] at h1 h2
                by_cases hi : i < es.size
                · rw [Array.getElem_push_lt hi, Array.getElem_push_lt (show i < es'.size by omega)]
                  exact hent i hi (by omega)
                · have e1 : i = es.size := by omega
                  subst e1
                  rw [Array.getElem_push_eq]
                  have : ∀ (n : Nat) (hn : n = es'.size) (h : n < (es'.push { key := k', val := x', born := clock : MapEntry }).size), (es'.push { key := k', val := x', born := clock : MapEntry })[n] = { key := k', val := x', born := clock } := by
                    intro n hn h
                    subst hn
                    exact Array.getElem_push_eq
                  rw [this _ hsz]
                  exact ⟨plainKey_flat hpk, rfl, rfl, hx⟩
            · cases h
        · cases h
      · cases h
    · cases h
  · cases h

def makeMap? (S : Heap) : Value × Heap := (.map (some S.length), S ++ [⟨.map #[] 0, true, true⟩])

theorem makeMap_run {E : Emb} {S : Heap} {w : World} (t : TypeId) (hr : Rel ng E S w) :
    ∃ v' E' w', (Instr.makeMap t none).run P w = .ok v' w' ∧ Rel ng E' (makeMap? S).2 w' ∧ VR E' (makeMap? S).1 v' ∧ Grow S.length E S w E' (makeMap? S).2 w' := by
  refine ⟨.map (some w.heap.size), Emb.push E S.length ⟨w.heap.size, 0, 0⟩, w.alloc (.map #[] 0), ?_, hr.push _ _ _ fun _ => ⟨#[], ?_, rfl, rfl, fun i h _ => by simp at h⟩, ?_, Grow.push hr _ _ _ rfl⟩
  · simp [Instr.makeMap, alloc_eq]
  · show (w.heap.push _)[w.heap.size]? = _
    simp
  · exact VR.map (l := ⟨w.heap.size, 0, 0⟩) (push_self _ _ _)

end Go.Am
