/- The abstract meaning of make, slicing, append, copy and len, each with what the model does. No condition. -/
import Derived.Test.YtbigpkfdeaigeaaDoorAm4
namespace Go.Am
open Go
set_option linter.unusedSimpArgs false
set_option linter.unusedVariables false

variable {P : Program} {ng : Nat}

/-! ### make -/
def makeSlice? (P : Program) (S : Heap) (t : TypeId) (l c : Value) : Option (Value × Heap) :=
  match P.underlying t, l, c with
  | some (.slice e), .int .i64 n, .int .i64 m =>
    match zero? P e, P.info? e with
    | some z, some i =>
      if 0 ≤ n ∧ n ≤ m ∧ m ≤ 281474976710656 ∧ m * i.bytes ≤ 281474976710656 ∧ flat z = true ∧ 0 < z.cells.size ∧ z.cells.size = i.size then
        some (.slice (some ⟨S.length, 0, none⟩) n.toNat i.size, S ++ [⟨.cells (zerosOf z.cells (n.toNat * i.size)) e (0, 1), true, true⟩])
      else none
    | _, _ => none
  | _, _, _ => none

theorem makeSlice_run {E : Emb} {S S' : Heap} {w : World} {t : TypeId} {l l' c c' v : Value} (h : makeSlice? P S t l c = some (v, S')) (hr : Rel ng E S w) (hl : VR E l l') (hc : VR E c c') :
    ∃ v' E' w', (Instr.makeSlice t l' c').run P w = .ok v' w' ∧ Rel ng E' S' w' ∧ VR E' v v' ∧ Grow S.length E S w E' S' w' := by
  unfold makeSlice? at h
  split at h
  · rename_i e n m hu
    split at h
    · rename_i z i hz hi
      split at h
      · rename_i hcond
        obtain ⟨h0, hnm, hm, hb, hf, hpos, hzs⟩ := hcond
        obtain ⟨rfl, rfl⟩ := Prod.mk.inj (Option.some.inj h)
        cases hl; cases hc
        have hz0 : i.zero = some z := by simp [zero?, hi] at hz; exact hz
        have hwn : IntKind.i64.wrap n = n := by rw [IntKind.wrap_i64]; omega
        have hwm : IntKind.i64.wrap m = m := by rw [IntKind.wrap_i64]; omega
        have hw0 : IntKind.i64.wrap 0 = 0 := by rw [IntKind.wrap_i64]; rfl
        obtain ⟨N, rfl⟩ : ∃ N : Nat, n = N := ⟨n.toNat, by omega⟩
        obtain ⟨M, rfl⟩ : ∃ M : Nat, m = M := ⟨m.toNat, by omega⟩
        have hNM : N ≤ M := by omega
        obtain ⟨g1, g2⟩ := newRow_rel hr (zerosOf z.cells (N * i.size)) (zerosOf z.cells (M * i.size)) e (0, 1) (0, 0) true (by
            simp [zerosOf]; exact Nat.mul_le_mul_right _ hNM) (by
            intro k hx hy
            have := zerosOf_vr (E := E) hf (N * i.size) hpos k hx
            have e2 : (zerosOf z.cells (M * i.size))[k] = (zerosOf z.cells (N * i.size))[k] := by simp [zerosOf]
            rw [e2]; exact this) (fun o _ => by omega) (fun hq => by simp at hq)
        refine ⟨.slice (some ⟨w.heap.size, 0, none⟩) N M, _, _, ?_, g1, ?_, g2⟩
        · have hb1 : ¬ (281474976710656 < (i.bytes : Int) * M) := by rw [Int.mul_comm]; omega
          by_cases hM0 : M = 0
          · subst hM0
            have : N = 0 := by omega
            subst this
            simp [Instr.makeSlice, run_underlying hu, asInt, asIntOf, typeInfo, hi, hw0, sizeOf, newRow, alloc_eq, zerosOf, show Array.range 0 = #[] from rfl]
          · have hMs : ¬ (M * i.size = 0) := by
              intro h0
              rcases Nat.mul_eq_zero.1 h0 with h | h <;> omega
            have hc2 : ¬ (((M : Int) < 0 ∨ (N : Int) < 0) ∨ M < N) := by omega
            simp [Instr.makeSlice, run_underlying hu, asInt, asIntOf, typeInfo, hi, hwn, hwm, hb1, hc2, hMs, sizeOf, zeroValue, hz0, newRow, alloc_eq, zerosOf]
        · exact VR.slice (l := ⟨w.heap.size, 0, (zerosOf z.cells (M * i.size)).size⟩) 0 N i.size M (push_self _ _ _) hNM (by simp [zerosOf])
      · cases h
    · cases h
  · cases h

/-! ### x[lo:hi] -/
def hollowV : Value := .slice (some ⟨0, 0, some 1⟩) 0 0
def zeroV : Value := .slice (some ⟨0, 0, some 0⟩) 0 0

/-- A slice's slice. -/
def cut? (s : Nat) (a : Option Addr) (n sz l h : Nat) (mx : Option Nat) : Option Value :=
  match mx, a with
  | none, none => if n = 0 ∧ sz = 0 then some (.slice none 0 0) else none
  | none, some ⟨id, off, none⟩ =>
    if l = 0 then some (.slice (some ⟨id, off, none⟩) h sz)
    else if l < h then (if s = sz then some (.slice (some ⟨id, off + l * sz, none⟩) (h - l) sz) else none)
    else some hollowV
  | none, some ⟨0, 0, some 1⟩ => if n = 0 ∧ sz = 0 then some hollowV else none
  | none, some ⟨0, 0, some 0⟩ => if n = 0 ∧ sz = 0 then some zeroV else none
  | some 0, none => if n = 0 ∧ sz = 0 then some (.slice none 0 0) else none
  | some 0, some ⟨_, _, none⟩ => some zeroV
  | _, _ => none

def natOf? : Option Value → Option (Option Nat)
  | none => some none
  | some (.int _ n) => if 0 ≤ n then some (some n.toNat) else none
  | some _ => none

def slice? (P : Program) (t : TypeId) (x : Value) (lo hi mx : Option Value) : Option Value :=
  match P.underlying t, x with
  | some .string, .string s =>
    match natOf? lo, natOf? hi, mx with
    | some l, some h, none => if l.getD 0 ≤ h.getD s.size ∧ h.getD s.size ≤ s.size then some (.string (s.extract (l.getD 0) (h.getD s.size))) else none
    | _, _, _ => none
  | some (.slice e), .slice a n sz =>
    match szT P e, natOf? lo, natOf? hi, natOf? mx with
    | some s, some l, some h, some m => if l.getD 0 ≤ h.getD n ∧ h.getD n ≤ n ∧ h.getD n ≤ m.getD n ∧ (m.isNone || h.isSome) = true then cut? s a n sz (l.getD 0) (h.getD n) m else none
    | _, _, _, _ => none
  | _, _ => none

/-- Optional operands. -/
def VRo (E : Emb) : Option Value → Option Value → Prop
  | none, none => True
  | some a, some b => VR E a b
  | _, _ => False

theorem nat_eq {E : Emb} {x x' : Option Value} {r : Option Nat} (h : natOf? x = some r) (hv : VRo E x x') :
    (x' = none ∧ r = none) ∨ ∃ (k : IntKind) (n : Nat), x' = some (.int k n) ∧ r = some n := by
  cases x with
  | none => cases x' with
    | none => simp [natOf?] at h; exact .inl ⟨rfl, h.symm⟩
    | some _ => exact hv.elim
  | some a => cases x' with
    | none => exact hv.elim
    | some b =>
      cases a <;> simp [natOf?] at h
      obtain ⟨h0, rfl⟩ := h
      cases hv
      rename_i k n
      exact .inr ⟨k, n.toNat, by rw [Int.toNat_of_nonneg h0], rfl⟩

theorem sliceBound_nat {k : IntKind} {n y : Nat} {code : BoundsCode} (h1 : n ≤ y) (w : World) : (Instr.sliceBound (.int k n) y code).run P w = .ok n w := by
  simp [Instr.sliceBound, asIntOf, h1]

theorem sliceBounds_run {E : Emb} {len cap : Nat} {lo hi mx lo' hi' mx' : Option Value} {l h m : Option Nat} (hl : natOf? lo = some l) (hh : natOf? hi = some h) (hm : natOf? mx = some m) (vl : VRo E lo lo') (vh : VRo E hi hi') (vm : VRo E mx mx')
    (h1 : l.getD 0 ≤ h.getD len) (h2 : h.getD len ≤ len) (h3 : h.getD len ≤ m.getD len) (h4 : m.getD cap ≤ cap) (hc : len ≤ cap) (h5 : m = none ∨ h.isSome = true) (b : Bool) (w : World) :
    (Instr.sliceBounds b len cap lo' hi' mx').run P w = .ok (l.getD 0, h.getD len, m.getD cap) w := by
  rcases nat_eq hl vl with ⟨rfl, rfl⟩ | ⟨k, nl, rfl, rfl⟩ <;> rcases nat_eq hh vh with ⟨rfl, rfl⟩ | ⟨k2, nh, rfl, rfl⟩ <;> rcases nat_eq hm vm with ⟨rfl, rfl⟩ | ⟨k3, nm, rfl, rfl⟩ <;>
    simp only [Option.getD_none, Option.getD_some] at h1 h2 h3 h4 h5 ⊢
  · simp [Instr.sliceBounds]
  · simp at h5
  · simp [Instr.sliceBounds, sliceBound_nat (P := P) (show nh ≤ cap by omega)]
  · simp [Instr.sliceBounds, sliceBound_nat (P := P) h4, sliceBound_nat (P := P) h3]
  · simp [Instr.sliceBounds, sliceBound_nat (P := P) h1]
  · simp at h5
  · simp [Instr.sliceBounds, sliceBound_nat (P := P) (show nh ≤ cap by omega), sliceBound_nat (P := P) h1]
  · simp [Instr.sliceBounds, sliceBound_nat (P := P) h4, sliceBound_nat (P := P) h3, sliceBound_nat (P := P) h1]

theorem map_add0 (a : Option Addr) : a.map (·.add 0) = a := by
  cases a <;> simp [Addr.add]

theorem slice_run {E : Emb} {t : TypeId} {x x' : Value} {lo hi mx lo' hi' mx' : Option Value} {v : Value} (h : slice? P t x lo hi mx = some v) (hx : VR E x x') (vl : VRo E lo lo') (vh : VRo E hi hi') (vm : VRo E mx mx') :
    ∃ v', (∀ w, (Instr.sliceAt t x' lo' hi' mx').run P w = .ok v' w) ∧ VR E v v' := by
  unfold slice? at h
  split at h
  · rename_i s hu
    split at h
    · rename_i l hh hl hhh
      split at h
      · rename_i hb
        obtain rfl := Option.some.inj h
        cases hx
        have e3 : mx' = none := by cases mx' with | none => rfl | some _ => exact vm.elim
        subst e3
        refine ⟨_, fun w => ?_, .string _⟩
        have := fun w => sliceBounds_run (P := P) (mx := none) (mx' := none) (m := none) (cap := s.size) hl hhh rfl vl vh trivial hb.1 hb.2 hb.2 (Nat.le_refl _) (Nat.le_refl _) (.inl rfl) false w
        simp [Instr.sliceAt, run_underlying hu, Instr.slice, this]
      · cases h
    · cases h
  · rename_i e a n sz hu
    split at h
    · rename_i s l hh m hs hl hhh hm
      split at h
      · rename_i hb
        obtain ⟨h1, h2, h3, h5⟩ := hb
        have h5' : m = none ∨ hh.isSome = true := by
          cases m with
          | none => exact .inl rfl
          | some _ => exact .inr (by simpa using h5)
        unfold cut? at h
        split at h
        · split at h
          · rename_i hz
            obtain ⟨rfl, rfl⟩ := hz
            obtain rfl := Option.some.inj h
            cases hx
            refine ⟨.slice none 0 0, fun w => ?_, .nilSlice⟩
            have := fun w => sliceBounds_run (P := P) (cap := 0) hl hhh hm vl vh vm h1 h2 h3 (Nat.le_refl _) (Nat.le_refl _) (.inl rfl) true w
            simp only [Option.getD_none] at this
            have e1 : hh.getD 0 = 0 := by omega
            have e2 : l.getD 0 = 0 := by omega
            simp [Instr.sliceAt, run_underlying hu, Instr.slice, this, run_sizeOf hs, e1, e2]
          · cases h
        · rename_i id off
          cases hx with
          | slice _ _ _ c he hc hroom =>
            rename_i lc
            have hbd := fun w => sliceBounds_run (P := P) (cap := c) hl hhh hm vl vh vm h1 h2 h3 (Nat.le_refl _) hc (.inl rfl) true w
            simp only [Option.getD_none] at hbd
            split at h
            · rename_i hl0
              obtain rfl := Option.some.inj h
              refine ⟨_, fun w => ?_, .slice off (hh.getD n) sz c he (by omega) hroom⟩
              simp [Instr.sliceAt, run_underlying hu, Instr.slice, hbd, run_sizeOf hs, hl0, Addr.add]
            · rename_i hl0
              split at h
              · rename_i hlt
                split at h
                · rename_i hse
                  obtain rfl := Option.some.inj h
                  subst hse
                  have := VR.slice (E := E) (off + l.getD 0 * s) (hh.getD n - l.getD 0) s (c - l.getD 0) he (by omega) (by
                    have e1 : (c - l.getD 0) * s = c * s - l.getD 0 * s := Nat.sub_mul _ _ _
                    have e2 : l.getD 0 * s ≤ c * s := Nat.mul_le_mul_right _ (by omega)
                    omega)
                  refine ⟨_, fun w => ?_, this⟩
                  have hne : ¬ c = l.getD 0 := by omega
                  simp [Instr.sliceAt, run_underlying hu, Instr.slice, hbd, run_sizeOf hs, hne, Addr.add_mid, Nat.add_assoc]
                · cases h
              · rename_i hnlt
                obtain rfl := Option.some.inj h
                have e1 : hh.getD n - l.getD 0 = 0 := by omega
                refine ⟨.slice (if c = l.getD 0 then some ⟨lc.blk, lc.base + off, none⟩ else some ((⟨lc.blk, lc.base + off, none⟩ : Addr).add (l.getD 0 * s))) 0 (c - l.getD 0), fun w => ?_, .hollow _ _⟩
                simp [Instr.sliceAt, run_underlying hu, Instr.slice, hbd, run_sizeOf hs, e1]
        · split at h
          · rename_i hz
            obtain ⟨rfl, rfl⟩ := hz
            obtain rfl := Option.some.inj h
            cases hx with
            | hollow a c =>
              have := fun w => sliceBounds_run (P := P) (cap := c) hl hhh hm vl vh vm h1 h2 h3 (Nat.le_refl _) (Nat.zero_le _) (.inl rfl) true w
              simp only [Option.getD_none] at this
              have e1 : hh.getD 0 = 0 := by omega
              have e2 : l.getD 0 = 0 := by omega
              refine ⟨.slice a 0 c, fun w => ?_, .hollow a c⟩
              simp [Instr.sliceAt, run_underlying hu, Instr.slice, this, run_sizeOf hs, e1, e2, map_add0]
          · cases h
        · split at h
          · rename_i hz
            obtain ⟨rfl, rfl⟩ := hz
            obtain rfl := Option.some.inj h
            cases hx with
            | zero a =>
              have := fun w => sliceBounds_run (P := P) (cap := 0) hl hhh hm vl vh vm h1 h2 h3 (Nat.le_refl _) (Nat.zero_le _) (.inl rfl) true w
              simp only [Option.getD_none] at this
              have e1 : hh.getD 0 = 0 := by omega
              have e2 : l.getD 0 = 0 := by omega
              refine ⟨.slice a 0 0, fun w => ?_, .zero a⟩
              simp [Instr.sliceAt, run_underlying hu, Instr.slice, this, run_sizeOf hs, e1, e2]
          · cases h
        · split at h
          · rename_i hz
            obtain ⟨rfl, rfl⟩ := hz
            obtain rfl := Option.some.inj h
            cases hx
            simp only [Option.getD_some] at h3
            have := fun w => sliceBounds_run (P := P) (cap := 0) hl hhh hm vl vh vm h1 h2 h3 (Nat.le_refl _) (Nat.le_refl _) h5' true w
            simp only [Option.getD_some] at this
            have e1 : hh.getD 0 = 0 := by omega
            have e2 : l.getD 0 = 0 := by omega
            refine ⟨.slice none 0 0, fun w => ?_, .nilSlice⟩
            simp [Instr.sliceAt, run_underlying hu, Instr.slice, this, run_sizeOf hs, e1, e2]
          · cases h
        · rename_i id off
          obtain rfl := Option.some.inj h
          cases hx with
          | slice _ _ _ c he hc hroom =>
            rename_i lc
            simp only [Option.getD_some] at h3
            have := fun w => sliceBounds_run (P := P) (cap := c) hl hhh hm vl vh vm h1 h2 h3 (by simp) hc h5' true w
            simp only [Option.getD_some] at this
            have e1 : hh.getD n = 0 := by omega
            have e2 : l.getD 0 = 0 := by omega
            refine ⟨.slice (some ⟨lc.blk, lc.base + off, none⟩) 0 0, fun w => ?_, .zero _⟩
            simp [Instr.sliceAt, run_underlying hu, Instr.slice, this, run_sizeOf hs, e1, e2]
        · cases h
      · cases h
    · cases h
  · cases h

end Go.Am
