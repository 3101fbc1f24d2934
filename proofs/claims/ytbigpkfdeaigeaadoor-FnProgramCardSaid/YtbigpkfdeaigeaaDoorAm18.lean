/- Loops with their spent slots forgotten; slices that stand for lists. No condition. -/
import Derived.Test.YtbigpkfdeaigeaaDoorAm14
namespace Go.Am
open Go
set_option linter.unusedSimpArgs false
set_option linter.unusedVariables false

variable {P : Program} {ng n : Nat} {ex : List (Nat × Ord)}

theorem ifA_intro {b : Bool} {x y : Prop} (hx : b = true → x) (hy : b = false → y) : ifA b x y := by
  cases b
  · exact hy rfl
  · exact hx rfl
theorem ifA_dec {p : Prop} [Decidable p] {x y : Prop} (hx : p → x) (hy : ¬ p → y) : ifA (decide p) x y := by
  by_cases h : p
  · simp only [h, decide_true]; exact hx h
  · simp only [h, decide_false]; exact hy h

/-- The slots `ks` (rising) kept, the others forgotten. -/
def keepT : List Nat → Nat → List Value → List Value
  | _, _, [] => []
  | [], i, _ :: l => .tuple #[] :: keepT [] (i + 1) l
  | k :: ks, i, v :: l => if k = i then v :: keepT ks (i + 1) l else .tuple #[] :: keepT (k :: ks) (i + 1) l

theorem keepT_length : ∀ (ks : List Nat) (i : Nat) (l : List Value), (keepT ks i l).length = l.length
  | ks, i, [] => by cases ks <;> rfl
  | [], i, v :: l => by simp [keepT, keepT_length [] (i + 1) l]
  | k :: ks, i, v :: l => by
    simp only [keepT]
    split
    · simp [keepT_length ks (i + 1) l]
    · simp [keepT_length (k :: ks) (i + 1) l]

theorem keepT_get : ∀ (ks : List Nat) (i : Nat) (l : List Value) (t : Nat), (keepT ks i l).getD t (.tuple #[]) = .tuple #[] ∨ (keepT ks i l).getD t (.tuple #[]) = l.getD t (.tuple #[])
  | ks, i, [], t => by cases ks <;> exact .inr rfl
  | [], i, v :: l, 0 => .inl rfl
  | [], i, v :: l, t + 1 => keepT_get [] (i + 1) l t
  | k :: ks, i, v :: l, 0 => by
    simp only [keepT]
    split
    · exact .inr rfl
    · exact .inl rfl
  | k :: ks, i, v :: l, t + 1 => by
    simp only [keepT]
    split
    · exact keepT_get ks (i + 1) l t
    · exact keepT_get (k :: ks) (i + 1) l t

theorem RelT.keep {E : Emb} {tm : List Value} {a : Act} (h : RelT E tm a) (ks : List Nat) : RelT E (keepT ks 0 tm) a :=
  ⟨by rw [keepT_length]; exact h.size, fun t => by
    rcases keepT_get ks 0 tm t with e | e
    · rw [e]; exact .any _
    · rw [e]; exact h.slot t, h.defers⟩

/-- Spent slots may be forgotten. -/
theorem AW.keep {c : Code} {s : St} {Q : Exit → St → Prop} (ks : List Nat) (h : AW P ng n c ⟨keepT ks 0 s.tm, s.hp⟩ Q) : AW P ng n c s Q :=
  fun E a w h1 h2 h3 h4 => h E a w (h1.keep ks) h2 h3 h4

def keepS (ks : List Nat) (s : St) : St := ⟨keepT ks 0 s.tm, s.hp⟩

/-- A round's end: the next state of the family. -/
def LoopN {σ : Type} (ks : List Nat) (st : σ → St) (ok : σ → Prop) (μ : σ → Nat) (x : σ) (s1 : St) (_ : Tag st := .mk) (_ : Tag ok := .mk) (_ : Tag μ := .mk) (_ : Tag x := .mk) : Prop := ∃ y, keepS ks s1 = st y ∧ ok y ∧ μ y < μ x
theorem LoopN.of {σ : Type} {ks : List Nat} {st : σ → St} {ok : σ → Prop} {μ : σ → Nat} {x : σ} {s1 : St} (y : σ) (h1 : keepS ks s1 = st y) (h2 : ok y) (h3 : μ y < μ x) : LoopN ks st ok μ x s1 := ⟨y, h1, h2, h3⟩

/-- A loop, by a family of states; the spent slots are forgotten at each round's end. -/
theorem LoopA.by {σ : Type} {c : Code} {s : St} {Q : Exit → St → Prop} (ks : List Nat) (st : σ → St) (ok : σ → Prop) (μ : σ → Nat) (x0 : σ) (hst : keepS ks s = st x0) (h0 : ok x0)
    (round : ∀ x, ok x → wpc P ng n ex c (st x) (thenA (LoopN ks st ok μ x) Q)) : LoopA P ng n ex c s Q := by
  intro hpl
  refine AW.keep ks ?_
  show AW P ng n (.loop c) (keepS ks s) Q
  rw [hst]
  refine AW.loop (fun k s1 => ∃ x, ok x ∧ μ x = k ∧ ∀ E a, RelT E s1.tm a → RelT E (st x).tm a ∧ s1.hp = (st x).hp) (μ x0) ⟨x0, h0, rfl, fun E a h => ⟨h, rfl⟩⟩ ?_
  rintro k s1 ⟨x, hx, rfl, hs⟩
  intro E a w h1 h2 h3 h4
  obtain ⟨g1, g2⟩ := hs E a h1
  refine wp_mono (wpc_sound c (st x) _ hpl (round x hx) E a w g1 (g2 ▸ h2) h3 (g2 ▸ h4)) ?_
  rintro e a' w' ⟨s', E', hq, r1, r2, r3, r4⟩
  refine ⟨s', E', ?_, r1, r2, r3, by rw [g2]; exact r4⟩
  cases e with
  | normal =>
    obtain ⟨y, hy, hok, hlt⟩ := hq
    refine ⟨μ y, hlt, y, hok, rfl, fun E2 a2 h => ?_⟩
    have := h.keep ks
    rw [← hy]
    exact ⟨this, rfl⟩
  | exit id => exact hq
  | goto l => exact hq
  | ret => exact hq
  | panic c => exact hq
  | outgrown => exact hq

/-- Slots, by the few that are known. -/
def slots : Nat → Nat → List (Nat × Value) → List Value
  | _, 0, _ => []
  | i, n + 1, [] => .tuple #[] :: slots (i + 1) n []
  | i, n + 1, (k, v) :: r => if k = i then v :: slots (i + 1) n r else .tuple #[] :: slots (i + 1) n ((k, v) :: r)
theorem slots_z {i : Nat} {r : List (Nat × Value)} : slots i 0 r = [] := by cases r <;> rfl
theorem slots_n {i m : Nat} : slots i (m + 1) [] = .tuple #[] :: slots (i + 1) m [] := opq rfl
theorem slots_c {i m k : Nat} {v : Value} {r : List (Nat × Value)} : slots i (m + 1) ((k, v) :: r) = if k = i then v :: slots (i + 1) m r else .tuple #[] :: slots (i + 1) m ((k, v) :: r) := opq rfl
attribute [simp] slots_z slots_n slots_c

theorem keepS_mk {ks : List Nat} {tm : List Value} {hp : Heap} : keepS ks ⟨tm, hp⟩ = ⟨keepT ks 0 tm, hp⟩ := opq rfl
theorem keepT_nil {ks : List Nat} {i : Nat} : keepT ks i [] = [] := by cases ks <;> rfl
theorem keepT_none {i : Nat} {v : Value} {l : List Value} : keepT [] i (v :: l) = .tuple #[] :: keepT [] (i + 1) l := opq rfl
theorem keepT_some {k i : Nat} {ks : List Nat} {v : Value} {l : List Value} : keepT (k :: ks) i (v :: l) = if k = i then v :: keepT ks (i + 1) l else .tuple #[] :: keepT (k :: ks) (i + 1) l := opq rfl
attribute [simp] keepS_mk keepT_nil keepT_none keepT_some

theorem wrap_of (n : Int) (h1 : -9223372036854775808 ≤ n) (h2 : n < 9223372036854775808) : IntKind.i64.wrap n = n := by
  rw [IntKind.wrap_i64]; omega
theorem wrap_succ {n : Nat} (h : n < 9223372036854775807) : IntKind.i64.wrap ((n : Int) + 1) = ((n + 1 : Nat) : Int) := by
  rw [wrap_of _ (by omega) (by omega)]; omega
theorem wrap_nat {n : Nat} (h : n < 9223372036854775808) : IntKind.i64.wrap (n : Int) = n := wrap_of _ (by omega) (by omega)

/-! ### Slices that stand for lists -/
/-- How a thing of type α lies in a heap: its cells and the blocks that it holds. -/
abbrev RepT (α : Type) := Heap → α → List Value → List Nat → Prop

class Rp {α : Type} (R : RepT α) (sz : outParam Nat) : Prop where
  fr : ∀ {H H' : Heap} {x : α} {c : List Value} {F : List Nat}, R H x c F → (∀ i ∈ F, H'[i]? = H[i]?) → R H' x c F
  lt : ∀ {H : Heap} {x : α} {c : List Value} {F : List Nat}, R H x c F → ∀ i ∈ F, i < H.length
  one : ∀ {H : Heap} {x : α} {c : List Value} {F : List Nat}, R H x c F → ones c = true
  len : ∀ {H : Heap} {x : α} {c : List Value} {F : List Nat}, R H x c F → c.length = sz

/-- A thing without blocks. -/
def flatR {α : Type} (f : α → List Value) (ok : α → Prop) : RepT α := fun _ x c F => c = f x ∧ F = [] ∧ ok x
theorem Rp.flat {α : Type} {f : α → List Value} {ok : α → Prop} {sz : Nat} (h1 : ∀ x, ones (f x) = true) (h2 : ∀ x, (f x).length = sz) : Rp (flatR f ok) sz where
  fr := fun ⟨a, b, c⟩ _ => ⟨a, b, c⟩
  lt := by rintro H x c F ⟨rfl, rfl, _⟩ i hi; cases hi
  one := by rintro H x c F ⟨rfl, rfl, _⟩; exact h1 x
  len := by rintro H x c F ⟨rfl, rfl, _⟩; exact h2 x

/-- A list's members, one behind the other. -/
def RepL {α : Type} (R : RepT α) (H : Heap) : List α → List Value → List Nat → Prop
  | [], c, F => c = [] ∧ F = []
  | x :: l, c, F => ∃ c1 c2 F1 F2, c = c1 ++ c2 ∧ F = F1 ++ F2 ∧ R H x c1 F1 ∧ RepL R H l c2 F2

section
variable {α : Type} {R : RepT α} {H : Heap}
theorem RepL.append : ∀ {l l' : List α} {c c' : List Value} {F F' : List Nat}, RepL R H l c F → RepL R H l' c' F' → RepL R H (l ++ l') (c ++ c') (F ++ F')
  | [], _, _, _, _, _, ⟨rfl, rfl⟩, h' => h'
  | x :: l, _, _, _, _, _, ⟨c1, c2, F1, F2, rfl, rfl, h1, h2⟩, h' => ⟨c1, _, F1, _, List.append_assoc .., List.append_assoc .., h1, RepL.append h2 h'⟩
theorem RepL.single {x : α} {c : List Value} {F : List Nat} (h : R H x c F) : RepL R H [x] c F := ⟨c, [], F, [], by simp, by simp, h, rfl, rfl⟩
theorem RepL.split : ∀ {l l' : List α} {c : List Value} {F : List Nat}, RepL R H (l ++ l') c F → ∃ c1 c2 F1 F2, c = c1 ++ c2 ∧ F = F1 ++ F2 ∧ RepL R H l c1 F1 ∧ RepL R H l' c2 F2
  | [], l', c, F, h => ⟨[], c, [], F, rfl, rfl, ⟨rfl, rfl⟩, h⟩
  | x :: l, l', _, _, ⟨c1, c2, F1, F2, rfl, rfl, h1, h2⟩ => by
    obtain ⟨d1, d2, G1, G2, rfl, rfl, h3, h4⟩ := RepL.split h2
    exact ⟨c1 ++ d1, d2, F1 ++ G1, G2, by simp, by simp, ⟨c1, d1, F1, G1, rfl, rfl, h1, h3⟩, h4⟩
end

section
variable {α : Type} {R : RepT α} {sz : Nat} [hRp : Rp R sz] {H H' : Heap}
include hRp
theorem RepL.fr : ∀ {l : List α} {c : List Value} {F : List Nat}, RepL R H l c F → (∀ i ∈ F, H'[i]? = H[i]?) → RepL R H' l c F
  | [], _, _, h, _ => h
  | x :: l, _, _, ⟨c1, c2, F1, F2, rfl, rfl, h1, h2⟩, hf => ⟨c1, c2, F1, F2, rfl, rfl, hRp.fr h1 fun i hi => hf i (by simp [hi]), RepL.fr h2 fun i hi => hf i (by simp [hi])⟩
theorem RepL.lt : ∀ {l : List α} {c : List Value} {F : List Nat}, RepL R H l c F → ∀ i ∈ F, i < H.length
  | [], _, _, ⟨_, rfl⟩, i, hi => by cases hi
  | x :: l, _, _, ⟨c1, c2, F1, F2, rfl, rfl, h1, h2⟩, i, hi => by
    rcases List.mem_append.1 hi with hi | hi
    · exact hRp.lt h1 i hi
    · exact RepL.lt h2 i hi
theorem RepL.one : ∀ {l : List α} {c : List Value} {F : List Nat}, RepL R H l c F → ones c = true
  | [], _, _, ⟨rfl, _⟩ => rfl
  | x :: l, _, _, ⟨c1, c2, F1, F2, rfl, rfl, h1, h2⟩ => by rw [ones_append, hRp.one h1, RepL.one h2]; rfl
theorem RepL.len : ∀ {l : List α} {c : List Value} {F : List Nat}, RepL R H l c F → c.length = l.length * sz
  | [], _, _, ⟨rfl, _⟩ => by simp
  | x :: l, _, _, ⟨c1, c2, F1, F2, rfl, rfl, h1, h2⟩ => by
    have a := hRp.len h1
    have b := RepL.len h2
    simp only [List.length_append, List.length_cons, Nat.add_mul, Nat.one_mul]
    omega
/-- One member, and how to change it. -/
theorem RepL.at {l : List α} {c : List Value} {F : List Nat} (h : RepL R H l c F) (i : Nat) (hi : i < l.length) : ∃ c1 cs c2 F1 Fi F2, c = c1 ++ (cs ++ c2) ∧ F = F1 ++ (Fi ++ F2) ∧ c1.length = i * sz ∧ cs.length = sz ∧ R H l[i] cs Fi ∧
    RepL R H (l.take i) c1 F1 ∧ RepL R H (l.drop (i + 1)) c2 F2 := by
  have e : l = l.take i ++ ([l[i]] ++ l.drop (i + 1)) := by simp
  rw [e] at h
  obtain ⟨c1, c2, F1, F2, rfl, rfl, h1, h2⟩ := RepL.split h
  obtain ⟨cs, c3, Fi, F3, rfl, rfl, h3, h4⟩ := h2
  refine ⟨c1, cs, c3, F1, Fi, F3, rfl, rfl, ?_, hRp.len h3, by simpa using h3, h1, h4⟩
  rw [RepL.len h1, List.length_take, Nat.min_eq_left (by omega)]
end

/-- The cells of a block from one on. -/
def seg (c : Array Value) (off n : Nat) : List Value := (c.toList.drop off).take n

theorem seg_get {c : Array Value} {off n i : Nat} (h : i < n) : (seg c off n)[i]? = c[off + i]? := by
  simp [seg, List.getElem?_take, h]
theorem seg_length {c : Array Value} {off n : Nat} (h : off + n ≤ c.size) : (seg c off n).length = n := by simp [seg]; omega
theorem extract_seg (c : Array Value) (off n : Nat) : c.extract off (off + n) = (seg c off n).toArray := by
  apply Array.ext'
  simp [seg, List.extract]

/-- A slice that stands for a list; `own`: it may be written. -/
def SlR {α : Type} (own : Bool) (sz : Nat) (R : RepT α) : RepT (List α) := fun H l cs F =>
  l.length ≤ 140737488355328 ∧ ∃ s, cs = [s] ∧
    ((l = [] ∧ F = [] ∧ (s = .slice none 0 0 ∨ (own = false ∧ s = hollowV) ∨ (own = false ∧ s = zeroV))) ∨
     ∃ id off c e f o G, s = .slice (some ⟨id, off, none⟩) l.length sz ∧ H[id]? = some ⟨.cells c e f, true, o⟩ ∧ (own = true → o = true) ∧ F = id :: G ∧ off + l.length * sz ≤ c.size ∧ RepL R H l (seg c off (l.length * sz)) G)

section
variable {α : Type} {R : RepT α} {sz : Nat} {H H' : Heap} {own : Bool} {l : List α} {s : Value} {cs : List Value} {F : List Nat}
theorem SlR.bound (h : SlR own sz R H l cs F) : l.length ≤ 140737488355328 := h.1
theorem SlR.nil : SlR own sz R H [] [.slice none 0 0] [] := ⟨by simp, _, rfl, .inl ⟨rfl, rfl, .inl rfl⟩⟩
theorem SlR.weak (h : SlR own sz R H l cs F) : SlR false sz R H l cs F := by
  obtain ⟨hl, s, rfl, h⟩ := h
  refine ⟨hl, s, rfl, ?_⟩
  rcases h with ⟨h1, h2, h3⟩ | ⟨id, off, c, e, f, o, G, rfl, hb, ho, rfl, hle, hr⟩
  · exact .inl ⟨h1, h2, h3.imp id (fun h => h.imp (fun h => ⟨rfl, h.2⟩) (fun h => ⟨rfl, h.2⟩))⟩
  · exact .inr ⟨id, off, c, e, f, o, G, rfl, hb, (by simp), rfl, hle, hr⟩
/-- Its length. -/
theorem SlR.form (h : SlR own sz R H l [s] F) : ∃ a z, s = .slice a l.length z := by
  obtain ⟨hl, s', hs, h⟩ := h
  obtain rfl : s = s' := by simpa using hs
  rcases h with ⟨rfl, _, rfl | ⟨_, rfl⟩ | ⟨_, rfl⟩⟩ | ⟨id, off, c, e, f, o, G, rfl, hb, ho, rfl, hle, hr⟩
  · exact ⟨_, _, rfl⟩
  · exact ⟨_, _, rfl⟩
  · exact ⟨_, _, rfl⟩
  · exact ⟨_, _, rfl⟩
theorem SlR.known (h : SlR own sz R H l [s] F) : Am.known s = true := by
  obtain ⟨a, z, rfl⟩ := h.form
  rfl
theorem SlR.cells (h : SlR own sz R H l [s] F) : s.cells = #[s] := by
  obtain ⟨a, z, rfl⟩ := h.form
  rfl
end

section
variable {α : Type} {R : RepT α} {sz : Nat} [hRp : Rp R sz] {H H' : Heap} {own : Bool} {l : List α} {s : Value} {cs : List Value} {F : List Nat}
instance SlR.rp : Rp (SlR own sz R) 1 where
  fr := by
    rintro H H' l cs F ⟨hl, s, rfl, h⟩ hf
    refine ⟨hl, s, rfl, ?_⟩
    rcases h with h | ⟨id, off, c, e, f, o, G, rfl, hb, ho, rfl, hle, hr⟩
    · exact .inl h
    · exact .inr ⟨id, off, c, e, f, o, G, rfl, (hf id (by simp)).trans hb, ho, rfl, hle, hr.fr fun i hi => hf i (by simp [hi])⟩
  lt := by
    rintro H l cs F ⟨hl, s, rfl, h⟩ i hi
    rcases h with ⟨_, rfl, _⟩ | ⟨id, off, c, e, f, o, G, rfl, hb, ho, rfl, hle, hr⟩
    · cases hi
    · rcases List.mem_cons.1 hi with rfl | hi
      · exact (List.getElem?_eq_some_iff.1 hb).1
      · exact hr.lt i hi
  one := by
    rintro H l cs F ⟨hl, s, rfl, h⟩
    rcases h with ⟨_, _, rfl | ⟨_, rfl⟩ | ⟨_, rfl⟩⟩ | ⟨id, off, c, e, f, o, G, rfl, hb, ho, rfl, hle, hr⟩ <;> rfl
  len := by rintro H l cs F ⟨hl, s, rfl, h⟩; rfl

/-- One element: where it lies, its cells. -/
structure Elt (R : RepT α) (sz : Nat) (own : Bool) (H : Heap) (l : List α) (s : Value) (F : List Nat) (i : Nat) (x : α) (id o : Nat) (c : Array Value) (e : TypeId) (f : Nat × Nat) (ow : Bool) (cs : List Value) (Fi : List Nat) : Prop where
  blk : H[id]? = some ⟨.cells c e f, true, ow⟩
  lt : id < H.length
  idx : ∀ (P : Program) (et : TypeId) (k : IntKind), szT P et = some sz → indexAddrZ P (some (.slice et)) s (.int k (i : Int)) = some (.pointer (some ⟨id, o, none⟩))
  le : o + sz ≤ c.size
  ext : c.extract o (o + sz) = cs.toArray
  cell : ∀ j, j < sz → c[o + j]? = cs[j]?
  cell0 : 0 < sz → c[o]? = cs[0]?
  rep : R H x cs Fi
  len : cs.length = sz
  sub : ∀ j ∈ Fi, j ∈ F
  mem : id ∈ F
  own' : own = true → ow = true
  put : F.Nodup → ow = true → ∀ (c' : Array Value) (x' : α) (cs' : List Value), c'.size = c.size → cs'.length = sz → (∀ j, j < sz → c'[o + j]? = cs'[j]?) → (∀ k, k < o ∨ o + sz ≤ k → c'[k]? = c[k]?) →
    R H x' cs' Fi → SlR own sz R (H.set id ⟨.cells c' e f, true, ow⟩) (l.set i x') [s] F
  upd : F.Nodup → (own = true → ow = true) → ∀ (H' : Heap) (c' : Array Value) (x' : α) (cs' : List Value) (Fi' : List Nat), H'[id]? = some ⟨.cells c' e f, true, ow⟩ → c'.size = c.size → cs'.length = sz → (∀ j, j < sz → c'[o + j]? = cs'[j]?) →
    (∀ k, k < o ∨ o + sz ≤ k → c'[k]? = c[k]?) → R H' x' cs' Fi' → (∀ j ∈ F, j ≠ id → j ∉ Fi → H'[j]? = H[j]?) →
    ∃ F', SlR own sz R H' (l.set i x') [s] F' ∧ (Fi' = Fi → F' = F) ∧ (∀ j ∈ F', j ∈ F ∨ j ∈ Fi') ∧ (Fi'.Nodup → (∀ j ∈ Fi', j ∈ F → j ∈ Fi) → F'.Nodup) ∧ id ∈ F' ∧ (∀ j ∈ Fi', j ∈ F') ∧ F'.head? = F.head?
  notin : F.Nodup → id ∉ Fi
  head : F.head? = some id
  ndi : F.Nodup → Fi.Nodup

theorem goB_of {H : Heap} {id : Nat} {b : Blk} (h : H[id]? = some b) (k : Blk → Prop) : goB H id k = k b := by simp only [goB, h]
theorem Elt.goB {R : RepT α} {l : List α} {s : Value} {F : List Nat} {i : Nat} {x : α} {id o : Nat} {c : Array Value} {e : TypeId} {f : Nat × Nat} {ow : Bool} {cs : List Value} {Fi : List Nat}
    (h : Elt R sz own H l s F i x id o c e f ow cs Fi) (k : Blk → Prop) : Am.goB H id k = k ⟨.cells c e f, true, ow⟩ := goB_of h.blk k

theorem seg_of {c : Array Value} {off n : Nat} {a b d : List Value} (h : seg c off n = a ++ (b ++ d)) (hn : off + n ≤ c.size) : seg c (off + a.length) b.length = b ∧ off + a.length + b.length ≤ c.size := by
  have hl := congrArg List.length h
  rw [seg_length hn] at hl
  simp only [List.length_append] at hl
  refine ⟨?_, by omega⟩
  apply List.ext_getElem?
  intro i
  by_cases hi : i < b.length
  · rw [seg_get hi, Nat.add_assoc, ← seg_get (show a.length + i < n by omega), h, List.getElem?_append_right (by omega), List.getElem?_append_left (by omega)]
    congr 1; omega
  · rw [List.getElem?_eq_none (by rw [seg_length (by omega)]; omega), List.getElem?_eq_none (by omega)]

theorem SlR.get (h : SlR own sz R H l [s] F) (i : Nat) (hi : i < l.length) : ∃ id o c e f ow cs Fi, Elt R sz own H l s F i l[i] id o c e f ow cs Fi := by
  have h0 := h
  obtain ⟨hl, s', hs, h⟩ := h
  obtain rfl : s = s' := by simpa using hs
  rcases h with ⟨rfl, _⟩ | ⟨id, off, c, e, f, o, G, rfl, hb, ho, rfl, hle, hr⟩
  · simp at hi
  · obtain ⟨c1, cs, c2, F1, Fi, F2, hc, rfl, hc1, hcs, hR, hr1, hr2⟩ := hr.at i hi
    obtain ⟨h1, h2⟩ := seg_of hc hle
    rw [hc1, hcs] at h1 h2
    refine ⟨id, off + i * sz, c, e, f, o, cs, Fi, hb, (List.getElem?_eq_some_iff.1 hb).1, fun P et k hk => ?_, h2, ?_, fun j hj => ?_, fun hj => ?_, hR, hcs, fun j hj => ?_, by simp, ho, ?_, ?_, fun hnd hi => (List.nodup_cons.1 hnd).1 (by simp [hi]), rfl, fun hnd => (List.nodup_append.1 (List.nodup_append.1 (List.nodup_cons.1 hnd).2).2.1).1⟩
    · rw [indexAddrZ_slice hk (by omega) (by omega)]
      simp
    · rw [extract_seg, h1]
    · rw [← seg_get hj, h1]
    · have := seg_get (c := c) (off := off + i * sz) hj
      rw [h1] at this
      exact this.symm
    · simp [hj]
    · intro hnd how c' x' cs' hsz hcs' hcell hout hR'
      have hlt := (List.getElem?_eq_some_iff.1 hb).1
      have hid : id ∉ F1 ++ (Fi ++ F2) := (List.nodup_cons.1 hnd).1
      have hfr : ∀ j ∈ F1 ++ (Fi ++ F2), (H.set id ⟨.cells c' e f, true, o⟩)[j]? = H[j]? := fun j hj => by
        rw [List.getElem?_set_ne]
        rintro rfl
        exact hid hj
      refine ⟨by simpa using hl, _, rfl, .inr ⟨id, off, c', e, f, o, F1 ++ (Fi ++ F2), by simp, by rw [List.getElem?_set_self hlt], ho, rfl, by rw [List.length_set, hsz]; exact hle, ?_⟩⟩
      have e1 : l.set i x' = l.take i ++ ([x'] ++ l.drop (i + 1)) := by
        rw [List.set_eq_take_append_cons_drop]
        simp [hi]
      have e2 : seg c' off ((l.set i x').length * sz) = c1 ++ (cs' ++ c2) := by
        rw [List.length_set]
        have hl2 := congrArg List.length hc
        rw [seg_length hle] at hl2
        simp only [List.length_append, hc1, hcs] at hl2
        apply List.ext_getElem?
        intro k
        by_cases hk : k < l.length * sz
        · rw [seg_get hk]
          by_cases hk1 : k < i * sz
          · rw [hout _ (.inl (by omega)), ← seg_get hk, hc, List.getElem?_append_left (by omega), List.getElem?_append_left (by omega)]
          · by_cases hk2 : k < i * sz + sz
            · have := hcell (k - i * sz) (by omega)
              rw [show off + i * sz + (k - i * sz) = off + k by omega] at this
              rw [this, List.getElem?_append_right (by omega), hc1, List.getElem?_append_left (by omega)]
            · rw [hout _ (.inr (by omega)), ← seg_get hk, hc, List.getElem?_append_right (by omega), List.getElem?_append_right (by omega), List.getElem?_append_right (by omega), List.getElem?_append_right (by omega), hcs, hcs']
        · rw [List.getElem?_eq_none (by rw [seg_length (by omega)]; omega), List.getElem?_eq_none (by simp only [List.length_append, hc1, hcs']; omega)]
      rw [e1] at e2 ⊢
      rw [e2]
      exact (hr1.fr fun j hj => hfr j (by simp [hj])).append (RepL.append (RepL.single (hRp.fr hR' fun j hj => hfr j (by simp [hj]))) (hr2.fr fun j hj => hfr j (by simp [hj])))
    · intro hnd how H' c' x' cs' Fi' hb' hsz hcs' hcell hout hR' hfr0
      have hlt := (List.getElem?_eq_some_iff.1 hb).1
      have hid : id ∉ F1 ++ (Fi ++ F2) := (List.nodup_cons.1 hnd).1
      have hnd2 := (List.nodup_cons.1 hnd).2
      have hn1 := List.nodup_append.1 hnd2
      have hn2 := List.nodup_append.1 hn1.2.1
      have hfr1 : ∀ j ∈ F1, H'[j]? = H[j]? := fun j hj => hfr0 j (by simp [hj]) (by rintro rfl; exact hid (by simp [hj])) (fun hji => hn1.2.2 j hj j (by simp [hji]) rfl)
      have hfr2 : ∀ j ∈ F2, H'[j]? = H[j]? := fun j hj => hfr0 j (by simp [hj]) (by rintro rfl; exact hid (by simp [hj])) (fun hji => hn2.2.2 j hji j hj rfl)
      refine ⟨id :: (F1 ++ (Fi' ++ F2)), ⟨by simpa using hl, _, rfl, .inr ⟨id, off, c', e, f, o, F1 ++ (Fi' ++ F2), by simp, hb', ho, rfl, by rw [List.length_set, hsz]; exact hle, ?_⟩⟩, fun he => by rw [he], fun j hj => ?_, fun hnf hin => ?_, by simp, fun j hj => by simp [hj], rfl⟩
      rotate_left
      · simp only [List.mem_cons, List.mem_append] at hj ⊢
        rcases hj with h | h | h | h <;> simp [h]
      · refine List.nodup_cons.2 ⟨fun hm => ?_, List.nodup_append.2 ⟨hn1.1, List.nodup_append.2 ⟨hnf, hn2.2.1, fun a ha b hb' hab => ?_⟩, fun a ha b hb' hab => ?_⟩⟩
        · simp only [List.mem_append] at hm
          rcases hm with h | h | h
          · exact hid (by simp [h])
          · exact hid (by simp [hin id h (by simp)])
          · exact hid (by simp [h])
        · subst hab
          exact hn2.2.2 a (hin a ha (by simp [hb'])) a hb' rfl
        · subst hab
          rcases List.mem_append.1 hb' with h | h
          · exact hn1.2.2 a ha a (by simp [hin a h (by simp [ha])]) rfl
          · exact hn1.2.2 a ha a (by simp [h]) rfl
      have e1 : l.set i x' = l.take i ++ ([x'] ++ l.drop (i + 1)) := by
        rw [List.set_eq_take_append_cons_drop]
        simp [hi]
      have e2 : seg c' off ((l.set i x').length * sz) = c1 ++ (cs' ++ c2) := by
        rw [List.length_set]
        have hl2 := congrArg List.length hc
        rw [seg_length hle] at hl2
        simp only [List.length_append, hc1, hcs] at hl2
        apply List.ext_getElem?
        intro k
        by_cases hk : k < l.length * sz
        · rw [seg_get hk]
          by_cases hk1 : k < i * sz
          · rw [hout _ (.inl (by omega)), ← seg_get hk, hc, List.getElem?_append_left (by omega), List.getElem?_append_left (by omega)]
          · by_cases hk2 : k < i * sz + sz
            · have := hcell (k - i * sz) (by omega)
              rw [show off + i * sz + (k - i * sz) = off + k by omega] at this
              rw [this, List.getElem?_append_right (by omega), hc1, List.getElem?_append_left (by omega)]
            · rw [hout _ (.inr (by omega)), ← seg_get hk, hc, List.getElem?_append_right (by omega), List.getElem?_append_right (by omega), List.getElem?_append_right (by omega), List.getElem?_append_right (by omega), hcs, hcs']
        · rw [List.getElem?_eq_none (by rw [seg_length (by omega)]; omega), List.getElem?_eq_none (by simp only [List.length_append, hc1, hcs']; omega)]
      rw [e1] at e2 ⊢
      rw [e2]
      exact (hr1.fr hfr1).append (RepL.append (RepL.single hR') (hr2.fr hfr2))
end

theorem get_ext {S T : Heap} {i : Nat} (h : i < S.length) : (S ++ T)[i]? = S[i]? := List.getElem?_append_left h

/-- A heap that holds all that another one holds. -/
def Ext (S S' : Heap) : Prop := ∀ i, i < S.length → S'[i]? = S[i]?
theorem Ext.refl (S : Heap) : Ext S S := fun _ _ => rfl
theorem Ext.le {S S' : Heap} (h : Ext S S') : S.length ≤ S'.length := by
  rcases Nat.lt_or_ge S'.length S.length with hlt | hge
  · have := h S'.length hlt
    rw [List.getElem?_eq_none (Nat.le_refl _), List.getElem?_eq_getElem hlt] at this
    cases this
  · exact hge
theorem Ext.trans {S S' S'' : Heap} (h : Ext S S') (h' : Ext S' S'') : Ext S S'' := fun i hi => (h' i (Nat.lt_of_lt_of_le hi h.le)).trans (h i hi)
theorem Ext.of {S S' : Heap} (h : S <+: S') : Ext S S' := by
  obtain ⟨t, rfl⟩ := h
  exact fun _ hi => get_ext hi
theorem Ext.app (S T : Heap) : Ext S (S ++ T) := fun _ hi => get_ext hi
theorem Ext.set {S S' : Heap} (h : Ext S S') {i : Nat} (hi : S.length ≤ i) (b : Blk) : Ext S (S'.set i b) := fun j hj => by
  rw [List.getElem?_set_ne (by omega)]
  exact h j hj
theorem Ext.toPre {S S' : Heap} (h : Ext S S') : S <+: S' := by
  refine ⟨S'.drop S.length, ?_⟩
  apply List.ext_getElem?
  intro i
  by_cases hi : i < S.length
  · rw [List.getElem?_append_left hi, h i hi]
  · rw [List.getElem?_append_right (by omega), List.getElem?_drop]
    congr 1; omega
theorem Ext.split {S S' : Heap} (h : Ext S S') : ∃ G, S' = S ++ G := by
  obtain ⟨G, hG⟩ := h.toPre
  exact ⟨G, hG.symm⟩
theorem Rp.ext {α : Type} {R : RepT α} {sz : Nat} [hRp : Rp R sz] {H H' : Heap} {x : α} {c : List Value} {F : List Nat} (h : R H x c F) (he : Ext H H') : R H' x c F :=
  hRp.fr h fun i hi => he i (hRp.lt h i hi)

theorem Ext_app {S T : Heap} : Ext S (S ++ T) = True := eq_true (Ext.app S T)
theorem Ext_refl {S : Heap} : Ext S S = True := eq_true (Ext.refl S)
theorem Ext_of {S S' T : Heap} (h : Ext S S') : Ext S (S' ++ T) = True := eq_true (h.trans (Ext.app _ _))
attribute [simp] Ext_app Ext_refl Ext_of
/-- An answer without addresses, and the caller's blocks as they were: the call leaves nothing. -/
theorem AC.flat {P : Program} {ng : Nat} {f : FuncId} {args : List Value} {S : Heap} {Q : Value → Prop} (h : AC P ng f args S fun v S' => Q v ∧ flatT v = true ∧ Ext S S') : AC P ng f args S fun v S' => Q v ∧ S' = S :=
  AC.gc (h.mono fun v S' ⟨a, b, c⟩ => ⟨a, b, c.toPre⟩)

theorem flatT_int {k : IntKind} {n : Int} : flatT (.int k n) = true := opq rfl
theorem flatT_bool {b : Bool} : flatT (.bool b) = true := opq rfl
theorem flatT_str {s : ByteArray} : flatT (.string s) = true := opq rfl
theorem flatT_agg {l : List Value} : flatT (.agg l.toArray) = l.all flat0 := by simp [flatT, flat]
theorem flatT_nils : flatT (.slice none 0 0) = true := opq rfl
theorem flatT_nilp : flatT (.pointer none) = true := opq rfl
theorem flatT_nilm : flatT (.map none) = true := opq rfl
theorem flatT_nilf : flatT .nilFunc = true := opq rfl
theorem flatT_nili : flatT .nilIface = true := opq rfl
attribute [simp] flatT_tuple flatT_int flatT_bool flatT_str flatT_agg flatT_nils flatT_nilp flatT_nilm flatT_nilf flatT_nili

end Go.Am
