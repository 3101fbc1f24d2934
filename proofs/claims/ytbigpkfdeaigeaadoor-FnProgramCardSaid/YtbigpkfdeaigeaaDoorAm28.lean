/- One cell of an element; what the elements of a slice hold. No condition. -/
import Derived.Test.YtbigpkfdeaigeaaDoorAm26
namespace Go.Am
open Go
set_option linter.unusedSimpArgs false
set_option linter.unusedVariables false

section
variable {α : Type} {R : RepT α} {sz : Nat} {H : Heap} {own : Bool} {l : List α} {s : Value} {F : List Nat} {i : Nat} {x : α} {id o : Nat} {c : Array Value} {e : TypeId} {f : Nat × Nat} {ow : Bool} {cs : List Value} {Fi : List Nat}
/-- One cell of an element written. -/
theorem Elt.set1 (E : Elt R sz own H l s F i x id o c e f ow cs Fi) (hn : F.Nodup) (how : ow = true) {k : Nat} (hk : k < sz) {v : Value} {x' : α} (hR : R H x' (cs.set k v) Fi) :
    SlR own sz R (H.set id ⟨.cells (setL c (o + k) [v]) e f, true, ow⟩) (l.set i x') [s] F := by
  have hle := E.le
  have hlen := E.len
  refine E.put hn how _ x' (cs.set k v) (setL_size _ _ _) (by simp [hlen]) (fun j hj => ?_) (fun q hq => ?_) hR
  · rw [setL_get _ _ _ _ (by simp; omega), List.getElem?_set]
    by_cases h : k = j
    · subst h
      simp [hlen, hk]
    · rw [if_neg (by simp; omega), if_neg h, E.cell j hj]
  · rw [setL_get _ _ _ _ (by simp; omega), if_neg (by simp; omega)]
end
section
variable {α : Type} {R : RepT α} {sz : Nat} [hRp : Rp R sz] {H : Heap}
include hRp
theorem RepL.parts : ∀ {l : List α} {c : List Value} {F : List Nat}, RepL R H l c F → ∃ Fs : List (List Nat), Fs.length = l.length ∧ F = Fs.flatten ∧
    ∀ i (hi : i < l.length), ∃ c1 cs c2, c = c1 ++ (cs ++ c2) ∧ c1.length = i * sz ∧ cs.length = sz ∧ R H l[i] cs (Fs.getD i [])
  | [], _, _, ⟨rfl, rfl⟩ => ⟨[], rfl, rfl, fun i hi => by simp at hi⟩
  | x :: l, _, _, ⟨c1, c2, F1, F2, rfl, rfl, h1, h2⟩ => by
    obtain ⟨Fs, g1, rfl, g3⟩ := RepL.parts h2
    refine ⟨F1 :: Fs, by simp [g1], by simp, fun i hi => ?_⟩
    cases i with
    | zero => exact ⟨[], c1, c2, rfl, by simp, hRp.len h1, h1⟩
    | succ i =>
      obtain ⟨d1, cs, d2, rfl, e1, e2, e3⟩ := g3 i (by simpa using hi)
      exact ⟨c1 ++ d1, cs, d2, by simp, by simp only [List.length_append, hRp.len h1, e1, Nat.add_mul, Nat.one_mul]; omega, e2, e3⟩
omit hRp in
theorem flatten_mem {Fs : List (List Nat)} {i j : Nat} (h : j ∈ Fs.getD i []) : j ∈ Fs.flatten := by
  rcases Nat.lt_or_ge i Fs.length with hi | hi
  · rw [List.getD_eq_getElem?_getD, List.getElem?_eq_getElem hi] at h
    exact List.mem_flatten.2 ⟨_, List.getElem_mem hi, h⟩
  · rw [List.getD_eq_getElem?_getD, List.getElem?_eq_none hi] at h
    cases h
omit hRp in
theorem flatten_disj : ∀ {Fs : List (List Nat)}, Fs.flatten.Nodup → ∀ {i j k : Nat}, i ≠ j → k ∈ Fs.getD i [] → k ∉ Fs.getD j []
  | [], _, i, j, k, _, h => by simp at h
  | F :: Fs, hn, i, j, k, hij, h => by
    rw [List.flatten_cons, List.nodup_append] at hn
    obtain ⟨n1, n2, n3⟩ := hn
    cases i with
    | zero =>
      cases j with
      | zero => exact absurd rfl hij
      | succ j => exact fun h' => n3 k h k (flatten_mem (i := j) (by simpa using h')) rfl
    | succ i =>
      cases j with
      | zero => exact fun h' => n3 k h' k (flatten_mem (i := i) (by simpa using h)) rfl
      | succ j =>
        have := flatten_disj n2 (i := i) (j := j) (k := k) (by omega) (by simpa using h)
        simpa using this
omit hRp in
theorem flatten_nd : ∀ {Fs : List (List Nat)}, Fs.flatten.Nodup → ∀ i, (Fs.getD i []).Nodup
  | [], _, i => by simp
  | F :: Fs, hn, i => by
    rw [List.flatten_cons, List.nodup_append] at hn
    cases i with
    | zero => exact hn.1
    | succ i => simpa using flatten_nd hn.2.1 i
/-- The elements of a slice, and the blocks of each. -/
theorem SlR.parts {own : Bool} {l : List α} {s : Value} {F : List Nat} (h : SlR own sz R H l [s] F) (h0 : l ≠ []) (hn : F.Nodup) : ∃ id o c e f ow, ∃ Fs : Nat → List Nat,
    H[id]? = some ⟨.cells c e f, true, ow⟩ ∧ id ∈ F ∧
    (∀ i (hi : i < l.length), (∀ (P : Program) (et : TypeId) (k : IntKind), szT P et = some sz → indexAddrZ P (some (.slice et)) s (.int k (i : Int)) = some (.pointer (some ⟨id, o + i * sz, none⟩))) ∧ o + i * sz + sz ≤ c.size ∧
      ∃ cs, c.extract (o + i * sz) (o + i * sz + sz) = cs.toArray ∧ R H l[i] cs (Fs i)) ∧
    (∀ i, (Fs i).Nodup ∧ id ∉ Fs i ∧ (∀ j ∈ Fs i, j ∈ F) ∧ ∀ j, i ≠ j → ∀ k ∈ Fs i, k ∉ Fs j) := by
  obtain ⟨hl, s', hs, h⟩ := h
  obtain rfl : s = s' := by simpa using hs
  rcases h with ⟨rfl, _⟩ | ⟨id, off, c, e, f, o, G, rfl, hb, ho, rfl, hle, hr⟩
  · exact absurd rfl h0
  · obtain ⟨Fs, g1, rfl, g3⟩ := hr.parts
    have hn' := List.nodup_cons.1 hn
    refine ⟨id, off, c, e, f, o, fun i => Fs.getD i [], hb, by simp, fun i hi => ⟨fun P et k hk => ?_, ?_, ?_⟩, fun i => ⟨flatten_nd hn'.2 i, fun h' => hn'.1 (flatten_mem h'), fun j hj => by simp [flatten_mem hj], fun j hij k hk => flatten_disj hn'.2 hij hk⟩⟩
    · rw [indexAddrZ_slice hk (by omega) (by omega)]
      simp
    · have := Nat.mul_le_mul_right sz (show i + 1 ≤ l.length from hi)
      rw [Nat.add_mul, Nat.one_mul] at this
      omega
    · obtain ⟨c1, cs, c2, hc, e1, e2, e3⟩ := g3 i hi
      obtain ⟨q1, q2⟩ := seg_of hc hle
      rw [e1, e2] at q1
      exact ⟨cs, by rw [extract_seg, q1], e3⟩
end
end Go.Am
