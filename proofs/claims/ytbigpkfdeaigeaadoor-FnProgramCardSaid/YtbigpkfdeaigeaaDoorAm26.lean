/- Appending to what one holds. No condition. -/
import Derived.Test.YtbigpkfdeaigeaaDoorAm25
namespace Go.Am
open Go
set_option linter.unusedSimpArgs false
set_option linter.unusedVariables false

variable {P : Program} {ng n : Nat}

theorem goB_app {H T : Heap} {i : Nat} {b : Blk} (h : H[i]? = some b) (q : Blk → Prop) : goB (H ++ T) i q = q b := goB_of ((get_ext (List.getElem?_eq_some_iff.1 h).1).trans h) q
/-- A call in a heap under a name. -/
theorem CallK.gen {f : FuncId} {args : List Value} {hp : Heap} {tm : List Value} {d : Option Nat} {k : St → Prop} (h : ∀ K, K = hp → CallK P ng f args K tm d k) : CallK P ng f args hp tm d k := h hp rfl
/-! ### Is a slice nil? -/
section
variable {t e : TypeId} {x y : Operand} {id off m sz : Nat}
end
/-- Two forms of what one holds. -/
theorem SlR.cases {α : Type} {R : RepT α} {sz : Nat} {H : Heap} {l : List α} {s : Value} {F : List Nat} (h : SlR true sz R H l [s] F) : (s = .slice none 0 0 ∧ l = [] ∧ F = []) ∨ ∃ id off, s = .slice (some ⟨id, off, none⟩) l.length sz := by
  obtain ⟨_, s', hs, h⟩ := h
  obtain rfl : s = s' := by simpa using hs
  rcases h with ⟨h1, h2, h3 | ⟨h0, _⟩ | ⟨h0, _⟩⟩ | ⟨id, off, c, e, f, o, G, h1, _⟩
  · exact .inl ⟨h3, h1, h2⟩
  · cases h0
  · cases h0
  · exact .inr ⟨id, off, h1⟩
/-- Blocks that were not there. -/
def Fresh (n : Nat) (F : List Nat) : Prop := (∀ i ∈ F, n ≤ i) ∧ F.Nodup
theorem Fresh.nil (n : Nat) : Fresh n [] := ⟨by simp, List.nodup_nil⟩
theorem Fresh.one {n i : Nat} (h : n ≤ i) : Fresh n [i] := ⟨by simpa using h, by simp⟩
theorem Fresh.weak {n m : Nat} {F : List Nat} (h : Fresh m F) (hn : n ≤ m) : Fresh n F := ⟨fun i hi => Nat.le_trans hn (h.1 i hi), h.2⟩
theorem Fresh.app {n : Nat} {F G : List Nat} (h : Fresh n F) (h' : Fresh n G) (hd : ∀ j ∈ F, j ∉ G) : Fresh n (F ++ G) :=
  ⟨fun i hi => (List.mem_append.1 hi).elim (h.1 i) (h'.1 i), List.nodup_append.2 ⟨h.2, h'.2, fun a ha b hb hab => hd a ha (hab ▸ hb)⟩⟩

theorem RepL.flatF {α : Type} {f : α → List Value} {ok : α → Prop} {H : Heap} : ∀ {l : List α} {c : List Value} {F : List Nat}, RepL (flatR f ok) H l c F → F = []
  | [], _, _, ⟨_, h⟩ => h
  | _ :: _, _, _, ⟨_, _, _, _, _, rfl, ⟨_, rfl, _⟩, h⟩ => by rw [RepL.flatF h]; rfl
theorem SlR.flatF {α : Type} {f : α → List Value} {ok : α → Prop} {own : Bool} {sz : Nat} {H : Heap} {l : List α} {c : List Value} {F : List Nat} (h : SlR own sz (flatR f ok) H l c F) : F.tail = [] := by
  obtain ⟨_, s, rfl, h⟩ := h
  rcases h with ⟨_, rfl, _⟩ | ⟨_, _, _, _, _, _, G, _, _, _, rfl, _, hr⟩
  · rfl
  · exact hr.flatF
section
variable {α : Type} {R : RepT α} {sz : Nat} [hRp : Rp R sz] {H : Heap} {l l2 : List α} {s s2 : Value} {F F2 : List Nat}
/-- An empty slice that was built. -/
theorem SlR.mt {j : Nat} {e : TypeId} {f : Nat × Nat} (hb : H[j]? = some ⟨.cells #[] e f, true, true⟩) : SlR true sz R H [] [.slice (some ⟨j, 0, none⟩) 0 sz] [j] :=
  SlR.lit (l := []) (c := []) (G := []) hb ⟨rfl, rfl⟩ (by simp) (fun _ => rfl)
/-- One more. -/
theorem AppK.one {t tx e e2 : TypeId} {b j base : Nat} {x : α} {cx : List Value} {Fx : List Nat} {ex : TypeId} {fx : Nat × Nat} {ox : Bool} {tm : List Value} {d : Option Nat} {k : St → Prop}
    (ht : SlT P t e sz b) (htx : P.underlying tx = some (.slice e2)) (hs : SlR true sz R H l [s] F) (hf : Fresh base F) (hj : H[j]? = some ⟨.cells cx.toArray ex fx, true, ox⟩) (hx : R H x cx Fx) (hfx : Fresh base Fx) (hd : ∀ j ∈ Fx, j ∉ F) (hbl : base ≤ H.length)
    (hfit : (2 * (l.length + 1) + 192) * b ≤ 281474976710656) (hb : 1 ≤ b)
    (hk : ∀ s' H' F', SlR true sz R H' (l ++ [x]) [s'] F' → Fresh base F' → H.length ≤ H'.length → (∀ j, j < H.length → j ∉ F → H'[j]? = H[j]?) → (∀ j ∈ F', j ∈ F ∨ j ∈ Fx ∨ H.length ≤ j) → normT (putT tm d s') H' k) :
    AppK P t tx s (.slice (some ⟨j, 0, none⟩) 1 sz) H tm d k := by
  obtain ⟨s', H', q1, q2, q3, q4⟩ := SlR.append1 ht htx hs hj hx (fun id hid => by
    cases F with
    | nil => cases hid
    | cons a F0 =>
      obtain rfl : a = id := by simpa using hid
      exact ⟨(List.nodup_cons.1 hf.2).1, fun h => hd a h (by simp)⟩) hfit hb
  have htl : ∀ i ∈ F.tail, i ∈ F := fun i hi => List.mem_of_mem_tail hi
  refine AppK.of q1 (hk s' H' _ q2 ⟨fun i hi => ?_, List.nodup_cons.2 ⟨fun hm => ?_, List.nodup_append.2 ⟨hf.2.tail, hfx.2, fun a ha b' hb' hab => hd b' hb' (hab ▸ htl a ha)⟩⟩⟩ (by omega) (fun j hj hn => q4 j hj fun hh => hn ?_) fun i hi => ?_)
  · rcases List.mem_cons.1 hi with rfl | hi
    · exact hbl
    · rcases List.mem_append.1 hi with hi | hi
      · exact hf.1 i (htl i hi)
      · exact hfx.1 i hi
  · rcases List.mem_append.1 hm with h | h
    · have := Rp.lt hs _ (htl _ h); omega
    · have := Rp.lt hx _ h; omega
  · cases F with
    | nil => cases hh
    | cons a F0 =>
      obtain rfl : a = j := by simpa using hh
      simp
  · rcases List.mem_cons.1 hi with rfl | hi
    · exact .inr (.inr (Nat.le_refl _))
    · rcases List.mem_append.1 hi with hi | hi
      · exact .inl (htl i hi)
      · exact .inr (.inl hi)
/-- A list behind a list. -/
theorem AppK.many {t tx e e2 : TypeId} {b base : Nat} {own2 : Bool} {tm : List Value} {d : Option Nat} {k : St → Prop}
    (ht : SlT P t e sz b) (htx : P.underlying tx = some (.slice e2)) (hs : SlR true sz R H l [s] F) (hf : Fresh base F) (h2 : SlR own2 sz R H l2 [s2] F2) (hfx : Fresh base F2.tail) (hd : ∀ j ∈ F2.tail, j ∉ F) (hbl : base ≤ H.length)
    (hfit : (2 * (l.length + l2.length) + 192) * b ≤ 281474976710656) (hb : 1 ≤ b)
    (hk : ∀ s' H' F', SlR true sz R H' (l ++ l2) [s'] F' → Fresh base F' → H.length ≤ H'.length → (∀ j, j < H.length → j ∉ F → H'[j]? = H[j]?) → (∀ j ∈ F', j ∈ F ∨ j ∈ F2.tail ∨ H.length ≤ j) → normT (putT tm d s') H' k) :
    AppK P t tx s s2 H tm d k := by
  obtain ⟨s', H', F', q1, q2, q3, q4, q5, q6⟩ := SlR.append ht htx hs h2 (fun id hid => by
    cases F with
    | nil => cases hid
    | cons a F0 =>
      obtain rfl : a = id := by simpa using hid
      exact ⟨(List.nodup_cons.1 hf.2).1, fun h => hd a h (by simp)⟩) hfit hb
  have htl : ∀ i ∈ F.tail, i ∈ F := fun i hi => List.mem_of_mem_tail hi
  have hkeep : ∀ j, j < H.length → j ∉ F → H'[j]? = H[j]? := fun j hj hn => q6 j hj fun hh => hn (by
    cases F with
    | nil => cases hh
    | cons a F0 =>
      obtain rfl : a = j := by simpa using hh
      simp)
  rcases q3 with ⟨rfl, _, _⟩ | rfl
  · exact AppK.of q1 (hk s' H' [] q2 (Fresh.nil _) q4 hkeep (by simp))
  refine AppK.of q1 (hk s' H' _ q2 ⟨fun i hi => ?_, List.nodup_cons.2 ⟨fun hm => ?_, List.nodup_append.2 ⟨hf.2.tail, hfx.2, fun a ha b' hb' hab => hd b' hb' (hab ▸ htl a ha)⟩⟩⟩ q4 hkeep fun i hi => ?_)
  · rcases List.mem_cons.1 hi with rfl | hi
    · exact hbl
    · rcases List.mem_append.1 hi with hi | hi
      · exact hf.1 i (htl i hi)
      · exact hfx.1 i hi
  · rcases List.mem_append.1 hm with h | h
    · have := Rp.lt hs _ (htl _ h); omega
    · have := Rp.lt h2 _ (List.mem_of_mem_tail h); omega
  · rcases List.mem_cons.1 hi with rfl | hi
    · exact .inr (.inr (Nat.le_refl _))
    · rcases List.mem_append.1 hi with hi | hi
      · exact .inl (htl i hi)
      · exact .inr (.inl hi)
end

end Go.Am
