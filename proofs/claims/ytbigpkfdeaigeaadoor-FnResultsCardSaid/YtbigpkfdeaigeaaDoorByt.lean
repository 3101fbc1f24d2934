import Derived.Test.YtbigpkfdeaigeaaDoorMch
import Derived.Test.YtbigpkfdeaigeaaDoorF1
/- Texts of instructions, as lists of bytes. No condition. -/
namespace Go.Am
open Go
set_option linter.unusedSimpArgs false
set_option linter.unusedVariables false

/-- The words of instructions. -/
def wordsT : List (List UInt8) := [[], [108, 105, 116], [99, 97, 116], [99, 117, 116], [114, 101, 115, 116], [119, 111, 114, 100], [115, 97, 109, 101], [100, 117, 112], [115, 119, 97, 112], [100, 114, 111, 112], [106, 117, 109, 112], [117, 110, 108, 101, 115, 115], [97, 115, 107], [104, 97, 115], [102, 97, 105, 108], [101, 110, 100]]
end Go.Am

/- Bytes; texts in quotes, both; small decimals. No condition. -/
set_option linter.unusedSimpArgs false
set_option linter.unusedVariables false
namespace Go.Am
open Go
variable {P : Program}
theorem bytes_rep {H : Heap} : ∀ {l : List UInt8} {c : List Value} {F : List Nat}, RepL byteR H l c F → c = l.map (fun b => Value.int .u8 (b.toNat : Int)) ∧ F = []
  | [], _, _, ⟨rfl, rfl⟩ => ⟨rfl, rfl⟩
  | x :: l, _, _, ⟨c1, c2, F1, F2, rfl, rfl, h1, h2⟩ => by
    obtain ⟨rfl, rfl⟩ := bytes_rep h2
    obtain ⟨rfl, rfl, _⟩ := h1
    exact ⟨rfl, rfl⟩
theorem rep_bytes {H : Heap} : ∀ (l : List UInt8), RepL byteR H l (l.map (fun b => Value.int .u8 (b.toNat : Int))) []
  | [] => ⟨rfl, rfl⟩
  | x :: l => ⟨[.int .u8 (x.toNat : Int)], _, [], [], rfl, rfl, ⟨rfl, rfl, trivial⟩, rep_bytes l⟩
theorem nums_bytes : ∀ (l : List UInt8), numsOf? (l.map fun b => Value.int .u8 (b.toNat : Int)) = some (l.map fun b => (b.toNat : Int))
  | [] => rfl
  | x :: l => by simp [numsOf?, nums_bytes l]
theorem str_bytes (l : List UInt8) : strOfNums (l.map fun b => (b.toNat : Int)) = ⟨⟨l⟩⟩ := by
  unfold strOfNums
  have : (l.map fun b => (b.toNat : Int)).map (fun n => UInt8.ofNat n.toNat) = l := by
    rw [List.map_map]
    refine (List.map_congr_left fun b _ => ?_).trans (List.map_id l)
    simp
  simp only [this]
/-- A slice of bytes, as a string. -/
theorem conv_bytes {a b e : TypeId} {H : Heap} {l : List UInt8} {s : Value} {F : List Nat} (ha : P.underlying a = some (.slice e)) (he : P.underlying e = some (.int .u8)) (hb : P.underlying b = some .string) (hs : BytesR true H l [s] F) :
    conv? P H a b s = some (str l, H) := by
  obtain ⟨_, s', hs', h⟩ := hs
  obtain rfl : s = s' := by simpa using hs'
  rcases h with ⟨rfl, rfl, rfl | ⟨h0, _⟩ | ⟨h0, _⟩⟩ | ⟨id, off, c, e0, f, o, G, rfl, hblk, ho, rfl, hle, hr⟩
  · simp [conv?, ha, he, hb]; rfl
  · cases h0
  · cases h0
  · rw [Nat.mul_one] at hle hr
    obtain ⟨hc, rfl⟩ := bytes_rep hr
    have hx : (c.extract off (off + l.length)).toList = l.map fun b => Value.int .u8 (b.toNat : Int) := by rw [extract_seg, hc]
    simp only [conv?, ha, he, hb, hblk, if_pos hle, hx, nums_bytes, str_bytes]
/-- A string's bytes appended. -/
theorem AppK.str {t tx : TypeId} {e : TypeId} {b base : Nat} {H : Heap} {l r : List UInt8} {s : Value} {F : List Nat} {tm : List Value} {d : Option Nat} {k : St → Prop}
    (ht : SlT P t e 1 b) (htx : P.underlying tx = some .string) (hs : BytesR true H l [s] F) (hf : Fresh base F) (hbl : base ≤ H.length) (hr : l.length + r.length ≤ 1000000000)
    (hfit : (2 * (l.length + r.length) + 192) * b ≤ 281474976710656)
    (hk : ∀ s' H' F', BytesR true H' (l ++ r) [s'] F' → Fresh base F' → H.length ≤ H'.length → (∀ j, j < H.length → j ∉ F → H'[j]? = H[j]?) → (∀ j ∈ F', j ∈ F ∨ H.length ≤ j) → normT (putT tm d s') H' k) :
    AppK P t tx s (Am.str r) H tm d k := by
  obtain ⟨i, z, hi, hisz, hib, hiz, hfz, hzs⟩ := ht.inf
  have hz' : zero? P e = some z := by simp [zero?, hi, hiz]
  have hbc : byteCells ⟨⟨r⟩⟩ = r.map fun b => Value.int .u8 (b.toNat : Int) := by simp [byteCells]
  have hsz : (⟨⟨r⟩⟩ : ByteArray).size = r.length := rfl
  have hsrc : src? P H i.size tx (Am.str r) = some (r.length, r.map fun b => Value.int .u8 (b.toNat : Int)) := by
    simp only [src?, htx, hisz, if_true, hbc, hsz]
  have hbd := hs.bound
  obtain ⟨_, s', hs', h⟩ := id hs
  obtain rfl : s = s' := by simpa using hs'
  rcases h with ⟨rfl, rfl, rfl | ⟨h0, _⟩ | ⟨h0, _⟩⟩ | ⟨id, off, c, e0, f, o, G, rfl, hblk, ho, rfl, hle, hrp⟩
  · by_cases h0 : r = []
    · subst h0
      refine AppK.of (v := .slice none 0 0) (S' := H) ?_ (hk _ _ [] (by simpa using SlR.nil) (Fresh.nil _) (Nat.le_refl _) (fun _ _ _ => rfl) (by simp))
      simp only [append?, ht.und, hz', hi, hsrc]
      simp [hzs, hisz]
    · have hlen : ¬ r.length = 0 := by simpa using h0
      refine AppK.of (v := .slice (some ⟨H.length, 0, none⟩) r.length 1) (S' := H ++ [⟨.cells (r.map fun b => Value.int .u8 (b.toNat : Int)).toArray e (0, 1), true, true⟩]) ?_ (hk _ _ [H.length] ?_ (Fresh.one hbl) (by simp) (fun j hj _ => get_ext hj) (by simp))
      · simp only [append?, ht.und, hz', hi, hsrc]
        rw [if_pos ⟨by omega, by omega⟩]
        simp only [if_neg hlen]
        rw [if_pos (by rw [hib]; exact Nat.le_trans (Nat.mul_le_mul_right _ (by simp)) hfit), hisz]
      · rw [List.nil_append]
        exact SlR.lit (R := byteR) (l := r) (G := []) (e := e) (f := (0, 1)) (by simp) (rep_bytes r) (by omega) (fun _ => rfl)
  · cases h0
  · cases h0
  · obtain rfl := ho rfl
    rw [Nat.mul_one] at hle hrp
    obtain ⟨hc, rfl⟩ := bytes_rep hrp
    have hext : c.extract off (off + l.length) = (l.map fun b => Value.int .u8 (b.toNat : Int)).toArray := by rw [extract_seg, hc]
    have hone : ones (c.extract off (off + l.length)).toList = true := by rw [hext]; exact (rep_bytes (H := H) l).one
    have hidl := (List.getElem?_eq_some_iff.1 hblk).1
    refine AppK.of (v := .slice (some ⟨H.length, 0, none⟩) (l.length + r.length) 1) (S' := H.set id deadBlk ++ [⟨.cells (c.extract off (off + l.length) ++ (r.map fun b => Value.int .u8 (b.toNat : Int)).toArray) e (mkQ e e0 f), true, true⟩]) ?_ (hk _ _ [H.length] ?_ (Fresh.one hbl) (by simp) (fun j hj hn => ?_) (by simp))
    · simp only [append?, ht.und, hz', hi, hsrc, hblk]
      rw [if_pos ⟨by omega, by omega⟩, if_pos ⟨hisz.symm, by simpa using hle, by simpa using hone, by omega, by rw [hib]; exact hfit⟩]
      simp only [Nat.mul_one, hisz]
    · rw [hext]
      have := SlR.lit (own := true) (R := byteR) (sz := 1) (H := H.set id deadBlk ++ [⟨.cells ((l ++ r).map fun b => Value.int .u8 (b.toNat : Int)).toArray e (mkQ e e0 f), true, true⟩]) (l := l ++ r) (j := H.length) (e := e) (f := mkQ e e0 f) (o := true) (G := [])
        (by rw [List.getElem?_append_right (by simp)]; simp) (rep_bytes (l ++ r)) (by simp; omega) (fun _ => rfl)
      simpa using this
    · rw [get_ext (by simpa using hj), List.getElem?_set_ne (by rintro rfl; exact hn (by simp))]
end Go.Am
namespace Go.Proofs.YtbigpkfdeaigeaaDoor
open Go Go.Am Go.Proofs
set_option maxRecDepth 20000
variable {ng : Nat}
end Go.Proofs.YtbigpkfdeaigeaaDoor
