import Derived.Test.YtbigpkfdeaigeaaDoorMch
import Derived.Test.YtbigpkfdeaigeaaDoorF1
/- Texts of instructions, as lists of bytes. No condition. -/
namespace Go.Am
open Go
set_option linter.unusedSimpArgs false
set_option linter.unusedVariables false

def hexD (n : Nat) : UInt8 := UInt8.ofNat (if n < 10 then 48 + n else 87 + n)
def plainB (b : UInt8) : Bool := decide (32 ≤ b.toNat) && decide (b.toNat ≤ 126) && !decide (b.toNat = 34) && !decide (b.toNat = 92)
/-- A byte as it stands in quotes. -/
def qByte (b : UInt8) : List UInt8 := if plainB b then [b] else [92, hexD (b.toNat / 16), hexD (b.toNat % 16)]
def qBody (s : List UInt8) : List UInt8 := s.flatMap qByte
def quoteL (s : List UInt8) : List UInt8 := 34 :: (qBody s ++ [34])
theorem qByte_len (b : UInt8) : 1 ≤ (qByte b).length ∧ (qByte b).length ≤ 3 := by unfold qByte; split <;> simp
theorem qBody_len (s : List UInt8) : s.length ≤ (qBody s).length ∧ (qBody s).length ≤ 3 * s.length := by
  induction s with
  | nil => simp [qBody]
  | cons b s ih =>
    have := qByte_len b
    simp only [qBody, List.flatMap_cons, List.length_append, List.length_cons] at ih ⊢
    omega
theorem qBody_s {s : List UInt8} {i : Nat} (h : i < s.length) : qBody (s.take (i + 1)) = qBody (s.take i) ++ qByte s[i] := by
  unfold qBody
  rw [List.take_succ_eq_append_getElem h, List.flatMap_append]
  simp
theorem qBody_take (s : List UInt8) (i : Nat) : (qBody (s.take i)).length ≤ 3 * s.length := by
  have := (qBody_len (s.take i)).2
  simp only [List.length_take] at this
  omega
theorem quoteL_len (s : List UInt8) : (quoteL s).length ≤ 3 * s.length + 2 := by
  have := qBody_len s
  simp [quoteL]
  omega
/-- The words of instructions. -/
def wordsT : List (List UInt8) := [[], [108, 105, 116], [99, 97, 116], [99, 117, 116], [114, 101, 115, 116], [119, 111, 114, 100], [115, 97, 109, 101], [100, 117, 112], [115, 119, 97, 112], [100, 114, 111, 112], [106, 117, 109, 112], [117, 110, 108, 101, 115, 115], [97, 115, 107], [104, 97, 115], [102, 97, 105, 108], [101, 110, 100]]
/-- The line of an instruction. -/
def lineL (x : Ins) : List UInt8 :=
  if (wordOf x.op).2 = 1 then (wordOf x.op).1 ++ 32 :: quoteL x.text
  else if 1 < (wordOf x.op).2 then (wordOf x.op).1 ++ 32 :: decN x.n.toNat
  else (wordOf x.op).1
def printL (p : List Ins) : List UInt8 := p.flatMap fun x => lineL x ++ [10]
def printP (p : List Ins) : List UInt8 := if validP p then printL p else []
theorem printL_s {p : List Ins} {i : Nat} (h : i < p.length) : printL (p.take (i + 1)) = printL (p.take i) ++ (lineL p[i] ++ [10]) := by
  unfold printL
  rw [List.take_succ_eq_append_getElem h, List.flatMap_append]
  simp
theorem ite_len {c : Prop} [Decidable c] {a b : List UInt8 × Int} (ha : a.1.length ≤ 6) (hb : b.1.length ≤ 6) : (if c then a else b).1.length ≤ 6 := by
  by_cases h : c
  · rw [if_pos h]; exact ha
  · rw [if_neg h]; exact hb
theorem wordOf_len (op : Int) : (wordOf op).1.length ≤ 6 := by
  unfold wordOf
  repeat refine ite_len (by decide) ?_
  decide
theorem lineL_len {x : Ins} (h : x.valid = true) : (lineL x).length ≤ 6010 := by
  have h1 := wordOf_len x.op
  have h2 : x.text.length ≤ 2000 ∧ x.n.toNat ≤ 2000 := by
    simp only [Ins.valid, Bool.and_eq_true, decide_eq_true_eq] at h
    obtain ⟨⟨⟨⟨⟨_, _⟩, h3⟩, _⟩, _⟩, h6⟩ := h
    refine ⟨h3, ?_⟩
    unfold topN at h6
    repeat' split at h6
    all_goals omega
  have h3 := quoteL_len x.text
  have h4 := decN_len x.n.toNat
  unfold lineL
  split
  · simp only [List.length_append, List.length_cons]; omega
  · split
    · simp only [List.length_append, List.length_cons]; omega
    · omega
theorem printL_len : ∀ {p : List Ins}, (∀ x ∈ p, x.valid = true) → (printL p).length ≤ 6011 * p.length
  | [], _ => by simp [printL]
  | x :: p, h => by
    have h1 := lineL_len (h x (by simp))
    have h2 := printL_len (p := p) fun y hy => h y (by simp [hy])
    unfold printL at h2 ⊢
    rw [List.flatMap_cons]
    simp only [List.length_append, List.length_cons, List.length_nil] at h2 ⊢
    omega
theorem mem_take {α : Type} {l : List α} {i : Nat} {x : α} (h : x ∈ l.take i) : x ∈ l := List.mem_of_mem_take h
theorem words_get {op : Int} (h1 : 1 ≤ op) (h2 : op ≤ 15) : wordsT.getD op.toNat [] = (wordOf op).1 := by
  have : op = 1 ∨ op = 2 ∨ op = 3 ∨ op = 4 ∨ op = 5 ∨ op = 6 ∨ op = 7 ∨ op = 8 ∨ op = 9 ∨ op = 10 ∨ op = 11 ∨ op = 12 ∨ op = 13 ∨ op = 14 ∨ op = 15 := by omega
  rcases this with rfl | rfl | rfl | rfl | rfl | rfl | rfl | rfl | rfl | rfl | rfl | rfl | rfl | rfl | rfl <;> rfl
theorem kind_top {op : Int} (h1 : 1 ≤ op) (h2 : op ≤ 15) : (1 < (wordOf op).2 ↔ 0 ≤ topN op) ∧ ((wordOf op).2 = 1 ↔ op = 1) := by
  have : op = 1 ∨ op = 2 ∨ op = 3 ∨ op = 4 ∨ op = 5 ∨ op = 6 ∨ op = 7 ∨ op = 8 ∨ op = 9 ∨ op = 10 ∨ op = 11 ∨ op = 12 ∨ op = 13 ∨ op = 14 ∨ op = 15 := by omega
  rcases this with rfl | rfl | rfl | rfl | rfl | rfl | rfl | rfl | rfl | rfl | rfl | rfl | rfl | rfl | rfl <;> decide
end Go.Am

/- Bytes; texts in quotes, both; small decimals. No condition. -/
set_option linter.unusedSimpArgs false
set_option linter.unusedVariables false
namespace Go.Am
open Go
variable {P : Program}
theorem bytes_rep {H : Heap} : ∀ {l : List UInt8} {c : List Value} {F : List Nat}, RepL byteR H l c F → c = l.map (fun b => Value.int .u8 (b.toNat : Int)) ∧ F = []
  | [], _, _, ⟨rfl, rfl⟩ => ⟨rfl, rfl⟩
  | x :: l, _, _, ⟨c1, c2, F1, F2, rfl, rfl, h1, h2⟩ => by
    obtain ⟨rfl, rfl⟩ := bytes_rep h2
    obtain ⟨rfl, rfl, _⟩ := h1
    exact ⟨rfl, rfl⟩
theorem rep_bytes {H : Heap} : ∀ (l : List UInt8), RepL byteR H l (l.map (fun b => Value.int .u8 (b.toNat : Int))) []
  | [] => ⟨rfl, rfl⟩
  | x :: l => ⟨[.int .u8 (x.toNat : Int)], _, [], [], rfl, rfl, ⟨rfl, rfl, trivial⟩, rep_bytes l⟩
theorem nums_bytes : ∀ (l : List UInt8), numsOf? (l.map fun b => Value.int .u8 (b.toNat : Int)) = some (l.map fun b => (b.toNat : Int))
  | [] => rfl
  | x :: l => by simp [numsOf?, nums_bytes l]
theorem str_bytes (l : List UInt8) : strOfNums (l.map fun b => (b.toNat : Int)) = ⟨⟨l⟩⟩ := by
  unfold strOfNums
  have : (l.map fun b => (b.toNat : Int)).map (fun n => UInt8.ofNat n.toNat) = l := by
    rw [List.map_map]
    refine (List.map_congr_left fun b _ => ?_).trans (List.map_id l)
    simp
  simp only [this]
/-- A slice of bytes, as a string. -/
theorem conv_bytes {a b e : TypeId} {H : Heap} {l : List UInt8} {s : Value} {F : List Nat} (ha : P.underlying a = some (.slice e)) (he : P.underlying e = some (.int .u8)) (hb : P.underlying b = some .string) (hs : BytesR true H l [s] F) :
    conv? P H a b s = some (str l, H) := by
  obtain ⟨_, s', hs', h⟩ := hs
  obtain rfl : s = s' := by simpa using hs'
  rcases h with ⟨rfl, rfl, rfl | ⟨h0, _⟩ | ⟨h0, _⟩⟩ | ⟨id, off, c, e0, f, o, G, rfl, hblk, ho, rfl, hle, hr⟩
  · simp [conv?, ha, he, hb]; rfl
  · cases h0
  · cases h0
  · rw [Nat.mul_one] at hle hr
    obtain ⟨hc, rfl⟩ := bytes_rep hr
    have hx : (c.extract off (off + l.length)).toList = l.map fun b => Value.int .u8 (b.toNat : Int) := by rw [extract_seg, hc]
    simp only [conv?, ha, he, hb, hblk, if_pos hle, hx, nums_bytes, str_bytes]
/-- A string's bytes appended. -/
theorem AppK.str {t tx : TypeId} {e : TypeId} {b base : Nat} {H : Heap} {l r : List UInt8} {s : Value} {F : List Nat} {tm : List Value} {d : Option Nat} {k : St → Prop}
    (ht : SlT P t e 1 b) (htx : P.underlying tx = some .string) (hs : BytesR true H l [s] F) (hf : Fresh base F) (hbl : base ≤ H.length) (hr : l.length + r.length ≤ 1000000000)
    (hfit : (2 * (l.length + r.length) + 192) * b ≤ 281474976710656)
    (hk : ∀ s' H' F', BytesR true H' (l ++ r) [s'] F' → Fresh base F' → H.length ≤ H'.length → (∀ j, j < H.length → j ∉ F → H'[j]? = H[j]?) → (∀ j ∈ F', j ∈ F ∨ H.length ≤ j) → normT (putT tm d s') H' k) :
    AppK P t tx s (Am.str r) H tm d k := by
  obtain ⟨i, z, hi, hisz, hib, hiz, hfz, hzs⟩ := ht.inf
  have hz' : zero? P e = some z := by simp [zero?, hi, hiz]
  have hbc : byteCells ⟨⟨r⟩⟩ = r.map fun b => Value.int .u8 (b.toNat : Int) := by simp [byteCells]
  have hsz : (⟨⟨r⟩⟩ : ByteArray).size = r.length := rfl
  have hsrc : src? P H i.size tx (Am.str r) = some (r.length, r.map fun b => Value.int .u8 (b.toNat : Int)) := by
    simp only [src?, htx, hisz, if_true, hbc, hsz]
  have hbd := hs.bound
  obtain ⟨_, s', hs', h⟩ := id hs
  obtain rfl : s = s' := by simpa using hs'
  rcases h with ⟨rfl, rfl, rfl | ⟨h0, _⟩ | ⟨h0, _⟩⟩ | ⟨id, off, c, e0, f, o, G, rfl, hblk, ho, rfl, hle, hrp⟩
  · by_cases h0 : r = []
    · subst h0
      refine AppK.of (v := .slice none 0 0) (S' := H) ?_ (hk _ _ [] (by simpa using SlR.nil) (Fresh.nil _) (Nat.le_refl _) (fun _ _ _ => rfl) (by simp))
      simp only [append?, ht.und, hz', hi, hsrc]
      simp [hzs, hisz]
    · have hlen : ¬ r.length = 0 := by simpa using h0
      refine AppK.of (v := .slice (some ⟨H.length, 0, none⟩) r.length 1) (S' := H ++ [⟨.cells (r.map fun b => Value.int .u8 (b.toNat : Int)).toArray e (0, 1), true, true⟩]) ?_ (hk _ _ [H.length] ?_ (Fresh.one hbl) (by simp) (fun j hj _ => get_ext hj) (by simp))
      · simp only [append?, ht.und, hz', hi, hsrc]
        rw [if_pos ⟨by omega, by omega⟩]
        simp only [if_neg hlen]
        rw [if_pos (by rw [hib]; exact Nat.le_trans (Nat.mul_le_mul_right _ (by simp)) hfit), hisz]
      · rw [List.nil_append]
        exact SlR.lit (R := byteR) (l := r) (G := []) (e := e) (f := (0, 1)) (by simp) (rep_bytes r) (by omega) (fun _ => rfl)
  · cases h0
  · cases h0
  · obtain rfl := ho rfl
    rw [Nat.mul_one] at hle hrp
    obtain ⟨hc, rfl⟩ := bytes_rep hrp
    have hext : c.extract off (off + l.length) = (l.map fun b => Value.int .u8 (b.toNat : Int)).toArray := by rw [extract_seg, hc]
    have hone : ones (c.extract off (off + l.length)).toList = true := by rw [hext]; exact (rep_bytes (H := H) l).one
    have hidl := (List.getElem?_eq_some_iff.1 hblk).1
    refine AppK.of (v := .slice (some ⟨H.length, 0, none⟩) (l.length + r.length) 1) (S' := H.set id deadBlk ++ [⟨.cells (c.extract off (off + l.length) ++ (r.map fun b => Value.int .u8 (b.toNat : Int)).toArray) e (mkQ e e0 f), true, true⟩]) ?_ (hk _ _ [H.length] ?_ (Fresh.one hbl) (by simp) (fun j hj hn => ?_) (by simp))
    · simp only [append?, ht.und, hz', hi, hsrc, hblk]
      rw [if_pos ⟨by omega, by omega⟩, if_pos ⟨hisz.symm, by simpa using hle, by simpa using hone, by omega, by rw [hib]; exact hfit⟩]
      simp only [Nat.mul_one, hisz]
    · rw [hext]
      have := SlR.lit (own := true) (R := byteR) (sz := 1) (H := H.set id deadBlk ++ [⟨.cells ((l ++ r).map fun b => Value.int .u8 (b.toNat : Int)).toArray e (mkQ e e0 f), true, true⟩]) (l := l ++ r) (j := H.length) (e := e) (f := mkQ e e0 f) (o := true) (G := [])
        (by rw [List.getElem?_append_right (by simp)]; simp) (rep_bytes (l ++ r)) (by simp; omega) (fun _ => rfl)
      simpa using this
    · rw [get_ext (by simpa using hj), List.getElem?_set_ne (by rintro rfl; exact hn (by simp))]
theorem bin_shr4 {t : TypeId} {x y : Operand} {a : Nat} (h : a < 256) : bin? P .shr t x y (.int .u8 (a : Int)) (.int .u64 4) = some (.int .u8 ((a / 16 : Nat) : Int)) := by
  have e : binOp .shr t (.int .u8 (a : Int)) (.int .u64 4) = .pure (.int .u8 ((a : Int).fdiv (2 ^ 4))) := rfl
  have e2 : ((a : Int).fdiv (2 ^ 4)) = ((a / 16 : Nat) : Int) := by
    rw [Int.fdiv_eq_ediv_of_nonneg _ (by decide)]
    simp
  rw [e2] at e
  simp [bin?, flat, flat0, purF, eqGuard, e, pur]
theorem bin_and15 {t : TypeId} {x y : Operand} {a : Nat} (h : a < 256) : bin? P .and t x y (.int .u8 (a : Int)) (.int .u8 15) = some (.int .u8 ((a % 16 : Nat) : Int)) := by
  have e : (BitVec.ofInt 8 (a : Int) &&& BitVec.ofInt 8 15).toNat = a % 16 := by
    rw [BitVec.toNat_and, BitVec.ofInt_natCast, BitVec.toNat_ofNat, Nat.mod_eq_of_lt (by omega)]
    exact Nat.and_two_pow_sub_one_eq_mod a 4
  have e2 : binOp .and t (.int .u8 (a : Int)) (.int .u8 15) = .pure (.int .u8 (IntKind.u8.wrap ((a % 16 : Nat) : Int))) := by
    rw [← e]; rfl
  rw [wrap_u8 (by omega) (by omega)] at e2
  simp [bin?, flat, flat0, purF, eqGuard, e2, pur]
end Go.Am
namespace Go.Proofs.YtbigpkfdeaigeaaDoor
open Go Go.Am Go.Proofs
set_option maxRecDepth 20000
variable {ng : Nat}
theorem hex_at {n : Nat} (h : n < 16) : ([48, 49, 50, 51, 52, 53, 54, 55, 56, 57, 97, 98, 99, 100, 101, 102] : List UInt8)[n]? = some (hexD n) := by
  have : n = 0 ∨ n = 1 ∨ n = 2 ∨ n = 3 ∨ n = 4 ∨ n = 5 ∨ n = 6 ∨ n = 7 ∨ n = 8 ∨ n = 9 ∨ n = 10 ∨ n = 11 ∨ n = 12 ∨ n = 13 ∨ n = 14 ∨ n = 15 := by omega
  rcases this with rfl | rfl | rfl | rfl | rfl | rfl | rfl | rfl | rfl | rfl | rfl | rfl | rfl | rfl | rfl | rfl <;> rfl
theorem quote_ac (s : List UInt8) (hs : s.length ≤ 10000000) (H : Heap) : AC Tryd.prog ng 43 [str s] H fun v S' => v = str (quoteL s) ∧ S' = H := by
  refine .flat (AC.go [] Tryd.func43 rfl Tryd.ntmps43 rfl ⟨mixed, by kernel_rfl⟩ ?_)
  simp +contextual (dsimp := false)
  have hr0 : BytesR true (H ++ [(⟨.cells #[.int .u8 34] 5 (0, 0), true, true⟩ : Blk)]) (34 :: qBody (s.take 0)) [.slice (some ⟨H.length, 0, none⟩) 1 1] [H.length] := SlR.lit (R := byteR) (l := [34]) (c := [.int .u8 34]) (e := 5) (f := (0, 0)) (G := []) (by simp) (rep_bytes [34]) (by simp) (fun _ => rfl)
  refine LoopA.up (σ := Nat × Heap × Value × List Nat) [0, 3, 4] (fun x => [(3, x.2.2.1), (4, int x.1)]) (fun x => x.2.1) (fun x => x.1 ≤ s.length ∧ Ext H x.2.1 ∧ BytesR true x.2.1 (34 :: qBody (s.take x.1)) [x.2.2.1] x.2.2.2 ∧ Fresh H.length x.2.2.2) (fun x => s.length - x.1)
    (0, _, _, _) rfl ⟨by simp, Ext.app _ _, hr0, Fresh.one (Nat.le_refl _)⟩ ?_
  rintro ⟨i, hp, sv, F⟩ ⟨hi, hx, hr, hf⟩
  dsimp only at hi hx hr hf
  have hle := hx.le
  obtain ⟨a, z, rfl⟩ := hr.form
  have hq := qBody_take s i
  simp +contextual (dsimp := false)
  refine ifA_dec (fun h3 => ?_) (fun h3 => ?_)
  · have hb8 := s[i].toNat_lt
    by_cases hp1 : plainB s[i] = true
    · have hp1' := hp1
      simp only [plainB, Bool.and_eq_true, decide_eq_true_eq, Bool.not_eq_true', decide_eq_false_iff_not] at hp1'
      simp +contextual (dsimp := false) [h3]
      simp (dsimp := false) only [show (32 : Int) ≤ (s[i].toNat : Int) by omega, show (s[i].toNat : Int) ≤ 126 by omega, show ¬ (s[i].toNat : Int) = 34 by omega, show ¬ (s[i].toNat : Int) = 92 by omega, decide_true, decide_false, ifA_true, ifA_false]
      refine AppK.one (R := byteR) (ex := 5) (fx := (0, 0)) (ox := true) (base := H.length) (x := s[i]) (cx := [.int .u8 (s[i].toNat : Int)]) (Fx := []) slt22 und22 (Rp.ext hr (Ext.app _ _)) hf (by simp) ⟨rfl, rfl, trivial⟩ (Fresh.nil _) (by simp) (by simp; omega) (by simp; omega) (by decide) ?_
      intro s1 H1 F1 q1 q2 q3 q4 q5
      simp only [List.length_append, List.length_singleton] at q3 q4
      simp +contextual (dsimp := false) [wrap_succ (show i < 9223372036854775807 by omega)]
      refine LoopN.of (i + 1, H1, s1, F1) rfl ⟨h3, fun j hj => (q4 j (by omega) (fun hm => by have := hf.1 j hm; omega)).trans ((get_ext (by omega)).trans (hx j hj)), ?_, q2⟩ (by dsimp only; omega)
      dsimp only
      rw [qBody_s h3, qByte, if_pos hp1]
      exact q1
    · have hp2 : plainB s[i] = false := by simpa using hp1
      have hex1 := hex_at (n := s[i].toNat / 16) (by omega)
      have hex2 := hex_at (n := s[i].toNat % 16) (by omega)
      have hneg : ¬ (32 ≤ s[i].toNat ∧ s[i].toNat ≤ 126 ∧ s[i].toNat ≠ 34 ∧ s[i].toNat ≠ 92) := fun ⟨a1, a2, a3, a4⟩ => by
        have : plainB s[i] = true := by simp [plainB, a1, a2, a3, a4]
        rw [hp2] at this; cases this
      simp +contextual (dsimp := false) [h3, bin_shr4 (show s[i].toNat < 256 by omega), bin_and15 (show s[i].toNat < 256 by omega), -Int.natCast_ediv, -Int.natCast_emod]
      repeat' refine ifA_dec (fun _ => ?_) (fun _ => ?_)
      all_goals try (exfalso; omega)
      all_goals rw [hex1]
      all_goals simp +contextual (dsimp := false) [h3, bin_and15 (show s[i].toNat < 256 by omega), -Int.natCast_ediv, -Int.natCast_emod]
      all_goals rw [hex2]
      all_goals simp +contextual (dsimp := false) [h3]
      all_goals (
        refine AppK.many (R := byteR) (base := H.length) (l2 := [92, hexD (s[i].toNat / 16), hexD (s[i].toNat % 16)]) (F2 := [hp.length]) (own2 := true) slt22 und22 (Rp.ext hr (Ext.app _ _)) hf
          (SlR.lit (R := byteR) (l := [92, hexD (s[i].toNat / 16), hexD (s[i].toNat % 16)]) (e := 5) (f := (0, 0)) (G := []) (by simp) (rep_bytes _) (by simp) (fun _ => rfl)) (by simpa using Fresh.nil _) (by simp) (by simp; omega) (by simp; omega) (by decide) ?_
        intro s1 H1 F1 q1 q2 q3 q4 q5
        simp only [List.length_append, List.length_singleton] at q3 q4
        simp +contextual (dsimp := false) [wrap_succ (show i < 9223372036854775807 by omega)]
        refine LoopN.of (i + 1, H1, s1, F1) rfl ⟨h3, fun j hj => (q4 j (by omega) (fun hm => by have := hf.1 j hm; omega)).trans ((get_ext (by omega)).trans (hx j hj)), ?_, q2⟩ (by dsimp only; omega)
        dsimp only
        rw [qBody_s h3, qByte, if_neg (by simp [hp2])]
        exact q1)
  · rw [List.take_of_length_le (show s.length ≤ i by omega)] at hr hq
    rw [show (qBody (s.take i)).length = (qBody s).length by rw [List.take_of_length_le (show s.length ≤ i by omega)]]
    refine AppK.one (R := byteR) (l := 34 :: qBody s) (ex := 5) (fx := (0, 0)) (ox := true) (base := H.length) (x := 34) (cx := [.int .u8 34]) (Fx := []) slt22 und22 (Rp.ext hr (Ext.app _ _)) hf (by simp) ⟨rfl, rfl, trivial⟩ (Fresh.nil _) (by simp) (by simp; omega) (by simp; omega) (by decide) ?_
    intro s1 H1 F1 q1 q2 q3 q4 q5
    simp only [List.length_append, List.length_singleton] at q3 q4
    simp +contextual (dsimp := false)
    refine ConvK.of (conv_bytes und22 und5 und9 q1) ?_
    simp +contextual (dsimp := false)
    exact ⟨by simp [quoteL], fun j hj => (q4 j (by omega) (fun hm => by have := hf.1 j hm; omega)).trans ((get_ext (by omega)).trans (hx j hj))⟩
theorem l1Dec_ac : ∀ (f n : Nat), n < f → n ≤ 1000000000 → ∀ (e : Int) (he : e = n) (H : Heap), AC Tryd.prog ng 23 [int e] H fun v S' => v = str (decN n) ∧ S' = H := by
  intro f
  induction f with
  | zero => intro n h; omega
  | succ f ih =>
    intro n hn hb e he H
    subst he
    refine .flat (AC.go [(3, .take 0 <| .take 1 <| .take 3 <| .take 4 <| .take 5 <| .take 6 <| .two 2 [] (.one 7 [] <| .take 8 <| .take 9 <| .take 10 <| .done) 7 [] (.take 8 <| .one 2 [8] <| .take 9 <| .take 10 <| .done))] Tryd.func23 rfl Tryd.ntmps23 rfl ⟨mixed, by kernel_rfl⟩ ?_)
    by_cases h10 : n < 10
    · have e3 : IntKind.u8.wrap (IntKind.i64.wrap (48 + (n : Int))) = ((48 + n % 10 : Nat) : Int) := by
        rw [wrap_of _ (by omega) (by omega), wrap_u8 (by omega) (by omega)]; omega
      simp (dsimp := false) [show (n : Int) < 10 by omega, e3, -Int.natCast_add]
      refine ConvK.of (v := str [dig n]) (conv_byteN (m := 48 + n % 10) und22 und5 und9 (by omega) (by rw [List.getElem?_append_right (Nat.le_refl _), Nat.sub_self]; rfl)) ?_
      simp +contextual (dsimp := false) [decN_small h10]
    · have e1 : IntKind.i64.wrap ((n : Int) / 10) = ((n / 10 : Nat) : Int) := by rw [wrap_of _ (by omega) (by omega)]; omega
      have e2 : (n : Int).tmod 10 = ((n % 10 : Nat) : Int) := by rw [Int.tmod_eq_emod_of_nonneg (by omega)]; omega
      have e3 : IntKind.u8.wrap (IntKind.i64.wrap (48 + ((n % 10 : Nat) : Int))) = ((48 + n % 10 : Nat) : Int) := by
        rw [wrap_of _ (by omega) (by omega), wrap_u8 (by omega) (by omega)]; omega
      have hl := decN_len (n / 10)
      simp +contextual (dsimp := false) [show ¬ (n : Int) < 10 by omega, e1, e2, e3, -Int.natCast_add, -Int.natCast_ediv, -Int.natCast_emod]
      refine ⟨?_, ?_⟩
      · refine CallK.fl ⟨_, Tryd.func23, rfl, rfl⟩ (ih (n / 10) (by omega) (by omega) _ rfl _) ?_
        simp +contextual (dsimp := false) [e2, e3, -Int.natCast_add, -Int.natCast_ediv, -Int.natCast_emod]
        refine ConvK.of (v := str [dig n]) (conv_byteN (m := 48 + n % 10) und22 und5 und9 (by omega) (by rw [List.getElem?_append_right (Nat.le_refl _), Nat.sub_self]; rfl)) ?_
        simp +contextual (dsimp := false) [bin_ladd (show (decN (n / 10)).length + [dig n].length ≤ 9223372036854775807 by simp; omega)]
        exact (decN_big h10).symm
      · refine ConvK.of (v := str [dig n]) (conv_byteN (m := 48 + n % 10) und22 und5 und9 (by omega) (by rw [List.getElem?_append_right (Nat.le_refl _), Nat.sub_self]; rfl)) ?_
        simp +contextual (dsimp := false)
        refine CallK.fl ⟨_, Tryd.func23, rfl, rfl⟩ (ih (n / 10) (by omega) (by omega) _ rfl _) ?_
        simp +contextual (dsimp := false) [bin_ladd (show (decN (n / 10)).length + [dig n].length ≤ 9223372036854775807 by simp; omega)]
        refine ⟨?_, (decN_big h10).symm⟩
        rw [show (48 : Int) + (n : Int) % 10 = ((48 + n % 10 : Nat) : Int) by omega]
        refine ConvK.of (v := str [dig n]) (conv_byteN (m := 48 + n % 10) und22 und5 und9 (by omega) (by rw [List.getElem?_append_right (Nat.le_refl _), Nat.sub_self]; rfl)) ?_
        simp +contextual (dsimp := false)
        try exact (decN_big h10).symm
end Go.Proofs.YtbigpkfdeaigeaaDoor
