import Derived.Test.YtephpieeibcihaaDoorByt
import Derived.Test.YtephpieeibcihaaDoorLai
/- Reading lines of instructions: a line is that of one instruction at most. No condition. -/
set_option linter.unusedSimpArgs false
set_option linter.unusedVariables false
namespace Go.Am
open Go
def hexV (b : UInt8) : Nat := if b.toNat ≤ 57 then b.toNat - 48 else b.toNat - 87
theorem hexV_D {n : Nat} (h : n < 16) : hexV (hexD n) = n := by
  have : ∀ n : Fin 16, hexV (hexD n.val) = n.val := by decide
  exact this ⟨n, h⟩
/-- What stands in quotes, read. -/
def unqB : List UInt8 → List UInt8
  | [] => []
  | b :: r => if b = 92 then (match r with
    | a :: c :: r' => UInt8.ofNat (16 * hexV a + hexV c) :: unqB r'
    | r => b :: unqB r) else b :: unqB r
theorem unqB_q (b : UInt8) (r : List UInt8) : unqB (qByte b ++ r) = b :: unqB r := by
  unfold qByte
  cases hp : plainB b with
  | true =>
    have h92 : b ≠ 92 := by rintro rfl; simp [plainB] at hp
    rw [if_pos rfl, List.singleton_append]
    rcases r with _ | ⟨a, _ | ⟨c, r⟩⟩ <;> simp [unqB, h92]
  | false =>
    rw [if_neg (by simp)]
    show unqB (92 :: hexD (b.toNat / 16) :: hexD (b.toNat % 16) :: r) = b :: unqB r
    have hb := b.toNat_lt
    rw [unqB, if_pos rfl]
    rw [hexV_D (by omega), hexV_D (by omega), show 16 * (b.toNat / 16) + b.toNat % 16 = b.toNat by omega]
    simp
theorem unqB_body (s : List UInt8) : unqB (qBody s) = s := by
  induction s with
  | nil => rfl
  | cons b s ih =>
    show unqB (qByte b ++ qBody s) = _
    rw [unqB_q, ih]
theorem quoteL_inj {s t : List UInt8} (h : quoteL s = quoteL t) : s = t := by
  unfold quoteL at h
  have h1 := (List.append_inj_left' (List.cons.inj h).2 rfl)
  rw [← unqB_body s, h1, unqB_body]
/-- A number's digits, read. -/
def valD (l : List UInt8) : Nat := l.foldl (fun a b => 10 * a + (b.toNat - 48)) 0
theorem valD_app (l : List UInt8) (b : UInt8) : valD (l ++ [b]) = 10 * valD l + (b.toNat - 48) := by simp [valD]
theorem dig_val (n : Nat) : (dig n).toNat - 48 = n % 10 := by
  have : ∀ k : Fin 10, (UInt8.ofNat (48 + k.val)).toNat - 48 = k.val := by decide
  exact this ⟨n % 10, by omega⟩
theorem valD_dec (n : Nat) : valD (decN n) = n := by
  induction n using Nat.strongRecOn with
  | _ n ih =>
    by_cases h : n < 10
    · rw [decN_small h]
      have := valD_app [] (dig n)
      rw [List.nil_append] at this
      rw [this, dig_val]
      simp [valD]
      omega
    · rw [decN_big h, valD_app, ih (n / 10) (by omega), dig_val]
      omega
theorem decN_inj {n m : Nat} (h : decN n = decN m) : n = m := by rw [← valD_dec n, h, valD_dec]
/-- The word ahead. -/
def headW (s : List UInt8) : List UInt8 := s.takeWhile fun b => b ≠ 32
def opOf (w : List UInt8) : Int := ((List.range 15).find? fun k => (wordOf ((k + 1 : Nat) : Int)).1 = w).elim 0 fun k => (k + 1 : Nat)
theorem opOf_word {op : Int} (h1 : 1 ≤ op) (h2 : op ≤ 15) : opOf (wordOf op).1 = op ∧ headW (wordOf op).1 = (wordOf op).1 ∧ ∀ r, headW ((wordOf op).1 ++ 32 :: r) = (wordOf op).1 := by
  obtain ⟨n, rfl⟩ : ∃ n : Nat, op = n := ⟨op.toNat, by omega⟩
  have h : n = 1 ∨ n = 2 ∨ n = 3 ∨ n = 4 ∨ n = 5 ∨ n = 6 ∨ n = 7 ∨ n = 8 ∨ n = 9 ∨ n = 10 ∨ n = 11 ∨ n = 12 ∨ n = 13 ∨ n = 14 ∨ n = 15 := by omega
  rcases h with rfl | rfl | rfl | rfl | rfl | rfl | rfl | rfl | rfl | rfl | rfl | rfl | rfl | rfl | rfl
  all_goals exact ⟨by decide, by decide, fun r => by simp [headW, wordOf]⟩
theorem headW_line {x : Ins} (h1 : 1 ≤ x.op) (h2 : x.op ≤ 15) : headW (lineL x) = (wordOf x.op).1 := by
  obtain ⟨-, h3, h4⟩ := opOf_word h1 h2
  unfold lineL
  split
  · exact h4 _
  · split
    · exact h4 _
    · exact h3
theorem kind_topN {op : Int} (h1 : 1 ≤ op) (h2 : op ≤ 15) : ((wordOf op).2 = 1 → op = 1) ∧ ((wordOf op).2 ≤ 1 → max 0 (topN op) = 0) := by
  obtain ⟨n, rfl⟩ : ∃ n : Nat, op = n := ⟨op.toNat, by omega⟩
  have h : n = 1 ∨ n = 2 ∨ n = 3 ∨ n = 4 ∨ n = 5 ∨ n = 6 ∨ n = 7 ∨ n = 8 ∨ n = 9 ∨ n = 10 ∨ n = 11 ∨ n = 12 ∨ n = 13 ∨ n = 14 ∨ n = 15 := by omega
  rcases h with rfl | rfl | rfl | rfl | rfl | rfl | rfl | rfl | rfl | rfl | rfl | rfl | rfl | rfl | rfl
  all_goals exact ⟨by decide, by decide⟩
theorem lineL_inj {x y : Ins} (hx : x.valid = true) (hy : y.valid = true) (h : lineL x = lineL y) : x = y := by
  simp only [Ins.valid, Bool.and_eq_true, decide_eq_true_eq, Bool.or_eq_true, List.isEmpty_iff] at hx hy
  obtain ⟨⟨⟨⟨⟨a1, a2⟩, a3⟩, a4⟩, a5⟩, a6⟩ := hx
  obtain ⟨⟨⟨⟨⟨b1, b2⟩, b3⟩, b4⟩, b5⟩, b6⟩ := hy
  have hop : x.op = y.op := by
    rw [← (opOf_word a1 a2).1, ← headW_line a1 a2, h, headW_line b1 b2, (opOf_word b1 b2).1]
  obtain ⟨op, tx, xn⟩ := x
  obtain ⟨op', ty, yn⟩ := y
  dsimp only at hop a1 a2 a3 a4 a5 a6 b1 b2 b3 b4 b5 b6
  subst hop
  obtain ⟨k1, k2⟩ := kind_topN a1 a2
  unfold lineL at h
  dsimp only at h
  by_cases c1 : (wordOf op).2 = 1
  · rw [if_pos c1, if_pos c1] at h
    have h' := quoteL_inj (List.cons.inj (List.append_cancel_left h)).2
    have := k2 (by omega)
    have e : xn = yn := by omega
    rw [h', e]
  · rw [if_neg c1, if_neg c1] at h
    have ht : op ≠ 1 := by rintro rfl; exact c1 (by decide)
    have e1 : tx = [] := a4.resolve_left ht
    have e2 : ty = [] := b4.resolve_left ht
    by_cases c2 : 1 < (wordOf op).2
    · rw [if_pos c2, if_pos c2] at h
      have h' := decN_inj (List.cons.inj (List.append_cancel_left h)).2
      have e : xn = yn := by omega
      rw [e1, e2, e]
    · have := k2 (by omega)
      have e : xn = yn := by omega
      rw [e1, e2, e]
open Classical in
/-- The instruction whose line this is. -/
noncomputable def readL (s : List UInt8) : Option Ins := if h : ∃ x : Ins, x.valid = true ∧ lineL x = s then some h.choose else none
theorem readL_some {s : List UInt8} {x : Ins} (h1 : x.valid = true) (h2 : lineL x = s) : readL s = some x := by
  have h : ∃ x : Ins, x.valid = true ∧ lineL x = s := ⟨x, h1, h2⟩
  unfold readL
  rw [dif_pos h]
  congr 1
  exact lineL_inj h.choose_spec.1 h1 (h.choose_spec.2.trans h2.symm)
theorem readL_none {s : List UInt8} (h : ∀ x : Ins, x.valid = true → lineL x ≠ s) : readL s = none := by
  unfold readL
  rw [dif_neg]
  rintro ⟨x, h1, h2⟩
  exact h x h1 h2
end Go.Am

/- The reference reads lines. No condition. -/
set_option linter.unusedSimpArgs false
set_option linter.unusedVariables false
namespace Go.Proofs.YtephpieeibcihaaDoor
open Go Go.Am Go.Proofs
set_option maxRecDepth 20000
variable {ng : Nat}
def hexI (b : UInt8) : Int := if 48 ≤ b.toNat ∧ b.toNat ≤ 57 then (b.toNat : Int) - 48 else if 97 ≤ b.toNat ∧ b.toNat ≤ 102 then (b.toNat : Int) - 97 + 10 else -1
theorem l1HexOf_ac (b : UInt8) (H : Heap) : AC Tryd.prog ng 87 [.int .u8 b.toNat] H fun v S' => v = .int .i64 (hexI b) ∧ S' = H := by
  have hb := b.toNat_lt
  refine .flat (AC.go [] Tryd.func87 rfl Tryd.ntmps87 rfl ⟨mixed, by kernel_rfl⟩ ?_)
  unfold hexI
  by_cases h1 : 48 ≤ b.toNat
  · have h1' : (48 : Int) ≤ b.toNat := by omega
    by_cases h2 : b.toNat ≤ 57
    · have h2' : (b.toNat : Int) ≤ 57 := by omega
      simp +contextual (dsimp := false) [h1', h2', wrap_u8 (show (0 : Int) ≤ (b.toNat : Int) - 48 by omega) (by omega)]
      rw [if_pos ⟨h1, h2⟩, wrap_of _ (by omega) (by omega)]
    · have h2' : ¬ (b.toNat : Int) ≤ 57 := by omega
      rw [if_neg (fun h => h2 h.2)]
      by_cases h3 : 97 ≤ b.toNat
      · have h3' : (97 : Int) ≤ b.toNat := by omega
        by_cases h4 : b.toNat ≤ 102
        · have h4' : (b.toNat : Int) ≤ 102 := by omega
          simp +contextual (dsimp := false) [h1', h2', h3', h4', wrap_u8 (show (0 : Int) ≤ (b.toNat : Int) - 97 by omega) (by omega)]
          rw [if_pos ⟨h3, h4⟩, wrap_of ((b.toNat : Int) - 97) (by omega) (by omega), wrap_of _ (by omega) (by omega)]
        · have h4' : ¬ (b.toNat : Int) ≤ 102 := by omega
          simp +contextual (dsimp := false) [h1', h2', h3', h4']
          omega
      · have h3' : ¬ (97 : Int) ≤ b.toNat := by omega
        simp +contextual (dsimp := false) [h1', h2', h3']
        omega
  · have h1' : ¬ (48 : Int) ≤ b.toNat := by omega
    have h3' : ¬ (97 : Int) ≤ b.toNat := by omega
    rw [if_neg (fun h => h1 h.1), if_neg (by omega)]
    simp +contextual (dsimp := false) [h1', h3']
def numS (s : List UInt8) (i : Nat) : Int := (s.take i).foldl (fun a b => a * 10 + (b.toNat : Int) - 48) 0
theorem numS_s {s : List UInt8} {i : Nat} (h : i < s.length) : numS s (i + 1) = numS s i * 10 + (s[i].toNat : Int) - 48 := by
  unfold numS
  rw [List.take_succ_eq_append_getElem h, List.foldl_append]
  rfl
theorem l1Number_ac {s : List UInt8} {H : Heap} (hs : s.length ≤ 10000000) : AC Tryd.prog ng 54 [str s] H fun v S' => v = .int .i64 (numS s 6) ∧ S' = H := by
  refine .flat (AC.go [] Tryd.func54 rfl Tryd.ntmps54 rfl ⟨mixed, by kernel_rfl⟩ ?_)
  simp +contextual (dsimp := false)
  refine LoopA.up (σ := Nat) [0, 3, 4] (fun i => [(3, .int .i64 (numS s i)), (4, int i)]) (fun i => H) (fun i => i ≤ s.length ∧ i ≤ 6 ∧ -23 * (10 : Int) ^ i + 23 ≤ numS s i ∧ numS s i ≤ 23 * (10 : Int) ^ i - 23) (fun i => s.length - i) 0 rfl ⟨by simp, by simp, by simp [numS], by simp [numS]⟩ ?_
  rintro i ⟨h1, h2, h3, h4⟩
  simp +contextual (dsimp := false)
  refine ifA_dec (fun h5 => ?_) (fun h5 => ?_)
  · refine ifA_dec (fun h6 => ?_) (fun h6 => ?_)
    · have hb := s[i].toNat_lt
      have hP : (10 : Int) ^ i ≤ 100000 := by
        have : i = 0 ∨ i = 1 ∨ i = 2 ∨ i = 3 ∨ i = 4 ∨ i = 5 := by omega
        rcases this with rfl | rfl | rfl | rfl | rfl | rfl <;> decide
      have hn := numS_s h5
      simp +contextual (dsimp := false) [h5, wrap_succ (show i < 9223372036854775807 by omega)]
      refine LoopN.of (i + 1) ?_ ⟨h5, by omega, ?_, ?_⟩ (by omega)
      · rw [hn, wrap_of (numS s i * 10) (by omega) (by omega), wrap_of ((s[i].toNat : Int)) (by omega) (by omega), wrap_of (numS s i * 10 + (s[i].toNat : Int)) (by omega) (by omega), wrap_of _ (by omega) (by omega)]
        rfl
      · rw [hn, Int.pow_succ]; omega
      · rw [hn, Int.pow_succ]; omega
    · obtain rfl : i = 6 := by omega
      rfl
  · unfold numS
    rw [List.take_of_length_le (by omega), List.take_of_length_le (by omega)]
/-- What stands in quotes, read loosely. -/
def unqS : List UInt8 → List UInt8
  | [] => []
  | b :: r => if b = 92 then (match r with
    | a :: c :: r' => if 0 ≤ hexI a ∧ 0 ≤ hexI c then UInt8.ofNat (16 * hexI a + hexI c).toNat :: unqS r' else b :: unqS (a :: c :: r')
    | r => b :: unqS r) else b :: unqS r
def inQ (s : List UInt8) : List UInt8 := (s.drop 1).take (s.length - 2)
theorem inQ_len (s : List UInt8) : (inQ s).length = s.length - 2 := by
  unfold inQ
  rw [List.length_take, List.length_drop]
  omega
theorem inQ_get {s : List UInt8} {p : Nat} (h : p + 1 + 1 < s.length) : (inQ s).drop p = s[p + 1] :: (inQ s).drop (p + 1) := by
  rw [List.drop_eq_getElem_cons (by rw [inQ_len]; omega)]
  congr 1
  simp [inQ, Nat.add_comm]
theorem inQ_at {s : List UInt8} {i : Nat} (h1 : 1 ≤ i) (h : i + 1 < s.length) : (inQ s).drop (i - 1) = s[i] :: (inQ s).drop i := by
  obtain ⟨p, rfl⟩ : ∃ p, i = p + 1 := ⟨i - 1, by omega⟩
  exact inQ_get h
theorem unqS_plain {b : UInt8} {r : List UInt8} (h : b ≠ 92) : unqS (b :: r) = b :: unqS r := by
  rcases r with _ | ⟨a, _ | ⟨c, r⟩⟩ <;> simp [unqS, h]
theorem unqS_short {b : UInt8} {r : List UInt8} (h : r.length < 2) : unqS (b :: r) = b :: unqS r := by
  rcases r with _ | ⟨a, _ | ⟨c, r⟩⟩
  · simp [unqS]
  · simp [unqS]
  · simp at h
    omega
theorem unqS_hex {a c : UInt8} {r : List UInt8} : unqS (92 :: a :: c :: r) = if 0 ≤ hexI a ∧ 0 ≤ hexI c then UInt8.ofNat (16 * hexI a + hexI c).toNat :: unqS r else 92 :: unqS (a :: c :: r) := by
  rw [unqS, if_pos rfl]
theorem hexI_le (b : UInt8) : -1 ≤ hexI b ∧ hexI b ≤ 15 := by
  unfold hexI
  split
  · omega
  · split <;> omega
set_option maxHeartbeats 2000000 in
theorem l1Unquote_ac {s : List UInt8} {H : Heap} (hs : s.length ≤ 10000000) : AC Tryd.prog ng 53 [str s] H fun v S' => v = str (unqS (inQ s)) ∧ S' = H := by
  refine .flat (AC.go [] Tryd.func53 rfl Tryd.ntmps53 rfl ⟨mixed, by kernel_rfl⟩ ?_)
  simp +contextual (dsimp := false)
  have hr0 : BytesR true (H ++ [(⟨.cells #[] 5 (0, 0), true, true⟩ : Blk)]) [] [.slice (some ⟨H.length, 0, none⟩) 0 1] [H.length] := SlR.mt (R := byteR) (e := 5) (f := (0, 0)) (by simp)
  refine LoopA.up (σ := Nat × Heap × Value × List Nat × List UInt8) [0, 3, 4] (fun x => [(3, x.2.2.1), (4, int x.1)]) (fun x => x.2.1)
    (fun x => 1 ≤ x.1 ∧ x.1 ≤ s.length + 1 ∧ Ext H x.2.1 ∧ BytesR true x.2.1 x.2.2.2.2 [x.2.2.1] x.2.2.2.1 ∧ Fresh H.length x.2.2.2.1 ∧ x.2.2.2.2.length ≤ x.1 ∧ (x.1 + 1 ≤ s.length ∨ s.length ≤ 1) ∧ x.2.2.2.2 ++ unqS ((inQ s).drop (x.1 - 1)) = unqS (inQ s)) (fun x => s.length + 1 - x.1) (1, _, _, [H.length], []) rfl
    ⟨by simp, by simp, Ext.app _ _, hr0, Fresh.one (Nat.le_refl _), by simp, by dsimp only; omega, by simp⟩ ?_
  rintro ⟨i, hp, sv, FB, out⟩ ⟨g1, g2, gx, gr, gf, gl, gi, go⟩
  dsimp only at g1 g2 gx gr gf gl gi go
  have hle := gx.le
  obtain ⟨a3, z3, rfl⟩ := gr.form
  obtain ⟨j1, hj1⟩ : ∃ j, j = i + 1 := ⟨_, rfl⟩
  obtain ⟨j2, hj2⟩ : ∃ j, j = i + 2 := ⟨_, rfl⟩
  obtain ⟨j3, hj3⟩ : ∃ j, j = i + 3 := ⟨_, rfl⟩
  have w1 : IntKind.i64.wrap ((i : Int) + 1) = (j1 : Int) := by rw [wrap_of _ (by omega) (by omega)]; omega
  have w2 : IntKind.i64.wrap ((i : Int) + 2) = (j2 : Int) := by rw [wrap_of _ (by omega) (by omega)]; omega
  have w3 : IntKind.i64.wrap ((i : Int) + 3) = (j3 : Int) := by rw [wrap_of _ (by omega) (by omega)]; omega
  by_cases c1 : j1 < s.length
  · have x1 : i < s.length := by omega
    have hqi := inQ_at (s := s) g1 (by omega)
    by_cases c2 : s[i] = 92
    · have c2' : (s[i].toNat : Int) = 92 := by rw [c2]; rfl
      have c92 := c2'
      by_cases c3 : j3 < s.length
      · have x2 : j2 < s.length := by omega
        have hqj := inQ_at (s := s) (i := j1) (by omega) (by omega)
        have hqk := inQ_at (s := s) (i := j2) (by omega) (by omega)
        rw [show j1 - 1 = i by omega] at hqj
        rw [show j2 - 1 = j1 by omega] at hqk
        have ha := hexI_le s[j1]
        have hc := hexI_le s[j2]
        simp +contextual (dsimp := false) [w1, w2, w3, c1, x1, x2, c2', c3]
        refine CallK.fl ⟨_, Tryd.func87, rfl, rfl⟩ (l1HexOf_ac s[j1] _) ?_
        simp +contextual (dsimp := false) [w1, w2, w3, c1, x1, x2, c2', c3]
        refine ifA_dec (fun k1 => ?_) (fun k1 => ?_)
        · refine CallK.fl ⟨_, Tryd.func87, rfl, rfl⟩ (l1HexOf_ac s[j2] _) ?_
          simp +contextual (dsimp := false) [w1, w2, w3, c1, x1, x2, c2', c3]
          refine ifA_dec (fun k2 => ?_) (fun k2 => ?_)
          · have wm : IntKind.i64.wrap (16 * hexI s[j1]) = 16 * hexI s[j1] := wrap_of _ (by omega) (by omega)
            have wa : IntKind.i64.wrap (16 * hexI s[j1] + hexI s[j2]) = 16 * hexI s[j1] + hexI s[j2] := wrap_of _ (by omega) (by omega)
            have wu : IntKind.u8.wrap (16 * hexI s[j1] + hexI s[j2]) = 16 * hexI s[j1] + hexI s[j2] := wrap_u8 (by omega) (by omega)
            have hstep : unqS (s[i] :: (inQ s).drop i) = UInt8.ofNat (16 * hexI s[j1] + hexI s[j2]).toNat :: unqS ((inQ s).drop j2) := by
              rw [c2, hqj, hqk, unqS_hex, if_pos ⟨k1, k2⟩]
            refine CallK.fl ⟨_, Tryd.func87, rfl, rfl⟩ (l1HexOf_ac s[j1] _) ?_
            simp +contextual (dsimp := false) [w1, w2, w3, c1, x1, x2, c2', c3]
            refine CallK.fl ⟨_, Tryd.func87, rfl, rfl⟩ (l1HexOf_ac s[j2] _) ?_
            simp +contextual (dsimp := false) [w1, w2, w3, c1, x1, x2, c2', c3, wm, wa, wu]
            have hv : ((UInt8.ofNat (16 * hexI s[j1] + hexI s[j2]).toNat).toNat : Int) = 16 * hexI s[j1] + hexI s[j2] := by
              rw [UInt8.toNat_ofNat']
              omega
            generalize UInt8.ofNat (16 * hexI s[j1] + hexI s[j2]).toNat = x at hv hstep
            refine AppK.one (R := byteR) (ex := 5) (fx := (0, 0)) (ox := true) (base := H.length) (x := x) (cx := [.int .u8 (16 * hexI s[j1] + hexI s[j2])]) (Fx := []) slt33 und33 (Rp.ext gr (Ext.app _ _)) gf (by simp) ⟨by rw [← hv], rfl, trivial⟩ (Fresh.nil _) (by simp) (by simp; omega) (by omega) (by decide) ?_
            intro s1 H1 F1 q1 q2 q3 q4 q5
            simp only [List.length_append, List.length_singleton] at q3 q4
            have w4 : IntKind.i64.wrap ((j2 : Int) + 1) = (j3 : Int) := by rw [wrap_of _ (by omega) (by omega)]; omega
            simp +contextual (dsimp := false) [w2, w4]
            refine LoopN.of (j3, H1, s1, F1, out ++ [x]) rfl ⟨by dsimp only; omega, by dsimp only; omega, fun j hj => (q4 j (by omega) (fun hm => by have := gf.1 j hm; omega)).trans ((get_ext (by omega)).trans (gx j hj)), q1, q2, by simp; omega, by dsimp only; omega, ?_⟩ (by dsimp only; omega)
            dsimp only
            rw [show j3 - 1 = j2 by omega, List.append_assoc, ← go, hqi, hstep]
            rfl
          · have hstep : unqS (s[i] :: (inQ s).drop i) = s[i] :: unqS ((inQ s).drop i) := by
              rw [c2, hqj, hqk, unqS_hex, if_neg (fun h => k2 h.2)]
            refine AppK.one (R := byteR) (ex := 5) (fx := (0, 0)) (ox := true) (base := H.length) (x := s[i]) (cx := [.int .u8 (s[i].toNat : Int)]) (Fx := []) slt33 und33 (Rp.ext gr (Ext.app _ _)) gf (by simp [c92]) ⟨rfl, rfl, trivial⟩ (Fresh.nil _) (by simp) (by simp; omega) (by omega) (by decide) ?_
            intro s1 H1 F1 q1 q2 q3 q4 q5
            simp only [List.length_append, List.length_singleton] at q3 q4
            simp +contextual (dsimp := false) [w1]
            refine LoopN.of (j1, H1, s1, F1, out ++ [s[i]]) rfl ⟨by dsimp only; omega, by dsimp only; omega, fun j hj => (q4 j (by omega) (fun hm => by have := gf.1 j hm; omega)).trans ((get_ext (by omega)).trans (gx j hj)), q1, q2, by simp; omega, by dsimp only; omega, ?_⟩ (by dsimp only; omega)
            dsimp only
            rw [show j1 - 1 = i by omega, List.append_assoc, ← go, hqi, hstep]
            rfl
        · have hstep : unqS (s[i] :: (inQ s).drop i) = s[i] :: unqS ((inQ s).drop i) := by
            rw [c2, hqj, hqk, unqS_hex, if_neg (fun h => k1 h.1)]
          refine AppK.one (R := byteR) (ex := 5) (fx := (0, 0)) (ox := true) (base := H.length) (x := s[i]) (cx := [.int .u8 (s[i].toNat : Int)]) (Fx := []) slt33 und33 (Rp.ext gr (Ext.app _ _)) gf (by simp [c92]) ⟨rfl, rfl, trivial⟩ (Fresh.nil _) (by simp) (by simp; omega) (by omega) (by decide) ?_
          intro s1 H1 F1 q1 q2 q3 q4 q5
          simp only [List.length_append, List.length_singleton] at q3 q4
          simp +contextual (dsimp := false) [w1]
          refine LoopN.of (j1, H1, s1, F1, out ++ [s[i]]) rfl ⟨by dsimp only; omega, by dsimp only; omega, fun j hj => (q4 j (by omega) (fun hm => by have := gf.1 j hm; omega)).trans ((get_ext (by omega)).trans (gx j hj)), q1, q2, by simp; omega, by dsimp only; omega, ?_⟩ (by dsimp only; omega)
          dsimp only
          rw [show j1 - 1 = i by omega, List.append_assoc, ← go, hqi, hstep]
          rfl
      · simp +contextual (dsimp := false) [w1, w2, w3, c1, x1, c2', c3]
        have hstep : unqS (s[i] :: (inQ s).drop i) = s[i] :: unqS ((inQ s).drop i) := unqS_short (by rw [List.length_drop, inQ_len]; omega)
        refine AppK.one (R := byteR) (ex := 5) (fx := (0, 0)) (ox := true) (base := H.length) (x := s[i]) (cx := [.int .u8 (s[i].toNat : Int)]) (Fx := []) slt33 und33 (Rp.ext gr (Ext.app _ _)) gf (by simp [c92]) ⟨rfl, rfl, trivial⟩ (Fresh.nil _) (by simp) (by simp; omega) (by omega) (by decide) ?_
        intro s1 H1 F1 q1 q2 q3 q4 q5
        simp only [List.length_append, List.length_singleton] at q3 q4
        simp +contextual (dsimp := false) [w1]
        refine LoopN.of (j1, H1, s1, F1, out ++ [s[i]]) rfl ⟨by dsimp only; omega, by dsimp only; omega, fun j hj => (q4 j (by omega) (fun hm => by have := gf.1 j hm; omega)).trans ((get_ext (by omega)).trans (gx j hj)), q1, q2, by simp; omega, by dsimp only; omega, ?_⟩ (by dsimp only; omega)
        dsimp only
        rw [show j1 - 1 = i by omega, List.append_assoc, ← go, hqi, hstep]
        rfl
    · have c2' : ¬ (s[i].toNat : Int) = 92 := by
        intro h
        apply c2
        apply UInt8.toNat_inj.1
        show s[i].toNat = 92
        omega
      have c92 : True := trivial
      simp +contextual (dsimp := false) [w1, w2, w3, c1, x1, c2']
      have hstep := unqS_plain (r := (inQ s).drop i) c2
      refine AppK.one (R := byteR) (ex := 5) (fx := (0, 0)) (ox := true) (base := H.length) (x := s[i]) (cx := [.int .u8 (s[i].toNat : Int)]) (Fx := []) slt33 und33 (Rp.ext gr (Ext.app _ _)) gf (by simp [c92]) ⟨rfl, rfl, trivial⟩ (Fresh.nil _) (by simp) (by simp; omega) (by omega) (by decide) ?_
      intro s1 H1 F1 q1 q2 q3 q4 q5
      simp only [List.length_append, List.length_singleton] at q3 q4
      simp +contextual (dsimp := false) [w1]
      refine LoopN.of (j1, H1, s1, F1, out ++ [s[i]]) rfl ⟨by dsimp only; omega, by dsimp only; omega, fun j hj => (q4 j (by omega) (fun hm => by have := gf.1 j hm; omega)).trans ((get_ext (by omega)).trans (gx j hj)), q1, q2, by simp; omega, by dsimp only; omega, ?_⟩ (by dsimp only; omega)
      dsimp only
      rw [show j1 - 1 = i by omega, List.append_assoc, ← go, hqi, hstep]
      rfl
  · simp +contextual (dsimp := false) [w1, c1]
    refine ConvK.of (conv_bytes und33 und5 und9 gr) ?_
    rw [List.drop_of_length_le (by rw [inQ_len]; omega), unqS, List.append_nil] at go
    simp +contextual (dsimp := false)
    exact ⟨go, gx⟩
end Go.Proofs.YtephpieeibcihaaDoor

/- The reference reads a line. No condition. -/
set_option linter.unusedSimpArgs false
set_option linter.unusedVariables false
namespace Go.Proofs.YtephpieeibcihaaDoor
open Go Go.Am Go.Proofs
set_option maxRecDepth 20000
variable {ng : Nat}
theorem hexI_D {n : Nat} (h : n < 16) : hexI (hexD n) = n := by
  have : ∀ n : Fin 16, hexI (hexD n.val) = (n.val : Int) := by decide
  exact this ⟨n, h⟩
theorem unqS_q (b : UInt8) (r : List UInt8) : unqS (qByte b ++ r) = b :: unqS r := by
  unfold qByte
  cases hp : plainB b with
  | true =>
    have h92 : b ≠ 92 := by rintro rfl; simp [plainB] at hp
    rw [if_pos rfl, List.singleton_append]
    exact unqS_plain h92
  | false =>
    rw [if_neg (by simp)]
    show unqS (92 :: hexD (b.toNat / 16) :: hexD (b.toNat % 16) :: r) = b :: unqS r
    have hb := b.toNat_lt
    rw [unqS_hex, hexI_D (by omega), hexI_D (by omega), if_pos ⟨by omega, by omega⟩]
    rw [show (16 * ((b.toNat / 16 : Nat) : Int) + ((b.toNat % 16 : Nat) : Int)).toNat = b.toNat by omega]
    simp
theorem unqS_body (s : List UInt8) : unqS (qBody s) = s := by
  induction s with
  | nil => rfl
  | cons b s ih =>
    show unqS (qByte b ++ qBody s) = _
    rw [unqS_q, ih]
theorem inQ_quote (t : List UInt8) : inQ (quoteL t) = qBody t := by
  unfold inQ quoteL
  simp
theorem decN_len4 {n : Nat} (h : n < 10000) : (decN n).length ≤ 4 := by
  have a1 : ∀ n, n < 10 → (decN n).length ≤ 1 := fun n h => by rw [decN_small h]; simp
  have st : ∀ k n, (∀ m, m < 10 ^ k → (decN m).length ≤ k) → n < 10 ^ (k + 1) → 1 ≤ k → (decN n).length ≤ k + 1 := fun k n hk hn h1 => by
    by_cases h : n < 10
    · have := a1 n h; omega
    · rw [decN_big h]
      have := hk (n / 10) (by rw [Nat.pow_succ] at hn; omega)
      simp
      omega
  have a2 : ∀ n, n < 10 ^ 2 → (decN n).length ≤ 2 := fun n h => st 1 n (fun m hm => a1 m (by omega)) h (by omega)
  have a3 : ∀ n, n < 10 ^ 3 → (decN n).length ≤ 3 := fun n h => st 2 n a2 h (by omega)
  exact st 3 n a3 (by omega) (by omega)
theorem fold_dec (n : Nat) : (decN n).foldl (fun (a : Int) (b : UInt8) => a * 10 + (b.toNat : Int) - 48) 0 = n := by
  have hd : ∀ n, ((dig n).toNat : Int) = 48 + (n % 10 : Nat) := fun n => by
    have : ∀ k : Fin 10, ((UInt8.ofNat (48 + k.val)).toNat : Int) = 48 + (k.val : Int) := by decide
    exact this ⟨n % 10, by omega⟩
  induction n using Nat.strongRecOn with
  | _ n ih =>
    by_cases h : n < 10
    · rw [decN_small h]
      simp only [List.foldl_cons, List.foldl_nil, hd]
      omega
    · rw [decN_big h, List.foldl_append, ih (n / 10) (by omega)]
      simp only [List.foldl_cons, List.foldl_nil, hd]
      omega
theorem numS_dec {n : Nat} (h : n < 10000) : numS (decN n) 6 = n := by
  unfold numS
  rw [List.take_of_length_le (by have := decN_len4 h; omega), fold_dec]
/-- The instruction that a line might be, at an operation. -/
def cand (op : Int) (s : List UInt8) : Ins :=
  if 0 < (wordOf op).2 ∧ (wordOf op).1.length < s.length then
    (if (wordOf op).2 = 1 then ⟨op, unqS (inQ (s.drop ((wordOf op).1.length + 1))), 0⟩ else ⟨op, [], numS (s.drop ((wordOf op).1.length + 1)) 6⟩)
  else ⟨op, [], 0⟩
theorem cand_eq {x : Ins} (hx : x.valid = true) {s : List UInt8} (h : lineL x = s) : cand x.op s = x := by
  obtain ⟨v1, v2, v3, v4, v5, v6, v7⟩ := valid_parts hx
  obtain ⟨k1, k2⟩ := kind_topN v1 v2
  obtain ⟨op, tx, xn⟩ := x
  dsimp only at v1 v2 v3 v4 v5 v6 v7 k1 k2 ⊢
  subst h
  unfold cand lineL
  dsimp only
  by_cases c1 : (wordOf op).2 = 1
  · have := k2 (by omega)
    have e : xn = 0 := by omega
    rw [if_pos c1, if_pos ⟨by omega, by simp⟩, if_pos c1]
    rw [show ((wordOf op).1 ++ 32 :: quoteL tx).drop ((wordOf op).1.length + 1) = quoteL tx by rw [List.drop_append]; simp]
    rw [inQ_quote, unqS_body, e]
  · rw [if_neg c1]
    have ht : op ≠ 1 := by rintro rfl; exact c1 (by decide)
    have e1 : tx = [] := v4.resolve_left ht
    by_cases c2 : 1 < (wordOf op).2
    · rw [if_pos c2, if_pos ⟨by omega, by simp⟩, if_neg c1]
      rw [show ((wordOf op).1 ++ 32 :: decN xn.toNat).drop ((wordOf op).1.length + 1) = decN xn.toNat by rw [List.drop_append]; simp]
      rw [numS_dec (by omega), e1, Int.toNat_of_nonneg v5]
    · have := k2 (by omega)
      have e : xn = 0 := by omega
      rw [if_neg c2, if_neg (fun h => by omega), e1, e]
/-- What a reader of a line gives. -/
noncomputable def readV (s : List UInt8) : Value := match readL s with
  | some x => .tuple #[.agg x.c.toArray, .bool true]
  | none => .tuple #[.agg Ins.zero.c.toArray, .bool false]
set_option maxHeartbeats 2000000 in
theorem l1Read_ac {s : List UInt8} {H : Heap} (hs : s.length ≤ 10000000) : AC Tryd.prog ng 26 [str s] H fun v S' => v = readV s ∧ S' = H := by
  refine .flat (AC.go [] Tryd.func26 rfl Tryd.ntmps26 rfl ⟨mixed, by kernel_rfl⟩ ?_)
  simp +contextual (dsimp := false)
  refine LoopA.up (σ := Nat × Heap) [0, 2, 4] (fun x => [(4, int x.1)]) (fun x => x.2)
    (fun x => 1 ≤ x.1 ∧ x.1 ≤ 16 ∧ Ext (H ++ [(⟨.cells #[.int .i64 0, .string ⟨⟨[]⟩⟩, .int .i64 0] 55 (0, 0), true, true⟩ : Blk)]) x.2 ∧ ∀ q : Nat, 1 ≤ q → q < x.1 → ¬ ((cand q s).valid = true ∧ lineL (cand q s) = s)) (fun x => 16 - x.1) (1, _) rfl ⟨by simp, by simp, Ext.refl _, fun q h1 h2 => by dsimp only at h2; omega⟩ ?_
  rintro ⟨op, hp⟩ ⟨g1, g2, gx, gn⟩
  dsimp only at g1 g2 gx gn
  have hle := gx.le
  simp +contextual (dsimp := false)
  have gh := (gx H.length (by simp)).trans (by simp : (H ++ [(⟨.cells #[.int .i64 0, .string ⟨⟨[]⟩⟩, .int .i64 0] 55 (0, 0), true, true⟩ : Blk)])[H.length]? = some (⟨.cells #[.int .i64 0, .string ⟨⟨[]⟩⟩, .int .i64 0] 55 (0, 0), true, true⟩ : Blk))
  have hlt : H.length < hp.length := by simp at hle; omega
  refine ifA_dec (fun h3 => ?_) (fun h3 => ?_)
  · refine CallK.fl ⟨_, Tryd.func52, rfl, rfl⟩ (l1Word_ac op _) ?_
    have hwl := wordOf_len (op : Int)
    generalize hw : wordOf (op : Int) = wk at hwl ⊢
    obtain ⟨w, kd⟩ := wk
    dsimp only at hwl ⊢
    by_cases k0 : 0 < kd
    · by_cases k1 : w.length < s.length
      · have k1' : (w.length : Int) < s.length := by omega
        obtain ⟨wl, hwl1⟩ : ∃ n, n = w.length + 1 := ⟨_, rfl⟩
        have ww : IntKind.i64.wrap ((w.length : Int) + 1) = (wl : Int) := by rw [wrap_of _ (by omega) (by omega)]; omega
        have hsl := sliceZ_from (P := Tryd.prog) (k := .i64) (l := s) (j := (wl : Int)) (by omega) (by omega)
        by_cases k2 : kd = 1
        · subst k2
          simp +contextual (dsimp := false) [k1, k1', ww, hsl]
          refine CallK.fl ⟨_, Tryd.func53, rfl, rfl⟩ (l1Unquote_ac (s := s.drop wl) (by simp; omega)) ?_
          simp +contextual (dsimp := false)
          have hC : cand op s = ⟨op, unqS (inQ (s.drop wl)), 0⟩ := by
            rw [cand, hw, if_pos ⟨by simp, k1⟩, if_pos rfl, ← hwl1]
          refine CallK.fl ⟨_, Tryd.func39, rfl, rfl⟩ (l1InsOk_ac ⟨op, unqS (inQ (s.drop wl)), 0⟩ _) ?_
          cases hval : Ins.valid ⟨op, unqS (inQ (s.drop wl)), 0⟩ with
          | false =>
            simp +contextual (dsimp := false) [wrap_succ (show op < 9223372036854775807 by omega)]
            refine LoopN.of (op + 1, _) rfl ⟨by dsimp only; omega, by dsimp only; omega, gx.trans (Ext.app _ _), fun q q1 q2 => ?_⟩ (by dsimp only; omega)
            rcases Nat.lt_or_ge q op with h | h
            · exact gn q q1 h
            · obtain rfl : q = op := by dsimp only at q2; omega
              rw [hC, hval]
              simp
          | true =>
            simp +contextual (dsimp := false)
            refine CallK.fl ⟨_, Tryd.func55, rfl, rfl⟩ (l1Line_ac (x := ⟨op, unqS (inQ (s.drop wl)), 0⟩) hval) ?_
            simp +contextual (dsimp := false) [wrap_succ (show op < 9223372036854775807 by omega)]
            refine ifA_dec (fun hl => ?_) (fun hl => ?_)
            · have hrd := readL_some hval hl
              have ghT : ∀ T : Heap, (hp ++ T)[H.length]? = _ := fun T => (List.getElem?_append_left hlt).trans gh
              have hset : ∀ (T : Heap) (b : Blk), ((hp ++ T).set H.length b)[H.length]? = some b := fun T b => List.getElem?_set_self (by simp; omega)
              simp +contextual (dsimp := false) [ghT, hset]
              refine ⟨by simp [readV, hrd, Ins.c], fun j hj => ?_⟩
              rw [List.getElem?_set_ne (by omega)]
              exact (get_ext (by omega)).trans ((gx j (by simp; omega)).trans (get_ext hj))
            · refine LoopN.of (op + 1, _) rfl ⟨by dsimp only; omega, by dsimp only; omega, gx.trans (Ext.app _ _), fun q q1 q2 => ?_⟩ (by dsimp only; omega)
              rcases Nat.lt_or_ge q op with h | h
              · exact gn q q1 h
              · obtain rfl : q = op := by dsimp only at q2; omega
                rw [hC]
                exact fun hh => hl hh.2
        · have hk2 : ¬ kd = 1 := k2
          simp +contextual (dsimp := false) [k0, k1, k1', ww, hsl, k2]
          refine CallK.fl ⟨_, Tryd.func54, rfl, rfl⟩ (l1Number_ac (s := s.drop wl) (by simp; omega)) ?_
          simp +contextual (dsimp := false)
          have hC : cand op s = ⟨op, [], numS (s.drop wl) 6⟩ := by
            rw [cand, hw, if_pos ⟨k0, k1⟩, if_neg k2, ← hwl1]
          refine CallK.fl ⟨_, Tryd.func39, rfl, rfl⟩ (l1InsOk_ac ⟨op, [], numS (s.drop wl) 6⟩ _) ?_
          cases hval : Ins.valid ⟨op, [], numS (s.drop wl) 6⟩ with
          | false =>
            simp +contextual (dsimp := false) [wrap_succ (show op < 9223372036854775807 by omega)]
            refine LoopN.of (op + 1, _) rfl ⟨by dsimp only; omega, by dsimp only; omega, gx.trans (Ext.app _ _), fun q q1 q2 => ?_⟩ (by dsimp only; omega)
            rcases Nat.lt_or_ge q op with h | h
            · exact gn q q1 h
            · obtain rfl : q = op := by dsimp only at q2; omega
              rw [hC, hval]
              simp
          | true =>
            simp +contextual (dsimp := false)
            refine CallK.fl ⟨_, Tryd.func55, rfl, rfl⟩ (l1Line_ac (x := ⟨op, [], numS (s.drop wl) 6⟩) hval) ?_
            simp +contextual (dsimp := false) [wrap_succ (show op < 9223372036854775807 by omega)]
            refine ifA_dec (fun hl => ?_) (fun hl => ?_)
            · have hrd := readL_some hval hl
              have ghT : ∀ T : Heap, (hp ++ T)[H.length]? = _ := fun T => (List.getElem?_append_left hlt).trans gh
              have hset : ∀ (T : Heap) (b : Blk), ((hp ++ T).set H.length b)[H.length]? = some b := fun T b => List.getElem?_set_self (by simp; omega)
              simp +contextual (dsimp := false) [ghT, hset]
              refine ⟨by simp [readV, hrd, Ins.c], fun j hj => ?_⟩
              rw [List.getElem?_set_ne (by omega)]
              exact (get_ext (by omega)).trans ((gx j (by simp; omega)).trans (get_ext hj))
            · refine LoopN.of (op + 1, _) rfl ⟨by dsimp only; omega, by dsimp only; omega, gx.trans (Ext.app _ _), fun q q1 q2 => ?_⟩ (by dsimp only; omega)
              rcases Nat.lt_or_ge q op with h | h
              · exact gn q q1 h
              · obtain rfl : q = op := by dsimp only at q2; omega
                rw [hC]
                exact fun hh => hl hh.2
      · have k1' : ¬ (w.length : Int) < s.length := by omega
        simp +contextual (dsimp := false) [k0, k1, k1']
        have hC : cand op s = ⟨op, [], 0⟩ := by
          rw [cand, hw, if_neg (fun h => k1 h.2)]
        refine CallK.fl ⟨_, Tryd.func39, rfl, rfl⟩ (l1InsOk_ac ⟨op, [], 0⟩ _) ?_
        cases hval : Ins.valid ⟨op, [], 0⟩ with
        | false =>
          simp +contextual (dsimp := false) [wrap_succ (show op < 9223372036854775807 by omega)]
          refine LoopN.of (op + 1, _) rfl ⟨by dsimp only; omega, by dsimp only; omega, gx.trans (Ext.app _ _), fun q q1 q2 => ?_⟩ (by dsimp only; omega)
          rcases Nat.lt_or_ge q op with h | h
          · exact gn q q1 h
          · obtain rfl : q = op := by dsimp only at q2; omega
            rw [hC, hval]
            simp
        | true =>
          simp +contextual (dsimp := false)
          refine CallK.fl ⟨_, Tryd.func55, rfl, rfl⟩ (l1Line_ac (x := ⟨op, [], 0⟩) hval) ?_
          simp +contextual (dsimp := false) [wrap_succ (show op < 9223372036854775807 by omega)]
          refine ifA_dec (fun hl => ?_) (fun hl => ?_)
          · have hrd := readL_some hval hl
            have ghT : ∀ T : Heap, (hp ++ T)[H.length]? = _ := fun T => (List.getElem?_append_left hlt).trans gh
            have hset : ∀ (T : Heap) (b : Blk), ((hp ++ T).set H.length b)[H.length]? = some b := fun T b => List.getElem?_set_self (by simp; omega)
            simp +contextual (dsimp := false) [ghT, hset]
            refine ⟨by simp [readV, hrd, Ins.c], fun j hj => ?_⟩
            rw [List.getElem?_set_ne (by omega)]
            exact (get_ext (by omega)).trans ((gx j (by simp; omega)).trans (get_ext hj))
          · refine LoopN.of (op + 1, _) rfl ⟨by dsimp only; omega, by dsimp only; omega, gx.trans (Ext.app _ _), fun q q1 q2 => ?_⟩ (by dsimp only; omega)
            rcases Nat.lt_or_ge q op with h | h
            · exact gn q q1 h
            · obtain rfl : q = op := by dsimp only at q2; omega
              rw [hC]
              exact fun hh => hl hh.2
    · simp +contextual (dsimp := false) [k0]
      have hC : cand op s = ⟨op, [], 0⟩ := by
        rw [cand, hw, if_neg (fun h => k0 h.1)]
      refine CallK.fl ⟨_, Tryd.func39, rfl, rfl⟩ (l1InsOk_ac ⟨op, [], 0⟩ _) ?_
      cases hval : Ins.valid ⟨op, [], 0⟩ with
      | false =>
        simp +contextual (dsimp := false) [wrap_succ (show op < 9223372036854775807 by omega)]
        refine LoopN.of (op + 1, _) rfl ⟨by dsimp only; omega, by dsimp only; omega, gx.trans (Ext.app _ _), fun q q1 q2 => ?_⟩ (by dsimp only; omega)
        rcases Nat.lt_or_ge q op with h | h
        · exact gn q q1 h
        · obtain rfl : q = op := by dsimp only at q2; omega
          rw [hC, hval]
          simp
      | true =>
        simp +contextual (dsimp := false)
        refine CallK.fl ⟨_, Tryd.func55, rfl, rfl⟩ (l1Line_ac (x := ⟨op, [], 0⟩) hval) ?_
        simp +contextual (dsimp := false) [wrap_succ (show op < 9223372036854775807 by omega)]
        refine ifA_dec (fun hl => ?_) (fun hl => ?_)
        · have hrd := readL_some hval hl
          have ghT : ∀ T : Heap, (hp ++ T)[H.length]? = _ := fun T => (List.getElem?_append_left hlt).trans gh
          have hset : ∀ (T : Heap) (b : Blk), ((hp ++ T).set H.length b)[H.length]? = some b := fun T b => List.getElem?_set_self (by simp; omega)
          simp +contextual (dsimp := false) [ghT, hset]
          refine ⟨by simp [readV, hrd, Ins.c], fun j hj => ?_⟩
          rw [List.getElem?_set_ne (by omega)]
          exact (get_ext (by omega)).trans ((gx j (by simp; omega)).trans (get_ext hj))
        · refine LoopN.of (op + 1, _) rfl ⟨by dsimp only; omega, by dsimp only; omega, gx.trans (Ext.app _ _), fun q q1 q2 => ?_⟩ (by dsimp only; omega)
          rcases Nat.lt_or_ge q op with h | h
          · exact gn q q1 h
          · obtain rfl : q = op := by dsimp only at q2; omega
            rw [hC]
            exact fun hh => hl hh.2
  · have hno : readL s = none := readL_none fun x hx hl => by
      have hv := valid_parts hx
      have hop : ((x.op.toNat : Nat) : Int) = x.op := Int.toNat_of_nonneg (by omega)
      refine gn x.op.toNat (by omega) (by omega) ?_
      rw [hop, cand_eq hx hl]
      exact ⟨hx, hl⟩
    have hset : ∀ b : Blk, (hp.set H.length b)[H.length]? = some b := fun b => List.getElem?_set_self hlt
    simp +contextual (dsimp := false) [goB_of gh, gh, hset]
    refine ⟨by simp [readV, hno, Ins.zero, Ins.c], fun j hj => ?_⟩
    rw [List.getElem?_set_ne (by omega)]
    exact (gx j (by simp; omega)).trans (get_ext hj)
end Go.Proofs.YtephpieeibcihaaDoor

/- The reference parses. No condition. -/
set_option linter.unusedSimpArgs false
set_option linter.unusedVariables false
namespace Go.Proofs.YtephpieeibcihaaDoor
open Go Go.Am Go.Proofs
set_option maxRecDepth 20000
variable {ng : Nat}
/-- The pieces between newlines. -/
def cutN : List UInt8 → List UInt8 → List (List UInt8)
  | [], w => [w]
  | b :: s, w => if b = 10 then w :: cutN s [] else cutN s (w ++ [b])
theorem cutN_num : ∀ (s w : List UInt8), 1 ≤ (cutN s w).length ∧ (cutN s w).length ≤ s.length + 1
  | [], w => by simp [cutN]
  | b :: s, w => by
    have h1 := cutN_num s []
    have h2 := cutN_num s (w ++ [b])
    rw [cutN]
    split
    · simp only [List.length_cons]; omega
    · simp only [List.length_cons]; omega
theorem cutN_len : ∀ (s w : List UInt8), ∀ t ∈ cutN s w, t.length ≤ w.length + s.length
  | [], w, t, h => by simp [cutN] at h; subst h; simp
  | b :: s, w, t, h => by
    rw [cutN] at h
    split at h
    · rcases List.mem_cons.1 h with rfl | h
      · simp
      · have := cutN_len s [] t h
        simp at this ⊢
        omega
    · have := cutN_len s (w ++ [b]) t h
      simp at this ⊢
      omega
theorem seg_s {s : List UInt8} {a i : Nat} (h : i < s.length) (ha : a ≤ i) : (s.drop a).take (i + 1 - a) = (s.drop a).take (i - a) ++ [s[i]] := by
  rw [show i + 1 - a = (i - a) + 1 by omega, List.take_succ_eq_append_getElem (by simp; omega)]
  simp [show a + (i - a) = i by omega]
set_option maxHeartbeats 1000000 in
theorem l1Cut_ac {s : List UInt8} {H : Heap} (hs : s.length ≤ 10000000) : AC Tryd.prog ng 25 [str s] H fun v S' => ∃ F', Ext H S' ∧ StrsR true S' (cutN s []) [v] F' ∧ Fresh H.length F' := by
  refine AC.go [] Tryd.func25 rfl Tryd.ntmps25 rfl ⟨mixed, by kernel_rfl⟩ ?_
  simp +contextual (dsimp := false)
  have hr0 : StrsR true (H ++ [(⟨.cells #[] 9 (0, 0), true, true⟩ : Blk)]) [] [.slice (some ⟨H.length, 0, none⟩) 0 1] [H.length] := SlR.mt (R := strR) (e := 9) (f := (0, 0)) (by simp)
  refine LoopA.up (σ := Nat × Heap × Value × List Nat × List (List UInt8) × Nat) [0, 3, 4, 5] (fun x => [(3, x.2.2.1), (4, int x.2.2.2.2.2), (5, int x.1)]) (fun x => x.2.1)
    (fun x => x.1 ≤ s.length ∧ Ext H x.2.1 ∧ StrsR true x.2.1 x.2.2.2.2.1 [x.2.2.1] x.2.2.2.1 ∧ Fresh H.length x.2.2.2.1 ∧ x.2.2.2.2.1.length ≤ x.1 ∧ x.2.2.2.2.2 ≤ x.1 ∧ x.2.2.2.2.1 ++ cutN (s.drop x.1) ((s.drop x.2.2.2.2.2).take (x.1 - x.2.2.2.2.2)) = cutN s []) (fun x => s.length - x.1) (0, _, _, [H.length], [], 0) rfl
    ⟨by simp, Ext.app _ _, hr0, Fresh.one (Nat.le_refl _), by simp, by simp, by simp⟩ ?_
  rintro ⟨i, hp, sv, FB, out, fr⟩ ⟨g1, gx, gr, gf, gl, gm, go⟩
  dsimp only at g1 gx gr gf gl gm go
  have hle := gx.le
  obtain ⟨a3, z3, rfl⟩ := gr.form
  simp +contextual (dsimp := false)
  refine ifA_dec (fun h3 => ?_) (fun h3 => ?_)
  · have hd : s.drop i = s[i] :: s.drop (i + 1) := List.drop_eq_getElem_cons h3
    rw [hd, cutN] at go
    simp +contextual (dsimp := false) [h3, wrap_succ (show i < 9223372036854775807 by omega)]
    refine ifA_dec (fun h4 => ?_) (fun h4 => ?_)
    · have e10 : s[i] = 10 := by
        apply UInt8.toNat_inj.1
        show s[i].toNat = 10
        omega
      rw [if_pos e10] at go
      rw [sliceZ_mid (by omega) (by omega) (by omega)]
      simp +contextual (dsimp := false)
      refine AppK.one (R := strR) (l := out) (ex := 9) (fx := (0, 0)) (ox := true) (base := H.length) (x := (s.take i).drop fr) (cx := [.string ⟨⟨(s.take i).drop fr⟩⟩]) (Fx := []) slt52 und52 (Rp.ext gr (Ext.app _ _)) gf (by simp) ⟨rfl, rfl, by unfold okS; simp; omega⟩ (Fresh.nil _) (by simp) (by simp; omega) (by omega) (by decide) ?_
      intro s1 H1 F1 q1 q2 q3 q4 q5
      simp only [List.length_append, List.length_singleton] at q3 q4
      have hxx : Ext H H1 := fun j hj => (q4 j (by omega) (fun hm => by have := gf.1 j hm; omega)).trans ((get_ext (by omega)).trans (gx j hj))
      simp +contextual (dsimp := false) [wrap_succ (show i < 9223372036854775807 by omega)]
      refine LoopN.of (i + 1, H1, s1, F1, out ++ [(s.take i).drop fr], i + 1) rfl ⟨h3, hxx, q1, q2, by simp; omega, Nat.le_refl _, ?_⟩ (by dsimp only; omega)
      dsimp only
      rw [Nat.sub_self, List.take_zero, List.append_assoc, ← go, List.drop_take]
      rfl
    · have e10 : ¬ s[i] = 10 := by
        intro h
        rw [h] at h4
        exact h4 rfl
      rw [if_neg e10, ← seg_s h3 gm] at go
      exact LoopN.of (i + 1, hp, _, FB, out, fr) rfl ⟨h3, gx, gr, gf, by dsimp only; omega, by dsimp only; omega, go⟩ (by dsimp only; omega)
  · obtain rfl : i = s.length := by omega
    rw [List.drop_length, cutN] at go
    rw [sliceZ_from (by omega) (by omega)]
    simp +contextual (dsimp := false)
    refine AppK.one (R := strR) (l := out) (ex := 9) (fx := (0, 0)) (ox := true) (base := H.length) (x := s.drop fr) (cx := [.string ⟨⟨s.drop fr⟩⟩]) (Fx := []) slt52 und52 (Rp.ext gr (Ext.app _ _)) gf (by simp) ⟨rfl, rfl, by unfold okS; simp; omega⟩ (Fresh.nil _) (by simp) (by simp; omega) (by omega) (by decide) ?_
    intro s1 H1 F1 q1 q2 q3 q4 q5
    simp only [List.length_append, List.length_singleton] at q3 q4
    have hxx : Ext H H1 := fun j hj => (q4 j (by omega) (fun hm => by have := gf.1 j hm; omega)).trans ((get_ext (by omega)).trans (gx j hj))
    rw [List.take_of_length_le (by simp)] at go
    rw [go] at q1
    obtain ⟨a9, z9, rfl⟩ := q1.form
    simp +contextual (dsimp := false)
    exact ⟨hxx, F1, q1, q2⟩
end Go.Proofs.YtephpieeibcihaaDoor

/- spec.ParseProgram. No condition. -/
set_option linter.unusedSimpArgs false
set_option linter.unusedVariables false
namespace Go.Proofs.YtephpieeibcihaaDoor
open Go Go.Am Go.Proofs
set_option maxRecDepth 20000
variable {ng : Nat}
/-- What a reader of a program gives, from a place on: the code so far. -/
noncomputable def parseFrom (ls : List (List UInt8)) : Nat → Nat → List Ins → List Ins × Int × Int
  | 0, k, p => ([], 0, 0)
  | f + 1, k, p => if k + 1 < ls.length then (match readL (ls.getD k []) with
      | some x => parseFrom ls f (k + 1) (p ++ [x])
      | none => ([], 2, k))
    else if ls.getD (ls.length - 1) [] ≠ [] then ([], 2, ((ls.length - 1 : Nat) : Int))
    else if 200 < p.length then ([], 3, 0) else (p, 0, 0)
noncomputable def parseP (src : List UInt8) : List Ins × Int × Int :=
  if src = [] ∨ 1500000 < src.length then ([], 1, 0) else parseFrom (cutN src []) (cutN src []).length 0 []
theorem readL_spec {s : List UInt8} {x : Ins} (h : readL s = some x) : x.valid = true ∧ lineL x = s := by
  unfold readL at h
  split at h
  · rename_i hx
    injection h with h
    rw [← h]
    exact hx.choose_spec
  · cases h
theorem ins_ok {x : Ins} (h : x.valid = true) : x.ok := by
  obtain ⟨v1, v2, v3, v4, v5, v6, v7⟩ := valid_parts h
  refine ⟨⟨by omega, by omega⟩, ?_, ⟨by omega, by omega⟩⟩
  unfold okS
  omega
theorem parse_s {ls : List (List UInt8)} {k : Nat} {p : List Ins} {x : Ins} (h : k + 1 < ls.length) (hr : readL (ls.getD k []) = some x) : parseFrom ls (ls.length - k) k p = parseFrom ls (ls.length - (k + 1)) (k + 1) (p ++ [x]) := by
  obtain ⟨f, hf⟩ : ∃ f, ls.length - k = f + 1 := ⟨ls.length - k - 1, by omega⟩
  rw [hf, parseFrom, if_pos h, hr, show ls.length - (k + 1) = f by omega]
theorem parse_n {ls : List (List UInt8)} {k : Nat} {p : List Ins} (h : k + 1 < ls.length) (hr : readL (ls.getD k []) = none) : parseFrom ls (ls.length - k) k p = ([], 2, (k : Int)) := by
  obtain ⟨f, hf⟩ : ∃ f, ls.length - k = f + 1 := ⟨ls.length - k - 1, by omega⟩
  rw [hf, parseFrom, if_pos h, hr]
theorem parse_e {ls : List (List UInt8)} {k : Nat} {p : List Ins} (h : k + 1 = ls.length) : parseFrom ls (ls.length - k) k p = if ls.getD (ls.length - 1) [] ≠ [] then ([], 2, ((ls.length - 1 : Nat) : Int)) else if 200 < p.length then ([], 3, 0) else (p, 0, 0) := by
  obtain ⟨f, hf⟩ : ∃ f, ls.length - k = f + 1 := ⟨ls.length - k - 1, by omega⟩
  rw [hf, parseFrom, if_neg (by omega)]
set_option maxHeartbeats 2000000 in
theorem specParse_ac {src : List UInt8} {H : Heap} : AC Tryd.prog ng 7 [str src] H fun v S' => ∃ sv F', v = .tuple #[.agg #[sv], .agg #[int (parseP src).2.1, int (parseP src).2.2]] ∧ Ext H S' ∧ CodeR true S' (parseP src).1 [sv] F' ∧ Fresh H.length F' := by
  refine AC.go [] Tryd.func7 rfl Tryd.ntmps7 rfl ⟨mixed, by kernel_rfl⟩ ?_
  unfold parseP
  by_cases h0 : src = []
  · subst h0
    simp +contextual (dsimp := false)
    exact ⟨[], SlR.nil, Fresh.nil _⟩
  · by_cases h1 : 1500000 < src.length
    · have h1' : (1500000 : Int) < src.length := by omega
      rw [if_pos (.inr h1)]
      simp +contextual (dsimp := false) [h0, h1']
      exact ⟨[], SlR.nil, Fresh.nil _⟩
    · have h1' : ¬ (1500000 : Int) < src.length := by omega
      rw [if_neg (by rintro (h | h); exact h0 h; exact h1 h)]
      simp +contextual (dsimp := false) [h0, h1']
      refine CallK.of ⟨_, Tryd.func25, rfl, rfl⟩ (l1Cut_ac (by omega)) ?_
      rintro v S1 ⟨FL, heL, hrL, hfL⟩
      have hnum := cutN_num src []
      have hln := cutN_len src []
      generalize cutN src [] = ls at hrL hnum hln ⊢
      obtain ⟨a5, z5, rfl⟩ := hrL.form
      have hlL := heL.le
      have e0 := (heL H.length (by simp)).trans (by simp : (H ++ [(⟨.cells #[.slice none 0 0] 24 (0, 0), true, true⟩ : Blk), ⟨.cells #[.int .i64 0, .int .i64 0] 26 (0, 0), true, true⟩])[H.length]? = some (⟨.cells #[.slice none 0 0] 24 (0, 0), true, true⟩ : Blk))
      have e1 := (heL (H.length + 1) (by simp)).trans (by simp : (H ++ [(⟨.cells #[.slice none 0 0] 24 (0, 0), true, true⟩ : Blk), ⟨.cells #[.int .i64 0, .int .i64 0] 26 (0, 0), true, true⟩])[H.length + 1]? = some (⟨.cells #[.int .i64 0, .int .i64 0] 26 (0, 0), true, true⟩ : Blk))
      have hS : H.length + 2 ≤ S1.length := by simpa using hlL
      simp +contextual (dsimp := false)
      refine LoopA.up (σ := Nat × Heap × Value × List Nat × List Ins) [2, 3, 4, 5, 6] (fun x => [(6, int x.1)]) (fun x => x.2.1)
        (fun x => x.1 + 1 ≤ ls.length ∧ S1.length + 1 ≤ x.2.1.length ∧ (∀ j, j < S1.length → x.2.1[j]? = S1[j]?) ∧ x.2.1[S1.length]? = some ⟨.cells #[x.2.2.1] 24 (0, 0), true, true⟩ ∧ CodeR true x.2.1 x.2.2.2.2 [x.2.2.1] x.2.2.2.1 ∧ Fresh (S1.length + 1) x.2.2.2.1 ∧ x.2.2.2.2.length ≤ x.1 ∧ parseFrom ls (ls.length - x.1) x.1 x.2.2.2.2 = parseFrom ls ls.length 0 []) (fun x => ls.length - x.1) (0, _, .slice none 0 0, [], []) rfl
        ⟨by dsimp only; omega, by simp, fun j hj => List.getElem?_append_left hj, by simp, SlR.nil, Fresh.nil _, by simp, rfl⟩ ?_
      rintro ⟨k, hp, sv, FB, p⟩ ⟨gk, gl, gx, gb, gr, gf, gp, go⟩
      dsimp only at gk gl gx gb gr gf gp go
      obtain ⟨k1, hk1⟩ : ∃ n, n = k + 1 := ⟨_, rfl⟩
      have w1 : IntKind.i64.wrap ((k : Int) + 1) = (k1 : Int) := by rw [wrap_of _ (by omega) (by omega)]; omega
      have hLq := Rp.fr hrL (H' := hp) fun j hj => gx j (Rp.lt hrL j hj)
      simp +contextual (dsimp := false) [w1]
      refine ifA_dec (fun h3 => ?_) (fun h3 => ?_)
      · obtain ⟨id, o, c, e, f, ow, cs, Fi, E⟩ := SlR.get hLq k (by omega)
        obtain ⟨rfl, rfl, hok⟩ := E.rep
        have hc0 := E.cell0 (by omega)
        have hgd : ls.getD k [] = ls[k] := by simp [List.getD, show k < ls.length by omega]
        have hlk := hln ls[k] (List.getElem_mem _)
        simp +contextual (dsimp := false) [E.idx, E.goB, E.le, E.lt, E.ext, hc0]
        refine CallK.fl ⟨_, Tryd.func26, rfl, rfl⟩ (l1Read_ac (by simp at hlk; omega)) ?_
        have hlt0 : H.length < hp.length := by omega
        have hlt1 : H.length + 1 < hp.length := by omega
        have ge0 := (gx H.length (by omega)).trans e0
        have ge1 := (gx (H.length + 1) (by omega)).trans e1
        have gbT : ∀ T : Heap, (hp ++ T)[S1.length]? = _ := fun T => (List.getElem?_append_left (by omega)).trans gb
        have g0T : ∀ T : Heap, (hp ++ T)[H.length]? = _ := fun T => (List.getElem?_append_left (by omega)).trans ge0
        have g1T : ∀ T : Heap, (hp ++ T)[H.length + 1]? = _ := fun T => (List.getElem?_append_left (by omega)).trans ge1
        cases hrd : readL ls[k] with
        | none =>
          rw [show readV ls[k] = .tuple #[.agg Ins.zero.c.toArray, .bool false] by simp [readV, hrd]]
          have hs0 : ∀ (T : Heap) (b : Blk), ((hp ++ T).set H.length b)[H.length]? = some b := fun T b => List.getElem?_set_self (by simp; omega)
          have hs1 : ∀ (T : Heap) (b : Blk), ((hp ++ T).set H.length b)[H.length + 1]? = (hp ++ T)[H.length + 1]? := fun T b => List.getElem?_set_ne (by omega)
          have hs2 : ∀ (T : Heap) (b c : Blk), (((hp ++ T).set H.length b).set (H.length + 1) c)[H.length + 1]? = some c := fun T b c => List.getElem?_set_self (by simp; omega)
          have hs3 : ∀ (T : Heap) (b c : Blk), (((hp ++ T).set H.length b).set (H.length + 1) c)[H.length]? = ((hp ++ T).set H.length b)[H.length]? := fun T b c => List.getElem?_set_ne (by omega)
          rw [← go, parse_n (by omega) (by rw [hgd, hrd])]
          simp +contextual (dsimp := false) [Ins.zero, Ins.c, g0T, g1T, hs0, hs1, hs2, hs3]
          refine ⟨fun j hj => ?_, [], SlR.nil, Fresh.nil _⟩
          rw [List.getElem?_set_ne (by omega), List.getElem?_set_ne (by omega)]
          exact (get_ext (by omega)).trans ((gx j (by omega)).trans ((heL j (by simp; omega)).trans (get_ext hj)))
        | some x =>
          obtain ⟨hx1, hx2⟩ := readL_spec hrd
          rw [show readV ls[k] = .tuple #[.agg x.c.toArray, .bool true] by simp [readV, hrd]]
          obtain ⟨a6, z6, rfl⟩ := gr.form
          simp +contextual (dsimp := false) [Ins.c, gbT]
          refine AppK.one (R := InsR) (l := p) (ex := 55) (fx := (0, 0)) (ox := true) (base := S1.length + 1) (x := x) (cx := x.c) (Fx := []) slt22 und22 (Rp.ext gr (Ext.app _ _)) gf (by simp [Ins.c]) ⟨rfl, rfl, ins_ok hx1⟩ (Fresh.nil _) (by simp) (by simp; omega) (by omega) (by decide) ?_
          intro s2 H2 F2 q1 q2 q3 q4 q5
          simp only [List.length_append, List.length_cons, List.length_nil] at q3 q4
          have hnb : ∀ j, j < S1.length + 1 → j ∉ FB := fun j hj hm => by have := gf.1 j hm; omega
          have r1 := (q4 S1.length (by omega) (hnb _ (by omega))).trans (gbT _)
          obtain ⟨a7, z7, rfl⟩ := q1.form
          have hset : ∀ b : Blk, (H2.set S1.length b)[S1.length]? = some b := fun b => List.getElem?_set_self (by omega)
          simp +contextual (dsimp := false) [goB_of r1, r1, w1]
          rw [List.length_append, List.length_singleton] at q1
          refine LoopN.of (k1, _, _, F2, p ++ [x]) rfl ⟨by dsimp only; omega, by simp; omega, fun j hj => ?_, hset _, Rp.fr q1 fun j hj => List.getElem?_set_ne (by have := q2.1 j hj; omega), q2, by simp; omega, ?_⟩ (by dsimp only; omega)
          · rw [List.getElem?_set_ne (by omega)]
            exact (q4 j (by omega) (hnb j (by omega))).trans ((get_ext (by omega)).trans (gx j hj))
          · dsimp only
            rw [hk1, ← parse_s (by omega) (by rw [hgd, hrd])]
            exact go
      · have hke : k + 1 = ls.length := by omega
        have ws : IntKind.i64.wrap ((ls.length : Int) - 1) = ((ls.length - 1 : Nat) : Int) := by rw [wrap_of _ (by omega) (by omega)]; omega
        obtain ⟨id, o, c, e, f, ow, cs, Fi, E⟩ := SlR.get hLq (ls.length - 1) (by omega)
        obtain ⟨rfl, rfl, hok⟩ := E.rep
        have hc0 := E.cell0 (by omega)
        have hgd : ls.getD (ls.length - 1) [] = ls[ls.length - 1] := by simp [List.getD, show ls.length - 1 < ls.length by omega]
        have ge0 := (gx H.length (by omega)).trans e0
        have ge1 := (gx (H.length + 1) (by omega)).trans e1
        have hs0 : ∀ (b : Blk), (hp.set H.length b)[H.length]? = some b := fun b => List.getElem?_set_self (by omega)
        have hs1 : ∀ (b : Blk), (hp.set H.length b)[H.length + 1]? = hp[H.length + 1]? := fun b => List.getElem?_set_ne (by omega)
        have hs2 : ∀ (b c : Blk), ((hp.set H.length b).set (H.length + 1) c)[H.length + 1]? = some c := fun b c => List.getElem?_set_self (by simp; omega)
        have hs3 : ∀ (b c : Blk), ((hp.set H.length b).set (H.length + 1) c)[H.length]? = (hp.set H.length b)[H.length]? := fun b c => List.getElem?_set_ne (by omega)
        have hext : ∀ b c : Blk, Ext H ((hp.set H.length b).set (H.length + 1) c) := fun b c j hj => by
          rw [List.getElem?_set_ne (by omega), List.getElem?_set_ne (by omega)]
          exact (gx j (by omega)).trans ((heL j (by simp; omega)).trans (get_ext hj))
        obtain ⟨a6, z6, rfl⟩ := gr.form
        rw [← go, parse_e hke, hgd]
        by_cases c1 : ls[ls.length - 1] = []
        · by_cases c2 : 200 < p.length
          · have c2' : (200 : Int) < p.length := by omega
            simp +contextual (dsimp := false) [ws, E.idx, E.goB, E.le, E.lt, E.ext, hc0, c1, c2', c2, goB_of gb, gb, goB_of ge0, ge0, goB_of ge1, ge1, hs0, hs1, hs2, hs3]
            exact ⟨hext _ _, [], SlR.nil, Fresh.nil _⟩
          · have c2' : ¬ (200 : Int) < p.length := by omega
            simp +contextual (dsimp := false) [ws, E.idx, E.goB, E.le, E.lt, E.ext, hc0, c1, c2', c2, goB_of gb, gb, goB_of ge0, ge0, goB_of ge1, ge1, hs0, hs1, hs2, hs3]
            refine ⟨hext _ _, FB, Rp.fr gr fun j hj => ?_, gf.weak (by omega)⟩
            have := gf.1 j hj
            rw [List.getElem?_set_ne (by omega), List.getElem?_set_ne (by omega)]
        · simp +contextual (dsimp := false) [ws, E.idx, E.goB, E.le, E.lt, E.ext, hc0, c1, goB_of ge0, ge0, goB_of ge1, ge1, hs0, hs1, hs2, hs3]
          exact ⟨hext _ _, [], SlR.nil, Fresh.nil _⟩
end Go.Proofs.YtephpieeibcihaaDoor
