import Derived.Test.YtbigpkfdeaigeaaDoorRdP
import Derived.Test.YtbigpkfdeaigeaaDoorLai
import Derived.Test.YtbigpkfdeaigeaaDoorAcc
/- What the program's reader of quotes computes. No condition. -/
set_option linter.unusedSimpArgs false
set_option linter.unusedVariables false
namespace Go.Proofs.YtbigpkfdeaigeaaDoor
open Go Go.Am
/-- A digit of base sixteen, of either case. -/
def hexU (b : UInt8) : Option Nat := if 48 ≤ b.toNat ∧ b.toNat ≤ 57 then some (b.toNat - 48) else if 97 ≤ b.toNat ∧ b.toNat ≤ 102 then some (b.toNat - 87) else if 65 ≤ b.toNat ∧ b.toNat ≤ 70 then some (b.toNat - 55) else none
/-- What stands in quotes, read; none: it cannot be. -/
def unqI : List UInt8 → Option (List UInt8)
  | [] => some []
  | b :: r => if b = 92 then (match r with
    | a :: c :: r' => match hexU a, hexU c with
      | some x, some y => (unqI r').map (UInt8.ofNat (16 * x + y) :: ·)
      | _, _ => none
    | _ => none) else (unqI r).map (b :: ·)
theorem hexU_D {n : Nat} (h : n < 16) : hexU (hexD n) = some n := by
  have : ∀ n : Fin 16, hexU (hexD n.val) = some n.val := by decide
  exact this ⟨n, h⟩
theorem unqI_q (b : UInt8) (r : List UInt8) : unqI (qByte b ++ r) = (unqI r).map (b :: ·) := by
  unfold qByte
  cases hp : plainB b with
  | true =>
    have h92 : b ≠ 92 := by rintro rfl; simp [plainB] at hp
    rw [if_pos rfl, List.singleton_append]
    rcases r with _ | ⟨a, _ | ⟨c, r⟩⟩ <;> simp [unqI, h92]
  | false =>
    rw [if_neg (by simp)]
    show unqI (92 :: hexD (b.toNat / 16) :: hexD (b.toNat % 16) :: r) = _
    have hb := b.toNat_lt
    rw [unqI, if_pos rfl, hexU_D (by omega), hexU_D (by omega)]
    try dsimp only
    rw [show 16 * (b.toNat / 16) + b.toNat % 16 = b.toNat by omega]
    simp
theorem unqI_body (s : List UInt8) : unqI (qBody s) = some s := by
  induction s with
  | nil => rfl
  | cons b s ih =>
    show unqI (qByte b ++ qBody s) = _
    rw [unqI_q, ih]
    rfl
/-- What is read of a text in quotes, and whether it is one. -/
def unqV (q : List UInt8) : List UInt8 × Bool := if q.length < 2 then ([], false) else match unqI (inQ q) with
  | none => ([], false)
  | some out => (out, decide (quoteL out = q))
theorem unqV_quote (t : List UInt8) : unqV (quoteL t) = (t, true) := by
  unfold unqV
  rw [if_neg (by simp [quoteL]), inQ_quote, unqI_body]
  simp
theorem unqV_true {q : List UInt8} (h : (unqV q).2 = true) : quoteL (unqV q).1 = q := by
  unfold unqV at h ⊢
  split at h
  · cases h
  · rename_i h2
    rw [if_neg h2]
    cases ho : unqI (inQ q) with
    | none => rw [ho] at h; cases h
    | some out =>
      rw [ho] at h
      exact of_decide_eq_true h
end Go.Proofs.YtbigpkfdeaigeaaDoor

/- strconv.ParseUint of two digits of base sixteen. No condition. -/
set_option linter.unusedSimpArgs false
set_option linter.unusedVariables false
namespace Go.Proofs.YtbigpkfdeaigeaaDoor
open Go Go.Am Go.Proofs
set_option maxRecDepth 20000
variable {ng : Nat}
theorem bin_or32 {t : TypeId} {x y : Operand} {b : UInt8} : bin? Tryd.prog .or t x y (.int .u8 (b.toNat : Int)) (.int .u8 32) = some (.int .u8 ((b ||| 32).toNat : Int)) := by
  have hb := (b ||| 32).toNat_lt
  have hb' := b.toNat_lt
  have e : (BitVec.ofInt 8 (b.toNat : Int) ||| BitVec.ofInt 8 32).toNat = (b ||| 32).toNat := by
    rw [BitVec.toNat_or, BitVec.ofInt_natCast, BitVec.toNat_ofNat, Nat.mod_eq_of_lt (by omega), UInt8.toNat_or]
    rfl
  have e2 : binOp .or t (.int .u8 (b.toNat : Int)) (.int .u8 32) = .pure (.int .u8 (IntKind.u8.wrap (((b ||| 32).toNat : Nat) : Int))) := by
    rw [← e]; rfl
  rw [wrap_u8 (by omega) (by omega)] at e2
  simp [bin?, flat, flat0, purF, eqGuard, e2, pur]
theorem bin_shl8 {t : TypeId} {x y : Operand} : bin? Tryd.prog .shl t x y (.int .u64 1) (.int .u64 8) = some (.int .u64 256) := by
  have e2 : binOp .shl t (.int .u64 1) (.int .u64 8) = .pure (.int .u64 256) := rfl
  simp [bin?, flat, flat0, purF, eqGuard, e2, pur]
theorem lower_ac (b : UInt8) (H : Heap) : AC Tryd.prog ng 73 [.int .u8 b.toNat] H fun v S' => v = .int .u8 (b ||| 32).toNat ∧ S' = H := by
  refine .flat (AC.go [] Tryd.func73 rfl Tryd.ntmps73 rfl ⟨mixed, by kernel_rfl⟩ ?_)
  simp +contextual (dsimp := false) [bin_or32]
theorem hex_cases (b : UInt8) : (48 ≤ b.toNat ∧ b.toNat ≤ 57 ∧ hexU b = some (b.toNat - 48)) ∨ (¬ (48 ≤ b.toNat ∧ b.toNat ≤ 57) ∧ 97 ≤ (b ||| 32).toNat ∧ (b ||| 32).toNat ≤ 102 ∧ hexU b = some ((b ||| 32).toNat - 87)) ∨ (¬ (48 ≤ b.toNat ∧ b.toNat ≤ 57) ∧ 102 < (b ||| 32).toNat ∧ (b ||| 32).toNat ≤ 122 ∧ hexU b = none) ∨ (¬ (48 ≤ b.toNat ∧ b.toNat ≤ 57) ∧ ¬ (97 ≤ (b ||| 32).toNat ∧ (b ||| 32).toNat ≤ 122) ∧ hexU b = none) := by
  have : ∀ n : Fin 256, (48 ≤ (UInt8.ofNat n.val).toNat ∧ (UInt8.ofNat n.val).toNat ≤ 57 ∧ hexU (UInt8.ofNat n.val) = some ((UInt8.ofNat n.val).toNat - 48)) ∨ (¬ (48 ≤ (UInt8.ofNat n.val).toNat ∧ (UInt8.ofNat n.val).toNat ≤ 57) ∧ 97 ≤ ((UInt8.ofNat n.val) ||| 32).toNat ∧ ((UInt8.ofNat n.val) ||| 32).toNat ≤ 102 ∧ hexU (UInt8.ofNat n.val) = some (((UInt8.ofNat n.val) ||| 32).toNat - 87)) ∨ (¬ (48 ≤ (UInt8.ofNat n.val).toNat ∧ (UInt8.ofNat n.val).toNat ≤ 57) ∧ 102 < ((UInt8.ofNat n.val) ||| 32).toNat ∧ ((UInt8.ofNat n.val) ||| 32).toNat ≤ 122 ∧ hexU (UInt8.ofNat n.val) = none) ∨ (¬ (48 ≤ (UInt8.ofNat n.val).toNat ∧ (UInt8.ofNat n.val).toNat ≤ 57) ∧ ¬ (97 ≤ ((UInt8.ofNat n.val) ||| 32).toNat ∧ ((UInt8.ofNat n.val) ||| 32).toNat ≤ 122) ∧ hexU (UInt8.ofNat n.val) = none) := by decide +kernel
  have h := this ⟨b.toNat, b.toNat_lt⟩
  simpa using h
/-- One digit more. -/
def hexS (a c : UInt8) (k n : Nat) : Prop := match k with
  | 0 => n = 0
  | 1 => hexU a = some n
  | _ => ∃ x y, hexU a = some x ∧ hexU c = some y ∧ n = 16 * x + y
theorem hexU_lt {b : UInt8} {x : Nat} (h : hexU b = some x) : x < 16 := by
  unfold hexU at h
  split at h
  · injection h with h; omega
  split at h
  · injection h with h; omega
  split at h
  · injection h with h; omega
  · cases h
theorem mkI {n : Int} : mkIface? Tryd.prog 109 (int n) = some (.iface 109 (int n)) := by
  simp [mkIface?, und109, known]
theorem wrap_u64n {n : Nat} (h : n < 18446744073709551616) : IntKind.u64.wrap (n : Int) = n := by
  rw [IntKind.wrap_u64]; omega
set_option maxHeartbeats 4000000 in
theorem pu16_ac (a c : UInt8) (H : Heap) : AC Tryd.prog ng 63 [str [a, c], int 16, int 8] H fun v S' => (match hexU a, hexU c with
    | some x, some y => v = .tuple #[.int .u64 ((16 * x + y : Nat) : Int), .nilIface]
    | _, _ => ∃ n, v = .tuple #[.int .u64 n, .iface 109 (int 2)]) ∧ Ext H S' := by
  refine AC.go [] Tryd.func63 rfl Tryd.ntmps63 rfl ⟨mixed, by kernel_rfl⟩ ?_
  have w8 : IntKind.u64.wrap 8 = 8 := by decide
  have w255 : IntKind.u64.wrap (256 - 1) = 255 := by decide
  have w255' : IntKind.u64.wrap 255 = 255 := by decide
  simp +contextual (dsimp := false) [w8, bin_shl8, w255, w255']
  refine ConvK.of (v := .slice (some ⟨H.length, 0, none⟩) 2 1) (S' := H ++ [⟨.cells #[.int .u8 a.toNat, .int .u8 c.toNat] 5 (0, 1), true, true⟩]) (by simp [conv?, Tryd.underlying9, Tryd.underlying22, Tryd.underlying5, byteCells, ByteArray.size]) ?_
  simp +contextual (dsimp := false)
  refine LoopA.upc (σ := Nat × Nat) [1, 8, 9, 10, 11, 12, 13, 99, 100, 101] (fun x => [(13, .int .u64 (x.2 : Int)), (101, int x.1)]) (fun x => x.1 ≤ 2 ∧ hexS a c x.1 x.2) (fun x => 2 - x.1) (0, 0) rfl ⟨by simp, rfl⟩ ?_
  rintro ⟨k, n⟩ ⟨hk, hn⟩
  dsimp only at hk hn
  have w16 : IntKind.u8.wrap 16 = 16 := by decide
  have i1 : IntKind.i64.wrap 1 = 1 := by decide
  have i2 : IntKind.i64.wrap 2 = 2 := by decide
  have w16' : IntKind.u64.wrap 16 = 16 := by decide
  simp +contextual (dsimp := false)
  rcases (show k = 0 ∨ k = 1 ∨ k = 2 by omega) with rfl | rfl | rfl
  · have hn0 : n = 0 := hn
    have hn16 : n < 16 := by omega
    obtain ⟨b, rfl⟩ : ∃ b, b = a := ⟨_, rfl⟩
    have hb := b.toNat_lt
    rcases hex_cases b with ⟨h1, h2, h3⟩ | ⟨h1, h2, h2', h3⟩ | ⟨h1, h2, h2', h3⟩ | ⟨h1, h2, h3⟩
    · have h1' : (48 : Int) ≤ b.toNat := by omega
      have h2' : (b.toNat : Int) ≤ 57 := by omega
      have h95 : ¬ (b.toNat : Int) = 95 := by omega
      obtain ⟨d, hd⟩ : ∃ d, d = b.toNat - 48 := ⟨_, rfl⟩
      rw [← hd] at h3
      have w1 : IntKind.u8.wrap ((b.toNat : Int) - 48) = (d : Int) := by rw [wrap_u8 (by omega) (by omega)]; omega
      have hn16' : ¬ (1152921504606846976 : Int) ≤ (n : Int) := by omega
      have hd16 : ¬ (16 : Int) ≤ (d : Int) := by omega
      have wd : IntKind.u64.wrap (d : Int) = d := wrap_u64n (by omega)
      have wm : IntKind.u64.wrap ((n : Int) * 16) = 16 * (n : Int) := by rw [show ((n : Int) * 16) = ((16 * n : Nat) : Int) by omega, wrap_u64n (by omega)]; omega
      have wa : IntKind.u64.wrap (16 * (n : Int) + (d : Int)) = 16 * (n : Int) + (d : Int) := by rw [show (16 * (n : Int) + (d : Int)) = ((16 * n + d : Nat) : Int) by omega]; exact wrap_u64n (by omega)
      have hlt : ¬ 16 * (n : Int) + (d : Int) < 16 * (n : Int) := by omega
      have hgt : ¬ (255 : Int) < 16 * (n : Int) + (d : Int) := by omega
      simp +contextual (dsimp := false) [h1', h2', h95, w1, w16, w16', hd16, hn16', wd, wm, wa, hlt, hgt]
      first
        | (refine LoopN.of (1, 16 * n + d) (by simp [i1]) ⟨by simp, ?_⟩ (by simp); subst hn0; simpa [hexS] using h3)
        | exact LoopN.of (2, 16 * n + d) (by simp [i2]) ⟨by simp, show ∃ x y, _ from ⟨n, d, hn, h3, rfl⟩⟩ (by simp)
    · skip
      have h95 : ¬ (b.toNat : Int) = 95 := by
        intro h
        have : b = 95 := UInt8.toNat_inj.1 (by rw [show (95 : UInt8).toNat = 95 from rfl]; omega)
        subst this
        first | (revert h2'; decide) | (revert h2; decide)
      obtain ⟨l, hl⟩ : ∃ l, l = (b ||| 32).toNat := ⟨_, rfl⟩
      rw [← hl] at h2 h2' h3
      obtain ⟨d, hd⟩ : ∃ d, d = l - 87 := ⟨_, rfl⟩
      rw [← hd] at h3
      have g1 : (97 : Int) ≤ (l : Int) := by omega
      have g2 : (l : Int) ≤ 122 := by omega
      have w1 : IntKind.u8.wrap ((l : Int) - 97) = ((l - 97 : Nat) : Int) := by rw [wrap_u8 (by omega) (by omega)]; omega
      have w2 : IntKind.u8.wrap (((l - 97 : Nat) : Int) + 10) = (d : Int) := by rw [wrap_u8 (by omega) (by omega)]; omega
      have hn16' : ¬ (1152921504606846976 : Int) ≤ (n : Int) := by omega
      have hd16 : ¬ (16 : Int) ≤ (d : Int) := by omega
      have wd : IntKind.u64.wrap (d : Int) = d := wrap_u64n (by omega)
      have wm : IntKind.u64.wrap ((n : Int) * 16) = 16 * (n : Int) := by rw [show ((n : Int) * 16) = ((16 * n : Nat) : Int) by omega, wrap_u64n (by omega)]; omega
      have wa : IntKind.u64.wrap (16 * (n : Int) + (d : Int)) = 16 * (n : Int) + (d : Int) := by rw [show (16 * (n : Int) + (d : Int)) = ((16 * n + d : Nat) : Int) by omega]; exact wrap_u64n (by omega)
      have hlt : ¬ 16 * (n : Int) + (d : Int) < 16 * (n : Int) := by omega
      have hgt : ¬ (255 : Int) < 16 * (n : Int) + (d : Int) := by omega
      by_cases p1 : (48 : Int) ≤ b.toNat
      · have p2 : ¬ (b.toNat : Int) ≤ 57 := by omega
        simp +contextual (dsimp := false) [h95, p1, p2]
        refine CallK.fl ⟨_, Tryd.func73, rfl, rfl⟩ (lower_ac b _) ?_
        rw [← hl]
        simp +contextual (dsimp := false) [g1]
        refine CallK.fl ⟨_, Tryd.func73, rfl, rfl⟩ (lower_ac b _) ?_
        rw [← hl]
        simp +contextual (dsimp := false) [g2]
        refine CallK.fl ⟨_, Tryd.func73, rfl, rfl⟩ (lower_ac b _) ?_
        rw [← hl]
        simp +contextual (dsimp := false) [w1, w2, w16, w16', hd16, hn16', wd, wm, wa, hlt, hgt]
        first
          | (refine LoopN.of (1, 16 * n + d) (by simp [i1]) ⟨by simp, ?_⟩ (by simp); subst hn0; simpa [hexS] using h3)
          | exact LoopN.of (2, 16 * n + d) (by simp [i2]) ⟨by simp, show ∃ x y, _ from ⟨n, d, hn, h3, rfl⟩⟩ (by simp)
      · simp +contextual (dsimp := false) [h95, p1]
        refine CallK.fl ⟨_, Tryd.func73, rfl, rfl⟩ (lower_ac b _) ?_
        rw [← hl]
        simp +contextual (dsimp := false) [g1]
        refine CallK.fl ⟨_, Tryd.func73, rfl, rfl⟩ (lower_ac b _) ?_
        rw [← hl]
        simp +contextual (dsimp := false) [g2]
        refine CallK.fl ⟨_, Tryd.func73, rfl, rfl⟩ (lower_ac b _) ?_
        rw [← hl]
        simp +contextual (dsimp := false) [w1, w2, w16, w16', hd16, hn16', wd, wm, wa, hlt, hgt]
        first
          | (refine LoopN.of (1, 16 * n + d) (by simp [i1]) ⟨by simp, ?_⟩ (by simp); subst hn0; simpa [hexS] using h3)
          | exact LoopN.of (2, 16 * n + d) (by simp [i2]) ⟨by simp, show ∃ x y, _ from ⟨n, d, hn, h3, rfl⟩⟩ (by simp)
    · skip
      have h95 : ¬ (b.toNat : Int) = 95 := by
        intro h
        have : b = 95 := UInt8.toNat_inj.1 (by rw [show (95 : UInt8).toNat = 95 from rfl]; omega)
        subst this
        first | (revert h2'; decide) | (revert h2; decide)
      obtain ⟨l, hl⟩ : ∃ l, l = (b ||| 32).toNat := ⟨_, rfl⟩
      rw [← hl] at h2 h2'
      have g1 : (97 : Int) ≤ (l : Int) := by omega
      have g2 : (l : Int) ≤ 122 := by omega
      have w1 : IntKind.u8.wrap ((l : Int) - 97) = ((l - 97 : Nat) : Int) := by rw [wrap_u8 (by omega) (by omega)]; omega
      have w2 : IntKind.u8.wrap (((l - 97 : Nat) : Int) + 10) = ((l - 87 : Nat) : Int) := by rw [wrap_u8 (by omega) (by omega)]; omega
      have hd16 : (16 : Int) ≤ ((l - 87 : Nat) : Int) := by omega
      by_cases p1 : (48 : Int) ≤ b.toNat
      · have p2 : ¬ (b.toNat : Int) ≤ 57 := by omega
        simp +contextual (dsimp := false) [h95, p1, p2]
        refine CallK.fl ⟨_, Tryd.func73, rfl, rfl⟩ (lower_ac b _) ?_
        rw [← hl]
        simp +contextual (dsimp := false) [g1]
        refine CallK.fl ⟨_, Tryd.func73, rfl, rfl⟩ (lower_ac b _) ?_
        rw [← hl]
        simp +contextual (dsimp := false) [g2]
        refine CallK.fl ⟨_, Tryd.func73, rfl, rfl⟩ (lower_ac b _) ?_
        rw [← hl]
        simp +contextual (dsimp := false) [w1, w2, w16, hd16, mkI]
        first
          | (simp [h3]; done)
          | (rw [show hexU _ = some n from hn, h3]; trivial)
      · simp +contextual (dsimp := false) [h95, p1]
        refine CallK.fl ⟨_, Tryd.func73, rfl, rfl⟩ (lower_ac b _) ?_
        rw [← hl]
        simp +contextual (dsimp := false) [g1]
        refine CallK.fl ⟨_, Tryd.func73, rfl, rfl⟩ (lower_ac b _) ?_
        rw [← hl]
        simp +contextual (dsimp := false) [g2]
        refine CallK.fl ⟨_, Tryd.func73, rfl, rfl⟩ (lower_ac b _) ?_
        rw [← hl]
        simp +contextual (dsimp := false) [w1, w2, w16, hd16, mkI]
        first
          | (simp [h3]; done)
          | (rw [show hexU _ = some n from hn, h3]; trivial)
    · obtain ⟨l, hl⟩ : ∃ l, l = (b ||| 32).toNat := ⟨_, rfl⟩
      rw [← hl] at h2
      by_cases h95 : (b.toNat : Int) = 95
      · have p1 : (48 : Int) ≤ b.toNat := by omega
        have p2 : ¬ (b.toNat : Int) ≤ 57 := by omega
        have e95 : decide ((b.toNat : Int) = 95) = true := decide_eq_true h95
        simp +contextual (dsimp := false) [e95, p1, p2]
        refine CallK.fl ⟨_, Tryd.func73, rfl, rfl⟩ (lower_ac b _) ?_
        rw [← hl]
        by_cases g1 : (97 : Int) ≤ (l : Int)
        · have g2 : ¬ (l : Int) ≤ 122 := by omega
          simp +contextual (dsimp := false) [g1]
          refine CallK.fl ⟨_, Tryd.func73, rfl, rfl⟩ (lower_ac b _) ?_
          rw [← hl]
          simp +contextual (dsimp := false) [g2, mkI]
          first
            | (simp [h3]; done)
            | (rw [show hexU _ = some n from hn, h3]; trivial)
        · simp +contextual (dsimp := false) [g1, mkI]
          first
            | (simp [h3]; done)
            | (rw [show hexU _ = some n from hn, h3]; trivial)
      by_cases p1 : (48 : Int) ≤ b.toNat
      · have p2 : ¬ (b.toNat : Int) ≤ 57 := by omega
        simp +contextual (dsimp := false) [h95, p1, p2]
        refine CallK.fl ⟨_, Tryd.func73, rfl, rfl⟩ (lower_ac b _) ?_
        rw [← hl]
        by_cases g1 : (97 : Int) ≤ (l : Int)
        · have g2 : ¬ (l : Int) ≤ 122 := by omega
          simp +contextual (dsimp := false) [g1]
          refine CallK.fl ⟨_, Tryd.func73, rfl, rfl⟩ (lower_ac b _) ?_
          rw [← hl]
          simp +contextual (dsimp := false) [g2, mkI]
          first
            | (simp [h3]; done)
            | (rw [show hexU _ = some n from hn, h3]; trivial)
        · simp +contextual (dsimp := false) [g1, mkI]
          first
            | (simp [h3]; done)
            | (rw [show hexU _ = some n from hn, h3]; trivial)
      · simp +contextual (dsimp := false) [h95, p1]
        refine CallK.fl ⟨_, Tryd.func73, rfl, rfl⟩ (lower_ac b _) ?_
        rw [← hl]
        by_cases g1 : (97 : Int) ≤ (l : Int)
        · have g2 : ¬ (l : Int) ≤ 122 := by omega
          simp +contextual (dsimp := false) [g1]
          refine CallK.fl ⟨_, Tryd.func73, rfl, rfl⟩ (lower_ac b _) ?_
          rw [← hl]
          simp +contextual (dsimp := false) [g2, mkI]
          first
            | (simp [h3]; done)
            | (rw [show hexU _ = some n from hn, h3]; trivial)
        · simp +contextual (dsimp := false) [g1, mkI]
          first
            | (simp [h3]; done)
            | (rw [show hexU _ = some n from hn, h3]; trivial)
  · have hn16 : n < 16 := hexU_lt hn
    obtain ⟨b, rfl⟩ : ∃ b, b = c := ⟨_, rfl⟩
    have hb := b.toNat_lt
    rcases hex_cases b with ⟨h1, h2, h3⟩ | ⟨h1, h2, h2', h3⟩ | ⟨h1, h2, h2', h3⟩ | ⟨h1, h2, h3⟩
    · have h1' : (48 : Int) ≤ b.toNat := by omega
      have h2' : (b.toNat : Int) ≤ 57 := by omega
      have h95 : ¬ (b.toNat : Int) = 95 := by omega
      obtain ⟨d, hd⟩ : ∃ d, d = b.toNat - 48 := ⟨_, rfl⟩
      rw [← hd] at h3
      have w1 : IntKind.u8.wrap ((b.toNat : Int) - 48) = (d : Int) := by rw [wrap_u8 (by omega) (by omega)]; omega
      have hn16' : ¬ (1152921504606846976 : Int) ≤ (n : Int) := by omega
      have hd16 : ¬ (16 : Int) ≤ (d : Int) := by omega
      have wd : IntKind.u64.wrap (d : Int) = d := wrap_u64n (by omega)
      have wm : IntKind.u64.wrap ((n : Int) * 16) = 16 * (n : Int) := by rw [show ((n : Int) * 16) = ((16 * n : Nat) : Int) by omega, wrap_u64n (by omega)]; omega
      have wa : IntKind.u64.wrap (16 * (n : Int) + (d : Int)) = 16 * (n : Int) + (d : Int) := by rw [show (16 * (n : Int) + (d : Int)) = ((16 * n + d : Nat) : Int) by omega]; exact wrap_u64n (by omega)
      have hlt : ¬ 16 * (n : Int) + (d : Int) < 16 * (n : Int) := by omega
      have hgt : ¬ (255 : Int) < 16 * (n : Int) + (d : Int) := by omega
      simp +contextual (dsimp := false) [h1', h2', h95, w1, w16, w16', hd16, hn16', wd, wm, wa, hlt, hgt]
      first
        | (refine LoopN.of (1, 16 * n + d) (by simp [i1]) ⟨by simp, ?_⟩ (by simp); subst hn0; simpa [hexS] using h3)
        | exact LoopN.of (2, 16 * n + d) (by simp [i2]) ⟨by simp, show ∃ x y, _ from ⟨n, d, hn, h3, rfl⟩⟩ (by simp)
    · skip
      have h95 : ¬ (b.toNat : Int) = 95 := by
        intro h
        have : b = 95 := UInt8.toNat_inj.1 (by rw [show (95 : UInt8).toNat = 95 from rfl]; omega)
        subst this
        first | (revert h2'; decide) | (revert h2; decide)
      obtain ⟨l, hl⟩ : ∃ l, l = (b ||| 32).toNat := ⟨_, rfl⟩
      rw [← hl] at h2 h2' h3
      obtain ⟨d, hd⟩ : ∃ d, d = l - 87 := ⟨_, rfl⟩
      rw [← hd] at h3
      have g1 : (97 : Int) ≤ (l : Int) := by omega
      have g2 : (l : Int) ≤ 122 := by omega
      have w1 : IntKind.u8.wrap ((l : Int) - 97) = ((l - 97 : Nat) : Int) := by rw [wrap_u8 (by omega) (by omega)]; omega
      have w2 : IntKind.u8.wrap (((l - 97 : Nat) : Int) + 10) = (d : Int) := by rw [wrap_u8 (by omega) (by omega)]; omega
      have hn16' : ¬ (1152921504606846976 : Int) ≤ (n : Int) := by omega
      have hd16 : ¬ (16 : Int) ≤ (d : Int) := by omega
      have wd : IntKind.u64.wrap (d : Int) = d := wrap_u64n (by omega)
      have wm : IntKind.u64.wrap ((n : Int) * 16) = 16 * (n : Int) := by rw [show ((n : Int) * 16) = ((16 * n : Nat) : Int) by omega, wrap_u64n (by omega)]; omega
      have wa : IntKind.u64.wrap (16 * (n : Int) + (d : Int)) = 16 * (n : Int) + (d : Int) := by rw [show (16 * (n : Int) + (d : Int)) = ((16 * n + d : Nat) : Int) by omega]; exact wrap_u64n (by omega)
      have hlt : ¬ 16 * (n : Int) + (d : Int) < 16 * (n : Int) := by omega
      have hgt : ¬ (255 : Int) < 16 * (n : Int) + (d : Int) := by omega
      by_cases p1 : (48 : Int) ≤ b.toNat
      · have p2 : ¬ (b.toNat : Int) ≤ 57 := by omega
        simp +contextual (dsimp := false) [h95, p1, p2]
        refine CallK.fl ⟨_, Tryd.func73, rfl, rfl⟩ (lower_ac b _) ?_
        rw [← hl]
        simp +contextual (dsimp := false) [g1]
        refine CallK.fl ⟨_, Tryd.func73, rfl, rfl⟩ (lower_ac b _) ?_
        rw [← hl]
        simp +contextual (dsimp := false) [g2]
        refine CallK.fl ⟨_, Tryd.func73, rfl, rfl⟩ (lower_ac b _) ?_
        rw [← hl]
        simp +contextual (dsimp := false) [w1, w2, w16, w16', hd16, hn16', wd, wm, wa, hlt, hgt]
        first
          | (refine LoopN.of (1, 16 * n + d) (by simp [i1]) ⟨by simp, ?_⟩ (by simp); subst hn0; simpa [hexS] using h3)
          | exact LoopN.of (2, 16 * n + d) (by simp [i2]) ⟨by simp, show ∃ x y, _ from ⟨n, d, hn, h3, rfl⟩⟩ (by simp)
      · simp +contextual (dsimp := false) [h95, p1]
        refine CallK.fl ⟨_, Tryd.func73, rfl, rfl⟩ (lower_ac b _) ?_
        rw [← hl]
        simp +contextual (dsimp := false) [g1]
        refine CallK.fl ⟨_, Tryd.func73, rfl, rfl⟩ (lower_ac b _) ?_
        rw [← hl]
        simp +contextual (dsimp := false) [g2]
        refine CallK.fl ⟨_, Tryd.func73, rfl, rfl⟩ (lower_ac b _) ?_
        rw [← hl]
        simp +contextual (dsimp := false) [w1, w2, w16, w16', hd16, hn16', wd, wm, wa, hlt, hgt]
        first
          | (refine LoopN.of (1, 16 * n + d) (by simp [i1]) ⟨by simp, ?_⟩ (by simp); subst hn0; simpa [hexS] using h3)
          | exact LoopN.of (2, 16 * n + d) (by simp [i2]) ⟨by simp, show ∃ x y, _ from ⟨n, d, hn, h3, rfl⟩⟩ (by simp)
    · skip
      have h95 : ¬ (b.toNat : Int) = 95 := by
        intro h
        have : b = 95 := UInt8.toNat_inj.1 (by rw [show (95 : UInt8).toNat = 95 from rfl]; omega)
        subst this
        first | (revert h2'; decide) | (revert h2; decide)
      obtain ⟨l, hl⟩ : ∃ l, l = (b ||| 32).toNat := ⟨_, rfl⟩
      rw [← hl] at h2 h2'
      have g1 : (97 : Int) ≤ (l : Int) := by omega
      have g2 : (l : Int) ≤ 122 := by omega
      have w1 : IntKind.u8.wrap ((l : Int) - 97) = ((l - 97 : Nat) : Int) := by rw [wrap_u8 (by omega) (by omega)]; omega
      have w2 : IntKind.u8.wrap (((l - 97 : Nat) : Int) + 10) = ((l - 87 : Nat) : Int) := by rw [wrap_u8 (by omega) (by omega)]; omega
      have hd16 : (16 : Int) ≤ ((l - 87 : Nat) : Int) := by omega
      by_cases p1 : (48 : Int) ≤ b.toNat
      · have p2 : ¬ (b.toNat : Int) ≤ 57 := by omega
        simp +contextual (dsimp := false) [h95, p1, p2]
        refine CallK.fl ⟨_, Tryd.func73, rfl, rfl⟩ (lower_ac b _) ?_
        rw [← hl]
        simp +contextual (dsimp := false) [g1]
        refine CallK.fl ⟨_, Tryd.func73, rfl, rfl⟩ (lower_ac b _) ?_
        rw [← hl]
        simp +contextual (dsimp := false) [g2]
        refine CallK.fl ⟨_, Tryd.func73, rfl, rfl⟩ (lower_ac b _) ?_
        rw [← hl]
        simp +contextual (dsimp := false) [w1, w2, w16, hd16, mkI]
        first
          | (simp [h3]; done)
          | (rw [show hexU _ = some n from hn, h3]; trivial)
      · simp +contextual (dsimp := false) [h95, p1]
        refine CallK.fl ⟨_, Tryd.func73, rfl, rfl⟩ (lower_ac b _) ?_
        rw [← hl]
        simp +contextual (dsimp := false) [g1]
        refine CallK.fl ⟨_, Tryd.func73, rfl, rfl⟩ (lower_ac b _) ?_
        rw [← hl]
        simp +contextual (dsimp := false) [g2]
        refine CallK.fl ⟨_, Tryd.func73, rfl, rfl⟩ (lower_ac b _) ?_
        rw [← hl]
        simp +contextual (dsimp := false) [w1, w2, w16, hd16, mkI]
        first
          | (simp [h3]; done)
          | (rw [show hexU _ = some n from hn, h3]; trivial)
    · obtain ⟨l, hl⟩ : ∃ l, l = (b ||| 32).toNat := ⟨_, rfl⟩
      rw [← hl] at h2
      by_cases h95 : (b.toNat : Int) = 95
      · have p1 : (48 : Int) ≤ b.toNat := by omega
        have p2 : ¬ (b.toNat : Int) ≤ 57 := by omega
        have e95 : decide ((b.toNat : Int) = 95) = true := decide_eq_true h95
        simp +contextual (dsimp := false) [e95, p1, p2]
        refine CallK.fl ⟨_, Tryd.func73, rfl, rfl⟩ (lower_ac b _) ?_
        rw [← hl]
        by_cases g1 : (97 : Int) ≤ (l : Int)
        · have g2 : ¬ (l : Int) ≤ 122 := by omega
          simp +contextual (dsimp := false) [g1]
          refine CallK.fl ⟨_, Tryd.func73, rfl, rfl⟩ (lower_ac b _) ?_
          rw [← hl]
          simp +contextual (dsimp := false) [g2, mkI]
          first
            | (simp [h3]; done)
            | (rw [show hexU _ = some n from hn, h3]; trivial)
        · simp +contextual (dsimp := false) [g1, mkI]
          first
            | (simp [h3]; done)
            | (rw [show hexU _ = some n from hn, h3]; trivial)
      by_cases p1 : (48 : Int) ≤ b.toNat
      · have p2 : ¬ (b.toNat : Int) ≤ 57 := by omega
        simp +contextual (dsimp := false) [h95, p1, p2]
        refine CallK.fl ⟨_, Tryd.func73, rfl, rfl⟩ (lower_ac b _) ?_
        rw [← hl]
        by_cases g1 : (97 : Int) ≤ (l : Int)
        · have g2 : ¬ (l : Int) ≤ 122 := by omega
          simp +contextual (dsimp := false) [g1]
          refine CallK.fl ⟨_, Tryd.func73, rfl, rfl⟩ (lower_ac b _) ?_
          rw [← hl]
          simp +contextual (dsimp := false) [g2, mkI]
          first
            | (simp [h3]; done)
            | (rw [show hexU _ = some n from hn, h3]; trivial)
        · simp +contextual (dsimp := false) [g1, mkI]
          first
            | (simp [h3]; done)
            | (rw [show hexU _ = some n from hn, h3]; trivial)
      · simp +contextual (dsimp := false) [h95, p1]
        refine CallK.fl ⟨_, Tryd.func73, rfl, rfl⟩ (lower_ac b _) ?_
        rw [← hl]
        by_cases g1 : (97 : Int) ≤ (l : Int)
        · have g2 : ¬ (l : Int) ≤ 122 := by omega
          simp +contextual (dsimp := false) [g1]
          refine CallK.fl ⟨_, Tryd.func73, rfl, rfl⟩ (lower_ac b _) ?_
          rw [← hl]
          simp +contextual (dsimp := false) [g2, mkI]
          first
            | (simp [h3]; done)
            | (rw [show hexU _ = some n from hn, h3]; trivial)
        · simp +contextual (dsimp := false) [g1, mkI]
          first
            | (simp [h3]; done)
            | (rw [show hexU _ = some n from hn, h3]; trivial)
  · obtain ⟨x, y, hx, hy, rfl⟩ := hn
    simp +contextual (dsimp := false)
    rw [hx, hy]
end Go.Proofs.YtbigpkfdeaigeaaDoor

/- Cutting at one byte; numbers and digits of base sixteen out of texts. No condition. -/
set_option linter.unusedSimpArgs false
set_option linter.unusedVariables false
namespace Go.Am
open Go Go.RowKit
variable {P : Program} {ng : Nat}
/-- A value without an address, perhaps in an interface. -/
def flatI : Value → Bool
  | .iface _ x => flat x
  | v => flat v
theorem VR.eqI {E : Emb} {v v' : Value} (h : VR E v v') (hf : flatI v = true) : v' = v := by
  cases v with
  | iface t x => cases h with | iface _ hx => rw [hx.eq hf]
  | _ => exact h.eq hf
theorem VRs_flatI {E : Emb} {args : List Value} {args' : Array Value} (hf : args.all flatI = true) (h : VRs E args args') : args' = args.toArray := by
  obtain ⟨h1, h2⟩ := h
  apply Array.ext (by simpa using h1.symm)
  intro i a b
  have := (h2 i (by simpa using b) a).eqI (by
    rw [List.all_eq_true] at hf
    exact hf _ (List.getElem_mem _))
  simpa using this
/-- A call that leaves all that there was as it was. -/
theorem AC.ofBelow {f : FuncId} {args : List Value} {S : Heap} {v : Value} (hf : args.all flatI = true) (h : ∀ E w, Rel ng E S w → Calls P f args.toArray w fun e w' => (∃ v', e = .returned v' ∧ VR E v v') ∧ Below w.heap.size w w') :
    AC P ng f args S fun u S' => u = v ∧ S' = S := by
  intro E args' w h1 h2 h3
  rw [VRs_flatI hf h1]
  refine (h E w h2).mono ?_
  rintro e w' ⟨⟨v', rfl, hv⟩, hb⟩
  exact ⟨v, v', S, E, rfl, ⟨rfl, rfl⟩, hv, h2.more hb.size hb.block, Nat.le_refl _, Grow.more hb.os hb.tape hb.output hb.size hb.block⟩
theorem below_bytes (w : World) (e : TypeId) (s : ByteArray) : Below w.heap.size w (Lib.bytesWorld w e s) :=
  ⟨rfl, rfl, rfl, by rw [Lib.bytesWorld_size]; omega, fun j hj => Lib.bytesWorld_at_old w e s j hj⟩
/-- A variable that holds an error. -/
def ErrG (g : Nat) (H : Heap) : Prop := ∃ t e f, H[g]? = some ⟨.cells #[.iface t (.tuple #[])] e f, true, false⟩
theorem ErrG.ext {g : Nat} {H H' : Heap} (h : ErrG g H) (he : Ext H H') : ErrG g H' := by
  obtain ⟨t, e, f, h⟩ := h
  exact ⟨t, e, f, (he _ (List.getElem?_eq_some_iff.1 h).1).trans h⟩
theorem ErrG.cell {g : Nat} {E : Emb} {H : Heap} {w : World} (h : ErrG g H) (hg : g < ng) (hr : Rel ng E H w) : ∃ te pe, w.cell? ⟨g, 0, none⟩ = some (.iface te pe) := by
  obtain ⟨t, e, f, h⟩ := h
  obtain ⟨room, hE, hw⟩ := hr.glob g hg
  obtain ⟨b, hb, hlt, ho⟩ := hr.blk g _ hE
  rw [h] at hb
  obtain rfl := Option.some.inj hb
  obtain ⟨c', e', fr, h1, h2, h3, h4, h5⟩ := ho rfl
  dsimp only at h1 h4
  obtain ⟨v', q1, q2⟩ := h4 0 (by simp)
  rw [Nat.zero_add] at q1
  cases q2 with
  | iface _ hx => exact ⟨_, _, by unfold World.cell?; rw [h1]; simpa using q1⟩
section
variable {t : TypeId} {ms : Array (String × TypeId)} {x y : Operand} {u : TypeId} {a : Value}
theorem bin_ifne (h : P.underlying t = some (.interface ms)) : bin? P .neq t x y (.iface u a) .nilIface = some (.bool true) := by simp [bin?, flat, flat0, h]
theorem bin_ifeq (h : P.underlying t = some (.interface ms)) : bin? P .eql t x y (.iface u a) .nilIface = some (.bool false) := by simp [bin?, flat, flat0, h]
theorem pur_nilI (h : P.underlying t = some (.interface ms)) (d : Nat) (f : Bool → Value) : pur P (f <$> Op.equalIn (d + 1) t .nilIface .nilIface) = some (f true) := by
  simp only [Op.equalIn, underlying, program]
  show pur P (Sem.bind (Sem.bind (Sem.bind (.program .pure) _) _) _) = _
  simp only [Sem.bind, pur, h]
  rfl
theorem bin_inne {z : Value} (h : P.underlying t = some (.interface ms)) : bin? P .neq t x (.const z) .nilIface .nilIface = some (.bool false) := by
  simp [bin?, flat, flat0, purF, eqGuard, binOp, Op.equal, show Op.maxDepth = 9999 + 1 from rfl, pur_nilI h 9999, -Nat.reduceAdd]
theorem bin_ineq {z : Value} (h : P.underlying t = some (.interface ms)) : bin? P .eql t x (.const z) .nilIface .nilIface = some (.bool true) := by
  simp [bin?, flat, flat0, purF, eqGuard, binOp, Op.equal, show Op.maxDepth = 9999 + 1 from rfl, pur_nilI h 9999, -Nat.reduceAdd]
end
/-- Cut at the first b. -/
def cutB (s : List UInt8) (b : UInt8) : List UInt8 × List UInt8 × Bool := if b ∈ s then (s.take (s.idxOf b), s.drop (s.idxOf b + 1), true) else (s, [], false)
theorem indexByte_eq : ∀ (s : List UInt8) (b : UInt8), Lib.indexByte s b = if b ∈ s then (s.idxOf b : Int) else -1
  | [], b => rfl
  | a :: s, b => by
    rw [Lib.indexByte, indexByte_eq s b]
    by_cases h : a = b
    · subst h; simp
    · have h' : (a == b) = false := by simp [h]
      rw [h', if_neg (by simp)]
      have h2 : ¬ b = a := fun hc => h hc.symm
      by_cases hm : b ∈ s
      · have e : (a :: s).idxOf b = s.idxOf b + 1 := by simp [List.idxOf_cons, h']
        have h3 : b ∈ a :: s := by simp [hm]
        have h4 : ¬ ((s.idxOf b : Int) = -1) := by omega
        rw [if_pos hm, if_pos h3, e]
        simp [h4]
      · have h3 : ¬ b ∈ a :: s := by simp [hm, h2]
        rw [if_neg hm, if_neg h3]
        simp
end Go.Am
namespace Go.Proofs.YtbigpkfdeaigeaaDoor
open Go Go.Am Go.Proofs Go.RowKit
set_option maxRecDepth 20000
variable {ng : Nat}
theorem indexOne_ac (s : List UInt8) (b : UInt8) (H : Heap) : AC Tryd.prog ng 52 [str s, str [b]] H fun v S' => v = int (if b ∈ s then (s.idxOf b : Int) else -1) ∧ S' = H := by
  rw [← indexByte_eq]
  exact AC.ofCalls (v := .int .i64 (Lib.indexByte s b)) (by rfl) (by rfl) fun w => Tryd.stringslite_Index_one ⟨⟨s⟩⟩ b w
theorem slCut_ac (s : List UInt8) (b : UInt8) (hs : s.length ≤ 1000000000) (H : Heap) : AC Tryd.prog ng 45 [str s, str [b]] H fun v S' => v = .tuple #[str (cutB s b).1, str (cutB s b).2.1, .bool (cutB s b).2.2] ∧ S' = H := by
  refine .flat (AC.go [] Tryd.func45 rfl Tryd.ntmps45 rfl ⟨mixed, by kernel_rfl⟩ ?_)
  simp +contextual (dsimp := false)
  refine CallK.fl ⟨_, Tryd.func52, rfl, rfl⟩ (indexOne_ac s b _) ?_
  unfold cutB
  by_cases hm : b ∈ s
  · have hl := List.idxOf_lt_length_iff.2 hm
    rw [if_pos hm, if_pos hm]
    have w1 : IntKind.i64.wrap ((s.idxOf b : Int) + 1) = ((s.idxOf b + 1 : Nat) : Int) := wrap_succ (by omega)
    have h0 : s.idxOf b ≤ s.length := by omega
    have h1 : (s.idxOf b : Int) + 1 ≤ (s.length : Int) := by omega
    have h2 : (0 : Int) ≤ (s.idxOf b : Int) + 1 := by omega
    simp +contextual (dsimp := false) [w1, h0, h1, h2]
  · rw [if_neg hm, if_neg hm]
    simp +contextual (dsimp := false)
theorem cut_ac (s : List UInt8) (b : UInt8) (hs : s.length ≤ 1000000000) (H : Heap) : AC Tryd.prog ng 31 [str s, str [b]] H fun v S' => v = .tuple #[str (cutB s b).1, str (cutB s b).2.1, .bool (cutB s b).2.2] ∧ S' = H := by
  refine .flat (AC.go [] Tryd.func31 rfl Tryd.ntmps31 rfl ⟨mixed, by kernel_rfl⟩ ?_)
  simp +contextual (dsimp := false)
  refine CallK.fl ⟨_, Tryd.func45, rfl, rfl⟩ (slCut_ac s b hs _) ?_
  simp +contextual (dsimp := false)
def gE : Nat := 3
theorem toErr_ac {fn s : List UInt8} {a b : Int} {H : Heap} (hs : s.length ≤ 1000000000) (hE : ErrG gE H) (hg : gE < ng) : AC Tryd.prog ng 64 [str fn, str s, int a, int b, .iface 109 (int 2)] H fun v S' => v = .iface 112 (.tuple #[]) ∧ S' = H := by
  refine AC.ofBelow (by rfl) fun E w hr => ?_
  obtain ⟨te, pe, hc⟩ := hE.cell hg hr
  refine (Tryd.strconv_toError_syntax ⟨⟨fn⟩⟩ ⟨⟨s⟩⟩ a b (.iface te pe) w (by simp [ByteArray.size]; omega) hc (.inr ⟨te, pe, rfl⟩)).mono ?_
  rintro e w' ⟨N, rfl, h1, h2, h3⟩
  exact ⟨⟨_, rfl, .iface _ (.any _)⟩, h3⟩
theorem spu16_ac (a c : UInt8) (H : Heap) (hE : ErrG gE H) (hg : gE < ng) : AC Tryd.prog ng 53 [str [a, c], int 16, int 8] H fun v S' => (match hexU a, hexU c with
    | some x, some y => v = .tuple #[.int .u64 ((16 * x + y : Nat) : Int), .nilIface]
    | _, _ => ∃ p n, v = .tuple #[.int .u64 n, .iface 112 p]) ∧ Ext H S' := by
  refine AC.go [] Tryd.func53 rfl Tryd.ntmps53 rfl ⟨mixed, by kernel_rfl⟩ ?_
  simp +contextual (dsimp := false)
  refine CallK.of ⟨_, Tryd.func63, rfl, rfl⟩ (pu16_ac a c _) ?_
  rintro v S1 ⟨hv, he⟩
  by_cases hx : ∃ x y, hexU a = some x ∧ hexU c = some y
  · obtain ⟨x, y, hx, hy⟩ := hx
    rw [hx, hy] at hv
    dsimp only at hv
    subst hv
    simp +contextual (dsimp := false) [bin_inne Tryd.underlying60]
    rw [hx, hy]
    exact ⟨rfl, he⟩
  · have hv' : ∃ n, v = .tuple #[.int .u64 n, .iface 109 (int 2)] := by
      cases hx1 : hexU a with
      | none => rw [hx1] at hv; exact hv
      | some x =>
        cases hy1 : hexU c with
        | none => rw [hx1, hy1] at hv; exact hv
        | some y => exact absurd ⟨x, y, hx1, hy1⟩ hx
    obtain ⟨n, rfl⟩ := hv'
    simp +contextual (dsimp := false) [bin_ifne Tryd.underlying60]
    refine CallK.fl ⟨_, Tryd.func64, rfl, rfl⟩ (toErr_ac (by simp) (hE.ext he) hg) ?_
    simp +contextual (dsimp := false)
    refine ⟨?_, he⟩
    cases hx1 : hexU a with
    | none => trivial
    | some x =>
      cases hy1 : hexU c with
      | none => trivial
      | some y => exact absurd ⟨x, y, hx1, hy1⟩ hx
theorem atoi_ok {s : List UInt8} {n : Int} (hs : s.length ≤ 9) (h : Lib.atoi s = some n) (H : Heap) : AC Tryd.prog ng 54 [str s] H fun v S' => v = .tuple #[int n, .nilIface] ∧ S' = H := by
  refine AC.ofBelow (by rfl) fun E w hr => ?_
  refine (Tryd.strconv_Atoi ⟨⟨s⟩⟩ n (by simp [ByteArray.size]; omega) (by simpa using h) w).mono ?_
  rintro e w' ⟨rfl, t, rfl⟩
  exact ⟨⟨_, rfl, VR.reflT E (by simp [flatT, flat, flat0])⟩, below_bytes _ _ _⟩
theorem iatoi_no {s : List UInt8} (hs : s.length ≤ 9) (h : Lib.atoi s = none) (H : Heap) : AC Tryd.prog ng 65 [str s] H fun v S' => v = .tuple #[int 0, .iface 109 (int 2)] ∧ S' = H := by
  refine AC.ofBelow (by rfl) fun E w hr => ?_
  refine (Tryd.internal_strconv_Atoi_fail ⟨⟨s⟩⟩ (by simp [ByteArray.size]; omega) (by simpa using h) w).mono ?_
  rintro e w' ⟨rfl, hw⟩
  refine ⟨⟨_, rfl, ?_⟩, ?_⟩
  · refine .tuple rfl fun i h1 h2 => ?_
    rcases (show i = 0 ∨ i = 1 by simp at h1; omega) with rfl | rfl
    · exact VR.refl E rfl
    · exact .iface _ (VR.refl E rfl)
  · rcases hw with rfl | ⟨t, rfl⟩
    · exact Below.refl _ _
    · exact below_bytes _ _ _
theorem atoi_no {s : List UInt8} (hs : s.length ≤ 9) (h : Lib.atoi s = none) {H : Heap} (hE : ErrG gE H) (hg : gE < ng) : AC Tryd.prog ng 54 [str s] H fun v S' => ∃ p, v = .tuple #[int 0, .iface 112 p] ∧ Ext H S' := by
  refine AC.go [] Tryd.func54 rfl Tryd.ntmps54 rfl ⟨mixed, by kernel_rfl⟩ ?_
  simp +contextual (dsimp := false)
  refine CallK.fl ⟨_, Tryd.func65, rfl, rfl⟩ (iatoi_no hs h _) ?_
  simp +contextual (dsimp := false) [bin_ifne Tryd.underlying60]
  refine CallK.fl ⟨_, Tryd.func64, rfl, rfl⟩ (toErr_ac (by omega) hE hg) ?_
  simp +contextual (dsimp := false)
end Go.Proofs.YtbigpkfdeaigeaaDoor
namespace Go.Am
open Go
/-- What is read of a number. -/
def decV (s : List UInt8) (most : Int) : Int × Bool :=
  if 1 ≤ s.length ∧ s.length ≤ 9 then (match Lib.atoi s with
    | some n => (n, decide (0 ≤ n) && decide (n ≤ most) && decide (decN n.toNat = s))
    | none => (0, false))
  else (0, false)
theorem decV_true {s : List UInt8} {most : Int} (h : (decV s most).2 = true) : 0 ≤ (decV s most).1 ∧ (decV s most).1 ≤ most ∧ decN (decV s most).1.toNat = s := by
  unfold decV at h ⊢
  split
  · rename_i h1
    rw [if_pos h1] at h
    cases ha : Lib.atoi s with
    | none => rw [ha] at h; cases h
    | some n =>
      rw [ha] at h
      simp only [Bool.and_eq_true, decide_eq_true_eq] at h
      exact ⟨h.1.1, h.1.2, h.2⟩
  · rename_i h1
    rw [if_neg h1] at h
    cases h
theorem decFrom_app : ∀ (l : List UInt8) (acc : Nat) (b : UInt8), Lib.decFrom acc (l ++ [b]) = match Lib.decFrom acc l, Lib.digitVal b with
    | some m, some d => some (m * 10 + d)
    | _, _ => none
  | [], acc, b => by
    rw [List.nil_append, Lib.decFrom, Lib.decFrom]
    cases Lib.digitVal b with
    | none => rfl
    | some d => rfl
  | a :: l, acc, b => by
    rw [List.cons_append, Lib.decFrom, Lib.decFrom]
    cases Lib.digitVal a with
    | none => rfl
    | some d => exact decFrom_app l _ b
theorem digitVal_dig (n : Nat) : Lib.digitVal (dig n) = some (n % 10) := by
  have h : ∀ k : Fin 10, Lib.digitVal (UInt8.ofNat (48 + k.val)) = some k.val := by decide
  exact h ⟨n % 10, by omega⟩
theorem decFrom_dec (n : Nat) : Lib.decFrom 0 (decN n) = some n := by
  induction n using Nat.strongRecOn with
  | _ n ih =>
    by_cases h : n < 10
    · rw [decN_small h, Lib.decFrom, digitVal_dig]
      show Lib.decFrom (0 * 10 + n % 10) [] = some n
      rw [Lib.decFrom]
      congr 1
      omega
    · rw [decN_big h, decFrom_app, ih (n / 10) (by omega), digitVal_dig]
      dsimp only
      congr 1
      omega
theorem decN_head (n : Nat) : ∃ b r, decN n = b :: r ∧ b ≠ 45 ∧ b ≠ 43 := by
  induction n using Nat.strongRecOn with
  | _ n ih =>
    have hd : ∀ m, dig m ≠ 45 ∧ dig m ≠ 43 := by
      intro m
      have h : ∀ k : Fin 10, UInt8.ofNat (48 + k.val) ≠ 45 ∧ UInt8.ofNat (48 + k.val) ≠ 43 := by decide
      exact h ⟨m % 10, by omega⟩
    by_cases h : n < 10
    · exact ⟨_, _, decN_small h, (hd n).1, (hd n).2⟩
    · obtain ⟨b, r, h1, h2⟩ := ih (n / 10) (by omega)
      exact ⟨b, r ++ [dig n], by rw [decN_big h, h1]; rfl, h2⟩
theorem atoi_dec (n : Nat) : Lib.atoi (decN n) = some (n : Int) := by
  obtain ⟨b, r, h1, h2, h3⟩ := decN_head n
  have h4 := decFrom_dec n
  rw [h1] at h4 ⊢
  unfold Lib.atoi Lib.decNat
  simp [h2, h3, h4]
theorem decN_9 {n : Nat} (h : n ≤ 999999999) : 1 ≤ (decN n).length ∧ (decN n).length ≤ 9 := by
  have hd : ∀ (k n : Nat), n < 10 ^ k → 1 ≤ k → (decN n).length ≤ k := by
    intro k
    induction k with
    | zero => intro n _ h; omega
    | succ k ih =>
      intro n hn _
      by_cases h : n < 10
      · rw [decN_small h]; simp
      · rw [decN_big h]
        have := ih (n / 10) (by rw [Nat.pow_succ] at hn; omega) (by
          rcases Nat.eq_zero_or_pos k with rfl | h0
          · simp at hn; omega
          · exact h0)
        simp only [List.length_append, List.length_singleton]
        omega
  refine ⟨?_, hd 9 n (by omega) (by omega)⟩
  by_cases h : n < 10
  · rw [decN_small h]; simp
  · rw [decN_big h]; simp
theorem decV_dec {n : Nat} {most : Int} (h : (n : Int) ≤ most) (h9 : n ≤ 999999999) : decV (decN n) most = ((n : Int), true) := by
  unfold decV
  rw [if_pos (decN_9 h9), atoi_dec]
  simp [h]
end Go.Am
namespace Go.Proofs.YtbigpkfdeaigeaaDoor
open Go Go.Am Go.Proofs Go.RowKit
set_option maxRecDepth 20000
variable {ng : Nat}
set_option maxHeartbeats 400000 in
theorem decimal_ac {s : List UInt8} {most : Int} {H : Heap} (hm : most ≤ 1000000000) (hs : s.length ≤ 1000000000) (hP : P10 g10 H) (h2 : g10 < ng) (hE : ErrG gE H) (hg : gE < ng) : AC Tryd.prog ng 47 [str s, int most] H fun v S' => v = .tuple #[int (decV s most).1, .bool (decV s most).2] ∧ S' = H := by
  refine .flat (AC.go [] Tryd.func47 rfl Tryd.ntmps47 rfl ⟨mixed, by kernel_rfl⟩ ?_)
  unfold decV
  by_cases hl : 1 ≤ s.length ∧ s.length ≤ 9
  · rw [if_pos hl]
    have l1 : ¬ (s.length : Int) < 1 := by omega
    have l2 : ¬ (9 : Int) < (s.length : Int) := by omega
    have l3 : ¬ s.length = 0 := by omega
    have l4 : ¬ 9 < s.length := by omega
    have l5 : ¬ s = [] := by rintro rfl; simp at hl
    simp +contextual (dsimp := false) [l1, l2, l3, l4, l5]
    cases ha : Lib.atoi s with
    | none =>
      refine CallK.of ⟨_, Tryd.func54, rfl, rfl⟩ (atoi_no hl.2 ha hE hg) ?_
      rintro v S1 ⟨p, rfl, he⟩
      simp +contextual (dsimp := false) [bin_ifeq Tryd.underlying60, he]
    | some n =>
      by_cases h0 : 0 ≤ n
      · by_cases h1 : n ≤ most
        · obtain ⟨k, rfl⟩ : ∃ k : Nat, n = k := ⟨n.toNat, by omega⟩
          refine CallK.fl ⟨_, Tryd.func54, rfl, rfl⟩ (atoi_ok hl.2 ha _) ?_
          simp +contextual (dsimp := false) [bin_ineq Tryd.underlying60, h0, h1]
          refine CallK.fl ⟨_, Tryd.func22, rfl, rfl⟩ (itoa_ac (n := k) (by omega) hP h2 rfl) ?_
          simp +contextual (dsimp := false)
          exact fun _ => h1
        · refine CallK.fl ⟨_, Tryd.func54, rfl, rfl⟩ (atoi_ok hl.2 ha _) ?_
          simp +contextual (dsimp := false) [bin_ineq Tryd.underlying60, h0, h1]
      · refine CallK.fl ⟨_, Tryd.func54, rfl, rfl⟩ (atoi_ok hl.2 ha _) ?_
        simp +contextual (dsimp := false) [bin_ineq Tryd.underlying60, h0]
  · rw [if_neg hl]
    by_cases l0 : s = []
    · subst l0
      simp +contextual (dsimp := false)
    · have l1 : ¬ s.length = 0 := by simpa using l0
      have l2 : (9 : Int) < (s.length : Int) := by omega
      have l3 : ¬ (s.length : Int) < 1 := by omega
      have l4 : 9 < s.length := by omega
      simp +contextual (dsimp := false) [l0, l1, l2, l3, l4]
end Go.Proofs.YtbigpkfdeaigeaaDoor

/- impl.unquote. No condition. -/
set_option linter.unusedSimpArgs false
set_option linter.unusedVariables false
namespace Go.Proofs.YtbigpkfdeaigeaaDoor
open Go Go.Am
theorem inQ_mid (q : List UInt8) : (q.take (q.length - 1)).tail = inQ q := by
  unfold inQ
  rw [← List.drop_one, List.drop_take, Nat.sub_sub]
theorem unqI_plain {b : UInt8} {r : List UInt8} (h : b ≠ 92) : unqI (b :: r) = (unqI r).map (b :: ·) := by
  rcases r with _ | ⟨a, _ | ⟨c, r⟩⟩ <;> simp [unqI, h]
theorem unqI_short {b : UInt8} {r : List UInt8} (h : b = 92) (hr : r.length < 2) : unqI (b :: r) = none := by
  rcases r with _ | ⟨a, _ | ⟨c, r⟩⟩
  · simp [unqI, h]
  · simp [unqI, h]
  · simp at hr
    omega
/-- A coded byte ahead. -/
def hexC (a c : UInt8) (o : Option (List UInt8)) : Option (List UInt8) := match hexU a, hexU c with
    | some x, some y => o.map (UInt8.ofNat (16 * x + y) :: ·)
    | _, _ => none
theorem unqI_hex {b a c : UInt8} {r : List UInt8} (h : b = 92) : unqI (b :: a :: c :: r) = hexC a c (unqI r) := by
  rw [unqI, if_pos h]
  unfold hexC
  cases hexU a with
  | none => rfl
  | some x => cases hexU c <;> rfl
/-- What is read and whether it is so written. -/
def unqE (q : List UInt8) : Option (List UInt8) → List UInt8 × Bool
  | none => ([], false)
  | some out => (out, decide (quoteL out = q))
theorem unqV_E {q : List UInt8} (hl : ¬ q.length < 2) : unqV q = unqE q (unqI (inQ q)) := by
  unfold unqV
  rw [if_neg hl]
  cases unqI (inQ q) <;> rfl
theorem opt_map_app {o : Option (List UInt8)} {l : List UInt8} {b : UInt8} : (o.map (b :: ·)).map (l ++ ·) = o.map ((l ++ [b]) ++ ·) := by
  cases o <;> simp
end Go.Proofs.YtbigpkfdeaigeaaDoor
namespace Go.Proofs.YtbigpkfdeaigeaaDoor
open Go Go.Am Go.Proofs
set_option maxRecDepth 20000
variable {ng : Nat}
set_option maxHeartbeats 1000000 in
theorem unquote_ac {q : List UInt8} {H : Heap} (hs : q.length ≤ 2000000) (hE : ErrG gE H) (hg : gE < ng) : AC Tryd.prog ng 46 [str q] H fun v S' => v = .tuple #[str (unqV q).1, .bool (unqV q).2] ∧ S' = H := by
  refine .flat (AC.go [(17, .take 0 <| .take 2 <| .take 5 <| .take 1 <| .take 3 <| .one 4 [1] <| .take 6 <| .take 7 <| .take 8 <| .done)] Tryd.func46 rfl Tryd.ntmps46 rfl ⟨mixed, by kernel_rfl⟩ ?_)
  by_cases hl : q.length < 2
  · have hl' : (q.length : Int) < 2 := by omega
    simp +contextual (dsimp := false) [hl']
    simp [unqV, hl]
  · have hl' : ¬ (q.length : Int) < 2 := by omega
    have wl : IntKind.i64.wrap ((q.length : Int) - 1) = ((q.length - 1 : Nat) : Int) := by rw [wrap_of _ (by omega) (by omega)]; omega
    have g1 : (1 : Int) ≤ ((q.length - 1 : Nat) : Int) := by omega
    have g2 : q.length - 1 ≤ q.length := by omega
    simp +contextual (dsimp := false) [hl', wl, g1, g2]
    rw [inQ_mid q]
    have hlen := inQ_len q
    have hqv : unqV q = unqE q (unqI (inQ q)) := unqV_E hl
    generalize inQ q = s at hlen hqv ⊢
    have hsl : s.length ≤ 2000000 := by omega
    refine LoopA.up (σ := Nat × Heap × Value × List Nat × List UInt8) [0, 4, 5, 6] (fun x => [(4, x.2.2.1), (6, int x.1)]) (fun x => x.2.1)
      (fun x => x.1 ≤ s.length ∧ Ext H x.2.1 ∧ BytesR true x.2.1 x.2.2.2.2 [x.2.2.1] x.2.2.2.1 ∧ Fresh H.length x.2.2.2.1 ∧ x.2.2.2.2.length ≤ x.1 ∧ (unqI (s.drop x.1)).map (x.2.2.2.2 ++ ·) = unqI s) (fun x => s.length - x.1) (0, _, .slice none 0 0, [], []) rfl
      ⟨by simp, Ext.refl _, SlR.nil, Fresh.nil _, by simp, by simp⟩ ?_
    rintro ⟨i, hp, sv, FB, out⟩ ⟨g3, gx, gr, gf, gl, go⟩
    dsimp only at g3 gx gr gf gl go
    have hle := gx.le
    obtain ⟨a3, z3, rfl⟩ := gr.form
    obtain ⟨j1, hj1⟩ : ∃ j, j = i + 1 := ⟨_, rfl⟩
    obtain ⟨j2, hj2⟩ : ∃ j, j = i + 2 := ⟨_, rfl⟩
    obtain ⟨j3, hj3⟩ : ∃ j, j = i + 3 := ⟨_, rfl⟩
    have w1 : IntKind.i64.wrap ((i : Int) + 1) = (j1 : Int) := by rw [wrap_of _ (by omega) (by omega)]; omega
    have w2 : IntKind.i64.wrap ((i : Int) + 2) = (j2 : Int) := by rw [wrap_of _ (by omega) (by omega)]; omega
    have w3 : IntKind.i64.wrap ((i : Int) + 3) = (j3 : Int) := by rw [wrap_of _ (by omega) (by omega)]; omega
    by_cases c1 : i < s.length
    · have hd := List.drop_eq_getElem_cons c1
      by_cases c2 : s[i] = 92
      · have c2' : (s[i].toNat : Int) = 92 := by rw [c2]; rfl
        by_cases c3 : j2 < s.length
        · have c3' : ¬ s.length ≤ j2 := by omega
          have x1 : j1 < s.length := by omega
          have hd1 := List.drop_eq_getElem_cons x1
          have hd2 := List.drop_eq_getElem_cons c3
          rw [show j1 + 1 = j2 by omega] at hd1
          rw [show j2 + 1 = j3 by omega] at hd2
          rw [show i + 1 = j1 by omega, hd1, hd2] at hd
          have hmid : (s.take j3).drop j1 = [s[j1], s[j2]] := by
            rw [List.drop_take, show j3 - j1 = 2 by omega, hd1, hd2]
            rfl
          have k1 : (j1 : Int) ≤ (j3 : Int) := by omega
          have k2 : j3 ≤ s.length := by omega
          simp +contextual (dsimp := false) [w1, w2, w3, c1, c2', c3, c3', k1, k2]
          rw [hmid]
          refine CallK.of ⟨_, Tryd.func53, rfl, rfl⟩ (spu16_ac s[j1] s[j2] _ (hE.ext gx) hg) ?_
          rintro v S1 ⟨hv, he⟩
          have hstep := unqI_hex (a := s[j1]) (c := s[j2]) (r := s.drop j3) c2
          rw [hd, hstep] at go
          cases hx : hexU s[j1] with
          | none =>
            rw [hx] at hv
            rw [show hexC s[j1] s[j2] (unqI (s.drop j3)) = none by simp [hexC, hx]] at go
            obtain ⟨p, n, rfl⟩ := hv
            simp +contextual (dsimp := false) [bin_ifne Tryd.underlying60]
            rw [hqv, ← go]
            exact ⟨⟨rfl, rfl⟩, gx.trans he⟩
          | some x =>
            cases hy : hexU s[j2] with
            | none =>
              rw [hx, hy] at hv
              rw [show hexC s[j1] s[j2] (unqI (s.drop j3)) = none by simp [hexC, hx, hy]] at go
              obtain ⟨p, n, rfl⟩ := hv
              simp +contextual (dsimp := false) [bin_ifne Tryd.underlying60]
              rw [hqv, ← go]
              exact ⟨⟨rfl, rfl⟩, gx.trans he⟩
            | some y =>
              rw [hx, hy] at hv
              rw [show hexC s[j1] s[j2] (unqI (s.drop j3)) = (unqI (s.drop j3)).map (UInt8.ofNat (16 * x + y) :: ·) by simp [hexC, hx, hy]] at go
              dsimp only at hv
              subst hv
              have lx := hexU_lt hx
              have ly := hexU_lt hy
              simp +contextual (dsimp := false) [bin_inne Tryd.underlying60]
              have hb : ((UInt8.ofNat (16 * x + y)).toNat : Int) = IntKind.u8.wrap (16 * (x : Int) + (y : Int)) := by
                rw [wrap_u8 (by omega) (by omega), UInt8.toNat_ofNat']
                omega
              generalize UInt8.ofNat (16 * x + y) = b at go hb
              have gr1 := Rp.ext gr he
              refine AppK.one (R := byteR) (ex := 5) (fx := (0, 0)) (ox := true) (base := H.length) (x := b) (cx := [.int .u8 (IntKind.u8.wrap (16 * (x : Int) + (y : Int)))]) (Fx := []) slt22 und22 (Rp.ext gr1 (Ext.app _ _)) gf (by simp) ⟨by rw [← hb], rfl, trivial⟩ (Fresh.nil _) (by simp) (by have := he.le; simp; omega) (by omega) (by decide) ?_
              intro s1 H1 F1 q1 q2 q3 q4 q5
              simp only [List.length_append, List.length_singleton] at q3 q4
              have hel := he.le
              have w4 : IntKind.i64.wrap ((j2 : Int) + 1) = (j3 : Int) := by rw [wrap_of _ (by omega) (by omega)]; omega
              simp +contextual (dsimp := false) [w2, w4]
              refine LoopN.of (j3, H1, s1, F1, out ++ [b]) rfl ⟨by dsimp only; omega, fun j hj => (q4 j (by omega) (fun hm => by have := gf.1 j hm; omega)).trans ((get_ext (by omega)).trans ((he j (by omega)).trans (gx j hj))), q1, q2, by simp; omega, ?_⟩ (by dsimp only; omega)
              dsimp only
              rw [← go, opt_map_app]
        · have c3' : s.length ≤ j2 := by omega
          simp +contextual (dsimp := false) [w1, w2, w3, c1, c2', c3, c3']
          rw [hd, unqI_short c2 (by rw [List.length_drop]; omega)] at go
          rw [hqv, ← go]
          exact ⟨⟨rfl, rfl⟩, gx⟩
      · have c2' : ¬ (s[i].toNat : Int) = 92 := by
          intro h
          apply c2
          apply UInt8.toNat_inj.1
          show s[i].toNat = 92
          omega
        simp +contextual (dsimp := false) [w1, c1, c2']
        refine AppK.one (R := byteR) (ex := 5) (fx := (0, 0)) (ox := true) (base := H.length) (x := s[i]) (cx := [.int .u8 (s[i].toNat : Int)]) (Fx := []) slt22 und22 (Rp.ext gr (Ext.app _ _)) gf (by simp) ⟨rfl, rfl, trivial⟩ (Fresh.nil _) (by simp) (by simp; omega) (by omega) (by decide) ?_
        intro s1 H1 F1 q1 q2 q3 q4 q5
        simp only [List.length_append, List.length_singleton] at q3 q4
        simp +contextual (dsimp := false) [w1]
        refine LoopN.of (j1, H1, s1, F1, out ++ [s[i]]) rfl ⟨by dsimp only; omega, fun j hj => (q4 j (by omega) (fun hm => by have := gf.1 j hm; omega)).trans ((get_ext (by omega)).trans (gx j hj)), q1, q2, by simp; omega, ?_⟩ (by dsimp only; omega)
        dsimp only
        rw [← go, hd, unqI_plain c2, opt_map_app, hj1]
    · rw [List.drop_of_length_le (by omega)] at go
      have hout : unqI s = some out := by rw [← go]; simp [unqI]
      rw [hqv, hout]
      simp +contextual (dsimp := false) [c1]
      refine ConvK.of (conv_bytes und22 und5 und9 gr) ?_
      simp +contextual (dsimp := false)
      refine ConvK.of (conv_bytes und22 und5 und9 gr) ?_
      simp +contextual (dsimp := false)
      refine CallK.fl ⟨_, Tryd.func43, rfl, rfl⟩ (quote_ac out (by omega) _) ?_
      simp +contextual (dsimp := false)
      refine ⟨?_, ⟨rfl, rfl⟩, gx⟩
      refine ConvK.of (conv_bytes und22 und5 und9 gr) ?_
      simp +contextual (dsimp := false)
end Go.Proofs.YtbigpkfdeaigeaaDoor

/- impl.readIns, impl.ParseProgram. No condition. -/
set_option linter.unusedSimpArgs false
set_option linter.unusedVariables false
namespace Go.Proofs.YtbigpkfdeaigeaaDoor
open Go Go.Am
/-- What is read of a line whose word is that of an instruction. -/
def insV (rest : List UInt8) (has : Bool) (op : Int) : Ins × Bool :=
  if op = 1 then (⟨1, (unqV rest).1, 0⟩, (unqV rest).2 && has && (⟨1, (unqV rest).1, 0⟩ : Ins).valid)
  else if 0 ≤ topN op then (⟨op, [], (decV rest (topN op)).1⟩, (decV rest (topN op)).2 && has && (⟨op, [], (decV rest (topN op)).1⟩ : Ins).valid)
  else (⟨op, [], 0⟩, !has && (⟨op, [], 0⟩ : Ins).valid)
def isOp (w : List UInt8) (k : Nat) : Bool := decide ((wordOf ((k + 1 : Nat) : Int)).1 = w)
def readI (line : List UInt8) : Ins × Bool := match firstI 15 (isOp (cutB line 32).1) with
  | some k => insV (cutB line 32).2.1 (cutB line 32).2.2 ((k + 1 : Nat) : Int)
  | none => (Ins.zero, false)
theorem cutB_true {s : List UInt8} {b : UInt8} (h : (cutB s b).2.2 = true) : s = (cutB s b).1 ++ b :: (cutB s b).2.1 := by
  unfold cutB at h ⊢
  split
  · rename_i hm
    have hl := List.idxOf_lt_length_iff.2 hm
    dsimp only
    conv => lhs; rw [← List.take_append_drop (s.idxOf b) s, List.drop_eq_getElem_cons hl, List.getElem_idxOf hl]
  · rename_i hm
    rw [if_neg hm] at h
    cases h
theorem cutB_false {s : List UInt8} {b : UInt8} (h : (cutB s b).2.2 = false) : (cutB s b).1 = s := by
  unfold cutB at h ⊢
  split
  · rename_i hm
    rw [if_pos hm] at h
    cases h
  · rfl
theorem idxOf_app {w r : List UInt8} {b : UInt8} (h : b ∉ w) : (w ++ b :: r).idxOf b = w.length := by
  induction w with
  | nil => simp
  | cons a w ih =>
    have h1 : ¬ b = a := fun e => h (by simp [e])
    have h2 : b ∉ w := fun e => h (by simp [e])
    have h3 : (a == b) = false := by simp [Ne.symm h1]
    rw [List.cons_append, List.idxOf_cons, h3, ih h2]
    simp
theorem cutB_app {w r : List UInt8} {b : UInt8} (h : b ∉ w) : cutB (w ++ b :: r) b = (w, r, true) := by
  unfold cutB
  rw [if_pos (by simp), idxOf_app h]
  simp
theorem cutB_no {w : List UInt8} {b : UInt8} (h : b ∉ w) : cutB w b = (w, [], false) := by
  unfold cutB
  rw [if_neg h]
theorem word_no32 {op : Int} (h1 : 1 ≤ op) (h2 : op ≤ 15) : (32 : UInt8) ∉ (wordOf op).1 := by
  have : ∀ k : Fin 15, (32 : UInt8) ∉ (wordOf ((k.val + 1 : Nat) : Int)).1 := by decide
  obtain ⟨n, rfl⟩ : ∃ n : Nat, op = ((n + 1 : Nat) : Int) := ⟨op.toNat - 1, by omega⟩
  exact this ⟨n, by omega⟩
theorem word_uniq {a b : Int} (h1 : 1 ≤ a) (h2 : a ≤ 15) (h3 : 1 ≤ b) (h4 : b ≤ 15) (h : (wordOf a).1 = (wordOf b).1) : a = b := by
  rw [← (opOf_word h1 h2).1, h, (opOf_word h3 h4).1]
theorem readI_true {line : List UInt8} (h : (readI line).2 = true) : readL line = some (readI line).1 := by
  unfold readI at h ⊢
  cases hf : firstI 15 (isOp (cutB line 32).1) with
  | none => rw [hf] at h; cases h
  | some k =>
    rw [hf] at h
    dsimp only at h ⊢
    obtain ⟨hk, hw, -⟩ := firstI_some hf
    have hw := of_decide_eq_true hw
    obtain ⟨op, hop⟩ : ∃ op : Int, op = ((k + 1 : Nat) : Int) := ⟨_, rfl⟩
    rw [← hop] at h hw ⊢
    have o1 : 1 ≤ op := by omega
    have o2 : op ≤ 15 := by omega
    obtain ⟨k1, k2⟩ := kind_top o1 o2
    unfold insV at h ⊢
    by_cases c1 : op = 1
    · rw [if_pos c1] at h ⊢
      simp only [Bool.and_eq_true] at h
      obtain ⟨⟨h1, h2⟩, h3⟩ := h
      refine readL_some h3 ?_
      have hl := cutB_true h2
      have hq := unqV_true h1
      show lineL ⟨1, (unqV (cutB line 32).2.1).1, 0⟩ = line
      unfold lineL
      rw [if_pos (show (wordOf 1).2 = 1 by decide)]
      show (wordOf 1).1 ++ 32 :: quoteL _ = line
      rw [hq, ← c1, hw]
      exact hl.symm
    · rw [if_neg c1] at h ⊢
      by_cases c2 : 0 ≤ topN op
      · rw [if_pos c2] at h ⊢
        simp only [Bool.and_eq_true] at h
        obtain ⟨⟨h1, h2⟩, h3⟩ := h
        refine readL_some h3 ?_
        have hl := cutB_true h2
        obtain ⟨d1, d2, d3⟩ := decV_true h1
        unfold lineL
        dsimp only
        rw [if_neg (fun hc => c1 (k2.1 hc)), if_pos (k1.2 c2), d3, hw]
        exact hl.symm
      · rw [if_neg c2] at h ⊢
        simp only [Bool.and_eq_true, Bool.not_eq_true'] at h
        obtain ⟨h2, h3⟩ := h
        refine readL_some h3 ?_
        have hl := cutB_false h2
        unfold lineL
        dsimp only
        rw [if_neg (fun hc => c1 (k2.1 hc)), if_neg (fun hc => c2 (k1.1 hc)), hw, hl]
theorem readI_some {line : List UInt8} {y : Ins} (h : readL line = some y) : readI line = (y, true) := by
  obtain ⟨hv, hl⟩ := readL_spec h
  obtain ⟨v1, v2, v3, v4, v5, v6, v7⟩ := valid_parts hv
  obtain ⟨k1, k2⟩ := kind_top v1 v2
  have hn := word_no32 v1 v2
  have hfirst : firstI 15 (isOp (wordOf y.op).1) = some (y.op.toNat - 1) := by
    refine firstI_hit (by omega) ?_ fun j hj => ?_
    · unfold isOp
      rw [show ((y.op.toNat - 1 + 1 : Nat) : Int) = y.op by omega]
      simp
    · unfold isOp
      rw [decide_eq_false_iff_not]
      intro hc
      have := word_uniq (by omega) (by omega) v1 v2 hc
      omega
  have hop : ((y.op.toNat - 1 + 1 : Nat) : Int) = y.op := by omega
  have hkt := kind_topN v1 v2
  obtain ⟨op, tx, n⟩ := y
  dsimp only at v1 v2 v3 v4 v5 v6 v7 k1 k2 hn hfirst hop hkt
  unfold lineL at hl
  dsimp only at hl
  unfold readI insV
  by_cases c1 : op = 1
  · rw [if_pos (k2.2 c1)] at hl
    rw [← hl, cutB_app hn]
    dsimp only
    rw [hfirst]
    dsimp only
    rw [hop, if_pos c1, unqV_quote]
    have hn0 : n = 0 := by have := hkt.2 (by rw [k2.2 c1]; omega); omega
    subst c1 hn0
    simp [hv]
  · rw [if_neg (fun hc => c1 (k2.1 hc))] at hl
    have ht : tx = [] := v4.resolve_left c1
    subst ht
    by_cases c2 : 0 ≤ topN op
    · rw [if_pos (k1.2 c2)] at hl
      rw [← hl, cutB_app hn]
      dsimp only
      rw [hfirst]
      dsimp only
      have hd : decV (decN n.toNat) (topN op) = (n, true) := by
        have := decV_dec (n := n.toNat) (most := topN op) (by omega) (by omega)
        rw [this]
        congr 1
        omega
      rw [hop, if_neg c1, if_pos c2, hd]
      simp [hv]
    · rw [if_neg (fun hc => c2 (k1.1 hc))] at hl
      rw [← hl, cutB_no hn]
      dsimp only
      rw [hfirst]
      dsimp only
      rw [hop, if_neg c1, if_neg c2]
      have hn0 : n = 0 := by omega
      subst hn0
      simp [hv]
end Go.Proofs.YtbigpkfdeaigeaaDoor
namespace Go.Proofs.YtbigpkfdeaigeaaDoor
open Go Go.Am Go.Proofs
set_option maxRecDepth 20000
variable {ng : Nat}
set_option maxHeartbeats 1000000 in
theorem readIns_ac {line : List UInt8} {H : Heap} (hl : line.length ≤ 1600000) (hW : WordsG gW H) (hP : P10 g10 H) (hE : ErrG gE H) (h0 : gW < ng) (h2 : g10 < ng) (hg : gE < ng) : AC Tryd.prog ng 32 [str line] H fun v S' => v = .tuple #[.agg (readI line).1.c.toArray, .bool (readI line).2] ∧ S' = H := by
  refine .flat (AC.go [(12, .take 1 <| .take 2 <| .take 3 <| .take 4 <| .take 5 <| .take 6 <| .take 7 <| .take 0 <| .one 8 [0] <| .take 9 <| .take 10 <| .take 11 <| .take 12 <| .take 13 <| .take 14 <| .one 15 [0] <| .take 16 <| .one 17 [] <| .take 18 <| .done)] Tryd.func32 rfl Tryd.ntmps32 rfl ⟨mixed, by kernel_rfl⟩ ?_)
  simp +contextual (dsimp := false)
  refine CallK.fl ⟨_, Tryd.func31, rfl, rfl⟩ (cut_ac line 32 (by omega) _) ?_
  have hcl : (cutB line 32).2.1.length ≤ line.length := by
    unfold cutB
    split
    · simp
    · simp
  unfold readI
  generalize cutB line 32 = cc at hcl ⊢
  obtain ⟨w, rest, has⟩ := cc
  dsimp only at hcl
  simp +contextual (dsimp := false)
  obtain ⟨sv, FW, e0, f0, hb, hsv⟩ := id hW
  obtain ⟨aw, zw, rfl⟩ := hsv.form
  have hgl : gW < H.length := (List.getElem?_eq_some_iff.1 hb).1
  have hbT : ∀ (T : Heap) (q : Blk → Prop), goB (H ++ T) gW q = q ⟨.cells #[.slice aw wordsT.length zw] e0 f0, true, false⟩ := fun T q => goB_app hb q
  have h0' := h0
  unfold gW at h0 hgl hbT
  refine LoopA.upc (σ := Nat) [2, 4, 5, 6, 7] (fun k => [(7, int (k : Int))]) (fun k => 1 ≤ k ∧ k ≤ 16 ∧ ∀ j, j + 1 < k → isOp w j = false) (fun k => 16 - k) 1 rfl ⟨by simp, by simp, by simp⟩ ?_
  rintro k ⟨hk1, hk, hv⟩
  simp +contextual (dsimp := false)
  refine ifA_dec (fun h3 => ?_) (fun h3 => ?_)
  · have hol : k < wordsT.length := by show k < 16; omega
    have hwx := words_get (op := (k : Int)) (by omega) (by omega)
    have hwg : wordsT[k] = (wordOf (k : Int)).1 := by rw [← hwx, List.getD_eq_getElem?_getD, Int.toNat_natCast, List.getElem?_eq_getElem hol]; rfl
    obtain ⟨id, o, c, e, f, ow, cs, Fi, E⟩ := SlR.get hsv k hol
    obtain ⟨rfl, rfl, hok'⟩ := E.rep
    have hc0 := E.cell0 (by omega)
    have hix := E.idx
    have hel := E.lt
    simp +contextual (dsimp := false) [h0, hbT, hix, E.goB, hel, E.le, hc0, hwg, wrap_succ (show k < 9223372036854775807 by omega)]
    refine ifA_dec (fun h4 => ?_) (fun h4 => ?_)
    · have hfirst : firstI 15 (isOp w) = some (k - 1) := firstI_hit (by omega) (by unfold isOp; rw [show k - 1 + 1 = k by omega]; simpa using h4) fun j hj => hv j (by omega)
      rw [hfirst]
      dsimp only
      rw [show k - 1 + 1 = k by omega]
      have hxE : ∀ T : Heap, Ext H (H ++ T) := fun T => Ext.app H T
      unfold insV
      by_cases c1 : (k : Int) = 1
      · obtain rfl : k = 1 := by omega
        rw [if_pos (by rfl)]
        simp +contextual (dsimp := false)
        refine CallK.fl ⟨_, Tryd.func46, rfl, rfl⟩ (unquote_ac (by omega) (hE.ext (Ext.app _ _)) hg) ?_
        generalize unqV rest = uq
        obtain ⟨ut, uo⟩ := uq
        cases uo with
        | false =>
          simp +contextual (dsimp := false) [Ins.c]
        | true =>
          cases has with
          | false =>
            simp +contextual (dsimp := false) [Ins.c]
          | true =>
            simp +contextual (dsimp := false) [Ins.c]
            refine CallK.fl ⟨_, Tryd.func34, rfl, rfl⟩ (valid_ac ⟨1, ut, 0⟩ _) ?_
            simp +contextual (dsimp := false) [Ins.c]
      · rw [if_neg c1]
        simp +contextual (dsimp := false) [c1]
        refine CallK.fl ⟨_, Tryd.func44, rfl, rfl⟩ (top_ac _ _) ?_
        have htm : topN (k : Int) ≤ 2000 := by unfold topN; split; omega; split <;> omega
        by_cases c2 : 0 ≤ topN (k : Int)
        · rw [if_pos c2]
          simp +contextual (dsimp := false) [c2]
          refine CallK.fl ⟨_, Tryd.func44, rfl, rfl⟩ (top_ac _ _) ?_
          simp +contextual (dsimp := false)
          refine CallK.fl ⟨_, Tryd.func47, rfl, rfl⟩ (decimal_ac (by omega) (by omega) (hP.ext (Ext.app _ _)) h2 (hE.ext (Ext.app _ _)) hg) ?_
          generalize decV rest (topN (k : Int)) = dv
          obtain ⟨dn, dok⟩ := dv
          cases dok with
          | false =>
            simp +contextual (dsimp := false) [Ins.c]
          | true =>
            cases has with
            | false =>
              simp +contextual (dsimp := false) [Ins.c, c1, c2]
              refine CallK.fl ⟨_, Tryd.func44, rfl, rfl⟩ (top_ac _ _) ?_
              simp +contextual (dsimp := false) [Ins.c, c1, c2]
            | true =>
              simp +contextual (dsimp := false) [Ins.c, c1, c2]
              refine CallK.fl ⟨_, Tryd.func44, rfl, rfl⟩ (top_ac _ _) ?_
              simp +contextual (dsimp := false) [Ins.c, c1, c2]
              refine CallK.fl ⟨_, Tryd.func34, rfl, rfl⟩ (valid_ac ⟨(k : Int), [], dn⟩ _) ?_
              simp +contextual (dsimp := false) [Ins.c]
        · rw [if_neg c2]
          cases has with
          | true =>
            simp +contextual (dsimp := false) [c1, c2]
            refine CallK.fl ⟨_, Tryd.func44, rfl, rfl⟩ (top_ac _ _) ?_
            simp +contextual (dsimp := false) [Ins.c, c1, c2]
          | false =>
            simp +contextual (dsimp := false) [c1, c2]
            refine CallK.fl ⟨_, Tryd.func44, rfl, rfl⟩ (top_ac _ _) ?_
            simp +contextual (dsimp := false) [Ins.c, c1, c2]
            refine CallK.fl ⟨_, Tryd.func34, rfl, rfl⟩ (valid_ac ⟨(k : Int), [], 0⟩ _) ?_
            simp +contextual (dsimp := false) [Ins.c]
    · exact LoopN.of (k + 1) rfl ⟨by omega, by omega, fun j hj => by
        rcases Nat.lt_or_ge (j + 1) k with h | h
        · exact hv j h
        · obtain rfl : k = j + 1 := by omega
          unfold isOp
          simpa using h4⟩ (by omega)
  · rw [firstI_none fun j hj => hv j (by omega)]
    simp +contextual (dsimp := false)
    rfl
theorem cutN_cut : ∀ (s w : List UInt8), cutN s w = if (cutB s 10).2.2 then (w ++ (cutB s 10).1) :: cutN (cutB s 10).2.1 [] else [w ++ s]
  | [], w => by simp [cutN, cutB]
  | b :: s, w => by
    by_cases hb : b = 10
    · subst hb
      simp [cutN, cutB]
    · have h1 : (b == 10) = false := by simp [hb]
      have h2 : ¬ (10 : UInt8) = b := fun e => hb e.symm
      have ih := cutN_cut s (w ++ [b])
      rw [cutN, if_neg hb, ih]
      by_cases hm : (10 : UInt8) ∈ s
      · simp [cutB, hm, List.idxOf_cons, h1, h2]
      · simp [cutB, hm, h2]
set_option maxHeartbeats 2000000 in
theorem implParse_ac {src : List UInt8} {H : Heap} (hW : WordsG gW H) (hP : P10 g10 H) (hE : ErrG gE H) (h0 : gW < ng) (h2 : g10 < ng) (hg : gE < ng) : AC Tryd.prog ng 14 [str src] H fun v S' => ∃ sv F', v = .tuple #[.agg #[sv], .agg #[int (parseP src).2.1, int (parseP src).2.2]] ∧ Ext H S' ∧ CodeR true S' (parseP src).1 [sv] F' ∧ Fresh H.length F' := by
  refine AC.go [] Tryd.func14 rfl Tryd.ntmps14 rfl ⟨mixed, by kernel_rfl⟩ ?_
  unfold parseP
  by_cases k1 : 1500000 < src.length
  · have k1' : (1500000 : Int) < src.length := by omega
    rw [if_pos (.inr k1)]
    simp +contextual (dsimp := false) [k1']
    exact ⟨[], SlR.nil, Fresh.nil _⟩
  have k1' : ¬ (1500000 : Int) < src.length := by omega
  by_cases k0 : src = []
  · subst k0
    rw [if_pos (.inl rfl)]
    simp +contextual (dsimp := false)
    exact ⟨[], SlR.nil, Fresh.nil _⟩
  rw [if_neg (by rintro (h | h); exact k0 h; exact k1 h)]
  simp +contextual (dsimp := false) [k0, k1']
  obtain ⟨H0, hH0⟩ : ∃ H0, H0 = H ++ [(⟨.cells #[.slice none 0 0] 35 (0, 0), true, true⟩ : Blk), ⟨.cells #[.int .i64 0, .int .i64 0] 39 (0, 0), true, true⟩, ⟨.cells #[.slice none 0 0] 35 (0, 0), true, true⟩] := ⟨_, rfl⟩
  have hl0 : H0.length = H.length + 3 := by rw [hH0]; simp
  have hx0 : Ext H H0 := by rw [hH0]; exact Ext.app _ _
  have b0 : H0[H.length]? = some ⟨.cells #[.slice none 0 0] 35 (0, 0), true, true⟩ := by rw [hH0]; simp
  have b1 : H0[H.length + 1]? = some ⟨.cells #[.int .i64 0, .int .i64 0] 39 (0, 0), true, true⟩ := by rw [hH0]; simp
  have b2 : H0[H.length + 2]? = some ⟨.cells #[.slice none 0 0] 35 (0, 0), true, true⟩ := by rw [hH0]; simp
  rw [← hH0]
  have hnum := cutN_num src []
  have hcut0 : (cutN src []).drop 0 = cutN src [] := rfl
  generalize hls : cutN src [] = ls at hnum hcut0 ⊢
  refine LoopA.up (σ := Nat × List UInt8 × Heap × Value × List Nat × List Ins) [0, 2, 3, 4, 5] (fun x => [(0, str x.2.1), (5, int x.1)]) (fun x => x.2.2.1)
    (fun x => x.1 + x.2.1.length ≤ src.length ∧ H.length + 3 ≤ x.2.2.1.length ∧ (∀ j, j < H.length + 2 → x.2.2.1[j]? = H0[j]?) ∧ x.2.2.1[H.length + 2]? = some ⟨.cells #[x.2.2.2.1] 35 (0, 0), true, true⟩ ∧ CodeR true x.2.2.1 x.2.2.2.2.2 [x.2.2.2.1] x.2.2.2.2.1 ∧ Fresh (H.length + 3) x.2.2.2.2.1 ∧ x.2.2.2.2.2.length = x.1 ∧
      ls.drop x.1 = cutN x.2.1 [] ∧ parseFrom ls (ls.length - x.1) x.1 x.2.2.2.2.2 = parseFrom ls ls.length 0 []) (fun x => x.2.1.length) (0, src, _, .slice none 0 0, [], []) rfl
    ⟨by simp, by dsimp only; omega, fun j hj => rfl, b2, SlR.nil, Fresh.nil _, rfl, by rw [hls]; exact hcut0, rfl⟩ ?_
  rintro ⟨n, sr, hp, sv, FB, p⟩ ⟨gn, gl, gx, gb, gr, gf, gp, gc, go⟩
  dsimp only at gn gl gx gb gr gf gp gc go
  have hex : Ext H hp := fun j hj => (gx j (by omega)).trans (hx0 j hj)
  have ge0 := (gx H.length (by omega)).trans b0
  have ge1 := (gx (H.length + 1) (by omega)).trans b1
  have hlen : n + (cutN sr []).length = ls.length := by
    have := congrArg List.length gc
    rw [List.length_drop] at this
    have h3 : 1 ≤ (cutN sr []).length := by
      rw [cutN_cut]
      split <;> simp
    omega
  have hlt0 : H.length < hp.length := by omega
  have hlt1 : H.length + 1 < hp.length := by omega
  have g0T : ∀ T : Heap, (hp ++ T)[H.length]? = _ := fun T => (List.getElem?_append_left (by omega)).trans ge0
  have g1T : ∀ T : Heap, (hp ++ T)[H.length + 1]? = _ := fun T => (List.getElem?_append_left (by omega)).trans ge1
  have gbT : ∀ T : Heap, (hp ++ T)[H.length + 2]? = _ := fun T => (List.getElem?_append_left (by omega)).trans gb
  have hs0 : ∀ (T : Heap) (b : Blk), ((hp ++ T).set H.length b)[H.length]? = some b := fun T b => List.getElem?_set_self (by simp; omega)
  have hs1 : ∀ (T : Heap) (b : Blk), ((hp ++ T).set H.length b)[H.length + 1]? = (hp ++ T)[H.length + 1]? := fun T b => List.getElem?_set_ne (by omega)
  have hs2 : ∀ (T : Heap) (b c : Blk), (((hp ++ T).set H.length b).set (H.length + 1) c)[H.length + 1]? = some c := fun T b c => List.getElem?_set_self (by simp; omega)
  have hs3 : ∀ (T : Heap) (b c : Blk), (((hp ++ T).set H.length b).set (H.length + 1) c)[H.length]? = ((hp ++ T).set H.length b)[H.length]? := fun T b c => List.getElem?_set_ne (by omega)
  have hsx : ∀ (T : Heap) (b c : Blk), Ext H (((hp ++ T).set H.length b).set (H.length + 1) c) := fun T b c j hj => by
    rw [List.getElem?_set_ne (by omega), List.getElem?_set_ne (by omega)]
    exact (get_ext (by omega)).trans (hex j hj)
  obtain ⟨ap, zp, rfl⟩ := gr.form
  have hget : ∀ (l : List UInt8) (r : List (List UInt8)), cutN sr [] = l :: r → ls.getD n [] = l := by
    intro l r h
    rw [h] at gc
    have h3 := congrArg (fun z => z.getD 0 []) gc
    simp only [List.getD_eq_getElem?_getD, List.getElem?_drop, Nat.add_zero, List.getElem?_cons_zero, Option.getD_some] at h3
    rw [List.getD_eq_getElem?_getD]
    exact h3
  by_cases c0 : sr = []
  · subst c0
    have hc1 : cutN [] [] = [([] : List UInt8)] := rfl
    rw [hc1] at hlen
    have hke : n + 1 = ls.length := by simpa using hlen
    have hgd : ls.getD (ls.length - 1) [] = [] := by rw [show ls.length - 1 = n by omega]; exact hget _ _ hc1
    rw [← go, parse_e hke, hgd]
    by_cases c2 : 200 < p.length
    · have c2' : (200 : Int) < p.length := by omega
      simp +contextual (dsimp := false) [gb, ge0, ge1, goB_of gb, goB_of ge0, goB_of ge1, c2', c2]
      have hq0 : ∀ (b : Blk), (hp.set H.length b)[H.length]? = some b := fun b => List.getElem?_set_self (by omega)
      have hq1 : ∀ (b : Blk), (hp.set H.length b)[H.length + 1]? = hp[H.length + 1]? := fun b => List.getElem?_set_ne (by omega)
      have hq2 : ∀ (b c : Blk), ((hp.set H.length b).set (H.length + 1) c)[H.length + 1]? = some c := fun b c => List.getElem?_set_self (by simp; omega)
      have hq3 : ∀ (b c : Blk), ((hp.set H.length b).set (H.length + 1) c)[H.length]? = (hp.set H.length b)[H.length]? := fun b c => List.getElem?_set_ne (by omega)
      simp +contextual (dsimp := false) [hq0, hq1, hq2, hq3, ge1]
      exact ⟨by simpa using hsx [] _ _, [], SlR.nil, Fresh.nil _⟩
    · have c2' : ¬ (200 : Int) < p.length := by omega
      have hq0 : ∀ (b : Blk), (hp.set H.length b)[H.length]? = some b := fun b => List.getElem?_set_self (by omega)
      have hq1 : ∀ (b : Blk), (hp.set H.length b)[H.length + 1]? = hp[H.length + 1]? := fun b => List.getElem?_set_ne (by omega)
      have hq2 : ∀ (b c : Blk), ((hp.set H.length b).set (H.length + 1) c)[H.length + 1]? = some c := fun b c => List.getElem?_set_self (by simp; omega)
      have hq3 : ∀ (b c : Blk), ((hp.set H.length b).set (H.length + 1) c)[H.length]? = (hp.set H.length b)[H.length]? := fun b c => List.getElem?_set_ne (by omega)
      simp +contextual (dsimp := false) [gb, ge0, ge1, goB_of gb, goB_of ge0, goB_of ge1, c2', c2, hq0, hq1, hq2, hq3]
      refine ⟨by simpa using hsx [] _ _, FB, Rp.fr gr fun j hj => ?_, gf.weak (by omega)⟩
      have := gf.1 j hj
      rw [List.getElem?_set_ne (by omega), List.getElem?_set_ne (by omega)]
  · simp +contextual (dsimp := false) [c0]
    refine CallK.fl ⟨_, Tryd.func31, rfl, rfl⟩ (cut_ac sr 10 (by omega) _) ?_
    have hcc := cutN_cut sr []
    have hcl : (cutB sr 10).1.length ≤ sr.length ∧ ((cutB sr 10).2.2 = true → (cutB sr 10).2.1.length + 1 ≤ sr.length) := by
      unfold cutB
      split
      · rename_i hm
        have := List.idxOf_lt_length_iff.2 hm
        simp
        omega
      · simp
    generalize cutB sr 10 = cc at hcc hcl ⊢
    obtain ⟨line, rest, has⟩ := cc
    dsimp only at hcc hcl
    simp +contextual (dsimp := false)
    refine CallK.fl ⟨_, Tryd.func32, rfl, rfl⟩ (readIns_ac (by omega) (hW.ext hex) (hP.ext hex) (hE.ext hex) h0 h2 hg) ?_
    have hrt := readI_true (line := line)
    have hrs := fun y => readI_some (line := line) (y := y)
    generalize readI line = rd at hrt hrs ⊢
    obtain ⟨x, fine⟩ := rd
    cases has with
    | false =>
      have hc1 : cutN sr [] = [sr] := by simpa using hcc
      rw [hc1] at hlen
      have hke : n + 1 = ls.length := by simpa using hlen
      have hgd : ls.getD (ls.length - 1) [] = sr := by rw [show ls.length - 1 = n by omega]; exact hget _ _ hc1
      rw [← go, parse_e hke, hgd, if_pos c0]
      simp +contextual (dsimp := false) [Ins.c, g0T, g1T, hs0, hs1, hs2, hs3]
      exact ⟨_, ⟨rfl, by omega⟩, hsx _ _ _, [], SlR.nil, Fresh.nil _⟩
    | true =>
      have hc1 : cutN sr [] = line :: cutN rest [] := by simpa using hcc
      have hnr := cutN_num rest []
      have hgd := hget _ _ hc1
      have hnl : n + 1 < ls.length := by
        rw [hc1, List.length_cons] at hlen
        omega
      cases fine with
      | false =>
        have hrn : readL (ls.getD n []) = none := by
          rw [hgd]
          cases hr : readL line with
          | none => rfl
          | some y =>
            have := hrs y hr
            cases this
        rw [← go, parse_n hnl hrn]
        simp +contextual (dsimp := false) [Ins.c, g0T, g1T, hs0, hs1, hs2, hs3]
        exact ⟨hsx _ _ _, [], SlR.nil, Fresh.nil _⟩
      | true =>
        have hrl : readL (ls.getD n []) = some x := by rw [hgd]; exact hrt rfl
        obtain ⟨hx1, hx2⟩ := readL_spec hrl
        obtain ⟨n1, hn1⟩ : ∃ m, m = n + 1 := ⟨_, rfl⟩
        have w1 : IntKind.i64.wrap ((n : Int) + 1) = (n1 : Int) := by rw [wrap_of _ (by omega) (by omega)]; omega
        have hcr := hcl.2 rfl
        simp +contextual (dsimp := false) [Ins.c, gbT]
        refine AppK.one (R := InsR) (l := p) (ex := 58) (fx := (0, 0)) (ox := true) (base := H.length + 3) (x := x) (cx := x.c) (Fx := []) slt33 und33 (Rp.ext gr (Ext.app _ _)) gf (by simp [Ins.c]) ⟨rfl, rfl, ins_ok hx1⟩ (Fresh.nil _) (by simp) (by simp; omega) (by omega) (by decide) ?_
        intro s2 H2 F2 q1 q2 q3 q4 q5
        simp only [List.length_append, List.length_cons, List.length_nil] at q3 q4
        have hnb : ∀ j, j < H.length + 3 → j ∉ FB := fun j hj hm => by have := gf.1 j hm; omega
        have r1 := (q4 (H.length + 2) (by omega) (hnb _ (by omega))).trans (gbT _)
        obtain ⟨a7, z7, rfl⟩ := q1.form
        have hset : ∀ b : Blk, (H2.set (H.length + 2) b)[H.length + 2]? = some b := fun b => List.getElem?_set_self (by omega)
        simp +contextual (dsimp := false) [goB_of r1, r1, w1]
        rw [List.length_append, List.length_singleton] at q1
        refine LoopN.of (n1, rest, _, _, F2, p ++ [x]) rfl ⟨by dsimp only; omega, by simp; omega, fun j hj => ?_, hset _, Rp.fr q1 fun j hj => List.getElem?_set_ne (by have := q2.1 j hj; omega), q2, by simp; omega, ?_, ?_⟩ (by dsimp only; omega)
        · rw [List.getElem?_set_ne (by omega)]
          exact (q4 j (by omega) (hnb j (by omega))).trans ((get_ext (by omega)).trans (gx j hj))
        · dsimp only
          rw [hn1, ← List.drop_drop, gc, hc1]
          rfl
        · dsimp only
          rw [hn1, ← parse_s hnl hrl]
          exact go
end Go.Proofs.YtbigpkfdeaigeaaDoor
