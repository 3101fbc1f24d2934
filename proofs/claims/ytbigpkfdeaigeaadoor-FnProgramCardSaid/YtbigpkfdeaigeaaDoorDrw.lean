import Derived.Test.YtbigpkfdeaigeaaDoorF1
import Derived.Test.YtbigpkfdeaigeaaDoorByt
/- A number that is drawn. No condition. -/
namespace Go.Proofs.YtbigpkfdeaigeaaDoor
open Go Go.Am
set_option linter.unusedSimpArgs false
set_option linter.unusedVariables false
set_option maxRecDepth 20000
variable {ng : Nat}

theorem pick_ac {own : Bool} {l : List UInt8} {s : Value} {F : List Nat} {H : Heap} {id p : Nat} {e : TypeId} {f : Nat × Nat} {n : Int} (hs : BytesR own H l [s] F) (hid : id ∉ F) (hr : H[id]? = some ⟨.cells #[s, int (p : Int)] e f, true, true⟩) (hp : p ≤ 1000000000) :
    AC Tryd.prog ng 19 [.pointer (some ⟨id, 0, none⟩), int n] H fun v S' => ∃ k : Nat, v = int k ∧ (n < 1 → k = 0) ∧ (1 ≤ n → (k : Int) < n) ∧ S' = H.set id ⟨.cells #[s, int ((p + 1 : Nat) : Int)] e f, true, true⟩ := by
  obtain ⟨a, z, rfl⟩ := hs.form
  have hb := hs.bound
  have hlt := (List.getElem?_eq_some_iff.1 hr).1
  have hset : (H.set id ⟨.cells #[.slice a l.length z, int ((p : Int) + 1)] e f, true, true⟩)[id]? = some ⟨.cells #[.slice a l.length z, int ((p : Int) + 1)] e f, true, true⟩ := List.getElem?_set_self hlt
  have hs2 := Rp.fr hs (H' := H.set id ⟨.cells #[.slice a l.length z, int ((p : Int) + 1)] e f, true, true⟩) fun j hj => List.getElem?_set_ne (by rintro rfl; exact hid hj)
  have hw : IntKind.i64.wrap ((p : Int) + 1) = (p : Int) + 1 := wrap_of _ (by omega) (by omega)
  have hw2 : IntKind.i64.wrap (p : Int) = p := wrap_of _ (by omega) (by omega)
  refine AC.go [] Tryd.func19 rfl Tryd.ntmps19 rfl ⟨mixed, by kernel_rfl⟩ ?_
  by_cases hn : n < 1
  · simp (dsimp := false) [goB_of hr, hn, hw]
    exact ⟨0, rfl, rfl, fun h => by omega⟩
  · simp (dsimp := false) [goB_of hr, hn, hw, hw2, goB_of hset]
    refine ifA_dec (fun h0 => ?_) (fun h0 => ?_)
    · exact ⟨0, rfl, fun h => by omega⟩
    have hl0 : 0 < l.length := List.length_pos_iff.2 h0
    refine ifA_dec (fun h1 => ?_) (fun h1 => ?_)
    · obtain ⟨id', o, c, e', f', ow, cs, Fi, E⟩ := SlR.get hs2 p (by omega)
      obtain ⟨rfl, rfl, -⟩ := E.rep
      simp (dsimp := false) [E.idx, E.goB, E.le, E.lt, E.cell0, show n ≠ 0 by omega]
      have hb8 := l[p].toNat_lt
      rw [wrap_of _ (by omega) (by omega)]
      refine ⟨l[p].toNat % n.toNat, ?_, fun h => by omega, fun h => ?_⟩
      · rw [Int.tmod_eq_emod_of_nonneg (by omega), Int.natCast_emod, Int.toNat_of_nonneg (by omega)]
      · have := Nat.mod_lt l[p].toNat (show 0 < n.toNat by omega)
        omega
    · obtain ⟨Q1, hQ1⟩ : ∃ Q, Q = p % l.length := ⟨_, rfl⟩
      obtain ⟨Q2, hQ2⟩ : ∃ Q, Q = (p * 7 + 3) % l.length := ⟨_, rfl⟩
      obtain ⟨Q3, hQ3⟩ : ∃ Q, Q = p / l.length := ⟨_, rfl⟩
      have hi1 : Q1 < l.length := hQ1 ▸ Nat.mod_lt _ hl0
      have hi2 : Q2 < l.length := hQ2 ▸ Nat.mod_lt _ hl0
      have hdv : Q3 ≤ p := hQ3 ▸ Nat.div_le_self _ _
      have hq1 : ((p : Int)).tmod (l.length : Int) = (Q1 : Int) := by rw [Int.tmod_eq_emod_of_nonneg (by omega), hQ1, Int.natCast_emod]
      have hq2 : ((p : Int) * 7 + 3).tmod (l.length : Int) = (Q2 : Int) := by rw [Int.tmod_eq_emod_of_nonneg (by omega), hQ2, Int.natCast_emod]; simp
      have hq3 : ((p : Int)).tdiv (l.length : Int) = (Q3 : Int) := by rw [Int.tdiv_eq_ediv_of_nonneg (by omega), hQ3, Int.natCast_ediv]
      clear hQ1 hQ2 hQ3
      have hw3 : IntKind.i64.wrap ((p : Int) * 7) = (p : Int) * 7 := wrap_of _ (by omega) (by omega)
      have hw4 : IntKind.i64.wrap ((p : Int) * 7 + 3) = (p : Int) * 7 + 3 := wrap_of _ (by omega) (by omega)
      obtain ⟨i1, o1, c1, e1, f1, w1, cs1, Fi1, E1⟩ := SlR.get hs2 Q1 hi1
      obtain ⟨rfl, rfl, -⟩ := E1.rep
      obtain ⟨i2, o2, c2, e2, f2, w2, cs2, Fi2, E2⟩ := SlR.get hs2 Q2 hi2
      obtain ⟨rfl, rfl, -⟩ := E2.rep
      have hb1 := l[Q1].toNat_lt
      have hb2 := l[Q2].toNat_lt
      obtain ⟨X, hX, hX2⟩ : ∃ X : Nat, IntKind.i64.wrap (IntKind.i64.wrap (IntKind.i64.wrap (IntKind.i64.wrap (IntKind.i64.wrap (l[Q1].toNat : Int) * 131) + IntKind.i64.wrap (IntKind.i64.wrap (l[Q2].toNat : Int) * 1117)) + IntKind.i64.wrap ((p : Int) * 29)) +
          IntKind.i64.wrap (IntKind.i64.wrap (Q3 : Int) * 53)) = (X : Int) ∧ X < 4611686018427387904 := by
        generalize l[Q1].toNat = b1 at hb1
        generalize l[Q2].toNat = b2 at hb2
        refine ⟨b1 * 131 + b2 * 1117 + p * 29 + Q3 * 53, ?_, by omega⟩
        rw [wrap_of (b1 : Int) (by omega) (by omega), wrap_of ((b1 : Int) * 131) (by omega) (by omega), wrap_of (b2 : Int) (by omega) (by omega), wrap_of ((b2 : Int) * 1117) (by omega) (by omega), wrap_of ((b1 : Int) * 131 + (b2 : Int) * 1117) (by omega) (by omega), wrap_of ((p : Int) * 29) (by omega) (by omega),
          wrap_of ((b1 : Int) * 131 + (b2 : Int) * 1117 + (p : Int) * 29) (by omega) (by omega), wrap_of (Q3 : Int) (by omega) (by omega), wrap_of ((Q3 : Int) * 53) (by omega) (by omega), wrap_of ((b1 : Int) * 131 + (b2 : Int) * 1117 + (p : Int) * 29 + (Q3 : Int) * 53) (by omega) (by omega)]
        simp
      have hX3 : IntKind.i64.wrap (X : Int) = X := wrap_of _ (by omega) (by omega)
      obtain ⟨Y, hY, hY2⟩ : ∃ Y : Nat, (X : Int).tdiv 64 = (Y : Int) ∧ Y < 4611686018427387904 := ⟨X / 64, by rw [Int.tdiv_eq_ediv_of_nonneg (by omega)]; omega, by omega⟩
      have hY3 : IntKind.i64.wrap (Y : Int) = Y := wrap_of _ (by omega) (by omega)
      have hZ : X ^^^ Y < 4611686018427387904 := Nat.xor_lt_two_pow (n := 62) hX2 hY2
      simp (dsimp := false) [hq1, hq2, hq3, hw3, hw4, h0, E1.idx, E1.goB, E1.le, E1.lt, E1.cell0, E2.idx, E2.goB, E2.le, E2.lt, E2.cell0, goB_of hset, hX, hX3, hY, hY3, bin_xorN hX2 hY2, show n ≠ 0 by omega]
      refine ⟨(X ^^^ Y) % n.toNat, ?_, fun h => by omega, fun h => ?_⟩
      · rw [Int.tmod_eq_emod_of_nonneg (by omega), Int.natCast_emod, Int.toNat_of_nonneg (by omega)]
      · have := Nat.mod_lt (X ^^^ Y) (show 0 < n.toNat by omega)
        omega
end Go.Proofs.YtbigpkfdeaigeaaDoor

/- What the drawn laws draw from: a reader of bytes, its numbers, texts and names. No condition. -/
set_option linter.unusedSimpArgs false
set_option linter.unusedVariables false
namespace Go.Am
open Go
/-- All but the reader stays. -/
def Rdo (rd : Nat) (H S : Heap) : Prop := H.length ≤ S.length ∧ ∀ j, j < H.length → j ≠ rd → S[j]? = H[j]?
theorem Rdo.refl (rd : Nat) (H : Heap) : Rdo rd H H := ⟨Nat.le_refl _, fun _ _ _ => rfl⟩
theorem Rdo.trans {rd : Nat} {A B C : Heap} (h : Rdo rd A B) (h' : Rdo rd B C) : Rdo rd A C := ⟨Nat.le_trans h.1 h'.1, fun j hj hn => (h'.2 j (Nat.lt_of_lt_of_le hj h.1) hn).trans (h.2 j hj hn)⟩
theorem Rdo.ext {rd : Nat} {A B : Heap} (h : Ext A B) : Rdo rd A B := ⟨h.le, fun j hj _ => h j hj⟩
theorem Rdo.app {rd : Nat} {A T : Heap} : Rdo rd A (A ++ T) := .ext (Ext.app _ _)
theorem Rdo.of {rd : Nat} {A B : Heap} {F : List Nat} {n : Nat} (hn : n ≤ B.length) (hf : ∀ j ∈ F, n ≤ j) (h1 : n ≤ A.length) (h : ∀ j, j < A.length → j ∉ F → B[j]? = A[j]?) : ∀ j, j < n → B[j]? = A[j]? :=
  fun j hj => h j (by omega) fun hm => by have := hf j hm; omega
theorem Rdo.rp {α : Type} {R : RepT α} {sz : Nat} [Rp R sz] {rd : Nat} {H S : Heap} {x : α} {c : List Value} {F : List Nat} (h : R H x c F) (hr : Rdo rd H S) (hn : rd ∉ F) : R S x c F := Rp.fr h fun j hj => hr.2 j (Rp.lt h j hj) (by rintro rfl; exact hn hj)
theorem Fresh.rd {n rd : Nat} {F : List Nat} (h : Fresh n F) (hr : rd < n) : rd ∉ F := fun hm => by have := h.1 _ hm; omega
/-- The reader's block; n numbers can still be picked. -/
def RdrR (e : TypeId) (H : Heap) (rd n : Nat) : Prop := ∃ (own : Bool) (l : List UInt8) (s : Value) (F : List Nat) (p : Nat), BytesR own H l [s] F ∧ (∀ j ∈ F, j < rd) ∧ H[rd]? = some ⟨.cells #[s, int (p : Int)] e (0, 0), true, true⟩ ∧ p + n ≤ 1000000000
theorem RdrR.lt {e : TypeId} {H : Heap} {rd n : Nat} (h : RdrR e H rd n) : rd < H.length := by
  obtain ⟨_, _, _, _, _, _, _, h, _⟩ := h
  exact (List.getElem?_eq_some_iff.1 h).1
theorem RdrR.fr {e : TypeId} {H S : Heap} {rd n : Nat} (h : RdrR e H rd n) (hj : ∀ j, j ≤ rd → S[j]? = H[j]?) : RdrR e S rd n := by
  obtain ⟨o, l, s, F, p, h1, h2, h3, h4⟩ := h
  exact ⟨o, l, s, F, p, Rp.fr h1 fun j hm => hj j (Nat.le_of_lt (h2 j hm)), h2, (hj rd (Nat.le_refl _)).trans h3, h4⟩
theorem RdrR.ext {e : TypeId} {H S : Heap} {rd n : Nat} (h : RdrR e H rd n) (he : Ext H S) : RdrR e S rd n := h.fr fun j hj => he j (by have := h.lt; omega)
theorem RdrR.weak {e : TypeId} {H : Heap} {rd n m : Nat} (h : RdrR e H rd n) (hm : m ≤ n) : RdrR e H rd m := by
  obtain ⟨o, l, s, F, p, h1, h2, h3, h4⟩ := h
  exact ⟨o, l, s, F, p, h1, h2, h3, by omega⟩
end Go.Am
namespace Go.Proofs.YtbigpkfdeaigeaaDoor
open Go Go.Am Go.Proofs
set_option maxRecDepth 20000
variable {ng : Nat}
abbrev RdS (H : Heap) (rd n : Nat) : Prop := RdrR 71 H rd n
theorem pickR {H : Heap} {rd n : Nat} (h : RdS H rd n) (hn : 1 ≤ n) (m : Int) : AC Tryd.prog ng 19 [.pointer (some ⟨rd, 0, none⟩), int m] H fun v S' => ∃ k : Nat, v = int k ∧ (m < 1 → k = 0) ∧ (1 ≤ m → (k : Int) < m) ∧ S'.length = H.length ∧ Rdo rd H S' ∧ RdS S' rd (n - 1) := by
  obtain ⟨o, l, s, F, p, h1, h2, h3, h4⟩ := h
  have hlt := (List.getElem?_eq_some_iff.1 h3).1
  refine (pick_ac h1 (fun hm => by have := h2 rd hm; omega) h3 (by omega)).mono ?_
  rintro v S' ⟨k, rfl, q1, q2, rfl⟩
  refine ⟨k, rfl, q1, q2, by simp, ⟨by simp, fun j hj hn => List.getElem?_set_ne (Ne.symm hn)⟩, o, l, s, F, p + 1, Rp.fr h1 fun j hj => List.getElem?_set_ne (by have := h2 j hj; omega), h2, List.getElem?_set_self hlt, by omega⟩
theorem l1Open_ac {own : Bool} {l : List UInt8} {s : Value} {F : List Nat} {H : Heap} (hs : BytesR own H l [s] F) : AC Tryd.prog ng 18 [s] H fun v S' => ∃ rd, v = .pointer (some ⟨rd, 0, none⟩) ∧ H.length ≤ rd ∧ Ext H S' ∧ RdS S' rd 1000000000 := by
  obtain ⟨a, z, rfl⟩ := hs.form
  have hb := hs.bound
  refine AC.go [] Tryd.func18 rfl Tryd.ntmps18 rfl ⟨mixed, by kernel_rfl⟩ ?_
  simp (dsimp := false)
  refine ifA_dec (fun h1 => ?_) (fun h1 => ?_)
  · obtain ⟨s', F', q⟩ := hs.cut (P := Tryd.prog) (et := 5) 0 2000 (by omega) (by omega) (by kernel_rfl)
    obtain ⟨q1, q2, q3, q4, q5, q6, q7⟩ := q fun _ => rfl
    obtain ⟨a', z', rfl⟩ := q1.form
    have q8 : sliceZ Tryd.prog (some (.slice 5)) (.slice a l.length z) none (some (.int .i64 2000)) none = some _ := q7 rfl .i64
    simp (dsimp := false) [q8]
    exact ⟨own, _, _, F', 0, Rp.ext q1 (Ext.app _ _), fun j hj => Rp.lt hs j (q2 j hj), by simp, by omega⟩
  · exact ⟨own, l, _, F, 0, Rp.ext hs (Ext.app _ _), fun j hj => Rp.lt hs j hj, by simp, by omega⟩
theorem l1Many_ac {s : List UInt8} {n : Nat} {H : Heap} (hs : s.length ≤ 100000) (hn : n ≤ 1000000) : AC Tryd.prog ng 21 [str s, int n] H fun v S' => (∃ t : List UInt8, v = str t ∧ t.length = n * s.length) ∧ S' = H := by
  refine .flat (AC.go [] Tryd.func21 rfl Tryd.ntmps21 rfl ⟨mixed, by kernel_rfl⟩ ?_)
  simp (dsimp := false)
  refine LoopA.upc (σ := List UInt8 × List UInt8 × Nat) [0, 1, 5] (fun x => [(0, str x.1), (1, int x.2.2), (5, str x.2.1)])
    (fun x => x.2.2 ≤ n ∧ x.2.1.length + x.2.2 * x.1.length = n * s.length) (fun x => x.2.2) (s, [], n) rfl ⟨by simp, by simp⟩ ?_
  rintro ⟨t, o, k⟩ ⟨hk, hm⟩
  dsimp only at hk hm
  simp (dsimp := false)
  refine ifA_dec (fun h3 => ?_) (fun h3 => ?_)
  · have hr : ((k : Int)).tmod 2 = ((k % 2 : Nat) : Int) := by rw [Int.tmod_eq_emod_of_nonneg (by omega)]; omega
    have hq : ((k : Int)).tdiv 2 = ((k / 2 : Nat) : Int) := by rw [Int.tdiv_eq_ediv_of_nonneg (by omega)]; omega
    have hw2 := wrap_nat (show k / 2 < 9223372036854775808 by omega)
    have hT : n * s.length ≤ 100000000000 := Nat.le_trans (Nat.mul_le_mul hn hs) (by decide)
    have hk1 : 1 ≤ k := by omega
    have ht : t.length ≤ k * t.length := Nat.le_mul_of_pos_left _ hk1
    have a1 := fun x y => bin_ladd (P := Tryd.prog) (t := 9) (x := x) (y := y) (l := o) (r := t) (by omega)
    have a2 := fun x y => bin_ladd (P := Tryd.prog) (t := 9) (x := x) (y := y) (l := t) (r := t) (by omega)
    have hk2 : k * t.length = (k / 2) * (t.length + t.length) + (k % 2) * t.length := by
      have := Nat.div_add_mod k 2
      rw [← Nat.two_mul, ← Nat.mul_assoc, ← Nat.add_mul, Nat.mul_comm (k / 2) 2, this]
    refine ifA_dec (fun h4 => ?_) (fun h4 => ?_)
    · have h5 : k % 2 = 1 := by omega
      rw [h5] at hk2
      simp (dsimp := false) [-Int.natCast_ediv, hq, hw2, a1, a2]
      refine LoopN.of (t ++ t, o ++ t, k / 2) rfl ⟨?_, ?_⟩ ?_
      · dsimp only; omega
      · simp only [List.length_append]; omega
      · dsimp only; omega
    · have h5 : k % 2 = 0 := by omega
      rw [h5] at hk2
      simp (dsimp := false) [-Int.natCast_ediv, hq, hw2, a1, a2]
      refine LoopN.of (t ++ t, o, k / 2) rfl ⟨?_, ?_⟩ ?_
      · dsimp only; omega
      · simp only [List.length_append]; omega
      · dsimp only; omega
  · obtain rfl : k = 0 := by omega
    simp at hm
    exact hm
theorem l1Text_ac {H : Heap} {rd n : Nat} (h : RdS H rd n) (hn : 8 ≤ n) : AC Tryd.prog ng 20 [.pointer (some ⟨rd, 0, none⟩)] H fun v S' => ∃ s : List UInt8, v = str s ∧ s.length ≤ 8 ∧ Rdo rd H S' ∧ RdS S' rd (n - 8) := by
  have hlt' := h.lt
  refine AC.go [] Tryd.func20 rfl Tryd.ntmps20 rfl ⟨mixed, by kernel_rfl⟩ ?_
  simp (dsimp := false)
  refine CallK.of ⟨_, Tryd.func19, rfl, rfl⟩ (pickR h (by omega) 12) ?_
  rintro v S1 ⟨k, rfl, -, hk, hl, hr, h1⟩
  have hk := hk (by decide)
  have h8 : ∀ {S : Heap} {m : Nat}, RdS S rd m → n - 8 ≤ m → RdS S rd (n - 8) := fun h hm => h.weak hm
  have hkk : k = 0 ∨ k = 1 ∨ k = 2 ∨ k = 3 ∨ k = 4 ∨ k = 5 ∨ 6 ≤ k := by omega
  rcases hkk with rfl | rfl | rfl | rfl | rfl | rfl | hk6
  · simp (dsimp := false)
    exact ⟨hr, h1.weak (by omega)⟩
  · simp (dsimp := false)
    exact ⟨hr, h1.weak (by omega)⟩
  · simp (dsimp := false)
    exact ⟨hr, h1.weak (by omega)⟩
  · simp (dsimp := false)
    refine CallK.of ⟨_, Tryd.func19, rfl, rfl⟩ (pickR (h1.ext (Ext.app _ _)) (by omega) 2) ?_
    rintro v S2 ⟨k, rfl, -, hk, hl2, hr2, h2⟩
    have hk := hk (by decide)
    have hlt := h1.lt
    have hb : S2[S1.length]? = some (⟨.cells #[str [97, 32, 98], str [97, 9, 98, 32, 99]] 9 (0, 0), true, true⟩ : Blk) := (hr2.2 _ (by simp) (by omega)).trans (by simp)
    have hR := hr.trans (Rdo.app.trans hr2)
    have hkk : k = 0 ∨ k = 1 := by omega
    rcases hkk with rfl | rfl
    · simp (dsimp := false) [hb, goB_of hb]
      exact ⟨hR, h2.weak (by omega)⟩
    · simp (dsimp := false) [hb, goB_of hb]
      exact ⟨hR, h2.weak (by omega)⟩
  · simp (dsimp := false)
    exact ⟨hr, h1.weak (by omega)⟩
  · simp (dsimp := false)
    exact ⟨hr, h1.weak (by omega)⟩
  · simp (dsimp := false) [show ¬ (k : Int) = 0 by omega, show ¬ (k : Int) = 1 by omega, show ¬ (k : Int) = 2 by omega, show ¬ (k : Int) = 3 by omega, show ¬ (k : Int) = 4 by omega, show ¬ (k : Int) = 5 by omega]
    refine ifA_dec (fun h => by omega) fun _ => ?_
    refine CallK.of ⟨_, Tryd.func19, rfl, rfl⟩ (pickR h1 (by omega) 5) ?_
    rintro v S2 ⟨m, rfl, -, hm, hl2, hr2, h2⟩
    have hm := hm (by decide)
    have hlt := h1.lt
    simp (dsimp := false)
    refine LoopA.up (σ := Nat × Heap × Value × List Nat × List UInt8) [0, 3, 4, 5] (fun x => [(4, x.2.2.1), (5, int x.1)]) (fun x => x.2.1)
      (fun x => x.1 ≤ m + 1 ∧ Rdo rd H x.2.1 ∧ RdS x.2.1 rd (n - 2 - x.1) ∧ BytesR true x.2.1 x.2.2.2.2 [x.2.2.1] x.2.2.2.1 ∧ Fresh H.length x.2.2.2.1 ∧ x.2.2.2.2.length = x.1) (fun x => m + 1 - x.1) (0, _, .slice (some ⟨S2.length, 0, none⟩) 0 1, [S2.length], []) rfl
      ⟨by simp, hr.trans (hr2.trans .app), (h2.ext (Ext.app _ _)).weak (by dsimp only; omega), SlR.mt (R := byteR) (e := 5) (f := (0, 0)) (by simp), Fresh.one (by omega), rfl⟩ ?_
    rintro ⟨i, hp, sv, F, l⟩ ⟨hi, g1, g2, g3, g4, g5⟩
    dsimp only at hi g1 g2 g3 g4 g5
    obtain ⟨a3, z3, rfl⟩ := g3.form
    simp (dsimp := false)
    refine ifA_dec (fun h3 => ?_) (fun h3 => ?_)
    · refine CallK.of ⟨_, Tryd.func19, rfl, rfl⟩ (pickR g2 (by omega) 4) ?_
      rintro v S3 ⟨k3, rfl, -, hk3, hl3, hr3, h3'⟩
      have hk3 := hk3 (by decide)
      have g3' := Rdo.rp g3 hr3 (g4.rd hlt')
      obtain ⟨x, hx⟩ : ∃ x : UInt8, IntKind.u8.wrap (IntKind.i64.wrap (97 + (k3 : Int))) = (x.toNat : Int) := by
        have : k3 = 0 ∨ k3 = 1 ∨ k3 = 2 ∨ k3 = 3 := by omega
        rcases this with rfl | rfl | rfl | rfl
        · exact ⟨97, rfl⟩
        · exact ⟨98, rfl⟩
        · exact ⟨99, rfl⟩
        · exact ⟨100, rfl⟩
      have hw := wrap_succ (show i < 9223372036854775807 by omega)
      simp (dsimp := false) [hx]
      have hlS := hr3.1
      have hl1 := g1.1
      refine AppK.one (R := byteR) (l := l) (ex := 5) (fx := (0, 0)) (ox := true) (base := H.length) (x := x) (cx := [.int .u8 x.toNat]) (Fx := []) slt22 und22 (Rp.ext g3' (Ext.app _ _)) g4 (by simp) ⟨rfl, rfl, trivial⟩ (Fresh.nil _) (by simp) (by simp; omega) (by omega) (by decide) ?_
      intro s1 H1 F1 q1 q2 q3 q4 q5
      simp only [List.length_append, List.length_cons, List.length_nil] at q3 q4
      have hkeep : ∀ j, j < H.length → H1[j]? = S3[j]? := fun j hj => (q4 j (by omega) (fun hm => by have := g4.1 j hm; omega)).trans (get_ext (by omega))
      simp (dsimp := false) [hw]
      refine LoopN.of (i + 1, H1, s1, F1, l ++ [x]) rfl ⟨by dsimp only; omega, ⟨by dsimp only; omega, fun j hj hn => (hkeep j hj).trans ((g1.trans hr3).2 j hj hn)⟩, (h3'.fr fun j hj => hkeep j (by omega)).weak (by dsimp only; omega), q1, q2, by simp [g5]⟩ (by dsimp only; omega)
    · refine ConvK.of (conv_bytes und22 und5 und9 g3) ?_
      simp (dsimp := false)
      exact ⟨by omega, g1, g2.weak (by omega)⟩
end Go.Proofs.YtbigpkfdeaigeaaDoor
