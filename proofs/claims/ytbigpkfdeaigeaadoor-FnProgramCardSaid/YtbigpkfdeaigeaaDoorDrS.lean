import Derived.Test.YtbigpkfdeaigeaaDoorDrw
import Derived.Test.YtbigpkfdeaigeaaDoorAm28
import Derived.Test.YtbigpkfdeaigeaaDoorF1
/- What is drawn of instructions: a name, a value's instructions. No condition. -/
set_option linter.unusedSimpArgs false
set_option linter.unusedVariables false
namespace Go.Proofs.YtbigpkfdeaigeaaDoor
open Go Go.Am Go.Proofs
set_option maxRecDepth 100000
variable {ng : Nat}
/-- Between a drawing's start and its end. -/
structure Dr (H : Heap) (rd n : Nat) (S : Heap) : Prop where
  lt : rd < H.length
  rdo : Rdo rd H S
  rdr : RdS S rd n
theorem Dr.mk0 {H : Heap} {rd n : Nat} (h : RdS H rd n) : Dr H rd n H := ⟨h.lt, Rdo.refl _ _, h⟩
abbrev Dr.nOf {H S : Heap} {rd n : Nat} (h : Dr H rd n S) : Nat := n
theorem Dr.le {H S : Heap} {rd n : Nat} (h : Dr H rd n S) : H.length ≤ S.length := h.rdo.1
theorem Dr.ext {H S S' : Heap} {rd n : Nat} (h : Dr H rd n S) (he : Ext S S') : Dr H rd n S' := ⟨h.lt, h.rdo.trans (.ext he), h.rdr.ext he⟩
theorem Dr.app {H S T : Heap} {rd n : Nat} (h : Dr H rd n S) : Dr H rd n (S ++ T) := h.ext (Ext.app _ _)
theorem Dr.keep {H S S' : Heap} {rd n : Nat} (h : Dr H rd n S) (hl : S.length ≤ S'.length) (hk : ∀ j, j < H.length → S'[j]? = S[j]?) : Dr H rd n S' :=
  ⟨h.lt, ⟨Nat.le_trans h.le hl, fun j hj hn => (hk j hj).trans (h.rdo.2 j hj hn)⟩, h.rdr.fr fun j hj => hk j (by have := h.lt; omega)⟩
theorem Dr.step {H S S' : Heap} {rd n m : Nat} (h : Dr H rd n S) (hr : Rdo rd S S') (hm : RdS S' rd m) : Dr H rd m S' := ⟨h.lt, h.rdo.trans hr, hm⟩
theorem Dr.weak {H S : Heap} {rd n m : Nat} (h : Dr H rd n S) (hm : m ≤ n) : Dr H rd m S := ⟨h.lt, h.rdo, h.rdr.weak hm⟩
/-- From an earlier start. -/
theorem Dr.to {H S S' : Heap} {rd n m : Nat} (h : Dr H rd n S) (h' : Dr S rd m S') : Dr H rd m S' := ⟨h.lt, h.rdo.trans h'.rdo, h'.rdr⟩
theorem cells_ins {H : Heap} : ∀ {l : List Ins}, (∀ x ∈ l, x.ok) → RepL InsR H l (l.flatMap Ins.c) []
  | [], _ => ⟨rfl, rfl⟩
  | x :: l, h => ⟨x.c, _, [], [], rfl, rfl, ⟨rfl, rfl, h x (by simp)⟩, cells_ins fun y hy => h y (by simp [hy])⟩
theorem AppK.ins {P : Program} {rd n : Nat} {H S : Heap} {own2 : Bool} {l l2 : List Ins} {s s2 : Value} {F F2 : List Nat} {t tx e e2 : TypeId} {b : Nat} {tm : List Value} {d : Option Nat} {k : St → Prop}
    (ht : SlT P t e 3 b) (htx : P.underlying tx = some (.slice e2)) (hb1 : 1 ≤ b) (hb : b ≤ 100) (hd : Dr H rd n S) (hs : CodeR true S l [s] F) (hf : Fresh H.length F) (h2 : CodeR own2 S l2 [s2] F2) (hl : l.length + l2.length ≤ 1000000)
    (hk : ∀ L : List Ins, L.length = l.length + l2.length → ∀ a' z' H' F', CodeR true H' L [.slice a' L.length z'] F' → Fresh H.length F' → Dr H rd n H' → normT (putT tm d (.slice a' L.length z')) H' k) : AppK P t tx s s2 S tm d k := by
  have htl := h2.flatF
  refine AppK.many (R := InsR) (base := H.length) ht htx hs hf h2 (by rw [htl]; exact Fresh.nil _) (by simp [htl]) hd.le (Nat.le_trans (Nat.mul_le_mul (show 2 * (l.length + l2.length) + 192 ≤ 2000192 by omega) hb) (by decide)) hb1 ?_
  intro s' H' F' q1 q2 q3 q4 q5
  obtain ⟨a', z', rfl⟩ := q1.form
  exact hk _ (by simp) a' z' H' F' q1 q2 (hd.keep q3 fun j hj => q4 j (by have := hd.le; omega) fun hm => by have := hf.1 j hm; omega)
theorem l1Lit_ac (s : List UInt8) (H : Heap) : AC Tryd.prog ng 39 [str s] H fun v S' => v = .agg #[int 1, str s, int 0] ∧ S' = H := by
  refine .flat (AC.go [] Tryd.func39 rfl Tryd.ntmps39 rfl ⟨mixed, by kernel_rfl⟩ ?_)
  simp (dsimp := false)
theorem l1Op_ac (op : Int) (H : Heap) : AC Tryd.prog ng 37 [int op] H fun v S' => v = .agg #[int op, str [], int 0] ∧ S' = H := by
  refine .flat (AC.go [] Tryd.func37 rfl Tryd.ntmps37 rfl ⟨mixed, by kernel_rfl⟩ ?_)
  simp (dsimp := false)
theorem l1OpN_ac (op n : Int) (H : Heap) : AC Tryd.prog ng 38 [int op, int n] H fun v S' => v = .agg #[int op, str [], int n] ∧ S' = H := by
  refine .flat (AC.go [] Tryd.func38 rfl Tryd.ntmps38 rfl ⟨mixed, by kernel_rfl⟩ ?_)
  simp (dsimp := false)
theorem l1Small_ac (n : Nat) (H : Heap) : AC Tryd.prog ng 50 [int n] H fun v S' => v = int ((min n 200 : Nat) : Int) ∧ S' = H := by
  refine .flat (AC.go [] Tryd.func50 rfl Tryd.ntmps50 rfl ⟨mixed, by kernel_rfl⟩ ?_)
  simp (dsimp := false)
  refine ifA_dec (fun h => ?_) (fun h => ?_)
  · rw [Nat.min_eq_right (by omega)]; rfl
  · rw [Nat.min_eq_left (by omega)]
theorem l1Name_ac {H : Heap} {rd n : Nat} (h : RdS H rd n) (hn : 1 ≤ n) : AC Tryd.prog ng 40 [.pointer (some ⟨rd, 0, none⟩)] H fun v S' => ∃ s : List UInt8, v = str s ∧ s.length ≤ 4 ∧ Rdo rd H S' ∧ RdS S' rd (n - 1) := by
  refine AC.go [] Tryd.func40 rfl Tryd.ntmps40 rfl ⟨mixed, by kernel_rfl⟩ ?_
  simp (dsimp := false)
  refine CallK.of ⟨_, Tryd.func19, rfl, rfl⟩ (pickR h (by omega) 16) ?_
  rintro v S1 ⟨k, rfl, -, hk, hl, hr, h1⟩
  have hk := hk (by decide)
  simp (dsimp := false)
  refine ifA_dec (fun h3 => ?_) (fun h3 => ?_)
  · have q1 := sliceZ_mid (P := Tryd.prog) (k := .i64) (k' := .i64) (l := [97, 98, 99, 100, 101, 102]) (j := (k : Int)) (j' := (k : Int) + 1) (by omega) (by omega) (by simp; omega)
    simp (dsimp := false) [wrap_of ((k : Int) + 1) (by omega) (by omega), q1]
    refine ⟨by omega, hr, h1⟩
  · refine ifA_dec (fun h4 => ?_) (fun h4 => ?_)
    · obtain ⟨m, rfl⟩ : ∃ m : Nat, k = m + 6 := ⟨k - 6, by omega⟩
      have hw : IntKind.i64.wrap (((m + 6 : Nat) : Int) - 6) = (m : Int) := (wrap_of _ (by omega) (by omega)).trans (by omega)
      rw [hw]
      refine CallK.fl ⟨_, Tryd.func23, rfl, rfl⟩ (l1Dec_ac (m + 1) m (by omega) (by omega) _ rfl _) ?_
      have hd : (decN m).length ≤ 2 := by rw [decN_small (by omega)]; simp
      have a1 := fun x y => bin_ladd (P := Tryd.prog) (t := 9) (x := x) (y := y) (l := [116]) (r := decN m) (by simp; omega)
      simp (dsimp := false) [a1]
      exact ⟨by omega, hr, h1⟩
    · exact ⟨hr, h1⟩
def Vb : Nat → Nat
  | 0 => 12
  | d + 1 => 3 * Vb d + 12
def Lv : Nat → Nat
  | 0 => 4
  | d + 1 => 3 * Lv d + 4
end Go.Proofs.YtbigpkfdeaigeaaDoor

/- What is drawn of instructions: the instructions of a value. No condition. -/
set_option linter.unusedSimpArgs false
set_option linter.unusedVariables false
namespace Go.Proofs.YtbigpkfdeaigeaaDoor
open Go Go.Am Go.Proofs
set_option maxRecDepth 100000
variable {ng : Nat}
theorem Vb_le : ∀ d, d ≤ 3 → Vb d ≤ 500 ∧ 12 ≤ Vb d := by decide
theorem Lv_le : ∀ d, d ≤ 3 → Lv d ≤ 200 ∧ 4 ≤ Lv d := by decide
set_option maxHeartbeats 4000000 in
theorem l1Value_ac : ∀ (d : Nat), d ≤ 3 → ∀ {H : Heap} {rd n at_ : Nat} (h : RdS H rd n) (hn : Vb d ≤ n) (hat : at_ ≤ 1000000 + 500 * (3 - d)),
    AC Tryd.prog ng 36 [.pointer (some ⟨rd, 0, none⟩), int at_, int d] H fun v S' => ∃ l F', CodeR true S' l [v] F' ∧ Fresh H.length F' ∧ l.length ≤ Lv d ∧ Dr H rd (n - Vb d) S' := by
  intro d
  induction d with
  | zero =>
    intro _ H rd n at_ h hn hat
    simp only [Vb] at hn ⊢
    have hlt := h.lt
    refine AC.go [] Tryd.func36 rfl Tryd.ntmps36 rfl ⟨mixed, by kernel_rfl⟩ ?_
    simp (dsimp := false)
    have hd0 : Dr H rd n (H ++ [(⟨.cells #[] 58 (0, 0), true, true⟩ : Blk)]) := (Dr.mk0 h).app
    have hs0 : CodeR true (H ++ [(⟨.cells #[] 58 (0, 0), true, true⟩ : Blk)]) [] [.slice (some ⟨H.length, 0, none⟩) 0 3] [H.length] := SlR.mt (R := InsR) (e := 58) (f := (0, 0)) (by simp)
    have hf : Fresh H.length [H.length] := Fresh.one (Nat.le_refl _)
    refine CallK.of ⟨_, Tryd.func19, rfl, rfl⟩ (pickR hd0.rdr (by omega) 12) ?_
    rintro v S1 ⟨k, rfl, -, hk, hl, hr, h1⟩
    have hk := hk (by decide)
    have hd1 := hd0.step hr h1
    have hs1 := Rdo.rp hs0 hr (hf.rd hlt)
    clear hd0 hs0
    have hkk : k = 0 ∨ k = 1 ∨ k = 2 ∨ k = 3 ∨ k = 4 ∨ k = 5 ∨ k = 6 ∨ k = 7 ∨ k = 8 ∨ k = 9 ∨ k = 10 ∨ k = 11 := by omega
    rcases hkk with rfl | rfl | rfl | rfl | rfl | rfl | rfl | rfl | rfl | rfl | rfl | rfl
    · simp (dsimp := false)
      refine CallK.of ⟨_, Tryd.func20, rfl, rfl⟩ (l1Text_ac hd1.rdr (by omega)) ?_
      rintro v S2 ⟨s, rfl, hsl, hr2, h2⟩
      have hd2 := hd1.step hr2 h2
      have hs2 := Rdo.rp hs1 hr2 (hf.rd hlt)
      simp (dsimp := false)
      refine CallK.fl ⟨_, Tryd.func39, rfl, rfl⟩ (l1Lit_ac s _) ?_
      simp (dsimp := false)
      refine AppK.ins (l2 := [(⟨1, s, 0⟩ : Ins)]) slt33 und33 (by decide) (by decide) hd2.app (Rp.ext hs2 (Ext.app _ _)) hf (SlR.lit (R := InsR) (own := true) (l := [(⟨1, s, 0⟩ : Ins)]) (e := 58) (f := (0, 0)) (G := []) (by simp [Ins.c]) (cells_ins (by simp [Ins.ok, i64, okS] <;> omega)) (by simp) (fun _ => rfl)) (by simp <;> omega) ?_
      intro l9 e9 a9 z9 H9 F9 r1 r2 r3
      try simp only [List.length_cons, List.length_nil] at e9
      simp (dsimp := false)
      exact ⟨_, F9, r1, r2, by simp only [Lv]; omega, r3.weak (by omega)⟩
    · simp (dsimp := false)
      refine CallK.of ⟨_, Tryd.func20, rfl, rfl⟩ (l1Text_ac hd1.rdr (by omega)) ?_
      rintro v S2 ⟨s, rfl, hsl, hr2, h2⟩
      have hd2 := hd1.step hr2 h2
      have hs2 := Rdo.rp hs1 hr2 (hf.rd hlt)
      simp (dsimp := false)
      refine CallK.fl ⟨_, Tryd.func39, rfl, rfl⟩ (l1Lit_ac s _) ?_
      simp (dsimp := false)
      refine AppK.ins (l2 := [(⟨1, s, 0⟩ : Ins)]) slt33 und33 (by decide) (by decide) hd2.app (Rp.ext hs2 (Ext.app _ _)) hf (SlR.lit (R := InsR) (own := true) (l := [(⟨1, s, 0⟩ : Ins)]) (e := 58) (f := (0, 0)) (G := []) (by simp [Ins.c]) (cells_ins (by simp [Ins.ok, i64, okS] <;> omega)) (by simp) (fun _ => rfl)) (by simp <;> omega) ?_
      intro l9 e9 a9 z9 H9 F9 r1 r2 r3
      try simp only [List.length_cons, List.length_nil] at e9
      simp (dsimp := false)
      exact ⟨_, F9, r1, r2, by simp only [Lv]; omega, r3.weak (by omega)⟩
    · simp (dsimp := false)
      refine CallK.of ⟨_, Tryd.func40, rfl, rfl⟩ (l1Name_ac hd1.rdr (by omega)) ?_
      rintro v S2 ⟨s, rfl, hsl, hr2, h2⟩
      have hd2 := hd1.step hr2 h2
      have hs2 := Rdo.rp hs1 hr2 (hf.rd hlt)
      simp (dsimp := false)
      refine CallK.fl ⟨_, Tryd.func39, rfl, rfl⟩ (l1Lit_ac s _) ?_
      simp (dsimp := false)
      refine CallK.fl ⟨_, Tryd.func37, rfl, rfl⟩ (l1Op_ac 12 _) ?_
      simp (dsimp := false)
      refine AppK.ins (l2 := [(⟨1, s, 0⟩ : Ins), ⟨12, [], 0⟩]) slt33 und33 (by decide) (by decide) hd2.app (Rp.ext hs2 (Ext.app _ _)) hf (SlR.lit (R := InsR) (own := true) (l := [(⟨1, s, 0⟩ : Ins), ⟨12, [], 0⟩]) (e := 58) (f := (0, 0)) (G := []) (by simp [Ins.c]) (cells_ins (by simp [Ins.ok, i64, okS] <;> omega)) (by simp) (fun _ => rfl)) (by simp <;> omega) ?_
      intro l9 e9 a9 z9 H9 F9 r1 r2 r3
      try simp only [List.length_cons, List.length_nil] at e9
      simp (dsimp := false)
      exact ⟨_, F9, r1, r2, by simp only [Lv]; omega, r3.weak (by omega)⟩
    · simp (dsimp := false)
      refine CallK.of ⟨_, Tryd.func40, rfl, rfl⟩ (l1Name_ac hd1.rdr (by omega)) ?_
      rintro v S2 ⟨s, rfl, hsl, hr2, h2⟩
      have hd2 := hd1.step hr2 h2
      have hs2 := Rdo.rp hs1 hr2 (hf.rd hlt)
      simp (dsimp := false)
      refine CallK.fl ⟨_, Tryd.func39, rfl, rfl⟩ (l1Lit_ac s _) ?_
      simp (dsimp := false)
      refine CallK.fl ⟨_, Tryd.func37, rfl, rfl⟩ (l1Op_ac 12 _) ?_
      simp (dsimp := false)
      refine AppK.ins (l2 := [(⟨1, s, 0⟩ : Ins), ⟨12, [], 0⟩]) slt33 und33 (by decide) (by decide) hd2.app (Rp.ext hs2 (Ext.app _ _)) hf (SlR.lit (R := InsR) (own := true) (l := [(⟨1, s, 0⟩ : Ins), ⟨12, [], 0⟩]) (e := 58) (f := (0, 0)) (G := []) (by simp [Ins.c]) (cells_ins (by simp [Ins.ok, i64, okS] <;> omega)) (by simp) (fun _ => rfl)) (by simp <;> omega) ?_
      intro l9 e9 a9 z9 H9 F9 r1 r2 r3
      try simp only [List.length_cons, List.length_nil] at e9
      simp (dsimp := false)
      exact ⟨_, F9, r1, r2, by simp only [Lv]; omega, r3.weak (by omega)⟩
    · simp (dsimp := false)
      refine CallK.of ⟨_, Tryd.func40, rfl, rfl⟩ (l1Name_ac hd1.rdr (by omega)) ?_
      rintro v S2 ⟨s, rfl, hsl, hr2, h2⟩
      have hd2 := hd1.step hr2 h2
      have hs2 := Rdo.rp hs1 hr2 (hf.rd hlt)
      simp (dsimp := false)
      refine CallK.fl ⟨_, Tryd.func39, rfl, rfl⟩ (l1Lit_ac s _) ?_
      simp (dsimp := false)
      refine CallK.fl ⟨_, Tryd.func37, rfl, rfl⟩ (l1Op_ac 12 _) ?_
      simp (dsimp := false)
      refine AppK.ins (l2 := [(⟨1, s, 0⟩ : Ins), ⟨12, [], 0⟩]) slt33 und33 (by decide) (by decide) hd2.app (Rp.ext hs2 (Ext.app _ _)) hf (SlR.lit (R := InsR) (own := true) (l := [(⟨1, s, 0⟩ : Ins), ⟨12, [], 0⟩]) (e := 58) (f := (0, 0)) (G := []) (by simp [Ins.c]) (cells_ins (by simp [Ins.ok, i64, okS] <;> omega)) (by simp) (fun _ => rfl)) (by simp <;> omega) ?_
      intro l9 e9 a9 z9 H9 F9 r1 r2 r3
      try simp only [List.length_cons, List.length_nil] at e9
      simp (dsimp := false)
      exact ⟨_, F9, r1, r2, by simp only [Lv]; omega, r3.weak (by omega)⟩
    · simp (dsimp := false)
      refine CallK.of ⟨_, Tryd.func40, rfl, rfl⟩ (l1Name_ac hd1.rdr (by omega)) ?_
      rintro v S2 ⟨s, rfl, hsl, hr2, h2⟩
      have hd2 := hd1.step hr2 h2
      have hs2 := Rdo.rp hs1 hr2 (hf.rd hlt)
      simp (dsimp := false)
      refine CallK.fl ⟨_, Tryd.func39, rfl, rfl⟩ (l1Lit_ac s _) ?_
      simp (dsimp := false)
      refine CallK.fl ⟨_, Tryd.func37, rfl, rfl⟩ (l1Op_ac 12 _) ?_
      simp (dsimp := false)
      refine CallK.of ⟨_, Tryd.func19, rfl, rfl⟩ (pickR hd2.rdr (by omega) 3) ?_
      rintro v S3 ⟨m, rfl, -, hm, -, hr3, h3⟩
      have hm := hm (by decide)
      have hd3 := hd2.step hr3 h3
      have hs3 := Rdo.rp hs2 hr3 (hf.rd hlt)
      simp (dsimp := false)
      refine CallK.fl ⟨_, Tryd.func38, rfl, rfl⟩ (l1OpN_ac 5 m _) ?_
      simp (dsimp := false)
      refine CallK.fl ⟨_, Tryd.func37, rfl, rfl⟩ (l1Op_ac 12 _) ?_
      simp (dsimp := false)
      refine AppK.ins (l2 := [(⟨1, s, 0⟩ : Ins), ⟨12, [], 0⟩, ⟨5, [], m⟩, ⟨12, [], 0⟩]) slt33 und33 (by decide) (by decide) hd3.app (Rp.ext hs3 (Ext.app _ _)) hf (SlR.lit (R := InsR) (own := true) (l := [(⟨1, s, 0⟩ : Ins), ⟨12, [], 0⟩, ⟨5, [], m⟩, ⟨12, [], 0⟩]) (e := 58) (f := (0, 0)) (G := []) (by simp [Ins.c]) (cells_ins (by simp [Ins.ok, i64, okS] <;> omega)) (by simp) (fun _ => rfl)) (by simp <;> omega) ?_
      intro l9 e9 a9 z9 H9 F9 r1 r2 r3
      try simp only [List.length_cons, List.length_nil] at e9
      simp (dsimp := false)
      exact ⟨_, F9, r1, r2, by simp only [Lv]; omega, r3.weak (by omega)⟩
    · simp (dsimp := false)
      refine CallK.of ⟨_, Tryd.func40, rfl, rfl⟩ (l1Name_ac hd1.rdr (by omega)) ?_
      rintro v S2 ⟨s, rfl, hsl, hr2, h2⟩
      have hd2 := hd1.step hr2 h2
      have hs2 := Rdo.rp hs1 hr2 (hf.rd hlt)
      simp (dsimp := false)
      refine CallK.fl ⟨_, Tryd.func39, rfl, rfl⟩ (l1Lit_ac s _) ?_
      simp (dsimp := false)
      refine CallK.fl ⟨_, Tryd.func37, rfl, rfl⟩ (l1Op_ac 13 _) ?_
      simp (dsimp := false)
      refine AppK.ins (l2 := [(⟨1, s, 0⟩ : Ins), ⟨13, [], 0⟩]) slt33 und33 (by decide) (by decide) hd2.app (Rp.ext hs2 (Ext.app _ _)) hf (SlR.lit (R := InsR) (own := true) (l := [(⟨1, s, 0⟩ : Ins), ⟨13, [], 0⟩]) (e := 58) (f := (0, 0)) (G := []) (by simp [Ins.c]) (cells_ins (by simp [Ins.ok, i64, okS] <;> omega)) (by simp) (fun _ => rfl)) (by simp <;> omega) ?_
      intro l9 e9 a9 z9 H9 F9 r1 r2 r3
      try simp only [List.length_cons, List.length_nil] at e9
      simp (dsimp := false)
      exact ⟨_, F9, r1, r2, by simp only [Lv]; omega, r3.weak (by omega)⟩
    · simp (dsimp := false) [show IntKind.i64.wrap 1 = 1 from rfl, show IntKind.i64.wrap 2 = 2 from rfl, show IntKind.i64.wrap 3 = 3 from rfl, show IntKind.i64.wrap 4 = 4 from rfl, show IntKind.i64.wrap 5 = 5 from rfl]
      refine CallK.of ⟨_, Tryd.func20, rfl, rfl⟩ (l1Text_ac hd1.rdr (by omega)) ?_
      rintro v S2 ⟨s, rfl, hsl, hr2, h2⟩
      have hd2 := hd1.step hr2 h2
      have hs2 := Rdo.rp hs1 hr2 (hf.rd hlt)
      simp (dsimp := false)
      refine CallK.fl ⟨_, Tryd.func39, rfl, rfl⟩ (l1Lit_ac s _) ?_
      simp (dsimp := false)
      refine AppK.ins (l2 := [(⟨1, s, 0⟩ : Ins)]) slt33 und33 (by decide) (by decide) hd2.app (Rp.ext hs2 (Ext.app _ _)) hf (SlR.lit (R := InsR) (own := true) (l := [(⟨1, s, 0⟩ : Ins)]) (e := 58) (f := (0, 0)) (G := []) (by simp [Ins.c]) (cells_ins (by simp [Ins.ok, i64, okS] <;> omega)) (by simp) (fun _ => rfl)) (by simp <;> omega) ?_
      intro l9 e9 a9 z9 H9 F9 r1 r2 r3
      try simp only [List.length_cons, List.length_nil] at e9
      simp (dsimp := false)
      exact ⟨_, F9, r1, r2, by simp only [Lv]; omega, r3.weak (by omega)⟩
    · simp (dsimp := false) [show IntKind.i64.wrap 1 = 1 from rfl, show IntKind.i64.wrap 2 = 2 from rfl, show IntKind.i64.wrap 3 = 3 from rfl, show IntKind.i64.wrap 4 = 4 from rfl, show IntKind.i64.wrap 5 = 5 from rfl]
      refine CallK.of ⟨_, Tryd.func40, rfl, rfl⟩ (l1Name_ac hd1.rdr (by omega)) ?_
      rintro v S2 ⟨s, rfl, hsl, hr2, h2⟩
      have hd2 := hd1.step hr2 h2
      have hs2 := Rdo.rp hs1 hr2 (hf.rd hlt)
      simp (dsimp := false)
      refine CallK.fl ⟨_, Tryd.func39, rfl, rfl⟩ (l1Lit_ac s _) ?_
      simp (dsimp := false)
      refine CallK.fl ⟨_, Tryd.func37, rfl, rfl⟩ (l1Op_ac 12 _) ?_
      simp (dsimp := false)
      refine AppK.ins (l2 := [(⟨1, s, 0⟩ : Ins), ⟨12, [], 0⟩]) slt33 und33 (by decide) (by decide) hd2.app (Rp.ext hs2 (Ext.app _ _)) hf (SlR.lit (R := InsR) (own := true) (l := [(⟨1, s, 0⟩ : Ins), ⟨12, [], 0⟩]) (e := 58) (f := (0, 0)) (G := []) (by simp [Ins.c]) (cells_ins (by simp [Ins.ok, i64, okS] <;> omega)) (by simp) (fun _ => rfl)) (by simp <;> omega) ?_
      intro l9 e9 a9 z9 H9 F9 r1 r2 r3
      try simp only [List.length_cons, List.length_nil] at e9
      simp (dsimp := false)
      exact ⟨_, F9, r1, r2, by simp only [Lv]; omega, r3.weak (by omega)⟩
    · simp (dsimp := false) [show IntKind.i64.wrap 1 = 1 from rfl, show IntKind.i64.wrap 2 = 2 from rfl, show IntKind.i64.wrap 3 = 3 from rfl, show IntKind.i64.wrap 4 = 4 from rfl, show IntKind.i64.wrap 5 = 5 from rfl]
      refine CallK.of ⟨_, Tryd.func40, rfl, rfl⟩ (l1Name_ac hd1.rdr (by omega)) ?_
      rintro v S2 ⟨s, rfl, hsl, hr2, h2⟩
      have hd2 := hd1.step hr2 h2
      have hs2 := Rdo.rp hs1 hr2 (hf.rd hlt)
      simp (dsimp := false)
      refine CallK.fl ⟨_, Tryd.func39, rfl, rfl⟩ (l1Lit_ac s _) ?_
      simp (dsimp := false)
      refine CallK.fl ⟨_, Tryd.func37, rfl, rfl⟩ (l1Op_ac 12 _) ?_
      simp (dsimp := false)
      refine AppK.ins (l2 := [(⟨1, s, 0⟩ : Ins), ⟨12, [], 0⟩]) slt33 und33 (by decide) (by decide) hd2.app (Rp.ext hs2 (Ext.app _ _)) hf (SlR.lit (R := InsR) (own := true) (l := [(⟨1, s, 0⟩ : Ins), ⟨12, [], 0⟩]) (e := 58) (f := (0, 0)) (G := []) (by simp [Ins.c]) (cells_ins (by simp [Ins.ok, i64, okS] <;> omega)) (by simp) (fun _ => rfl)) (by simp <;> omega) ?_
      intro l9 e9 a9 z9 H9 F9 r1 r2 r3
      try simp only [List.length_cons, List.length_nil] at e9
      simp (dsimp := false)
      exact ⟨_, F9, r1, r2, by simp only [Lv]; omega, r3.weak (by omega)⟩
    · simp (dsimp := false) [show IntKind.i64.wrap 1 = 1 from rfl, show IntKind.i64.wrap 2 = 2 from rfl, show IntKind.i64.wrap 3 = 3 from rfl, show IntKind.i64.wrap 4 = 4 from rfl, show IntKind.i64.wrap 5 = 5 from rfl]
      refine CallK.of ⟨_, Tryd.func40, rfl, rfl⟩ (l1Name_ac hd1.rdr (by omega)) ?_
      rintro v S2 ⟨s, rfl, hsl, hr2, h2⟩
      have hd2 := hd1.step hr2 h2
      have hs2 := Rdo.rp hs1 hr2 (hf.rd hlt)
      simp (dsimp := false)
      refine CallK.fl ⟨_, Tryd.func39, rfl, rfl⟩ (l1Lit_ac s _) ?_
      simp (dsimp := false)
      refine CallK.fl ⟨_, Tryd.func37, rfl, rfl⟩ (l1Op_ac 12 _) ?_
      simp (dsimp := false)
      refine AppK.ins (l2 := [(⟨1, s, 0⟩ : Ins), ⟨12, [], 0⟩]) slt33 und33 (by decide) (by decide) hd2.app (Rp.ext hs2 (Ext.app _ _)) hf (SlR.lit (R := InsR) (own := true) (l := [(⟨1, s, 0⟩ : Ins), ⟨12, [], 0⟩]) (e := 58) (f := (0, 0)) (G := []) (by simp [Ins.c]) (cells_ins (by simp [Ins.ok, i64, okS] <;> omega)) (by simp) (fun _ => rfl)) (by simp <;> omega) ?_
      intro l9 e9 a9 z9 H9 F9 r1 r2 r3
      try simp only [List.length_cons, List.length_nil] at e9
      simp (dsimp := false)
      exact ⟨_, F9, r1, r2, by simp only [Lv]; omega, r3.weak (by omega)⟩
    · simp (dsimp := false) [show IntKind.i64.wrap 1 = 1 from rfl, show IntKind.i64.wrap 2 = 2 from rfl, show IntKind.i64.wrap 3 = 3 from rfl, show IntKind.i64.wrap 4 = 4 from rfl, show IntKind.i64.wrap 5 = 5 from rfl]
      refine CallK.of ⟨_, Tryd.func40, rfl, rfl⟩ (l1Name_ac hd1.rdr (by omega)) ?_
      rintro v S2 ⟨s, rfl, hsl, hr2, h2⟩
      have hd2 := hd1.step hr2 h2
      have hs2 := Rdo.rp hs1 hr2 (hf.rd hlt)
      simp (dsimp := false)
      refine CallK.fl ⟨_, Tryd.func39, rfl, rfl⟩ (l1Lit_ac s _) ?_
      simp (dsimp := false)
      refine CallK.fl ⟨_, Tryd.func37, rfl, rfl⟩ (l1Op_ac 12 _) ?_
      simp (dsimp := false)
      refine CallK.of ⟨_, Tryd.func19, rfl, rfl⟩ (pickR hd2.rdr (by omega) 3) ?_
      rintro v S3 ⟨m, rfl, -, hm, -, hr3, h3⟩
      have hm := hm (by decide)
      have hd3 := hd2.step hr3 h3
      have hs3 := Rdo.rp hs2 hr3 (hf.rd hlt)
      simp (dsimp := false)
      refine CallK.fl ⟨_, Tryd.func38, rfl, rfl⟩ (l1OpN_ac 5 m _) ?_
      simp (dsimp := false)
      refine CallK.fl ⟨_, Tryd.func37, rfl, rfl⟩ (l1Op_ac 12 _) ?_
      simp (dsimp := false)
      refine AppK.ins (l2 := [(⟨1, s, 0⟩ : Ins), ⟨12, [], 0⟩, ⟨5, [], m⟩, ⟨12, [], 0⟩]) slt33 und33 (by decide) (by decide) hd3.app (Rp.ext hs3 (Ext.app _ _)) hf (SlR.lit (R := InsR) (own := true) (l := [(⟨1, s, 0⟩ : Ins), ⟨12, [], 0⟩, ⟨5, [], m⟩, ⟨12, [], 0⟩]) (e := 58) (f := (0, 0)) (G := []) (by simp [Ins.c]) (cells_ins (by simp [Ins.ok, i64, okS] <;> omega)) (by simp) (fun _ => rfl)) (by simp <;> omega) ?_
      intro l9 e9 a9 z9 H9 F9 r1 r2 r3
      try simp only [List.length_cons, List.length_nil] at e9
      simp (dsimp := false)
      exact ⟨_, F9, r1, r2, by simp only [Lv]; omega, r3.weak (by omega)⟩
  | succ d ih =>
    intro hd3 H rd n at_ h hn hat
    have hvb := Vb_le d (by omega)
    have hlv := Lv_le d (by omega)
    simp only [Vb] at hn ⊢
    have hdn : decide (((d + 1 : Nat) : Int) ≤ 0) = false := by simp
    have hwd : IntKind.i64.wrap (((d + 1 : Nat) : Int) - 1) = (d : Int) := (wrap_of _ (by omega) (by omega)).trans (by omega)
    obtain ⟨D, hD⟩ : ∃ D : Int, D = ((d + 1 : Nat) : Int) := ⟨_, rfl⟩
    rw [← hD] at hdn hwd ⊢
    have hlt := h.lt
    refine AC.go [] Tryd.func36 rfl Tryd.ntmps36 rfl ⟨mixed, by kernel_rfl⟩ ?_
    simp (dsimp := false)
    have hd0 : Dr H rd n (H ++ [(⟨.cells #[] 58 (0, 0), true, true⟩ : Blk)]) := (Dr.mk0 h).app
    have hs0 : CodeR true (H ++ [(⟨.cells #[] 58 (0, 0), true, true⟩ : Blk)]) [] [.slice (some ⟨H.length, 0, none⟩) 0 3] [H.length] := SlR.mt (R := InsR) (e := 58) (f := (0, 0)) (by simp)
    have hf : Fresh H.length [H.length] := Fresh.one (Nat.le_refl _)
    refine CallK.of ⟨_, Tryd.func19, rfl, rfl⟩ (pickR hd0.rdr (by omega) 12) ?_
    rintro v S1 ⟨k, rfl, -, hk, hl, hr, h1⟩
    have hk := hk (by decide)
    have hd1 := hd0.step hr h1
    have hs1 := Rdo.rp hs0 hr (hf.rd hlt)
    clear hd0 hs0
    have hkk : k = 0 ∨ k = 1 ∨ k = 2 ∨ k = 3 ∨ k = 4 ∨ k = 5 ∨ k = 6 ∨ k = 7 ∨ k = 8 ∨ k = 9 ∨ k = 10 ∨ k = 11 := by omega
    rcases hkk with rfl | rfl | rfl | rfl | rfl | rfl | rfl | rfl | rfl | rfl | rfl | rfl
    · simp (dsimp := false) [hdn]
      refine CallK.of ⟨_, Tryd.func20, rfl, rfl⟩ (l1Text_ac hd1.rdr (by omega)) ?_
      rintro v S2 ⟨s, rfl, hsl, hr2, h2⟩
      have hd2 := hd1.step hr2 h2
      have hs2 := Rdo.rp hs1 hr2 (hf.rd hlt)
      simp (dsimp := false)
      refine CallK.fl ⟨_, Tryd.func39, rfl, rfl⟩ (l1Lit_ac s _) ?_
      simp (dsimp := false)
      refine AppK.ins (l2 := [(⟨1, s, 0⟩ : Ins)]) slt33 und33 (by decide) (by decide) hd2.app (Rp.ext hs2 (Ext.app _ _)) hf (SlR.lit (R := InsR) (own := true) (l := [(⟨1, s, 0⟩ : Ins)]) (e := 58) (f := (0, 0)) (G := []) (by simp [Ins.c]) (cells_ins (by simp [Ins.ok, i64, okS] <;> omega)) (by simp) (fun _ => rfl)) (by simp <;> omega) ?_
      intro l9 e9 a9 z9 H9 F9 r1 r2 r3
      try simp only [List.length_cons, List.length_nil] at e9
      simp (dsimp := false)
      exact ⟨_, F9, r1, r2, by simp only [Lv]; omega, r3.weak (by omega)⟩
    · simp (dsimp := false) [hdn]
      refine CallK.of ⟨_, Tryd.func20, rfl, rfl⟩ (l1Text_ac hd1.rdr (by omega)) ?_
      rintro v S2 ⟨s, rfl, hsl, hr2, h2⟩
      have hd2 := hd1.step hr2 h2
      have hs2 := Rdo.rp hs1 hr2 (hf.rd hlt)
      simp (dsimp := false)
      refine CallK.fl ⟨_, Tryd.func39, rfl, rfl⟩ (l1Lit_ac s _) ?_
      simp (dsimp := false)
      refine AppK.ins (l2 := [(⟨1, s, 0⟩ : Ins)]) slt33 und33 (by decide) (by decide) hd2.app (Rp.ext hs2 (Ext.app _ _)) hf (SlR.lit (R := InsR) (own := true) (l := [(⟨1, s, 0⟩ : Ins)]) (e := 58) (f := (0, 0)) (G := []) (by simp [Ins.c]) (cells_ins (by simp [Ins.ok, i64, okS] <;> omega)) (by simp) (fun _ => rfl)) (by simp <;> omega) ?_
      intro l9 e9 a9 z9 H9 F9 r1 r2 r3
      try simp only [List.length_cons, List.length_nil] at e9
      simp (dsimp := false)
      exact ⟨_, F9, r1, r2, by simp only [Lv]; omega, r3.weak (by omega)⟩
    · simp (dsimp := false) [hdn]
      refine CallK.of ⟨_, Tryd.func40, rfl, rfl⟩ (l1Name_ac hd1.rdr (by omega)) ?_
      rintro v S2 ⟨s, rfl, hsl, hr2, h2⟩
      have hd2 := hd1.step hr2 h2
      have hs2 := Rdo.rp hs1 hr2 (hf.rd hlt)
      simp (dsimp := false)
      refine CallK.fl ⟨_, Tryd.func39, rfl, rfl⟩ (l1Lit_ac s _) ?_
      simp (dsimp := false)
      refine CallK.fl ⟨_, Tryd.func37, rfl, rfl⟩ (l1Op_ac 12 _) ?_
      simp (dsimp := false)
      refine AppK.ins (l2 := [(⟨1, s, 0⟩ : Ins), ⟨12, [], 0⟩]) slt33 und33 (by decide) (by decide) hd2.app (Rp.ext hs2 (Ext.app _ _)) hf (SlR.lit (R := InsR) (own := true) (l := [(⟨1, s, 0⟩ : Ins), ⟨12, [], 0⟩]) (e := 58) (f := (0, 0)) (G := []) (by simp [Ins.c]) (cells_ins (by simp [Ins.ok, i64, okS] <;> omega)) (by simp) (fun _ => rfl)) (by simp <;> omega) ?_
      intro l9 e9 a9 z9 H9 F9 r1 r2 r3
      try simp only [List.length_cons, List.length_nil] at e9
      simp (dsimp := false)
      exact ⟨_, F9, r1, r2, by simp only [Lv]; omega, r3.weak (by omega)⟩
    · simp (dsimp := false) [hdn]
      refine CallK.of ⟨_, Tryd.func40, rfl, rfl⟩ (l1Name_ac hd1.rdr (by omega)) ?_
      rintro v S2 ⟨s, rfl, hsl, hr2, h2⟩
      have hd2 := hd1.step hr2 h2
      have hs2 := Rdo.rp hs1 hr2 (hf.rd hlt)
      simp (dsimp := false)
      refine CallK.fl ⟨_, Tryd.func39, rfl, rfl⟩ (l1Lit_ac s _) ?_
      simp (dsimp := false)
      refine CallK.fl ⟨_, Tryd.func37, rfl, rfl⟩ (l1Op_ac 12 _) ?_
      simp (dsimp := false)
      refine AppK.ins (l2 := [(⟨1, s, 0⟩ : Ins), ⟨12, [], 0⟩]) slt33 und33 (by decide) (by decide) hd2.app (Rp.ext hs2 (Ext.app _ _)) hf (SlR.lit (R := InsR) (own := true) (l := [(⟨1, s, 0⟩ : Ins), ⟨12, [], 0⟩]) (e := 58) (f := (0, 0)) (G := []) (by simp [Ins.c]) (cells_ins (by simp [Ins.ok, i64, okS] <;> omega)) (by simp) (fun _ => rfl)) (by simp <;> omega) ?_
      intro l9 e9 a9 z9 H9 F9 r1 r2 r3
      try simp only [List.length_cons, List.length_nil] at e9
      simp (dsimp := false)
      exact ⟨_, F9, r1, r2, by simp only [Lv]; omega, r3.weak (by omega)⟩
    · simp (dsimp := false) [hdn]
      refine CallK.of ⟨_, Tryd.func40, rfl, rfl⟩ (l1Name_ac hd1.rdr (by omega)) ?_
      rintro v S2 ⟨s, rfl, hsl, hr2, h2⟩
      have hd2 := hd1.step hr2 h2
      have hs2 := Rdo.rp hs1 hr2 (hf.rd hlt)
      simp (dsimp := false)
      refine CallK.fl ⟨_, Tryd.func39, rfl, rfl⟩ (l1Lit_ac s _) ?_
      simp (dsimp := false)
      refine CallK.fl ⟨_, Tryd.func37, rfl, rfl⟩ (l1Op_ac 12 _) ?_
      simp (dsimp := false)
      refine AppK.ins (l2 := [(⟨1, s, 0⟩ : Ins), ⟨12, [], 0⟩]) slt33 und33 (by decide) (by decide) hd2.app (Rp.ext hs2 (Ext.app _ _)) hf (SlR.lit (R := InsR) (own := true) (l := [(⟨1, s, 0⟩ : Ins), ⟨12, [], 0⟩]) (e := 58) (f := (0, 0)) (G := []) (by simp [Ins.c]) (cells_ins (by simp [Ins.ok, i64, okS] <;> omega)) (by simp) (fun _ => rfl)) (by simp <;> omega) ?_
      intro l9 e9 a9 z9 H9 F9 r1 r2 r3
      try simp only [List.length_cons, List.length_nil] at e9
      simp (dsimp := false)
      exact ⟨_, F9, r1, r2, by simp only [Lv]; omega, r3.weak (by omega)⟩
    · simp (dsimp := false) [hdn]
      refine CallK.of ⟨_, Tryd.func40, rfl, rfl⟩ (l1Name_ac hd1.rdr (by omega)) ?_
      rintro v S2 ⟨s, rfl, hsl, hr2, h2⟩
      have hd2 := hd1.step hr2 h2
      have hs2 := Rdo.rp hs1 hr2 (hf.rd hlt)
      simp (dsimp := false)
      refine CallK.fl ⟨_, Tryd.func39, rfl, rfl⟩ (l1Lit_ac s _) ?_
      simp (dsimp := false)
      refine CallK.fl ⟨_, Tryd.func37, rfl, rfl⟩ (l1Op_ac 12 _) ?_
      simp (dsimp := false)
      refine CallK.of ⟨_, Tryd.func19, rfl, rfl⟩ (pickR hd2.rdr (by omega) 3) ?_
      rintro v S3 ⟨m, rfl, -, hm, -, hr3, h3⟩
      have hm := hm (by decide)
      have hd3 := hd2.step hr3 h3
      have hs3 := Rdo.rp hs2 hr3 (hf.rd hlt)
      simp (dsimp := false)
      refine CallK.fl ⟨_, Tryd.func38, rfl, rfl⟩ (l1OpN_ac 5 m _) ?_
      simp (dsimp := false)
      refine CallK.fl ⟨_, Tryd.func37, rfl, rfl⟩ (l1Op_ac 12 _) ?_
      simp (dsimp := false)
      refine AppK.ins (l2 := [(⟨1, s, 0⟩ : Ins), ⟨12, [], 0⟩, ⟨5, [], m⟩, ⟨12, [], 0⟩]) slt33 und33 (by decide) (by decide) hd3.app (Rp.ext hs3 (Ext.app _ _)) hf (SlR.lit (R := InsR) (own := true) (l := [(⟨1, s, 0⟩ : Ins), ⟨12, [], 0⟩, ⟨5, [], m⟩, ⟨12, [], 0⟩]) (e := 58) (f := (0, 0)) (G := []) (by simp [Ins.c]) (cells_ins (by simp [Ins.ok, i64, okS] <;> omega)) (by simp) (fun _ => rfl)) (by simp <;> omega) ?_
      intro l9 e9 a9 z9 H9 F9 r1 r2 r3
      try simp only [List.length_cons, List.length_nil] at e9
      simp (dsimp := false)
      exact ⟨_, F9, r1, r2, by simp only [Lv]; omega, r3.weak (by omega)⟩
    · simp (dsimp := false) [hdn]
      refine CallK.of ⟨_, Tryd.func40, rfl, rfl⟩ (l1Name_ac hd1.rdr (by omega)) ?_
      rintro v S2 ⟨s, rfl, hsl, hr2, h2⟩
      have hd2 := hd1.step hr2 h2
      have hs2 := Rdo.rp hs1 hr2 (hf.rd hlt)
      simp (dsimp := false)
      refine CallK.fl ⟨_, Tryd.func39, rfl, rfl⟩ (l1Lit_ac s _) ?_
      simp (dsimp := false)
      refine CallK.fl ⟨_, Tryd.func37, rfl, rfl⟩ (l1Op_ac 13 _) ?_
      simp (dsimp := false)
      refine AppK.ins (l2 := [(⟨1, s, 0⟩ : Ins), ⟨13, [], 0⟩]) slt33 und33 (by decide) (by decide) hd2.app (Rp.ext hs2 (Ext.app _ _)) hf (SlR.lit (R := InsR) (own := true) (l := [(⟨1, s, 0⟩ : Ins), ⟨13, [], 0⟩]) (e := 58) (f := (0, 0)) (G := []) (by simp [Ins.c]) (cells_ins (by simp [Ins.ok, i64, okS] <;> omega)) (by simp) (fun _ => rfl)) (by simp <;> omega) ?_
      intro l9 e9 a9 z9 H9 F9 r1 r2 r3
      try simp only [List.length_cons, List.length_nil] at e9
      simp (dsimp := false)
      exact ⟨_, F9, r1, r2, by simp only [Lv]; omega, r3.weak (by omega)⟩
    · simp (dsimp := false) [hdn, hwd]
      obtain ⟨l1, hl1⟩ : ∃ q, q = ([] : List Ins) := ⟨_, rfl⟩
      have e1 : l1.length = 0 := by rw [hl1]; rfl
      rw [← hl1] at hs1
      obtain ⟨F1, hF1⟩ : ∃ q, q = [H.length] := ⟨_, rfl⟩
      rw [← hF1] at hs1 hf
      have hf1 := hf
      refine CallK.of ⟨_, Tryd.func36, rfl, rfl⟩ (ih (by omega) (at_ := at_) hd1.rdr (by omega) (by omega)) ?_
      rintro v T1 ⟨lv1, Fv1, cv1, fv1, bv1, dv1⟩
      obtain ⟨av, zv, rfl⟩ := cv1.form
      have hds1 := hd1.to dv1
      have hss1 := Rdo.rp hs1 dv1.rdo (hf1.rd hlt)
      simp (dsimp := false)
      refine AppK.ins (l2 := lv1) slt33 und33 (by decide) (by decide) hds1 hss1 hf1 cv1 (by omega) ?_
      intro l2 e2 a2 z2 S2 F2 hs2 hf2 hd2
      try simp only [List.length_cons, List.length_nil] at e2
      try dsimp only [Dr.nOf] at hd2
      simp (dsimp := false)
      have w2 : IntKind.i64.wrap ((at_ : Int) + (l2.length : Int)) = ((at_ + l2.length : Nat) : Int) := (wrap_of _ (by omega) (by omega)).trans (by omega)
      simp (dsimp := false) [hwd, w2]
      refine CallK.of ⟨_, Tryd.func36, rfl, rfl⟩ (ih (by omega) (at_ := at_ + l2.length) hd2.rdr (by omega) (by omega)) ?_
      rintro v T2 ⟨lv2, Fv2, cv2, fv2, bv2, dv2⟩
      obtain ⟨av, zv, rfl⟩ := cv2.form
      have hds2 := hd2.to dv2
      have hss2 := Rdo.rp hs2 dv2.rdo (hf2.rd hlt)
      simp (dsimp := false)
      refine AppK.ins (l2 := lv2) slt33 und33 (by decide) (by decide) hds2 hss2 hf2 cv2 (by omega) ?_
      intro l3 e3 a3 z3 S3 F3 hs3 hf3 hd3
      try simp only [List.length_cons, List.length_nil] at e3
      try dsimp only [Dr.nOf] at hd3
      simp (dsimp := false)
      refine CallK.of ⟨_, Tryd.func19, rfl, rfl⟩ (pickR hd3.rdr (by omega) 2) ?_
      rintro v S4 ⟨m, rfl, -, hm, -, hr4, h4⟩
      have hm := hm (by decide)
      have hd4 := hd3.step hr4 h4
      have hs4 := Rdo.rp hs3 hr4 (hf3.rd hlt)
      have wm : IntKind.i64.wrap (2 + IntKind.i64.wrap (4 * (m : Int))) = 2 + 4 * (m : Int) := by rw [wrap_of (4 * (m : Int)) (by omega) (by omega), wrap_of _ (by omega) (by omega)]
      simp (dsimp := false) [wm]
      refine CallK.fl ⟨_, Tryd.func37, rfl, rfl⟩ (l1Op_ac (2 + 4 * (m : Int)) _) ?_
      simp (dsimp := false)
      refine AppK.ins (l2 := [(⟨2 + 4 * (m : Int), [], 0⟩ : Ins)]) slt33 und33 (by decide) (by decide) hd4.app (Rp.ext hs4 (Ext.app _ _)) hf3 (SlR.lit (R := InsR) (own := true) (l := [(⟨2 + 4 * (m : Int), [], 0⟩ : Ins)]) (e := 58) (f := (0, 0)) (G := []) (by simp [Ins.c]) (cells_ins (by simp [Ins.ok, i64, okS] <;> omega)) (by simp) (fun _ => rfl)) (by simp <;> omega) ?_
      intro l9 e9 a9 z9 H9 F9 r1 r2 r3
      try simp only [List.length_cons, List.length_nil] at e9
      simp (dsimp := false)
      exact ⟨_, F9, r1, r2, by simp only [Lv]; omega, r3.weak (by omega)⟩
    · simp (dsimp := false) [hdn, hwd]
      obtain ⟨l1, hl1⟩ : ∃ q, q = ([] : List Ins) := ⟨_, rfl⟩
      have e1 : l1.length = 0 := by rw [hl1]; rfl
      rw [← hl1] at hs1
      obtain ⟨F1, hF1⟩ : ∃ q, q = [H.length] := ⟨_, rfl⟩
      rw [← hF1] at hs1 hf
      have hf1 := hf
      refine CallK.of ⟨_, Tryd.func36, rfl, rfl⟩ (ih (by omega) (at_ := at_) hd1.rdr (by omega) (by omega)) ?_
      rintro v T1 ⟨lv1, Fv1, cv1, fv1, bv1, dv1⟩
      obtain ⟨av, zv, rfl⟩ := cv1.form
      have hds1 := hd1.to dv1
      have hss1 := Rdo.rp hs1 dv1.rdo (hf1.rd hlt)
      simp (dsimp := false)
      refine AppK.ins (l2 := lv1) slt33 und33 (by decide) (by decide) hds1 hss1 hf1 cv1 (by omega) ?_
      intro l2 e2 a2 z2 S2 F2 hs2 hf2 hd2
      try simp only [List.length_cons, List.length_nil] at e2
      try dsimp only [Dr.nOf] at hd2
      simp (dsimp := false)
      refine CallK.of ⟨_, Tryd.func19, rfl, rfl⟩ (pickR hd2.rdr (by omega) 3) ?_
      rintro v S3 ⟨m, rfl, -, hm, -, hr3, h3⟩
      have hm := hm (by decide)
      have hd3 := hd2.step hr3 h3
      have hs3 := Rdo.rp hs2 hr3 (hf2.rd hlt)
      have wm : IntKind.i64.wrap (3 + (m : Int)) = 3 + (m : Int) := wrap_of _ (by omega) (by omega)
      simp (dsimp := false) [wm]
      refine CallK.of ⟨_, Tryd.func19, rfl, rfl⟩ (pickR hd3.rdr (by omega) 4) ?_
      rintro v S4 ⟨q, rfl, -, hq, -, hr4, h4⟩
      have hq := hq (by decide)
      have hd4 := hd3.step hr4 h4
      have hs4 := Rdo.rp hs3 hr4 (hf2.rd hlt)
      simp (dsimp := false)
      refine CallK.fl ⟨_, Tryd.func38, rfl, rfl⟩ (l1OpN_ac (3 + (m : Int)) q _) ?_
      simp (dsimp := false)
      refine AppK.ins (l2 := [(⟨3 + (m : Int), [], q⟩ : Ins)]) slt33 und33 (by decide) (by decide) hd4.app (Rp.ext hs4 (Ext.app _ _)) hf2 (SlR.lit (R := InsR) (own := true) (l := [(⟨3 + (m : Int), [], q⟩ : Ins)]) (e := 58) (f := (0, 0)) (G := []) (by simp [Ins.c]) (cells_ins (by simp [Ins.ok, i64, okS] <;> omega)) (by simp) (fun _ => rfl)) (by simp <;> omega) ?_
      intro l9 e9 a9 z9 H9 F9 r1 r2 r3
      try simp only [List.length_cons, List.length_nil] at e9
      simp (dsimp := false)
      exact ⟨_, F9, r1, r2, by simp only [Lv]; omega, r3.weak (by omega)⟩
    · simp (dsimp := false) [hdn, hwd]
      obtain ⟨l1, hl1⟩ : ∃ q, q = ([] : List Ins) := ⟨_, rfl⟩
      have e1 : l1.length = 0 := by rw [hl1]; rfl
      rw [← hl1] at hs1
      obtain ⟨F1, hF1⟩ : ∃ q, q = [H.length] := ⟨_, rfl⟩
      rw [← hF1] at hs1 hf
      have hf1 := hf
      refine CallK.of ⟨_, Tryd.func36, rfl, rfl⟩ (ih (by omega) (at_ := at_) hd1.rdr (by omega) (by omega)) ?_
      rintro v T1 ⟨lv1, Fv1, cv1, fv1, bv1, dv1⟩
      obtain ⟨av, zv, rfl⟩ := cv1.form
      have hds1 := hd1.to dv1
      have hss1 := Rdo.rp hs1 dv1.rdo (hf1.rd hlt)
      simp (dsimp := false)
      refine AppK.ins (l2 := lv1) slt33 und33 (by decide) (by decide) hds1 hss1 hf1 cv1 (by omega) ?_
      intro l2 e2 a2 z2 S2 F2 hs2 hf2 hd2
      try simp only [List.length_cons, List.length_nil] at e2
      try dsimp only [Dr.nOf] at hd2
      simp (dsimp := false)
      refine CallK.fl ⟨_, Tryd.func38, rfl, rfl⟩ (l1OpN_ac 11 0 _) ?_
      simp (dsimp := false)
      refine AppK.ins (rd := rd) (n := hd2.nOf) (H := H) (own2 := true) (l := l2) (F := F2) (F2 := [S2.length]) (l2 := [(⟨11, [], 0⟩ : Ins)]) slt33 und33 (by decide) (by decide) ?_ ?_ ?_ ?_ ?_ ?_
      · exact hd2.app
      · exact Rp.ext hs2 (Ext.app _ _)
      · exact hf2
      · exact SlR.lit (R := InsR) (own := true) (l := [(⟨11, [], 0⟩ : Ins)]) (e := 58) (f := (0, 0)) (G := []) (by simp [Ins.c]) (cells_ins (by simp [Ins.ok, i64, okS] <;> omega)) (by simp) (fun _ => rfl)
      · simp; omega
      intro l3 e3 a3 z3 S3 F3 hs3 hf3 hd3
      try simp only [List.length_cons, List.length_nil] at e3
      try dsimp only [Dr.nOf] at hd3
      simp (dsimp := false)
      have w3 : IntKind.i64.wrap ((at_ : Int) + (l3.length : Int)) = ((at_ + l3.length : Nat) : Int) := (wrap_of _ (by omega) (by omega)).trans (by omega)
      simp (dsimp := false) [hwd, w3]
      refine CallK.of ⟨_, Tryd.func36, rfl, rfl⟩ (ih (by omega) (at_ := at_ + l3.length) hd3.rdr (by omega) (by omega)) ?_
      rintro v T3 ⟨lv3, Fv3, cv3, fv3, bv3, dv3⟩
      obtain ⟨av, zv, rfl⟩ := cv3.form
      have hds3 := hd3.to dv3
      have hss3 := Rdo.rp hs3 dv3.rdo (hf3.rd hlt)
      simp (dsimp := false)
      refine AppK.ins (l2 := lv3) slt33 und33 (by decide) (by decide) hds3 hss3 hf3 cv3 (by omega) ?_
      intro l4 e4 a4 z4 S4 F4 hs4 hf4 hd4
      try simp only [List.length_cons, List.length_nil] at e4
      try dsimp only [Dr.nOf] at hd4
      simp (dsimp := false)
      refine CallK.fl ⟨_, Tryd.func38, rfl, rfl⟩ (l1OpN_ac 10 0 _) ?_
      simp (dsimp := false)
      refine AppK.ins (rd := rd) (n := hd4.nOf) (H := H) (own2 := true) (l := l4) (F := F4) (F2 := [S4.length]) (l2 := [(⟨10, [], 0⟩ : Ins)]) slt33 und33 (by decide) (by decide) ?_ ?_ ?_ ?_ ?_ ?_
      · exact hd4.app
      · exact Rp.ext hs4 (Ext.app _ _)
      · exact hf4
      · exact SlR.lit (R := InsR) (own := true) (l := [(⟨10, [], 0⟩ : Ins)]) (e := 58) (f := (0, 0)) (G := []) (by simp [Ins.c]) (cells_ins (by simp [Ins.ok, i64, okS] <;> omega)) (by simp) (fun _ => rfl)
      · simp; omega
      intro l5 e5 a5 z5 S5 F5 hs5 hf5 hd5
      try simp only [List.length_cons, List.length_nil] at e5
      try dsimp only [Dr.nOf] at hd5
      simp (dsimp := false)
      have w5 : IntKind.i64.wrap ((at_ : Int) + (l5.length : Int)) = ((at_ + l5.length : Nat) : Int) := (wrap_of _ (by omega) (by omega)).trans (by omega)
      rw [w5]
      refine CallK.fl ⟨_, Tryd.func50, rfl, rfl⟩ (l1Small_ac (at_ + l5.length) _) ?_
      obtain ⟨m1, hm1, hm12⟩ : ∃ q : Nat, q = min (at_ + l5.length) 200 ∧ q ≤ 200 := ⟨_, rfl, by omega⟩
      rw [← hm1]
      clear hm1
      obtain ⟨id5, o5, c5, e5', f5, ow5, cs5, Fi5, E5⟩ := SlR.get hs5 l2.length (by omega)
      obtain ⟨rfl, rfl, hok5⟩ := E5.rep
      obtain rfl := E5.own' rfl
      have hle5 := E5.le
      have hput5 := E5.set1 (v := int (m1 : Int)) (x' := ⟨l5[l2.length].op, l5[l2.length].text, (m1 : Int)⟩) (k := 2) hf5.2 rfl (by decide) ⟨rfl, rfl, hok5.1, hok5.2.1, by dsimp only [i64]; omega⟩
      have hd6 := hd5.keep (S' := S5.set id5 ⟨.cells (setL c5 (o5 + 2) [int (m1 : Int)]) e5' f5, true, true⟩) (by simp) (fun j hj => List.getElem?_set_ne (by rintro rfl; have := hf5.1 _ E5.mem; omega))
      simp (dsimp := false) [E5.idx, E5.goB, E5.le, E5.lt, show o5 + 2 + 1 ≤ c5.size by omega]
      obtain ⟨l6, hl6⟩ : ∃ q, q = l5.set (l2.length) ⟨l5[l2.length].op, l5[l2.length].text, (m1 : Int)⟩ := ⟨_, rfl⟩
      have e6 : l6.length = l5.length := by rw [hl6]; simp
      rw [← hl6] at hput5
      obtain ⟨S6, hS6⟩ : ∃ q, q = S5.set id5 (⟨.cells (setL c5 (o5 + 2) [int (m1 : Int)]) e5' f5, true, true⟩ : Blk) := ⟨_, rfl⟩
      rw [← hS6] at hput5 hd6 ⊢
      have hs6 := hput5
      have hf6 := hf5
      rw [← e6] at hs6 ⊢
      have w6 : IntKind.i64.wrap ((at_ : Int) + (l6.length : Int)) = ((at_ + l6.length : Nat) : Int) := (wrap_of _ (by omega) (by omega)).trans (by omega)
      simp (dsimp := false) [hwd, w6]
      refine CallK.of ⟨_, Tryd.func36, rfl, rfl⟩ (ih (by omega) (at_ := at_ + l6.length) hd6.rdr (by omega) (by omega)) ?_
      rintro v T6 ⟨lv6, Fv6, cv6, fv6, bv6, dv6⟩
      obtain ⟨av, zv, rfl⟩ := cv6.form
      have hds6 := hd6.to dv6
      have hss6 := Rdo.rp hs6 dv6.rdo (hf6.rd hlt)
      simp (dsimp := false)
      refine AppK.ins (l2 := lv6) slt33 und33 (by decide) (by decide) hds6 hss6 hf6 cv6 (by omega) ?_
      intro l7 e7 a7 z7 S7 F7 hs7 hf7 hd7
      try simp only [List.length_cons, List.length_nil] at e7
      try dsimp only [Dr.nOf] at hd7
      simp (dsimp := false)
      have w7 : IntKind.i64.wrap ((at_ : Int) + (l7.length : Int)) = ((at_ + l7.length : Nat) : Int) := (wrap_of _ (by omega) (by omega)).trans (by omega)
      rw [w7]
      refine CallK.fl ⟨_, Tryd.func50, rfl, rfl⟩ (l1Small_ac (at_ + l7.length) _) ?_
      obtain ⟨m2, hm2, hm22⟩ : ∃ q : Nat, q = min (at_ + l7.length) 200 ∧ q ≤ 200 := ⟨_, rfl, by omega⟩
      rw [← hm2]
      clear hm2
      obtain ⟨id7, o7, c7, e7', f7, ow7, cs7, Fi7, E7⟩ := SlR.get hs7 l4.length (by omega)
      obtain ⟨rfl, rfl, hok7⟩ := E7.rep
      obtain rfl := E7.own' rfl
      have hle7 := E7.le
      have hput7 := E7.set1 (v := int (m2 : Int)) (x' := ⟨l7[l4.length].op, l7[l4.length].text, (m2 : Int)⟩) (k := 2) hf7.2 rfl (by decide) ⟨rfl, rfl, hok7.1, hok7.2.1, by dsimp only [i64]; omega⟩
      have hd8 := hd7.keep (S' := S7.set id7 ⟨.cells (setL c7 (o7 + 2) [int (m2 : Int)]) e7' f7, true, true⟩) (by simp) (fun j hj => List.getElem?_set_ne (by rintro rfl; have := hf7.1 _ E7.mem; omega))
      simp (dsimp := false) [E7.idx, E7.goB, E7.le, E7.lt, show o7 + 2 + 1 ≤ c7.size by omega]
      obtain ⟨l8, hl8⟩ : ∃ q, q = l7.set (l4.length) ⟨l7[l4.length].op, l7[l4.length].text, (m2 : Int)⟩ := ⟨_, rfl⟩
      have e8 : l8.length = l7.length := by rw [hl8]; simp
      rw [← hl8] at hput7
      obtain ⟨S8, hS8⟩ : ∃ q, q = S7.set id7 (⟨.cells (setL c7 (o7 + 2) [int (m2 : Int)]) e7' f7, true, true⟩ : Blk) := ⟨_, rfl⟩
      rw [← hS8] at hput7 hd8 ⊢
      have hs8 := hput7
      have hf8 := hf7
      rw [← e8] at hs8 ⊢
      exact ⟨l8, F7, hs8, hf8, by simp only [Lv]; omega, hd8.weak (by omega)⟩
    · simp (dsimp := false) [hdn, hwd]
      obtain ⟨l1, hl1⟩ : ∃ q, q = ([] : List Ins) := ⟨_, rfl⟩
      have e1 : l1.length = 0 := by rw [hl1]; rfl
      rw [← hl1] at hs1
      obtain ⟨F1, hF1⟩ : ∃ q, q = [H.length] := ⟨_, rfl⟩
      rw [← hF1] at hs1 hf
      have hf1 := hf
      refine CallK.of ⟨_, Tryd.func36, rfl, rfl⟩ (ih (by omega) (at_ := at_) hd1.rdr (by omega) (by omega)) ?_
      rintro v T1 ⟨lv1, Fv1, cv1, fv1, bv1, dv1⟩
      obtain ⟨av, zv, rfl⟩ := cv1.form
      have hds1 := hd1.to dv1
      have hss1 := Rdo.rp hs1 dv1.rdo (hf1.rd hlt)
      simp (dsimp := false)
      refine AppK.ins (l2 := lv1) slt33 und33 (by decide) (by decide) hds1 hss1 hf1 cv1 (by omega) ?_
      intro l2 e2 a2 z2 S2 F2 hs2 hf2 hd2
      try simp only [List.length_cons, List.length_nil] at e2
      try dsimp only [Dr.nOf] at hd2
      simp (dsimp := false)
      refine CallK.fl ⟨_, Tryd.func38, rfl, rfl⟩ (l1OpN_ac 11 0 _) ?_
      simp (dsimp := false)
      refine AppK.ins (rd := rd) (n := hd2.nOf) (H := H) (own2 := true) (l := l2) (F := F2) (F2 := [S2.length]) (l2 := [(⟨11, [], 0⟩ : Ins)]) slt33 und33 (by decide) (by decide) ?_ ?_ ?_ ?_ ?_ ?_
      · exact hd2.app
      · exact Rp.ext hs2 (Ext.app _ _)
      · exact hf2
      · exact SlR.lit (R := InsR) (own := true) (l := [(⟨11, [], 0⟩ : Ins)]) (e := 58) (f := (0, 0)) (G := []) (by simp [Ins.c]) (cells_ins (by simp [Ins.ok, i64, okS] <;> omega)) (by simp) (fun _ => rfl)
      · simp; omega
      intro l3 e3 a3 z3 S3 F3 hs3 hf3 hd3
      try simp only [List.length_cons, List.length_nil] at e3
      try dsimp only [Dr.nOf] at hd3
      simp (dsimp := false)
      have w3 : IntKind.i64.wrap ((at_ : Int) + (l3.length : Int)) = ((at_ + l3.length : Nat) : Int) := (wrap_of _ (by omega) (by omega)).trans (by omega)
      simp (dsimp := false) [hwd, w3]
      refine CallK.of ⟨_, Tryd.func36, rfl, rfl⟩ (ih (by omega) (at_ := at_ + l3.length) hd3.rdr (by omega) (by omega)) ?_
      rintro v T3 ⟨lv3, Fv3, cv3, fv3, bv3, dv3⟩
      obtain ⟨av, zv, rfl⟩ := cv3.form
      have hds3 := hd3.to dv3
      have hss3 := Rdo.rp hs3 dv3.rdo (hf3.rd hlt)
      simp (dsimp := false)
      refine AppK.ins (l2 := lv3) slt33 und33 (by decide) (by decide) hds3 hss3 hf3 cv3 (by omega) ?_
      intro l4 e4 a4 z4 S4 F4 hs4 hf4 hd4
      try simp only [List.length_cons, List.length_nil] at e4
      try dsimp only [Dr.nOf] at hd4
      simp (dsimp := false)
      refine CallK.fl ⟨_, Tryd.func38, rfl, rfl⟩ (l1OpN_ac 10 0 _) ?_
      simp (dsimp := false)
      refine AppK.ins (rd := rd) (n := hd4.nOf) (H := H) (own2 := true) (l := l4) (F := F4) (F2 := [S4.length]) (l2 := [(⟨10, [], 0⟩ : Ins)]) slt33 und33 (by decide) (by decide) ?_ ?_ ?_ ?_ ?_ ?_
      · exact hd4.app
      · exact Rp.ext hs4 (Ext.app _ _)
      · exact hf4
      · exact SlR.lit (R := InsR) (own := true) (l := [(⟨10, [], 0⟩ : Ins)]) (e := 58) (f := (0, 0)) (G := []) (by simp [Ins.c]) (cells_ins (by simp [Ins.ok, i64, okS] <;> omega)) (by simp) (fun _ => rfl)
      · simp; omega
      intro l5 e5 a5 z5 S5 F5 hs5 hf5 hd5
      try simp only [List.length_cons, List.length_nil] at e5
      try dsimp only [Dr.nOf] at hd5
      simp (dsimp := false)
      have w5 : IntKind.i64.wrap ((at_ : Int) + (l5.length : Int)) = ((at_ + l5.length : Nat) : Int) := (wrap_of _ (by omega) (by omega)).trans (by omega)
      rw [w5]
      refine CallK.fl ⟨_, Tryd.func50, rfl, rfl⟩ (l1Small_ac (at_ + l5.length) _) ?_
      obtain ⟨m1, hm1, hm12⟩ : ∃ q : Nat, q = min (at_ + l5.length) 200 ∧ q ≤ 200 := ⟨_, rfl, by omega⟩
      rw [← hm1]
      clear hm1
      obtain ⟨id5, o5, c5, e5', f5, ow5, cs5, Fi5, E5⟩ := SlR.get hs5 l2.length (by omega)
      obtain ⟨rfl, rfl, hok5⟩ := E5.rep
      obtain rfl := E5.own' rfl
      have hle5 := E5.le
      have hput5 := E5.set1 (v := int (m1 : Int)) (x' := ⟨l5[l2.length].op, l5[l2.length].text, (m1 : Int)⟩) (k := 2) hf5.2 rfl (by decide) ⟨rfl, rfl, hok5.1, hok5.2.1, by dsimp only [i64]; omega⟩
      have hd6 := hd5.keep (S' := S5.set id5 ⟨.cells (setL c5 (o5 + 2) [int (m1 : Int)]) e5' f5, true, true⟩) (by simp) (fun j hj => List.getElem?_set_ne (by rintro rfl; have := hf5.1 _ E5.mem; omega))
      simp (dsimp := false) [E5.idx, E5.goB, E5.le, E5.lt, show o5 + 2 + 1 ≤ c5.size by omega]
      obtain ⟨l6, hl6⟩ : ∃ q, q = l5.set (l2.length) ⟨l5[l2.length].op, l5[l2.length].text, (m1 : Int)⟩ := ⟨_, rfl⟩
      have e6 : l6.length = l5.length := by rw [hl6]; simp
      rw [← hl6] at hput5
      obtain ⟨S6, hS6⟩ : ∃ q, q = S5.set id5 (⟨.cells (setL c5 (o5 + 2) [int (m1 : Int)]) e5' f5, true, true⟩ : Blk) := ⟨_, rfl⟩
      rw [← hS6] at hput5 hd6 ⊢
      have hs6 := hput5
      have hf6 := hf5
      rw [← e6] at hs6 ⊢
      have w6 : IntKind.i64.wrap ((at_ : Int) + (l6.length : Int)) = ((at_ + l6.length : Nat) : Int) := (wrap_of _ (by omega) (by omega)).trans (by omega)
      simp (dsimp := false) [hwd, w6]
      refine CallK.of ⟨_, Tryd.func36, rfl, rfl⟩ (ih (by omega) (at_ := at_ + l6.length) hd6.rdr (by omega) (by omega)) ?_
      rintro v T6 ⟨lv6, Fv6, cv6, fv6, bv6, dv6⟩
      obtain ⟨av, zv, rfl⟩ := cv6.form
      have hds6 := hd6.to dv6
      have hss6 := Rdo.rp hs6 dv6.rdo (hf6.rd hlt)
      simp (dsimp := false)
      refine AppK.ins (l2 := lv6) slt33 und33 (by decide) (by decide) hds6 hss6 hf6 cv6 (by omega) ?_
      intro l7 e7 a7 z7 S7 F7 hs7 hf7 hd7
      try simp only [List.length_cons, List.length_nil] at e7
      try dsimp only [Dr.nOf] at hd7
      simp (dsimp := false)
      have w7 : IntKind.i64.wrap ((at_ : Int) + (l7.length : Int)) = ((at_ + l7.length : Nat) : Int) := (wrap_of _ (by omega) (by omega)).trans (by omega)
      rw [w7]
      refine CallK.fl ⟨_, Tryd.func50, rfl, rfl⟩ (l1Small_ac (at_ + l7.length) _) ?_
      obtain ⟨m2, hm2, hm22⟩ : ∃ q : Nat, q = min (at_ + l7.length) 200 ∧ q ≤ 200 := ⟨_, rfl, by omega⟩
      rw [← hm2]
      clear hm2
      obtain ⟨id7, o7, c7, e7', f7, ow7, cs7, Fi7, E7⟩ := SlR.get hs7 l4.length (by omega)
      obtain ⟨rfl, rfl, hok7⟩ := E7.rep
      obtain rfl := E7.own' rfl
      have hle7 := E7.le
      have hput7 := E7.set1 (v := int (m2 : Int)) (x' := ⟨l7[l4.length].op, l7[l4.length].text, (m2 : Int)⟩) (k := 2) hf7.2 rfl (by decide) ⟨rfl, rfl, hok7.1, hok7.2.1, by dsimp only [i64]; omega⟩
      have hd8 := hd7.keep (S' := S7.set id7 ⟨.cells (setL c7 (o7 + 2) [int (m2 : Int)]) e7' f7, true, true⟩) (by simp) (fun j hj => List.getElem?_set_ne (by rintro rfl; have := hf7.1 _ E7.mem; omega))
      simp (dsimp := false) [E7.idx, E7.goB, E7.le, E7.lt, show o7 + 2 + 1 ≤ c7.size by omega]
      obtain ⟨l8, hl8⟩ : ∃ q, q = l7.set (l4.length) ⟨l7[l4.length].op, l7[l4.length].text, (m2 : Int)⟩ := ⟨_, rfl⟩
      have e8 : l8.length = l7.length := by rw [hl8]; simp
      rw [← hl8] at hput7
      obtain ⟨S8, hS8⟩ : ∃ q, q = S7.set id7 (⟨.cells (setL c7 (o7 + 2) [int (m2 : Int)]) e7' f7, true, true⟩ : Blk) := ⟨_, rfl⟩
      rw [← hS8] at hput7 hd8 ⊢
      have hs8 := hput7
      have hf8 := hf7
      rw [← e8] at hs8 ⊢
      exact ⟨l8, F7, hs8, hf8, by simp only [Lv]; omega, hd8.weak (by omega)⟩
    · simp (dsimp := false) [hdn]
      refine CallK.of ⟨_, Tryd.func20, rfl, rfl⟩ (l1Text_ac hd1.rdr (by omega)) ?_
      rintro v S2 ⟨s, rfl, hsl, hr2, h2⟩
      have hd2 := hd1.step hr2 h2
      have hs2 := Rdo.rp hs1 hr2 (hf.rd hlt)
      simp (dsimp := false)
      refine CallK.fl ⟨_, Tryd.func39, rfl, rfl⟩ (l1Lit_ac s _) ?_
      simp (dsimp := false)
      refine CallK.fl ⟨_, Tryd.func37, rfl, rfl⟩ (l1Op_ac 7 _) ?_
      simp (dsimp := false)
      refine CallK.fl ⟨_, Tryd.func37, rfl, rfl⟩ (l1Op_ac 8 _) ?_
      simp (dsimp := false)
      refine CallK.fl ⟨_, Tryd.func37, rfl, rfl⟩ (l1Op_ac 9 _) ?_
      simp (dsimp := false)
      refine AppK.ins (l2 := [(⟨1, s, 0⟩ : Ins), ⟨7, [], 0⟩, ⟨8, [], 0⟩, ⟨9, [], 0⟩]) slt33 und33 (by decide) (by decide) hd2.app (Rp.ext hs2 (Ext.app _ _)) hf (SlR.lit (R := InsR) (own := true) (l := [(⟨1, s, 0⟩ : Ins), ⟨7, [], 0⟩, ⟨8, [], 0⟩, ⟨9, [], 0⟩]) (e := 58) (f := (0, 0)) (G := []) (by simp [Ins.c]) (cells_ins (by simp [Ins.ok, i64, okS] <;> omega)) (by simp) (fun _ => rfl)) (by simp <;> omega) ?_
      intro l9 e9 a9 z9 H9 F9 r1 r2 r3
      try simp only [List.length_cons, List.length_nil] at e9
      simp (dsimp := false)
      exact ⟨_, F9, r1, r2, by simp only [Lv]; omega, r3.weak (by omega)⟩
end Go.Proofs.YtbigpkfdeaigeaaDoor

/- What is drawn of programs. No condition. -/
set_option linter.unusedSimpArgs false
set_option linter.unusedVariables false
namespace Go.Proofs.YtbigpkfdeaigeaaDoor
open Go Go.Am Go.Proofs
set_option maxRecDepth 100000
variable {ng : Nat}
theorem slit {H : Heap} {j : Nat} {l : List Ins} {e : TypeId} {f : Nat × Nat} (hb : H[j]? = some ⟨.cells (l.flatMap Ins.c).toArray e f, true, true⟩) (hok : ∀ x ∈ l, x.ok) (hl : l.length ≤ 1000) : CodeR true H l [.slice (some ⟨j, 0, none⟩) l.length 3] [j] :=
  SlR.lit (R := InsR) (own := true) (l := l) (G := []) hb (cells_ins hok) (by omega) (fun _ => rfl)
theorem l1Words_ac {n : Nat} (hn : n ≤ 1000) (H : Heap) : AC Tryd.prog ng 41 [int n] H fun v S' => ∃ l F', CodeR true S' l [v] F' ∧ Fresh H.length F' ∧ l.length ≤ 10 ∧ Ext H S' := by
  refine AC.go [] Tryd.func41 rfl Tryd.ntmps41 rfl ⟨mixed, by kernel_rfl⟩ ?_
  simp (dsimp := false)
  refine CallK.of ⟨_, Tryd.func21, rfl, rfl⟩ (l1Many_ac (s := [97, 32]) (by simp) (by omega)) ?_
  rintro v S' ⟨⟨t, rfl, ht⟩, rfl⟩
  simp at ht
  simp (dsimp := false)
  refine CallK.fl ⟨_, Tryd.func39, rfl, rfl⟩ (l1Lit_ac t _) ?_
  simp (dsimp := false)
  refine CallK.fl ⟨_, Tryd.func37, rfl, rfl⟩ (l1Op_ac 7 _) ?_
  simp (dsimp := false)
  refine CallK.fl ⟨_, Tryd.func38, rfl, rfl⟩ (l1OpN_ac 5 0 _) ?_
  simp (dsimp := false)
  refine CallK.fl ⟨_, Tryd.func37, rfl, rfl⟩ (l1Op_ac 13 _) ?_
  simp (dsimp := false)
  refine CallK.fl ⟨_, Tryd.func37, rfl, rfl⟩ (l1Op_ac 9 _) ?_
  simp (dsimp := false)
  refine CallK.fl ⟨_, Tryd.func38, rfl, rfl⟩ (l1OpN_ac 4 2 _) ?_
  simp (dsimp := false)
  refine CallK.fl ⟨_, Tryd.func38, rfl, rfl⟩ (l1OpN_ac 10 1 _) ?_
  simp (dsimp := false)
  exact ⟨_, _, slit (l := [(⟨1, t, 0⟩ : Ins), ⟨7, [], 0⟩, ⟨5, [], 0⟩, ⟨13, [], 0⟩, ⟨9, [], 0⟩, ⟨4, [], 2⟩, ⟨10, [], 1⟩]) (j := S'.length) (e := 58) (f := (0, 0)) (by simp [Ins.c]) (by simp [Ins.ok, i64, okS] <;> omega) (by simp), Fresh.one (Nat.le_refl _), by simp⟩
end Go.Proofs.YtbigpkfdeaigeaaDoor

/- A program that is drawn. No condition. -/
set_option linter.unusedSimpArgs false
set_option linter.unusedVariables false
namespace Go.Proofs.YtbigpkfdeaigeaaDoor
open Go Go.Am Go.Proofs
set_option maxRecDepth 100000
variable {ng : Nat}
set_option maxHeartbeats 1000000 in
theorem l1DrawProgram_ac {H : Heap} {rd n : Nat} (h : RdS H rd n) (hn : 600 ≤ n) : AC Tryd.prog ng 26 [.pointer (some ⟨rd, 0, none⟩)] H fun v S' => ∃ l s F', v = .agg #[s] ∧ CodeR true S' l [s] F' ∧ Fresh H.length F' ∧ validP l = true ∧ Dr H rd (n - 600) S' := by
  have hlt := h.lt
  refine AC.go [] Tryd.func26 rfl Tryd.ntmps26 rfl ⟨mixed, by kernel_rfl⟩ ?_
  simp (dsimp := false)
  obtain ⟨H0, hH0⟩ : ∃ H0, H0 = H ++ [(⟨.cells #[.slice none 0 0] 35 (0, 0), true, true⟩ : Blk)] := ⟨_, rfl⟩
  have hdH : Dr H rd n H0 := by rw [hH0]; exact (Dr.mk0 h).app
  have hl0 : H0.length = H.length + 1 := by rw [hH0]; simp
  have hb0 : H0[H.length]? = some (⟨.cells #[.slice none 0 0] 35 (0, 0), true, true⟩ : Blk) := by rw [hH0]; simp
  rw [← hH0]
  clear hH0
  have hd0 : Dr H0 rd n H0 := Dr.mk0 hdH.rdr
  have hlt0 : rd < H0.length := by omega
  refine CallK.of ⟨_, Tryd.func19, rfl, rfl⟩ (pickR hd0.rdr (by omega) 2) ?_
  rintro v S1 ⟨k, rfl, -, hk, -, hr, h1⟩
  have hk := hk (by decide)
  have hd1 := hd0.step hr h1
  have hw : IntKind.i64.wrap (2 + (k : Int)) = ((k + 2 : Nat) : Int) := (wrap_of _ (by omega) (by omega)).trans (by omega)
  simp (dsimp := false) [hw]
  have hvb : Vb (k + 2) ≤ 480 ∧ Lv (k + 2) ≤ 160 := by
    have : k = 0 ∨ k = 1 := by omega
    rcases this with rfl | rfl <;> decide
  refine CallK.of ⟨_, Tryd.func36, rfl, rfl⟩ (l1Value_ac (k + 2) (by omega) (at_ := 0) hd1.rdr (by omega) (by omega)) ?_
  rintro v S2 ⟨l2, F2, hs2, hf2', b2, d2⟩
  have hf2 := hf2'.weak hd1.le
  have hd2 := (hd1.to d2).weak (show n - 500 ≤ _ by omega)
  clear d2 hd1 hr h1
  obtain ⟨a2, z2, rfl⟩ := hs2.form
  simp (dsimp := false)
  refine CallK.of ⟨_, Tryd.func19, rfl, rfl⟩ (pickR hd2.rdr (by omega) 24) ?_
  rintro v S3 ⟨q, rfl, -, hq, -, hr3, h3⟩
  have hq := hq (by decide)
  have hd3 := hd2.step hr3 h3
  have hs3 := Rdo.rp hs2 hr3 (hf2.rd hlt0)
  have hf3 := hf2
  obtain ⟨F3, hF3⟩ : ∃ q, q = F2 := ⟨_, rfl⟩
  rw [← hF3] at hs3 hf3
  have b2 : l2.length ≤ 160 := by omega
  clear hvb
  obtain ⟨l3, hl3⟩ : ∃ l, l = l2 := ⟨_, rfl⟩
  rw [← hl3] at b2 hs3 ⊢
  have hqq : q = 0 ∨ q = 1 ∨ q = 2 ∨ q = 3 ∨ q = 4 ∨ q = 5 ∨ q = 6 ∨ q = 7 ∨ 8 ≤ q := by omega
  rcases hqq with rfl | rfl | rfl | rfl | rfl | rfl | rfl | rfl | hq8
  · simp (dsimp := false)
    refine CallK.fl ⟨_, Tryd.func37, rfl, rfl⟩ (l1Op_ac 14 _) ?_
    simp (dsimp := false)
    refine AppK.ins (rd := rd) (n := hd3.nOf) (H := H0) (own2 := true) (l := l3) (F := F3) (F2 := [S3.length]) (l2 := [(⟨14, [], 0⟩ : Ins)]) slt33 und33 (by decide) (by decide) ?_ ?_ ?_ ?_ ?_ ?_
    · exact hd3.app
    · exact Rp.ext hs3 (Ext.app _ _)
    · exact hf3
    · exact SlR.lit (R := InsR) (own := true) (l := [(⟨14, [], 0⟩ : Ins)]) (e := 58) (f := (0, 0)) (G := []) (by simp [Ins.c]) (cells_ins (by simp [Ins.ok, i64, okS] <;> omega)) (by simp) (fun _ => rfl)
    · simp; omega
    intro l4 e4 a4 z4 S4 F4 hs4 hf4 hd4
    try simp only [List.length_cons, List.length_nil] at e4
    try dsimp only [Dr.nOf] at hd4
    simp (dsimp := false)
    refine CallK.fl ⟨_, Tryd.func37, rfl, rfl⟩ (l1Op_ac 15 _) ?_
    simp (dsimp := false)
    refine AppK.ins (rd := rd) (n := hd4.nOf) (H := H0) (own2 := true) (l := l4) (F := F4) (F2 := [S4.length]) (l2 := [(⟨15, [], 0⟩ : Ins)]) slt33 und33 (by decide) (by decide) ?_ ?_ ?_ ?_ ?_ ?_
    · exact hd4.app
    · exact Rp.ext hs4 (Ext.app _ _)
    · exact hf4
    · exact SlR.lit (R := InsR) (own := true) (l := [(⟨15, [], 0⟩ : Ins)]) (e := 58) (f := (0, 0)) (G := []) (by simp [Ins.c]) (cells_ins (by simp [Ins.ok, i64, okS] <;> omega)) (by simp) (fun _ => rfl)
    · simp; omega
    intro l5 e5 a5 z5 S5 F5 hs5 hf5 hd5
    try simp only [List.length_cons, List.length_nil] at e5
    try dsimp only [Dr.nOf] at hd5
    simp (dsimp := false)
    have hlen : ¬ 200 < (l5.length : Int) := by omega
    simp (dsimp := false) [hlen]
    refine CallK.gen fun K hK => ?_
    have hdK := hd5
    have hsK := hs5
    have hfK := hf5
    rw [← hK] at hdK hsK
    have hbl : K[H.length]? = some (⟨.cells #[.slice none 0 0] 35 (0, 0), true, true⟩ : Blk) := (hdK.rdo.2 _ (by omega) (by omega)).trans hb0
    have hKl := hdK.le
    have hself : ∀ b : Blk, (K.set H.length b)[H.length]? = some b := fun b => List.getElem?_set_self (by omega)
    have hself2 : ∀ (T : Heap) (b : Blk), ((K ++ T).set H.length b)[H.length]? = some b := fun T b => List.getElem?_set_self (by simp; omega)
    have hblT : ∀ T : Heap, (K ++ T)[H.length]? = _ := fun T => (get_ext (by omega)).trans hbl
    clear hK
    refine CallK.fl ⟨_, Tryd.func15, rfl, rfl⟩ (specValid_ac hsK) ?_
    cases hv : validP l5 with
    | false =>
      try simp (dsimp := false)
      refine CallK.fl ⟨_, Tryd.func39, rfl, rfl⟩ (l1Lit_ac [120] _) ?_
      simp (dsimp := false)
      refine CallK.fl ⟨_, Tryd.func37, rfl, rfl⟩ (l1Op_ac 15 _) ?_
      simp (dsimp := false)
      simp (dsimp := false) [hblT, fun T => goB_of (hblT T), hself2]
      exact ⟨_, [K.length], slit (l := [(⟨1, [120], 0⟩ : Ins), ⟨15, [], 0⟩]) (j := K.length) (e := 58) (f := (0, 0)) (by rw [List.getElem?_set_ne (by omega)]; simp [Ins.c]) (by simp [Ins.ok, i64, okS]) (by simp), Fresh.one (by omega), by decide, ((hdH.to hdK).weak (by omega)).app.keep (by simp) (fun j hj => List.getElem?_set_ne (by omega))⟩
    | true =>
      simp (dsimp := false) [hbl, goB_of hbl, hself]
      exact ⟨l5, _, Rp.fr hsK fun j hj => List.getElem?_set_ne (by have := hfK.1 j hj; omega), hfK.weak (by omega), hv, ((hdH.to hdK).weak (by omega)).keep (by simp) (fun j hj => List.getElem?_set_ne (by omega))⟩
  · simp (dsimp := false)
    refine CallK.fl ⟨_, Tryd.func38, rfl, rfl⟩ (l1OpN_ac 10 0 _) ?_
    simp (dsimp := false)
    refine AppK.ins (rd := rd) (n := hd3.nOf) (H := H0) (own2 := true) (l := l3) (F := F3) (F2 := [S3.length]) (l2 := [(⟨10, [], 0⟩ : Ins)]) slt33 und33 (by decide) (by decide) ?_ ?_ ?_ ?_ ?_ ?_
    · exact hd3.app
    · exact Rp.ext hs3 (Ext.app _ _)
    · exact hf3
    · exact SlR.lit (R := InsR) (own := true) (l := [(⟨10, [], 0⟩ : Ins)]) (e := 58) (f := (0, 0)) (G := []) (by simp [Ins.c]) (cells_ins (by simp [Ins.ok, i64, okS] <;> omega)) (by simp) (fun _ => rfl)
    · simp; omega
    intro l4 e4 a4 z4 S4 F4 hs4 hf4 hd4
    try simp only [List.length_cons, List.length_nil] at e4
    try dsimp only [Dr.nOf] at hd4
    simp (dsimp := false)
    refine CallK.fl ⟨_, Tryd.func37, rfl, rfl⟩ (l1Op_ac 15 _) ?_
    simp (dsimp := false)
    refine AppK.ins (rd := rd) (n := hd4.nOf) (H := H0) (own2 := true) (l := l4) (F := F4) (F2 := [S4.length]) (l2 := [(⟨15, [], 0⟩ : Ins)]) slt33 und33 (by decide) (by decide) ?_ ?_ ?_ ?_ ?_ ?_
    · exact hd4.app
    · exact Rp.ext hs4 (Ext.app _ _)
    · exact hf4
    · exact SlR.lit (R := InsR) (own := true) (l := [(⟨15, [], 0⟩ : Ins)]) (e := 58) (f := (0, 0)) (G := []) (by simp [Ins.c]) (cells_ins (by simp [Ins.ok, i64, okS] <;> omega)) (by simp) (fun _ => rfl)
    · simp; omega
    intro l5 e5 a5 z5 S5 F5 hs5 hf5 hd5
    try simp only [List.length_cons, List.length_nil] at e5
    try dsimp only [Dr.nOf] at hd5
    simp (dsimp := false)
    have hlen : ¬ 200 < (l5.length : Int) := by omega
    simp (dsimp := false) [hlen]
    refine CallK.gen fun K hK => ?_
    have hdK := hd5
    have hsK := hs5
    have hfK := hf5
    rw [← hK] at hdK hsK
    have hbl : K[H.length]? = some (⟨.cells #[.slice none 0 0] 35 (0, 0), true, true⟩ : Blk) := (hdK.rdo.2 _ (by omega) (by omega)).trans hb0
    have hKl := hdK.le
    have hself : ∀ b : Blk, (K.set H.length b)[H.length]? = some b := fun b => List.getElem?_set_self (by omega)
    have hself2 : ∀ (T : Heap) (b : Blk), ((K ++ T).set H.length b)[H.length]? = some b := fun T b => List.getElem?_set_self (by simp; omega)
    have hblT : ∀ T : Heap, (K ++ T)[H.length]? = _ := fun T => (get_ext (by omega)).trans hbl
    clear hK
    refine CallK.fl ⟨_, Tryd.func15, rfl, rfl⟩ (specValid_ac hsK) ?_
    cases hv : validP l5 with
    | false =>
      try simp (dsimp := false)
      refine CallK.fl ⟨_, Tryd.func39, rfl, rfl⟩ (l1Lit_ac [120] _) ?_
      simp (dsimp := false)
      refine CallK.fl ⟨_, Tryd.func37, rfl, rfl⟩ (l1Op_ac 15 _) ?_
      simp (dsimp := false)
      simp (dsimp := false) [hblT, fun T => goB_of (hblT T), hself2]
      exact ⟨_, [K.length], slit (l := [(⟨1, [120], 0⟩ : Ins), ⟨15, [], 0⟩]) (j := K.length) (e := 58) (f := (0, 0)) (by rw [List.getElem?_set_ne (by omega)]; simp [Ins.c]) (by simp [Ins.ok, i64, okS]) (by simp), Fresh.one (by omega), by decide, ((hdH.to hdK).weak (by omega)).app.keep (by simp) (fun j hj => List.getElem?_set_ne (by omega))⟩
    | true =>
      simp (dsimp := false) [hbl, goB_of hbl, hself]
      exact ⟨l5, _, Rp.fr hsK fun j hj => List.getElem?_set_ne (by have := hfK.1 j hj; omega), hfK.weak (by omega), hv, ((hdH.to hdK).weak (by omega)).keep (by simp) (fun j hj => List.getElem?_set_ne (by omega))⟩
  · simp (dsimp := false)
    refine CallK.of ⟨_, Tryd.func19, rfl, rfl⟩ (pickR hd3.rdr (by omega) 15) ?_
    rintro v S4 ⟨m, rfl, -, hm, -, hr, h1⟩
    have hm := hm (by decide)
    have hd4 := hd3.step hr h1
    have hs4 := Rdo.rp hs3 hr (hf3.rd hlt0)
    have hf4 := hf3
    clear hr h1
    have wm : IntKind.i64.wrap (1 + (m : Int)) = 1 + (m : Int) := wrap_of _ (by omega) (by omega)
    simp (dsimp := false) [wm]
    refine CallK.fl ⟨_, Tryd.func37, rfl, rfl⟩ (l1Op_ac (1 + (m : Int)) _) ?_
    simp (dsimp := false)
    obtain ⟨l4, hl4⟩ : ∃ l, l = l3 := ⟨_, rfl⟩
    rw [← hl4] at b2 hs4 ⊢
    obtain ⟨F4, hF4⟩ : ∃ l, l = F3 := ⟨_, rfl⟩
    rw [← hF4] at hf4 hs4
    refine AppK.ins (rd := rd) (n := hd4.nOf) (H := H0) (own2 := true) (l := l4) (F := F4) (F2 := [S4.length]) (l2 := [(⟨1 + (m : Int), [], 0⟩ : Ins)]) slt33 und33 (by decide) (by decide) ?_ ?_ ?_ ?_ ?_ ?_
    · exact hd4.app
    · exact Rp.ext hs4 (Ext.app _ _)
    · exact hf4
    · exact SlR.lit (R := InsR) (own := true) (l := [(⟨1 + (m : Int), [], 0⟩ : Ins)]) (e := 58) (f := (0, 0)) (G := []) (by simp [Ins.c]) (cells_ins (by simp [Ins.ok, i64, okS] <;> omega)) (by simp) (fun _ => rfl)
    · simp; omega
    intro l5 e5 a5 z5 S5 F5 hs5 hf5 hd5
    try simp only [List.length_cons, List.length_nil] at e5
    try dsimp only [Dr.nOf] at hd5
    simp (dsimp := false)
    refine CallK.fl ⟨_, Tryd.func37, rfl, rfl⟩ (l1Op_ac 15 _) ?_
    simp (dsimp := false)
    refine AppK.ins (rd := rd) (n := hd5.nOf) (H := H0) (own2 := true) (l := l5) (F := F5) (F2 := [S5.length]) (l2 := [(⟨15, [], 0⟩ : Ins)]) slt33 und33 (by decide) (by decide) ?_ ?_ ?_ ?_ ?_ ?_
    · exact hd5.app
    · exact Rp.ext hs5 (Ext.app _ _)
    · exact hf5
    · exact SlR.lit (R := InsR) (own := true) (l := [(⟨15, [], 0⟩ : Ins)]) (e := 58) (f := (0, 0)) (G := []) (by simp [Ins.c]) (cells_ins (by simp [Ins.ok, i64, okS] <;> omega)) (by simp) (fun _ => rfl)
    · simp; omega
    intro l6 e6 a6 z6 S6 F6 hs6 hf6 hd6
    try simp only [List.length_cons, List.length_nil] at e6
    try dsimp only [Dr.nOf] at hd6
    simp (dsimp := false)
    have hlen : ¬ 200 < (l6.length : Int) := by omega
    simp (dsimp := false) [hlen]
    refine CallK.gen fun K hK => ?_
    have hdK := hd6
    have hsK := hs6
    have hfK := hf6
    rw [← hK] at hdK hsK
    have hbl : K[H.length]? = some (⟨.cells #[.slice none 0 0] 35 (0, 0), true, true⟩ : Blk) := (hdK.rdo.2 _ (by omega) (by omega)).trans hb0
    have hKl := hdK.le
    have hself : ∀ b : Blk, (K.set H.length b)[H.length]? = some b := fun b => List.getElem?_set_self (by omega)
    have hself2 : ∀ (T : Heap) (b : Blk), ((K ++ T).set H.length b)[H.length]? = some b := fun T b => List.getElem?_set_self (by simp; omega)
    have hblT : ∀ T : Heap, (K ++ T)[H.length]? = _ := fun T => (get_ext (by omega)).trans hbl
    clear hK
    refine CallK.fl ⟨_, Tryd.func15, rfl, rfl⟩ (specValid_ac hsK) ?_
    cases hv : validP l6 with
    | false =>
      try simp (dsimp := false)
      refine CallK.fl ⟨_, Tryd.func39, rfl, rfl⟩ (l1Lit_ac [120] _) ?_
      simp (dsimp := false)
      refine CallK.fl ⟨_, Tryd.func37, rfl, rfl⟩ (l1Op_ac 15 _) ?_
      simp (dsimp := false)
      simp (dsimp := false) [hblT, fun T => goB_of (hblT T), hself2]
      exact ⟨_, [K.length], slit (l := [(⟨1, [120], 0⟩ : Ins), ⟨15, [], 0⟩]) (j := K.length) (e := 58) (f := (0, 0)) (by rw [List.getElem?_set_ne (by omega)]; simp [Ins.c]) (by simp [Ins.ok, i64, okS]) (by simp), Fresh.one (by omega), by decide, ((hdH.to hdK).weak (by omega)).app.keep (by simp) (fun j hj => List.getElem?_set_ne (by omega))⟩
    | true =>
      simp (dsimp := false) [hbl, goB_of hbl, hself]
      exact ⟨l6, _, Rp.fr hsK fun j hj => List.getElem?_set_ne (by have := hfK.1 j hj; omega), hfK.weak (by omega), hv, ((hdH.to hdK).weak (by omega)).keep (by simp) (fun j hj => List.getElem?_set_ne (by omega))⟩
  · simp (dsimp := false)
    refine CallK.fl ⟨_, Tryd.func37, rfl, rfl⟩ (l1Op_ac 15 _) ?_
    simp (dsimp := false)
    refine AppK.ins (rd := rd) (n := hd3.nOf) (H := H0) (own2 := true) (l := l3) (F := F3) (F2 := [S3.length]) (l2 := [(⟨15, [], 0⟩ : Ins)]) slt33 und33 (by decide) (by decide) ?_ ?_ ?_ ?_ ?_ ?_
    · exact hd3.app
    · exact Rp.ext hs3 (Ext.app _ _)
    · exact hf3
    · exact SlR.lit (R := InsR) (own := true) (l := [(⟨15, [], 0⟩ : Ins)]) (e := 58) (f := (0, 0)) (G := []) (by simp [Ins.c]) (cells_ins (by simp [Ins.ok, i64, okS] <;> omega)) (by simp) (fun _ => rfl)
    · simp; omega
    intro l4 e4 a4 z4 S4 F4 hs4 hf4 hd4
    try simp only [List.length_cons, List.length_nil] at e4
    try dsimp only [Dr.nOf] at hd4
    simp (dsimp := false)
    have hlen : ¬ 200 < (l4.length : Int) := by omega
    refine CallK.fl ⟨_, Tryd.func39, rfl, rfl⟩ (l1Lit_ac [97, 98, 99, 100, 101, 102, 103, 104] _) ?_
    simp (dsimp := false)
    refine CallK.fl ⟨_, Tryd.func37, rfl, rfl⟩ (l1Op_ac 7 _) ?_
    simp (dsimp := false)
    refine CallK.fl ⟨_, Tryd.func37, rfl, rfl⟩ (l1Op_ac 2 _) ?_
    simp (dsimp := false)
    refine CallK.fl ⟨_, Tryd.func38, rfl, rfl⟩ (l1OpN_ac 10 1 _) ?_
    simp (dsimp := false)
    refine CallK.gen fun K hK => ?_
    have hdK := hd4.ext (S' := K) (by rw [hK]; exact Ext.app _ _)
    have hsK : CodeR true K [(⟨1, [97, 98, 99, 100, 101, 102, 103, 104], 0⟩ : Ins), ⟨7, [], 0⟩, ⟨2, [], 0⟩, ⟨10, [], 1⟩] [.slice (some ⟨S4.length, 0, none⟩) ([(⟨1, [97, 98, 99, 100, 101, 102, 103, 104], 0⟩ : Ins), ⟨7, [], 0⟩, ⟨2, [], 0⟩, ⟨10, [], 1⟩]).length 3] [S4.length] := slit (e := 58) (f := (0, 0)) (by rw [hK]; simp [Ins.c]) (by simp [Ins.ok, i64, okS] <;> omega) (by simp)
    have hfK : Fresh H0.length [S4.length] := Fresh.one hd4.le
    have hbl : K[H.length]? = some (⟨.cells #[.slice none 0 0] 35 (0, 0), true, true⟩ : Blk) := (hdK.rdo.2 _ (by omega) (by omega)).trans hb0
    have hKl := hdK.le
    have hself : ∀ b : Blk, (K.set H.length b)[H.length]? = some b := fun b => List.getElem?_set_self (by omega)
    have hself2 : ∀ (T : Heap) (b : Blk), ((K ++ T).set H.length b)[H.length]? = some b := fun T b => List.getElem?_set_self (by simp; omega)
    have hblT : ∀ T : Heap, (K ++ T)[H.length]? = _ := fun T => (get_ext (by omega)).trans hbl
    clear hK
    refine CallK.fl ⟨_, Tryd.func15, rfl, rfl⟩ (specValid_ac hsK) ?_
    obtain ⟨L, hL⟩ : ∃ L, L = [(⟨1, [97, 98, 99, 100, 101, 102, 103, 104], 0⟩ : Ins), ⟨7, [], 0⟩, ⟨2, [], 0⟩, ⟨10, [], 1⟩] := ⟨_, rfl⟩
    rw [← hL] at hsK ⊢
    rw [show L.length = 4 by rw [hL]; rfl] at hsK
    cases hv : validP L with
    | false =>
      try simp (dsimp := false)
      refine CallK.fl ⟨_, Tryd.func39, rfl, rfl⟩ (l1Lit_ac [120] _) ?_
      simp (dsimp := false)
      refine CallK.fl ⟨_, Tryd.func37, rfl, rfl⟩ (l1Op_ac 15 _) ?_
      simp (dsimp := false)
      simp (dsimp := false) [hblT, fun T => goB_of (hblT T), hself2]
      exact ⟨_, [K.length], slit (l := [(⟨1, [120], 0⟩ : Ins), ⟨15, [], 0⟩]) (j := K.length) (e := 58) (f := (0, 0)) (by rw [List.getElem?_set_ne (by omega)]; simp [Ins.c]) (by simp [Ins.ok, i64, okS]) (by simp), Fresh.one (by omega), by decide, ((hdH.to hdK).weak (by omega)).app.keep (by simp) (fun j hj => List.getElem?_set_ne (by omega))⟩
    | true =>
      simp (dsimp := false) [hbl, goB_of hbl, hself]
      exact ⟨L, _, Rp.fr hsK fun j hj => List.getElem?_set_ne (by have := hfK.1 j hj; omega), hfK.weak (by omega), hv, ((hdH.to hdK).weak (by omega)).keep (by simp) (fun j hj => List.getElem?_set_ne (by omega))⟩
  · simp (dsimp := false)
    refine CallK.fl ⟨_, Tryd.func37, rfl, rfl⟩ (l1Op_ac 15 _) ?_
    simp (dsimp := false)
    refine AppK.ins (rd := rd) (n := hd3.nOf) (H := H0) (own2 := true) (l := l3) (F := F3) (F2 := [S3.length]) (l2 := [(⟨15, [], 0⟩ : Ins)]) slt33 und33 (by decide) (by decide) ?_ ?_ ?_ ?_ ?_ ?_
    · exact hd3.app
    · exact Rp.ext hs3 (Ext.app _ _)
    · exact hf3
    · exact SlR.lit (R := InsR) (own := true) (l := [(⟨15, [], 0⟩ : Ins)]) (e := 58) (f := (0, 0)) (G := []) (by simp [Ins.c]) (cells_ins (by simp [Ins.ok, i64, okS] <;> omega)) (by simp) (fun _ => rfl)
    · simp; omega
    intro l4 e4 a4 z4 S4 F4 hs4 hf4 hd4
    try simp only [List.length_cons, List.length_nil] at e4
    try dsimp only [Dr.nOf] at hd4
    simp (dsimp := false)
    have hlen : ¬ 200 < (l4.length : Int) := by omega
    refine CallK.of ⟨_, Tryd.func40, rfl, rfl⟩ (l1Name_ac hd4.rdr (by omega)) ?_
    rintro v S5 ⟨s, rfl, hsl, hr, h1⟩
    have hd5 := hd4.step hr h1
    simp (dsimp := false)
    refine CallK.fl ⟨_, Tryd.func39, rfl, rfl⟩ (l1Lit_ac s _) ?_
    simp (dsimp := false)
    refine CallK.fl ⟨_, Tryd.func37, rfl, rfl⟩ (l1Op_ac 13 _) ?_
    simp (dsimp := false)
    refine CallK.fl ⟨_, Tryd.func37, rfl, rfl⟩ (l1Op_ac 9 _) ?_
    simp (dsimp := false)
    refine CallK.fl ⟨_, Tryd.func38, rfl, rfl⟩ (l1OpN_ac 10 0 _) ?_
    simp (dsimp := false)
    refine CallK.gen fun K hK => ?_
    have hdK := hd5.ext (S' := K) (by rw [hK]; exact Ext.app _ _)
    have hsK : CodeR true K [(⟨1, s, 0⟩ : Ins), ⟨13, [], 0⟩, ⟨9, [], 0⟩, ⟨10, [], 0⟩] [.slice (some ⟨S5.length, 0, none⟩) ([(⟨1, s, 0⟩ : Ins), ⟨13, [], 0⟩, ⟨9, [], 0⟩, ⟨10, [], 0⟩]).length 3] [S5.length] := slit (e := 58) (f := (0, 0)) (by rw [hK]; simp [Ins.c]) (by simp [Ins.ok, i64, okS] <;> omega) (by simp)
    have hfK : Fresh H0.length [S5.length] := Fresh.one hd5.le
    have hbl : K[H.length]? = some (⟨.cells #[.slice none 0 0] 35 (0, 0), true, true⟩ : Blk) := (hdK.rdo.2 _ (by omega) (by omega)).trans hb0
    have hKl := hdK.le
    have hself : ∀ b : Blk, (K.set H.length b)[H.length]? = some b := fun b => List.getElem?_set_self (by omega)
    have hself2 : ∀ (T : Heap) (b : Blk), ((K ++ T).set H.length b)[H.length]? = some b := fun T b => List.getElem?_set_self (by simp; omega)
    have hblT : ∀ T : Heap, (K ++ T)[H.length]? = _ := fun T => (get_ext (by omega)).trans hbl
    clear hK
    refine CallK.fl ⟨_, Tryd.func15, rfl, rfl⟩ (specValid_ac hsK) ?_
    obtain ⟨L, hL⟩ : ∃ L, L = [(⟨1, s, 0⟩ : Ins), ⟨13, [], 0⟩, ⟨9, [], 0⟩, ⟨10, [], 0⟩] := ⟨_, rfl⟩
    rw [← hL] at hsK ⊢
    rw [show L.length = 4 by rw [hL]; rfl] at hsK
    cases hv : validP L with
    | false =>
      try simp (dsimp := false)
      refine CallK.fl ⟨_, Tryd.func39, rfl, rfl⟩ (l1Lit_ac [120] _) ?_
      simp (dsimp := false)
      refine CallK.fl ⟨_, Tryd.func37, rfl, rfl⟩ (l1Op_ac 15 _) ?_
      simp (dsimp := false)
      simp (dsimp := false) [hblT, fun T => goB_of (hblT T), hself2]
      exact ⟨_, [K.length], slit (l := [(⟨1, [120], 0⟩ : Ins), ⟨15, [], 0⟩]) (j := K.length) (e := 58) (f := (0, 0)) (by rw [List.getElem?_set_ne (by omega)]; simp [Ins.c]) (by simp [Ins.ok, i64, okS]) (by simp), Fresh.one (by omega), by decide, ((hdH.to hdK).weak (by omega)).app.keep (by simp) (fun j hj => List.getElem?_set_ne (by omega))⟩
    | true =>
      simp (dsimp := false) [hbl, goB_of hbl, hself]
      exact ⟨L, _, Rp.fr hsK fun j hj => List.getElem?_set_ne (by have := hfK.1 j hj; omega), hfK.weak (by omega), hv, ((hdH.to hdK).weak (by omega)).keep (by simp) (fun j hj => List.getElem?_set_ne (by omega))⟩
  · simp (dsimp := false)
    refine CallK.fl ⟨_, Tryd.func37, rfl, rfl⟩ (l1Op_ac 15 _) ?_
    simp (dsimp := false)
    refine AppK.ins (rd := rd) (n := hd3.nOf) (H := H0) (own2 := true) (l := l3) (F := F3) (F2 := [S3.length]) (l2 := [(⟨15, [], 0⟩ : Ins)]) slt33 und33 (by decide) (by decide) ?_ ?_ ?_ ?_ ?_ ?_
    · exact hd3.app
    · exact Rp.ext hs3 (Ext.app _ _)
    · exact hf3
    · exact SlR.lit (R := InsR) (own := true) (l := [(⟨15, [], 0⟩ : Ins)]) (e := 58) (f := (0, 0)) (G := []) (by simp [Ins.c]) (cells_ins (by simp [Ins.ok, i64, okS] <;> omega)) (by simp) (fun _ => rfl)
    · simp; omega
    intro l4 e4 a4 z4 S4 F4 hs4 hf4 hd4
    try simp only [List.length_cons, List.length_nil] at e4
    try dsimp only [Dr.nOf] at hd4
    simp (dsimp := false)
    have hlen : ¬ 200 < (l4.length : Int) := by omega
    refine CallK.fl ⟨_, Tryd.func39, rfl, rfl⟩ (l1Lit_ac [115] _) ?_
    simp (dsimp := false)
    refine CallK.fl ⟨_, Tryd.func38, rfl, rfl⟩ (l1OpN_ac 10 0 _) ?_
    simp (dsimp := false)
    refine CallK.gen fun K hK => ?_
    have hdK := hd4.ext (S' := K) (by rw [hK]; exact Ext.app _ _)
    have hsK : CodeR true K [(⟨1, [115], 0⟩ : Ins), ⟨10, [], 0⟩] [.slice (some ⟨S4.length, 0, none⟩) ([(⟨1, [115], 0⟩ : Ins), ⟨10, [], 0⟩]).length 3] [S4.length] := slit (e := 58) (f := (0, 0)) (by rw [hK]; simp [Ins.c]) (by simp [Ins.ok, i64, okS] <;> omega) (by simp)
    have hfK : Fresh H0.length [S4.length] := Fresh.one hd4.le
    have hbl : K[H.length]? = some (⟨.cells #[.slice none 0 0] 35 (0, 0), true, true⟩ : Blk) := (hdK.rdo.2 _ (by omega) (by omega)).trans hb0
    have hKl := hdK.le
    have hself : ∀ b : Blk, (K.set H.length b)[H.length]? = some b := fun b => List.getElem?_set_self (by omega)
    have hself2 : ∀ (T : Heap) (b : Blk), ((K ++ T).set H.length b)[H.length]? = some b := fun T b => List.getElem?_set_self (by simp; omega)
    have hblT : ∀ T : Heap, (K ++ T)[H.length]? = _ := fun T => (get_ext (by omega)).trans hbl
    clear hK
    refine CallK.fl ⟨_, Tryd.func15, rfl, rfl⟩ (specValid_ac hsK) ?_
    obtain ⟨L, hL⟩ : ∃ L, L = [(⟨1, [115], 0⟩ : Ins), ⟨10, [], 0⟩] := ⟨_, rfl⟩
    rw [← hL] at hsK ⊢
    rw [show L.length = 2 by rw [hL]; rfl] at hsK
    cases hv : validP L with
    | false =>
      try simp (dsimp := false)
      refine CallK.fl ⟨_, Tryd.func39, rfl, rfl⟩ (l1Lit_ac [120] _) ?_
      simp (dsimp := false)
      refine CallK.fl ⟨_, Tryd.func37, rfl, rfl⟩ (l1Op_ac 15 _) ?_
      simp (dsimp := false)
      simp (dsimp := false) [hblT, fun T => goB_of (hblT T), hself2]
      exact ⟨_, [K.length], slit (l := [(⟨1, [120], 0⟩ : Ins), ⟨15, [], 0⟩]) (j := K.length) (e := 58) (f := (0, 0)) (by rw [List.getElem?_set_ne (by omega)]; simp [Ins.c]) (by simp [Ins.ok, i64, okS]) (by simp), Fresh.one (by omega), by decide, ((hdH.to hdK).weak (by omega)).app.keep (by simp) (fun j hj => List.getElem?_set_ne (by omega))⟩
    | true =>
      simp (dsimp := false) [hbl, goB_of hbl, hself]
      exact ⟨L, _, Rp.fr hsK fun j hj => List.getElem?_set_ne (by have := hfK.1 j hj; omega), hfK.weak (by omega), hv, ((hdH.to hdK).weak (by omega)).keep (by simp) (fun j hj => List.getElem?_set_ne (by omega))⟩
  · simp (dsimp := false)
    refine CallK.fl ⟨_, Tryd.func37, rfl, rfl⟩ (l1Op_ac 15 _) ?_
    simp (dsimp := false)
    refine AppK.ins (rd := rd) (n := hd3.nOf) (H := H0) (own2 := true) (l := l3) (F := F3) (F2 := [S3.length]) (l2 := [(⟨15, [], 0⟩ : Ins)]) slt33 und33 (by decide) (by decide) ?_ ?_ ?_ ?_ ?_ ?_
    · exact hd3.app
    · exact Rp.ext hs3 (Ext.app _ _)
    · exact hf3
    · exact SlR.lit (R := InsR) (own := true) (l := [(⟨15, [], 0⟩ : Ins)]) (e := 58) (f := (0, 0)) (G := []) (by simp [Ins.c]) (cells_ins (by simp [Ins.ok, i64, okS] <;> omega)) (by simp) (fun _ => rfl)
    · simp; omega
    intro l4 e4 a4 z4 S4 F4 hs4 hf4 hd4
    try simp only [List.length_cons, List.length_nil] at e4
    try dsimp only [Dr.nOf] at hd4
    simp (dsimp := false)
    have hlen : ¬ 200 < (l4.length : Int) := by omega
    refine CallK.of ⟨_, Tryd.func19, rfl, rfl⟩ (pickR hd4.rdr (by omega) 3) ?_
    rintro v S5 ⟨m, rfl, -, hm, -, hr, h1⟩
    have hm := hm (by decide)
    have hd5 := hd4.step hr h1
    have hs5 := Rdo.rp hs4 hr (hf4.rd hlt0)
    have hf5 := hf4
    clear hr h1
    simp (dsimp := false)
    refine ifA_dec (fun hm0 => ?_) (fun hm0 => ?_)
    · refine CallK.of ⟨_, Tryd.func19, rfl, rfl⟩ (pickR hd5.rdr (by omega) 3) ?_
      rintro v S6 ⟨p, rfl, -, hp, -, hr, h1⟩
      have hp := hp (by decide)
      have hd6 := hd5.step hr h1
      have hs6 := Rdo.rp hs5 hr (hf5.rd hlt0)
      have hf6 := hf5
      clear hr h1
      have wp : IntKind.i64.wrap (IntKind.i64.wrap (200 + (p : Int)) - 1) = ((p + 199 : Nat) : Int) := by rw [wrap_of (200 + (p : Int)) (by omega) (by omega), wrap_of _ (by omega) (by omega)]; omega
      simp (dsimp := false) [wp]
      refine CallK.of ⟨_, Tryd.func41, rfl, rfl⟩ (l1Words_ac (n := p + 199) (by omega) _) ?_
      rintro v S9 ⟨l9, F9, hs9, hf9', hl9, hx9⟩
      have hd9 := hd6.ext hx9
      have hf9 := hf9'.weak hd6.le
      obtain ⟨a9, z9, rfl⟩ := hs9.form
      have hlen9 : ¬ 200 < (l9.length : Int) := by omega
      simp (dsimp := false) [hlen9]
      refine CallK.gen fun K hK => ?_
      have hdK := hd9
      have hsK := hs9
      have hfK := hf9
      rw [← hK] at hdK hsK
      have hbl : K[H.length]? = some (⟨.cells #[.slice none 0 0] 35 (0, 0), true, true⟩ : Blk) := (hdK.rdo.2 _ (by omega) (by omega)).trans hb0
      have hKl := hdK.le
      have hself : ∀ b : Blk, (K.set H.length b)[H.length]? = some b := fun b => List.getElem?_set_self (by omega)
      have hself2 : ∀ (T : Heap) (b : Blk), ((K ++ T).set H.length b)[H.length]? = some b := fun T b => List.getElem?_set_self (by simp; omega)
      have hblT : ∀ T : Heap, (K ++ T)[H.length]? = _ := fun T => (get_ext (by omega)).trans hbl
      clear hK
      refine CallK.fl ⟨_, Tryd.func15, rfl, rfl⟩ (specValid_ac hsK) ?_
      cases hv : validP l9 with
      | false =>
        try simp (dsimp := false)
        refine CallK.fl ⟨_, Tryd.func39, rfl, rfl⟩ (l1Lit_ac [120] _) ?_
        simp (dsimp := false)
        refine CallK.fl ⟨_, Tryd.func37, rfl, rfl⟩ (l1Op_ac 15 _) ?_
        simp (dsimp := false)
        simp (dsimp := false) [hblT, fun T => goB_of (hblT T), hself2]
        exact ⟨_, [K.length], slit (l := [(⟨1, [120], 0⟩ : Ins), ⟨15, [], 0⟩]) (j := K.length) (e := 58) (f := (0, 0)) (by rw [List.getElem?_set_ne (by omega)]; simp [Ins.c]) (by simp [Ins.ok, i64, okS]) (by simp), Fresh.one (by omega), by decide, ((hdH.to hdK).weak (by omega)).app.keep (by simp) (fun j hj => List.getElem?_set_ne (by omega))⟩
      | true =>
        simp (dsimp := false) [hbl, goB_of hbl, hself]
        exact ⟨l9, _, Rp.fr hsK fun j hj => List.getElem?_set_ne (by have := hfK.1 j hj; omega), hfK.weak (by omega), hv, ((hdH.to hdK).weak (by omega)).keep (by simp) (fun j hj => List.getElem?_set_ne (by omega))⟩
    · simp (dsimp := false) [hlen]
      refine CallK.gen fun K hK => ?_
      have hdK := hd5
      have hsK := hs5
      have hfK := hf5
      rw [← hK] at hdK hsK
      have hbl : K[H.length]? = some (⟨.cells #[.slice none 0 0] 35 (0, 0), true, true⟩ : Blk) := (hdK.rdo.2 _ (by omega) (by omega)).trans hb0
      have hKl := hdK.le
      have hself : ∀ b : Blk, (K.set H.length b)[H.length]? = some b := fun b => List.getElem?_set_self (by omega)
      have hself2 : ∀ (T : Heap) (b : Blk), ((K ++ T).set H.length b)[H.length]? = some b := fun T b => List.getElem?_set_self (by simp; omega)
      have hblT : ∀ T : Heap, (K ++ T)[H.length]? = _ := fun T => (get_ext (by omega)).trans hbl
      clear hK
      refine CallK.fl ⟨_, Tryd.func15, rfl, rfl⟩ (specValid_ac hsK) ?_
      cases hv : validP l4 with
      | false =>
        try simp (dsimp := false)
        refine CallK.fl ⟨_, Tryd.func39, rfl, rfl⟩ (l1Lit_ac [120] _) ?_
        simp (dsimp := false)
        refine CallK.fl ⟨_, Tryd.func37, rfl, rfl⟩ (l1Op_ac 15 _) ?_
        simp (dsimp := false)
        simp (dsimp := false) [hblT, fun T => goB_of (hblT T), hself2]
        exact ⟨_, [K.length], slit (l := [(⟨1, [120], 0⟩ : Ins), ⟨15, [], 0⟩]) (j := K.length) (e := 58) (f := (0, 0)) (by rw [List.getElem?_set_ne (by omega)]; simp [Ins.c]) (by simp [Ins.ok, i64, okS]) (by simp), Fresh.one (by omega), by decide, ((hdH.to hdK).weak (by omega)).app.keep (by simp) (fun j hj => List.getElem?_set_ne (by omega))⟩
      | true =>
        simp (dsimp := false) [hbl, goB_of hbl, hself]
        exact ⟨l4, _, Rp.fr hsK fun j hj => List.getElem?_set_ne (by have := hfK.1 j hj; omega), hfK.weak (by omega), hv, ((hdH.to hdK).weak (by omega)).keep (by simp) (fun j hj => List.getElem?_set_ne (by omega))⟩
  · simp (dsimp := false)
    refine CallK.fl ⟨_, Tryd.func37, rfl, rfl⟩ (l1Op_ac 15 _) ?_
    simp (dsimp := false)
    refine AppK.ins (rd := rd) (n := hd3.nOf) (H := H0) (own2 := true) (l := l3) (F := F3) (F2 := [S3.length]) (l2 := [(⟨15, [], 0⟩ : Ins)]) slt33 und33 (by decide) (by decide) ?_ ?_ ?_ ?_ ?_ ?_
    · exact hd3.app
    · exact Rp.ext hs3 (Ext.app _ _)
    · exact hf3
    · exact SlR.lit (R := InsR) (own := true) (l := [(⟨15, [], 0⟩ : Ins)]) (e := 58) (f := (0, 0)) (G := []) (by simp [Ins.c]) (cells_ins (by simp [Ins.ok, i64, okS] <;> omega)) (by simp) (fun _ => rfl)
    · simp; omega
    intro l4 e4 a4 z4 S4 F4 hs4 hf4 hd4
    try simp only [List.length_cons, List.length_nil] at e4
    try dsimp only [Dr.nOf] at hd4
    simp (dsimp := false)
    have hlen : ¬ 200 < (l4.length : Int) := by omega
    refine CallK.of ⟨_, Tryd.func19, rfl, rfl⟩ (pickR hd4.rdr (by omega) 3) ?_
    rintro v S5 ⟨m, rfl, -, hm, -, hr, h1⟩
    have hm := hm (by decide)
    have hd5 := hd4.step hr h1
    have hs5 := Rdo.rp hs4 hr (hf4.rd hlt0)
    have hf5 := hf4
    clear hr h1
    simp (dsimp := false)
    refine ifA_dec (fun hm0 => ?_) (fun hm0 => ?_)
    · refine CallK.of ⟨_, Tryd.func19, rfl, rfl⟩ (pickR hd5.rdr (by omega) 2) ?_
      rintro v S6 ⟨p, rfl, -, hp, -, hr, h1⟩
      have hp := hp (by decide)
      have hd6 := hd5.step hr h1
      have hs6 := Rdo.rp hs5 hr (hf5.rd hlt0)
      have hf6 := hf5
      clear hr h1
      have wp : IntKind.i64.wrap (499 + (p : Int)) = ((p + 499 : Nat) : Int) := (wrap_of _ (by omega) (by omega)).trans (by omega)
      simp (dsimp := false) [wp]
      refine CallK.of ⟨_, Tryd.func21, rfl, rfl⟩ (l1Many_ac (s := [120]) (n := p + 499) (by simp) (by omega)) ?_
      rintro v S' ⟨⟨t, rfl, ht⟩, hS⟩
      subst hS
      simp at ht
      simp (dsimp := false)
      refine CallK.fl ⟨_, Tryd.func39, rfl, rfl⟩ (l1Lit_ac t _) ?_
      simp (dsimp := false)
      refine CallK.fl ⟨_, Tryd.func37, rfl, rfl⟩ (l1Op_ac 7 _) ?_
      simp (dsimp := false)
      refine CallK.fl ⟨_, Tryd.func38, rfl, rfl⟩ (l1OpN_ac 11 5 _) ?_
      simp (dsimp := false)
      refine CallK.fl ⟨_, Tryd.func38, rfl, rfl⟩ (l1OpN_ac 4 1 _) ?_
      simp (dsimp := false)
      refine CallK.fl ⟨_, Tryd.func38, rfl, rfl⟩ (l1OpN_ac 10 1 _) ?_
      simp (dsimp := false)
      refine CallK.fl ⟨_, Tryd.func37, rfl, rfl⟩ (l1Op_ac 9 _) ?_
      simp (dsimp := false)
      refine CallK.gen fun K hK => ?_
      have hdK := hd6.ext (S' := K) (by rw [hK]; exact Ext.app _ _)
      have hsK : CodeR true K [(⟨1, t, 0⟩ : Ins), ⟨7, [], 0⟩, ⟨11, [], 5⟩, ⟨4, [], 1⟩, ⟨10, [], 1⟩, ⟨9, [], 0⟩] [.slice (some ⟨S'.length, 0, none⟩) ([(⟨1, t, 0⟩ : Ins), ⟨7, [], 0⟩, ⟨11, [], 5⟩, ⟨4, [], 1⟩, ⟨10, [], 1⟩, ⟨9, [], 0⟩]).length 3] [S'.length] := slit (e := 58) (f := (0, 0)) (by rw [hK]; simp [Ins.c]) (by simp [Ins.ok, i64, okS] <;> omega) (by simp)
      have hfK : Fresh H0.length [S'.length] := Fresh.one hd6.le
      have hbl : K[H.length]? = some (⟨.cells #[.slice none 0 0] 35 (0, 0), true, true⟩ : Blk) := (hdK.rdo.2 _ (by omega) (by omega)).trans hb0
      have hKl := hdK.le
      have hself : ∀ b : Blk, (K.set H.length b)[H.length]? = some b := fun b => List.getElem?_set_self (by omega)
      have hself2 : ∀ (T : Heap) (b : Blk), ((K ++ T).set H.length b)[H.length]? = some b := fun T b => List.getElem?_set_self (by simp; omega)
      have hblT : ∀ T : Heap, (K ++ T)[H.length]? = _ := fun T => (get_ext (by omega)).trans hbl
      clear hK
      refine CallK.fl ⟨_, Tryd.func15, rfl, rfl⟩ (specValid_ac hsK) ?_
      obtain ⟨L, hL⟩ : ∃ L, L = [(⟨1, t, 0⟩ : Ins), ⟨7, [], 0⟩, ⟨11, [], 5⟩, ⟨4, [], 1⟩, ⟨10, [], 1⟩, ⟨9, [], 0⟩] := ⟨_, rfl⟩
      rw [← hL] at hsK ⊢
      rw [show L.length = 6 by rw [hL]; rfl] at hsK
      cases hv : validP L with
      | false =>
        try simp (dsimp := false)
        refine CallK.fl ⟨_, Tryd.func39, rfl, rfl⟩ (l1Lit_ac [120] _) ?_
        simp (dsimp := false)
        refine CallK.fl ⟨_, Tryd.func37, rfl, rfl⟩ (l1Op_ac 15 _) ?_
        simp (dsimp := false)
        simp (dsimp := false) [hblT, fun T => goB_of (hblT T), hself2]
        exact ⟨_, [K.length], slit (l := [(⟨1, [120], 0⟩ : Ins), ⟨15, [], 0⟩]) (j := K.length) (e := 58) (f := (0, 0)) (by rw [List.getElem?_set_ne (by omega)]; simp [Ins.c]) (by simp [Ins.ok, i64, okS]) (by simp), Fresh.one (by omega), by decide, ((hdH.to hdK).weak (by omega)).app.keep (by simp) (fun j hj => List.getElem?_set_ne (by omega))⟩
      | true =>
        simp (dsimp := false) [hbl, goB_of hbl, hself]
        exact ⟨L, _, Rp.fr hsK fun j hj => List.getElem?_set_ne (by have := hfK.1 j hj; omega), hfK.weak (by omega), hv, ((hdH.to hdK).weak (by omega)).keep (by simp) (fun j hj => List.getElem?_set_ne (by omega))⟩
    · simp (dsimp := false) [hlen]
      refine CallK.gen fun K hK => ?_
      have hdK := hd5
      have hsK := hs5
      have hfK := hf5
      rw [← hK] at hdK hsK
      have hbl : K[H.length]? = some (⟨.cells #[.slice none 0 0] 35 (0, 0), true, true⟩ : Blk) := (hdK.rdo.2 _ (by omega) (by omega)).trans hb0
      have hKl := hdK.le
      have hself : ∀ b : Blk, (K.set H.length b)[H.length]? = some b := fun b => List.getElem?_set_self (by omega)
      have hself2 : ∀ (T : Heap) (b : Blk), ((K ++ T).set H.length b)[H.length]? = some b := fun T b => List.getElem?_set_self (by simp; omega)
      have hblT : ∀ T : Heap, (K ++ T)[H.length]? = _ := fun T => (get_ext (by omega)).trans hbl
      clear hK
      refine CallK.fl ⟨_, Tryd.func15, rfl, rfl⟩ (specValid_ac hsK) ?_
      cases hv : validP l4 with
      | false =>
        try simp (dsimp := false)
        refine CallK.fl ⟨_, Tryd.func39, rfl, rfl⟩ (l1Lit_ac [120] _) ?_
        simp (dsimp := false)
        refine CallK.fl ⟨_, Tryd.func37, rfl, rfl⟩ (l1Op_ac 15 _) ?_
        simp (dsimp := false)
        simp (dsimp := false) [hblT, fun T => goB_of (hblT T), hself2]
        exact ⟨_, [K.length], slit (l := [(⟨1, [120], 0⟩ : Ins), ⟨15, [], 0⟩]) (j := K.length) (e := 58) (f := (0, 0)) (by rw [List.getElem?_set_ne (by omega)]; simp [Ins.c]) (by simp [Ins.ok, i64, okS]) (by simp), Fresh.one (by omega), by decide, ((hdH.to hdK).weak (by omega)).app.keep (by simp) (fun j hj => List.getElem?_set_ne (by omega))⟩
      | true =>
        simp (dsimp := false) [hbl, goB_of hbl, hself]
        exact ⟨l4, _, Rp.fr hsK fun j hj => List.getElem?_set_ne (by have := hfK.1 j hj; omega), hfK.weak (by omega), hv, ((hdH.to hdK).weak (by omega)).keep (by simp) (fun j hj => List.getElem?_set_ne (by omega))⟩
  · simp (dsimp := false) [show ¬ q = 0 by omega, show ¬ (q : Int) = 0 by omega, show ¬ q = 1 by omega, show ¬ (q : Int) = 1 by omega, show ¬ q = 2 by omega, show ¬ (q : Int) = 2 by omega, show ¬ q = 3 by omega, show ¬ (q : Int) = 3 by omega, show ¬ q = 4 by omega, show ¬ (q : Int) = 4 by omega, show ¬ q = 5 by omega, show ¬ (q : Int) = 5 by omega, show ¬ q = 6 by omega, show ¬ (q : Int) = 6 by omega, show ¬ q = 7 by omega, show ¬ (q : Int) = 7 by omega]
    refine CallK.fl ⟨_, Tryd.func37, rfl, rfl⟩ (l1Op_ac 15 _) ?_
    simp (dsimp := false)
    refine AppK.ins (rd := rd) (n := hd3.nOf) (H := H0) (own2 := true) (l := l3) (F := F3) (F2 := [S3.length]) (l2 := [(⟨15, [], 0⟩ : Ins)]) slt33 und33 (by decide) (by decide) ?_ ?_ ?_ ?_ ?_ ?_
    · exact hd3.app
    · exact Rp.ext hs3 (Ext.app _ _)
    · exact hf3
    · exact SlR.lit (R := InsR) (own := true) (l := [(⟨15, [], 0⟩ : Ins)]) (e := 58) (f := (0, 0)) (G := []) (by simp [Ins.c]) (cells_ins (by simp [Ins.ok, i64, okS] <;> omega)) (by simp) (fun _ => rfl)
    · simp; omega
    intro l4 e4 a4 z4 S4 F4 hs4 hf4 hd4
    try simp only [List.length_cons, List.length_nil] at e4
    try dsimp only [Dr.nOf] at hd4
    simp (dsimp := false)
    have hlen : ¬ 200 < (l4.length : Int) := by omega
    simp (dsimp := false) [show ¬ q = 0 by omega, show ¬ (q : Int) = 0 by omega, show ¬ q = 1 by omega, show ¬ (q : Int) = 1 by omega, show ¬ q = 2 by omega, show ¬ (q : Int) = 2 by omega, show ¬ q = 3 by omega, show ¬ (q : Int) = 3 by omega, show ¬ q = 4 by omega, show ¬ (q : Int) = 4 by omega, show ¬ q = 5 by omega, show ¬ (q : Int) = 5 by omega, show ¬ q = 6 by omega, show ¬ (q : Int) = 6 by omega, show ¬ q = 7 by omega, show ¬ (q : Int) = 7 by omega, hlen]
    refine CallK.gen fun K hK => ?_
    have hdK := hd4
    have hsK := hs4
    have hfK := hf4
    rw [← hK] at hdK hsK
    have hbl : K[H.length]? = some (⟨.cells #[.slice none 0 0] 35 (0, 0), true, true⟩ : Blk) := (hdK.rdo.2 _ (by omega) (by omega)).trans hb0
    have hKl := hdK.le
    have hself : ∀ b : Blk, (K.set H.length b)[H.length]? = some b := fun b => List.getElem?_set_self (by omega)
    have hself2 : ∀ (T : Heap) (b : Blk), ((K ++ T).set H.length b)[H.length]? = some b := fun T b => List.getElem?_set_self (by simp; omega)
    have hblT : ∀ T : Heap, (K ++ T)[H.length]? = _ := fun T => (get_ext (by omega)).trans hbl
    clear hK
    refine CallK.fl ⟨_, Tryd.func15, rfl, rfl⟩ (specValid_ac hsK) ?_
    cases hv : validP l4 with
    | false =>
      try simp (dsimp := false)
      refine CallK.fl ⟨_, Tryd.func39, rfl, rfl⟩ (l1Lit_ac [120] _) ?_
      simp (dsimp := false)
      refine CallK.fl ⟨_, Tryd.func37, rfl, rfl⟩ (l1Op_ac 15 _) ?_
      simp (dsimp := false)
      simp (dsimp := false) [hblT, fun T => goB_of (hblT T), hself2]
      exact ⟨_, [K.length], slit (l := [(⟨1, [120], 0⟩ : Ins), ⟨15, [], 0⟩]) (j := K.length) (e := 58) (f := (0, 0)) (by rw [List.getElem?_set_ne (by omega)]; simp [Ins.c]) (by simp [Ins.ok, i64, okS]) (by simp), Fresh.one (by omega), by decide, ((hdH.to hdK).weak (by omega)).app.keep (by simp) (fun j hj => List.getElem?_set_ne (by omega))⟩
    | true =>
      simp (dsimp := false) [hbl, goB_of hbl, hself]
      exact ⟨l4, _, Rp.fr hsK fun j hj => List.getElem?_set_ne (by have := hfK.1 j hj; omega), hfK.weak (by omega), hv, ((hdH.to hdK).weak (by omega)).keep (by simp) (fun j hj => List.getElem?_set_ne (by omega))⟩
end Go.Proofs.YtbigpkfdeaigeaaDoor

/- A program with one place changed. No condition. -/
set_option linter.unusedSimpArgs false
set_option linter.unusedVariables false
namespace Go.Proofs.YtbigpkfdeaigeaaDoor
open Go Go.Am Go.Proofs
set_option maxRecDepth 100000
variable {ng : Nat}
theorem wrap_rng (n : Int) : -9223372036854775808 ≤ IntKind.i64.wrap n ∧ IntKind.i64.wrap n < 9223372036854775808 := by
  rw [IntKind.wrap_i64]
  omega
set_option maxHeartbeats 4000000 in
theorem l1Spoil_ac {own : Bool} {lp : List Ins} {sp : Value} {Fp : List Nat} {H : Heap} {rd n : Nat} (h : RdS H rd n) (hn : 300 ≤ n) (hp : CodeR own H lp [sp] Fp) (hrp : rd ∉ Fp) (hlp : lp.length ≤ 1000) :
    AC Tryd.prog ng 27 [.pointer (some ⟨rd, 0, none⟩), .agg #[sp]] H fun v S' => ∃ l s F', v = .agg #[s] ∧ CodeR true S' l [s] F' ∧ Fresh H.length F' ∧ l.length ≤ max lp.length 201 ∧ Dr H rd (n - 300) S' := by
  have hlt := h.lt
  obtain ⟨ap, zp, rfl⟩ := hp.form
  refine AC.go [] Tryd.func27 rfl Tryd.ntmps27 rfl ⟨mixed, by kernel_rfl⟩ ?_
  simp (dsimp := false)
  obtain ⟨H0, hH0⟩ : ∃ H0, H0 = H ++ [(⟨.cells #[.slice ap lp.length zp] 35 (0, 0), true, true⟩ : Blk), ⟨.cells #[.slice none 0 0] 35 (0, 0), true, true⟩] := ⟨_, rfl⟩
  have hdH : Dr H rd n H0 := by rw [hH0]; exact (Dr.mk0 h).app
  have hl0 : H0.length = H.length + 2 := by rw [hH0]; simp
  have hb1 : H0[H.length + 1]? = some (⟨.cells #[.slice none 0 0] 35 (0, 0), true, true⟩ : Blk) := by rw [hH0]; simp
  have hlt0 : rd < H0.length := by omega
  have hd0 : Dr H0 rd n H0 := Dr.mk0 hdH.rdr
  have hx0 : Ext H H0 := by rw [hH0]; exact Ext.app _ _
  obtain ⟨H1, hH1⟩ : ∃ H1, H1 = H ++ [(⟨.cells #[.slice ap lp.length zp] 35 (0, 0), true, true⟩ : Blk), ⟨.cells #[.slice none 0 0] 35 (0, 0), true, true⟩, ⟨.cells #[] 58 (0, 0), true, true⟩] := ⟨_, rfl⟩
  have hx1 : Ext H0 H1 := by rw [hH0, hH1]; exact Ext.of (by simp)
  have hsm : CodeR true H1 [] [.slice (some ⟨H.length + 2, 0, none⟩) 0 3] [H.length + 2] := SlR.mt (R := InsR) (e := 58) (f := (0, 0)) (by rw [hH1]; simp)
  rw [← hH1]
  refine AppK.ins (rd := rd) (n := n) (H := H0) (own2 := own) (l := []) (F := [H.length + 2]) (F2 := Fp) (l2 := lp) slt33 und33 (by decide) (by decide) (hd0.ext hx1) hsm (Fresh.one (by omega)) (Rp.ext hp (hx0.trans hx1)) (by simp; omega) ?_
  clear hsm hH1 hx1
  intro l1 e1 a1 z1 S1 F1 hs1 hf1 hd1
  simp only [List.length_nil, Nat.zero_add] at e1
  simp (dsimp := false)
  refine CallK.of ⟨_, Tryd.func19, rfl, rfl⟩ (pickR hd1.rdr (by omega) l1.length) ?_
  rintro v S2 ⟨ki, rfl, -, hki, -, hr, h1⟩
  have hd2 := hd1.step hr h1
  have hs2 := Rdo.rp hs1 hr (hf1.rd hlt0)
  have hf2 := hf1
  clear hr h1 hd0
  simp (dsimp := false)
  refine ifA_dec (fun hz => ?_) (fun hz => ?_)
  · obtain ⟨F2, hF2⟩ : ∃ q, q = F1 := ⟨_, rfl⟩
    rw [← hF2] at hs2 hf2
    have hbl := (hd2.rdo.2 (H.length + 1) (by omega) (by omega)).trans hb1
    have hKl := hd2.le
    have hself := fun b : Blk => List.getElem?_set_self (l := S2) (i := H.length + 1) (a := b) (by omega)
    simp (dsimp := false) [hbl, goB_of hbl, hself]
    exact ⟨l1, F2, Rp.fr hs2 fun j hj => List.getElem?_set_ne (by have := hf2.1 j hj; omega), hf2.weak (by omega), by omega, ((hdH.to hd2).weak (by omega)).keep (by simp) (fun j hj => List.getElem?_set_ne (by omega))⟩
  have hki : ki < l1.length := by have := List.length_pos_iff.2 hz; omega
  refine CallK.of ⟨_, Tryd.func19, rfl, rfl⟩ (pickR hd2.rdr (by omega) 7) ?_
  rintro v S3 ⟨q, rfl, -, hq, -, hr, h1⟩
  have hq := hq (by decide)
  have hd3 := hd2.step hr h1
  have hs3 := Rdo.rp hs2 hr (hf2.rd hlt0)
  have hf3 := hf2
  clear hr h1
  have hqq : q = 0 ∨ q = 1 ∨ q = 2 ∨ q = 3 ∨ q = 4 ∨ q = 5 ∨ q = 6 := by omega
  rcases hqq with rfl | rfl | rfl | rfl | rfl | rfl | rfl
  · simp (dsimp := false)
    refine CallK.of ⟨_, Tryd.func19, rfl, rfl⟩ (pickR hd3.rdr (by omega) 18) ?_
    rintro v S4 ⟨m, rfl, -, hm, -, hr, h1⟩
    have hm := hm (by decide)
    have hd4 := hd3.step hr h1
    have hs4 := Rdo.rp hs3 hr (hf3.rd hlt0)
    have hf4 := hf3
    clear hr h1
    have wm : IntKind.i64.wrap ((m : Int) - 1) = (m : Int) - 1 := wrap_of _ (by omega) (by omega)
    simp (dsimp := false) [wm]
    obtain ⟨id, o, c, e, f, ow, cs, Fi, E⟩ := SlR.get hs4 ki hki
    obtain ⟨rfl, rfl, hok⟩ := E.rep
    obtain rfl := E.own' rfl
    have hle := E.le
    have hput := E.set1 (v := int ((m : Int) - 1)) (x' := ⟨(m : Int) - 1, l1[ki].text, l1[ki].n⟩) (k := 0) hf4.2 rfl (by decide) ⟨rfl, rfl, (by dsimp only [i64]; omega), hok.2.1, hok.2.2⟩
    rw [Nat.add_zero] at hput
    have hd5 := hd4.keep (S' := S4.set id ⟨.cells (setL c o [int ((m : Int) - 1)]) e f, true, true⟩) (by simp) (fun j hj => List.getElem?_set_ne (by rintro rfl; have := hf4.1 _ E.mem; omega))
    have hf5 := hf4
    simp (dsimp := false) [E.idx, E.goB, E.le, E.lt, show o + 0 + 1 ≤ c.size by omega]
    obtain ⟨S5, hS⟩ : ∃ q, q = S4.set id (⟨.cells (setL c o [int ((m : Int) - 1)]) e f, true, true⟩ : Blk) := ⟨_, rfl⟩
    rw [← hS] at hput hd5 ⊢
    obtain ⟨l5, hl⟩ : ∃ q, q = l1.set ki ⟨(m : Int) - 1, l1[ki].text, l1[ki].n⟩ := ⟨_, rfl⟩
    have hll : l1.length = l5.length := by rw [hl]; simp
    rw [← hl, hll] at hput
    rw [hll]
    have hs5 := hput
    obtain ⟨F5, hF⟩ : ∃ q, q = F1 := ⟨_, rfl⟩
    rw [← hF] at hs5 hf5
    have hbl := (hd5.rdo.2 (H.length + 1) (by omega) (by omega)).trans hb1
    have hKl := hd5.le
    have hself := fun b : Blk => List.getElem?_set_self (l := S5) (i := H.length + 1) (a := b) (by omega)
    simp (dsimp := false) [hbl, goB_of hbl, hself]
    exact ⟨l5, F5, Rp.fr hs5 fun j hj => List.getElem?_set_ne (by have := hf5.1 j hj; omega), hf5.weak (by omega), by omega, ((hdH.to hd5).weak (by omega)).keep (by simp) (fun j hj => List.getElem?_set_ne (by omega))⟩
  · simp (dsimp := false)
    obtain ⟨id, o, c, e, f, ow, cs, Fi, E⟩ := SlR.get hs3 ki hki
    obtain ⟨rfl, rfl, hok⟩ := E.rep
    obtain rfl := E.own' rfl
    have hle := E.le
    have hput := E.set1 (v := int (IntKind.i64.wrap (l1[ki].n + 1))) (x' := ⟨l1[ki].op, l1[ki].text, IntKind.i64.wrap (l1[ki].n + 1)⟩) (k := 2) hf3.2 rfl (by decide) ⟨rfl, rfl, hok.1, hok.2.1, (by first | exact wrap_rng _ | (dsimp only [i64]; omega))⟩
    have hd4 := hd3.keep (S' := S3.set id ⟨.cells (setL c (o + 2) [int (IntKind.i64.wrap (l1[ki].n + 1))]) e f, true, true⟩) (by simp) (fun j hj => List.getElem?_set_ne (by rintro rfl; have := hf3.1 _ E.mem; omega))
    have hf4 := hf3
    simp (dsimp := false) [E.idx, E.goB, E.le, E.lt, show o + 2 + 1 ≤ c.size by omega, E.cell 2 (by omega), Ins.c]
    obtain ⟨S4, hS⟩ : ∃ q, q = S3.set id (⟨.cells (setL c (o + 2) [int (IntKind.i64.wrap (l1[ki].n + 1))]) e f, true, true⟩ : Blk) := ⟨_, rfl⟩
    rw [← hS] at hput hd4 ⊢
    obtain ⟨l4, hl⟩ : ∃ q, q = l1.set ki ⟨l1[ki].op, l1[ki].text, IntKind.i64.wrap (l1[ki].n + 1)⟩ := ⟨_, rfl⟩
    have hll : l1.length = l4.length := by rw [hl]; simp
    rw [← hl, hll] at hput
    rw [hll]
    have hs4 := hput
    obtain ⟨F4, hF⟩ : ∃ q, q = F1 := ⟨_, rfl⟩
    rw [← hF] at hs4 hf4
    have hbl := (hd4.rdo.2 (H.length + 1) (by omega) (by omega)).trans hb1
    have hKl := hd4.le
    have hself := fun b : Blk => List.getElem?_set_self (l := S4) (i := H.length + 1) (a := b) (by omega)
    simp (dsimp := false) [hbl, goB_of hbl, hself]
    exact ⟨l4, F4, Rp.fr hs4 fun j hj => List.getElem?_set_ne (by have := hf4.1 j hj; omega), hf4.weak (by omega), by omega, ((hdH.to hd4).weak (by omega)).keep (by simp) (fun j hj => List.getElem?_set_ne (by omega))⟩
  · simp (dsimp := false)
    have hblk : ∀ S : Heap, Rdo rd (S3 ++ [(⟨.cells #[int (-1), int 2000, int 2001, int 200, int 201, int 1000000007] 3 (0, 0), true, true⟩ : Blk)]) S → S[S3.length]? = _ := fun S hS => (hS.2 _ (by simp) (by have := hd3.le; omega)).trans (by simp; rfl)
    refine CallK.of ⟨_, Tryd.func19, rfl, rfl⟩ (pickR (hd3.app).rdr (by omega) 6) ?_
    rintro v S4 ⟨p, rfl, -, hp6, -, hr, h1⟩
    have hp6 := hp6 (by decide)
    have hb4 := hblk S4 hr
    have hd4 := hd3.app.step hr h1
    have hs4 := Rdo.rp (Rp.ext hs3 (Ext.app _ _)) hr (hf3.rd hlt0)
    have hf4 := hf3
    have hpp : p = 0 ∨ p = 1 ∨ p = 2 ∨ p = 3 ∨ p = 4 ∨ p = 5 := by omega
    rcases hpp with rfl | rfl | rfl | rfl | rfl | rfl
    · simp (dsimp := false) [hb4, goB_of hb4]
      obtain ⟨id, o, c, e, f, ow, cs, Fi, E⟩ := SlR.get hs4 ki hki
      obtain ⟨rfl, rfl, hok⟩ := E.rep
      obtain rfl := E.own' rfl
      have hle := E.le
      have hput := E.set1 (v := int (-1)) (x' := ⟨l1[ki].op, l1[ki].text, (-1)⟩) (k := 2) hf4.2 rfl (by decide) ⟨rfl, rfl, hok.1, hok.2.1, (by first | exact wrap_rng _ | (dsimp only [i64]; omega))⟩
      have hd5 := hd4.keep (S' := S4.set id ⟨.cells (setL c (o + 2) [int (-1)]) e f, true, true⟩) (by simp) (fun j hj => List.getElem?_set_ne (by rintro rfl; have := hf4.1 _ E.mem; omega))
      have hf5 := hf4
      simp (dsimp := false) [E.idx, E.goB, E.le, E.lt, show o + 2 + 1 ≤ c.size by omega]
      obtain ⟨S5, hS⟩ : ∃ q, q = S4.set id (⟨.cells (setL c (o + 2) [int (-1)]) e f, true, true⟩ : Blk) := ⟨_, rfl⟩
      rw [← hS] at hput hd5 ⊢
      obtain ⟨l5, hl⟩ : ∃ q, q = l1.set ki ⟨l1[ki].op, l1[ki].text, (-1)⟩ := ⟨_, rfl⟩
      have hll : l1.length = l5.length := by rw [hl]; simp
      rw [← hl, hll] at hput
      rw [hll]
      have hs5 := hput
      obtain ⟨F5, hF⟩ : ∃ q, q = F1 := ⟨_, rfl⟩
      rw [← hF] at hs5 hf5
      have hbl := (hd5.rdo.2 (H.length + 1) (by omega) (by omega)).trans hb1
      have hKl := hd5.le
      have hself := fun b : Blk => List.getElem?_set_self (l := S5) (i := H.length + 1) (a := b) (by omega)
      simp (dsimp := false) [hbl, goB_of hbl, hself]
      exact ⟨l5, F5, Rp.fr hs5 fun j hj => List.getElem?_set_ne (by have := hf5.1 j hj; omega), hf5.weak (by omega), by omega, ((hdH.to hd5).weak (by omega)).keep (by simp) (fun j hj => List.getElem?_set_ne (by omega))⟩
    · simp (dsimp := false) [hb4, goB_of hb4]
      obtain ⟨id, o, c, e, f, ow, cs, Fi, E⟩ := SlR.get hs4 ki hki
      obtain ⟨rfl, rfl, hok⟩ := E.rep
      obtain rfl := E.own' rfl
      have hle := E.le
      have hput := E.set1 (v := int 2000) (x' := ⟨l1[ki].op, l1[ki].text, 2000⟩) (k := 2) hf4.2 rfl (by decide) ⟨rfl, rfl, hok.1, hok.2.1, (by first | exact wrap_rng _ | (dsimp only [i64]; omega))⟩
      have hd5 := hd4.keep (S' := S4.set id ⟨.cells (setL c (o + 2) [int 2000]) e f, true, true⟩) (by simp) (fun j hj => List.getElem?_set_ne (by rintro rfl; have := hf4.1 _ E.mem; omega))
      have hf5 := hf4
      simp (dsimp := false) [E.idx, E.goB, E.le, E.lt, show o + 2 + 1 ≤ c.size by omega]
      obtain ⟨S5, hS⟩ : ∃ q, q = S4.set id (⟨.cells (setL c (o + 2) [int 2000]) e f, true, true⟩ : Blk) := ⟨_, rfl⟩
      rw [← hS] at hput hd5 ⊢
      obtain ⟨l5, hl⟩ : ∃ q, q = l1.set ki ⟨l1[ki].op, l1[ki].text, 2000⟩ := ⟨_, rfl⟩
      have hll : l1.length = l5.length := by rw [hl]; simp
      rw [← hl, hll] at hput
      rw [hll]
      have hs5 := hput
      obtain ⟨F5, hF⟩ : ∃ q, q = F1 := ⟨_, rfl⟩
      rw [← hF] at hs5 hf5
      have hbl := (hd5.rdo.2 (H.length + 1) (by omega) (by omega)).trans hb1
      have hKl := hd5.le
      have hself := fun b : Blk => List.getElem?_set_self (l := S5) (i := H.length + 1) (a := b) (by omega)
      simp (dsimp := false) [hbl, goB_of hbl, hself]
      exact ⟨l5, F5, Rp.fr hs5 fun j hj => List.getElem?_set_ne (by have := hf5.1 j hj; omega), hf5.weak (by omega), by omega, ((hdH.to hd5).weak (by omega)).keep (by simp) (fun j hj => List.getElem?_set_ne (by omega))⟩
    · simp (dsimp := false) [hb4, goB_of hb4]
      obtain ⟨id, o, c, e, f, ow, cs, Fi, E⟩ := SlR.get hs4 ki hki
      obtain ⟨rfl, rfl, hok⟩ := E.rep
      obtain rfl := E.own' rfl
      have hle := E.le
      have hput := E.set1 (v := int 2001) (x' := ⟨l1[ki].op, l1[ki].text, 2001⟩) (k := 2) hf4.2 rfl (by decide) ⟨rfl, rfl, hok.1, hok.2.1, (by first | exact wrap_rng _ | (dsimp only [i64]; omega))⟩
      have hd5 := hd4.keep (S' := S4.set id ⟨.cells (setL c (o + 2) [int 2001]) e f, true, true⟩) (by simp) (fun j hj => List.getElem?_set_ne (by rintro rfl; have := hf4.1 _ E.mem; omega))
      have hf5 := hf4
      simp (dsimp := false) [E.idx, E.goB, E.le, E.lt, show o + 2 + 1 ≤ c.size by omega]
      obtain ⟨S5, hS⟩ : ∃ q, q = S4.set id (⟨.cells (setL c (o + 2) [int 2001]) e f, true, true⟩ : Blk) := ⟨_, rfl⟩
      rw [← hS] at hput hd5 ⊢
      obtain ⟨l5, hl⟩ : ∃ q, q = l1.set ki ⟨l1[ki].op, l1[ki].text, 2001⟩ := ⟨_, rfl⟩
      have hll : l1.length = l5.length := by rw [hl]; simp
      rw [← hl, hll] at hput
      rw [hll]
      have hs5 := hput
      obtain ⟨F5, hF⟩ : ∃ q, q = F1 := ⟨_, rfl⟩
      rw [← hF] at hs5 hf5
      have hbl := (hd5.rdo.2 (H.length + 1) (by omega) (by omega)).trans hb1
      have hKl := hd5.le
      have hself := fun b : Blk => List.getElem?_set_self (l := S5) (i := H.length + 1) (a := b) (by omega)
      simp (dsimp := false) [hbl, goB_of hbl, hself]
      exact ⟨l5, F5, Rp.fr hs5 fun j hj => List.getElem?_set_ne (by have := hf5.1 j hj; omega), hf5.weak (by omega), by omega, ((hdH.to hd5).weak (by omega)).keep (by simp) (fun j hj => List.getElem?_set_ne (by omega))⟩
    · simp (dsimp := false) [hb4, goB_of hb4]
      obtain ⟨id, o, c, e, f, ow, cs, Fi, E⟩ := SlR.get hs4 ki hki
      obtain ⟨rfl, rfl, hok⟩ := E.rep
      obtain rfl := E.own' rfl
      have hle := E.le
      have hput := E.set1 (v := int 200) (x' := ⟨l1[ki].op, l1[ki].text, 200⟩) (k := 2) hf4.2 rfl (by decide) ⟨rfl, rfl, hok.1, hok.2.1, (by first | exact wrap_rng _ | (dsimp only [i64]; omega))⟩
      have hd5 := hd4.keep (S' := S4.set id ⟨.cells (setL c (o + 2) [int 200]) e f, true, true⟩) (by simp) (fun j hj => List.getElem?_set_ne (by rintro rfl; have := hf4.1 _ E.mem; omega))
      have hf5 := hf4
      simp (dsimp := false) [E.idx, E.goB, E.le, E.lt, show o + 2 + 1 ≤ c.size by omega]
      obtain ⟨S5, hS⟩ : ∃ q, q = S4.set id (⟨.cells (setL c (o + 2) [int 200]) e f, true, true⟩ : Blk) := ⟨_, rfl⟩
      rw [← hS] at hput hd5 ⊢
      obtain ⟨l5, hl⟩ : ∃ q, q = l1.set ki ⟨l1[ki].op, l1[ki].text, 200⟩ := ⟨_, rfl⟩
      have hll : l1.length = l5.length := by rw [hl]; simp
      rw [← hl, hll] at hput
      rw [hll]
      have hs5 := hput
      obtain ⟨F5, hF⟩ : ∃ q, q = F1 := ⟨_, rfl⟩
      rw [← hF] at hs5 hf5
      have hbl := (hd5.rdo.2 (H.length + 1) (by omega) (by omega)).trans hb1
      have hKl := hd5.le
      have hself := fun b : Blk => List.getElem?_set_self (l := S5) (i := H.length + 1) (a := b) (by omega)
      simp (dsimp := false) [hbl, goB_of hbl, hself]
      exact ⟨l5, F5, Rp.fr hs5 fun j hj => List.getElem?_set_ne (by have := hf5.1 j hj; omega), hf5.weak (by omega), by omega, ((hdH.to hd5).weak (by omega)).keep (by simp) (fun j hj => List.getElem?_set_ne (by omega))⟩
    · simp (dsimp := false) [hb4, goB_of hb4]
      obtain ⟨id, o, c, e, f, ow, cs, Fi, E⟩ := SlR.get hs4 ki hki
      obtain ⟨rfl, rfl, hok⟩ := E.rep
      obtain rfl := E.own' rfl
      have hle := E.le
      have hput := E.set1 (v := int 201) (x' := ⟨l1[ki].op, l1[ki].text, 201⟩) (k := 2) hf4.2 rfl (by decide) ⟨rfl, rfl, hok.1, hok.2.1, (by first | exact wrap_rng _ | (dsimp only [i64]; omega))⟩
      have hd5 := hd4.keep (S' := S4.set id ⟨.cells (setL c (o + 2) [int 201]) e f, true, true⟩) (by simp) (fun j hj => List.getElem?_set_ne (by rintro rfl; have := hf4.1 _ E.mem; omega))
      have hf5 := hf4
      simp (dsimp := false) [E.idx, E.goB, E.le, E.lt, show o + 2 + 1 ≤ c.size by omega]
      obtain ⟨S5, hS⟩ : ∃ q, q = S4.set id (⟨.cells (setL c (o + 2) [int 201]) e f, true, true⟩ : Blk) := ⟨_, rfl⟩
      rw [← hS] at hput hd5 ⊢
      obtain ⟨l5, hl⟩ : ∃ q, q = l1.set ki ⟨l1[ki].op, l1[ki].text, 201⟩ := ⟨_, rfl⟩
      have hll : l1.length = l5.length := by rw [hl]; simp
      rw [← hl, hll] at hput
      rw [hll]
      have hs5 := hput
      obtain ⟨F5, hF⟩ : ∃ q, q = F1 := ⟨_, rfl⟩
      rw [← hF] at hs5 hf5
      have hbl := (hd5.rdo.2 (H.length + 1) (by omega) (by omega)).trans hb1
      have hKl := hd5.le
      have hself := fun b : Blk => List.getElem?_set_self (l := S5) (i := H.length + 1) (a := b) (by omega)
      simp (dsimp := false) [hbl, goB_of hbl, hself]
      exact ⟨l5, F5, Rp.fr hs5 fun j hj => List.getElem?_set_ne (by have := hf5.1 j hj; omega), hf5.weak (by omega), by omega, ((hdH.to hd5).weak (by omega)).keep (by simp) (fun j hj => List.getElem?_set_ne (by omega))⟩
    · simp (dsimp := false) [hb4, goB_of hb4]
      obtain ⟨id, o, c, e, f, ow, cs, Fi, E⟩ := SlR.get hs4 ki hki
      obtain ⟨rfl, rfl, hok⟩ := E.rep
      obtain rfl := E.own' rfl
      have hle := E.le
      have hput := E.set1 (v := int 1000000007) (x' := ⟨l1[ki].op, l1[ki].text, 1000000007⟩) (k := 2) hf4.2 rfl (by decide) ⟨rfl, rfl, hok.1, hok.2.1, (by first | exact wrap_rng _ | (dsimp only [i64]; omega))⟩
      have hd5 := hd4.keep (S' := S4.set id ⟨.cells (setL c (o + 2) [int 1000000007]) e f, true, true⟩) (by simp) (fun j hj => List.getElem?_set_ne (by rintro rfl; have := hf4.1 _ E.mem; omega))
      have hf5 := hf4
      simp (dsimp := false) [E.idx, E.goB, E.le, E.lt, show o + 2 + 1 ≤ c.size by omega]
      obtain ⟨S5, hS⟩ : ∃ q, q = S4.set id (⟨.cells (setL c (o + 2) [int 1000000007]) e f, true, true⟩ : Blk) := ⟨_, rfl⟩
      rw [← hS] at hput hd5 ⊢
      obtain ⟨l5, hl⟩ : ∃ q, q = l1.set ki ⟨l1[ki].op, l1[ki].text, 1000000007⟩ := ⟨_, rfl⟩
      have hll : l1.length = l5.length := by rw [hl]; simp
      rw [← hl, hll] at hput
      rw [hll]
      have hs5 := hput
      obtain ⟨F5, hF⟩ : ∃ q, q = F1 := ⟨_, rfl⟩
      rw [← hF] at hs5 hf5
      have hbl := (hd5.rdo.2 (H.length + 1) (by omega) (by omega)).trans hb1
      have hKl := hd5.le
      have hself := fun b : Blk => List.getElem?_set_self (l := S5) (i := H.length + 1) (a := b) (by omega)
      simp (dsimp := false) [hbl, goB_of hbl, hself]
      exact ⟨l5, F5, Rp.fr hs5 fun j hj => List.getElem?_set_ne (by have := hf5.1 j hj; omega), hf5.weak (by omega), by omega, ((hdH.to hd5).weak (by omega)).keep (by simp) (fun j hj => List.getElem?_set_ne (by omega))⟩
  · simp (dsimp := false)
    refine CallK.of ⟨_, Tryd.func19, rfl, rfl⟩ (pickR hd3.rdr (by omega) 2) ?_
    rintro v S4 ⟨m, rfl, -, hm, -, hr, h1⟩
    have hm := hm (by decide)
    have hd4 := hd3.step hr h1
    have hs4 := Rdo.rp hs3 hr (hf3.rd hlt0)
    have hf4 := hf3
    clear hr h1
    have wm : IntKind.i64.wrap (2000 + (m : Int)) = ((m + 2000 : Nat) : Int) := (wrap_of _ (by omega) (by omega)).trans (by omega)
    simp (dsimp := false) [wm]
    refine CallK.of ⟨_, Tryd.func21, rfl, rfl⟩ (l1Many_ac (s := [116]) (n := m + 2000) (by simp) (by omega)) ?_
    rintro v S' ⟨⟨t, rfl, ht⟩, hS⟩
    subst hS
    simp at ht
    simp (dsimp := false)
    obtain ⟨S4, hS4⟩ : ∃ q, q = S' := ⟨_, rfl⟩
    rw [← hS4] at hd4 hs4 ⊢
    obtain ⟨id, o, c, e, f, ow, cs, Fi, E⟩ := SlR.get hs4 ki hki
    obtain ⟨rfl, rfl, hok⟩ := E.rep
    obtain rfl := E.own' rfl
    have hle := E.le
    have hput := E.set1 (v := str t) (x' := ⟨l1[ki].op, t, l1[ki].n⟩) (k := 1) hf4.2 rfl (by decide) ⟨rfl, rfl, hok.1, (by simp only [okS]; first | (simp; done) | omega), hok.2.2⟩
    have hd5 := hd4.keep (S' := S4.set id ⟨.cells (setL c (o + 1) [str t]) e f, true, true⟩) (by simp) (fun j hj => List.getElem?_set_ne (by rintro rfl; have := hf4.1 _ E.mem; omega))
    have hf5 := hf4
    simp (dsimp := false) [E.idx, E.goB, E.le, E.lt, show o + 1 + 1 ≤ c.size by omega]
    obtain ⟨S5, hS⟩ : ∃ q, q = S4.set id (⟨.cells (setL c (o + 1) [str t]) e f, true, true⟩ : Blk) := ⟨_, rfl⟩
    rw [← hS] at hput hd5 ⊢
    obtain ⟨l5, hl⟩ : ∃ q, q = l1.set ki ⟨l1[ki].op, t, l1[ki].n⟩ := ⟨_, rfl⟩
    have hll : l1.length = l5.length := by rw [hl]; simp
    rw [← hl, hll] at hput
    rw [hll]
    have hs5 := hput
    obtain ⟨F5, hF⟩ : ∃ q, q = F1 := ⟨_, rfl⟩
    rw [← hF] at hs5 hf5
    have hbl := (hd5.rdo.2 (H.length + 1) (by omega) (by omega)).trans hb1
    have hKl := hd5.le
    have hself := fun b : Blk => List.getElem?_set_self (l := S5) (i := H.length + 1) (a := b) (by omega)
    simp (dsimp := false) [hbl, goB_of hbl, hself]
    exact ⟨l5, F5, Rp.fr hs5 fun j hj => List.getElem?_set_ne (by have := hf5.1 j hj; omega), hf5.weak (by omega), by omega, ((hdH.to hd5).weak (by omega)).keep (by simp) (fun j hj => List.getElem?_set_ne (by omega))⟩
  · simp (dsimp := false)
    obtain ⟨s', F4, q⟩ := hs3.cut (P := Tryd.prog) (et := 58) 0 ki (by omega) (by omega) (by kernel_rfl)
    obtain ⟨q1, q2, q3, q4, q5, q6, q7⟩ := q fun _ => rfl
    obtain ⟨a', z', rfl⟩ := q1.form
    have q8 : sliceZ Tryd.prog (some (.slice 58)) (.slice a1 l1.length z1) none (some (.int .i64 (ki : Int))) none = some _ := q7 rfl .i64
    obtain ⟨l4, hl4⟩ : ∃ q, q = (l1.take ki).drop 0 := ⟨_, rfl⟩
    rw [← hl4] at q1 q8
    have hl4l : l4.length ≤ l1.length := by rw [hl4]; simp; omega
    have hf4 : Fresh H0.length F4 := ⟨fun j hj => hf3.1 j (q2 j hj), q3 hf3.2⟩
    have hd4 := hd3
    have hs4 := q1
    obtain ⟨S4, hS4⟩ : ∃ q, q = S3 := ⟨_, rfl⟩
    simp (dsimp := false) [q8]
    rw [← hS4] at hd4 hs4 ⊢
    have hbl := (hd4.rdo.2 (H.length + 1) (by omega) (by omega)).trans hb1
    have hKl := hd4.le
    have hself := fun b : Blk => List.getElem?_set_self (l := S4) (i := H.length + 1) (a := b) (by omega)
    simp (dsimp := false) [hbl, goB_of hbl, hself]
    exact ⟨l4, F4, Rp.fr hs4 fun j hj => List.getElem?_set_ne (by have := hf4.1 j hj; omega), hf4.weak (by omega), by omega, ((hdH.to hd4).weak (by omega)).keep (by simp) (fun j hj => List.getElem?_set_ne (by omega))⟩
  · simp (dsimp := false)
    refine LoopA.up (σ := List Ins × Heap × Option Addr × Nat × List Nat) [0, 4, 5] (fun x => [(5, .slice x.2.2.1 x.1.length x.2.2.2.1)]) (fun x => x.2.1)
      (fun x => x.1.length ≤ max lp.length 201 ∧ CodeR true x.2.1 x.1 [.slice x.2.2.1 x.1.length x.2.2.2.1] x.2.2.2.2 ∧ Fresh H0.length x.2.2.2.2 ∧ Dr H0 rd (n - 10 - min x.1.length 201) x.2.1) (fun x => 201 - x.1.length) (l1, S3, a1, z1, F1) rfl ⟨by dsimp only; omega, hs3, hf3, hd3.weak (by dsimp only; omega)⟩ ?_
    rintro ⟨l3, S3, a3, z3, F3⟩ ⟨hl3, hs3, hf3, hd3⟩
    dsimp only at hl3 hs3 hf3 hd3
    simp (dsimp := false)
    refine CallK.of ⟨_, Tryd.func19, rfl, rfl⟩ (pickR hd3.rdr (by omega) 2) ?_
    rintro v S4 ⟨m, rfl, -, hm, -, hr, h1⟩
    have hm := hm (by decide)
    have hd4 := hd3.step hr h1
    have hs4 := Rdo.rp hs3 hr (hf3.rd hlt0)
    have hf4 := hf3
    clear hr h1
    have wm : IntKind.i64.wrap (200 + (m : Int)) = 200 + (m : Int) := wrap_of _ (by omega) (by omega)
    simp (dsimp := false) [wm]
    refine ifA_dec (fun h3 => ?_) (fun h3 => ?_)
    · refine CallK.fl ⟨_, Tryd.func37, rfl, rfl⟩ (l1Op_ac 9 _) ?_
      simp (dsimp := false)
      obtain ⟨l4, hl4⟩ : ∃ l, l = l3 := ⟨_, rfl⟩
      rw [← hl4] at hs4 hl3 h3 hd3 hd4 ⊢
      obtain ⟨F4, hF4⟩ : ∃ l, l = F3 := ⟨_, rfl⟩
      rw [← hF4] at hf4 hs4
      refine AppK.ins (rd := rd) (n := hd4.nOf) (H := H0) (own2 := true) (l := l4) (F := F4) (F2 := [S4.length]) (l2 := [(⟨9, [], 0⟩ : Ins)]) slt33 und33 (by decide) (by decide) ?_ ?_ ?_ ?_ ?_ ?_
      · exact hd4.app
      · exact Rp.ext hs4 (Ext.app _ _)
      · exact hf4
      · exact SlR.lit (R := InsR) (own := true) (l := [(⟨9, [], 0⟩ : Ins)]) (e := 58) (f := (0, 0)) (G := []) (by simp [Ins.c]) (cells_ins (by simp [Ins.ok, i64, okS] <;> omega)) (by simp) (fun _ => rfl)
      · simp; omega
      intro l5 e5 a5 z5 S5 F5 hs5 hf5 hd5
      try simp only [List.length_cons, List.length_nil] at e5
      try dsimp only [Dr.nOf] at hd5
      refine LoopN.of (l5, S5, a5, z5, F5) rfl ⟨by dsimp only; omega, hs5, hf5, hd5.weak (by dsimp only; omega)⟩ (by dsimp only; omega)
    · obtain ⟨l4, hl4⟩ : ∃ l, l = l3 := ⟨_, rfl⟩
      rw [← hl4] at hs4 hl3 ⊢
      obtain ⟨F4, hF4⟩ : ∃ l, l = F3 := ⟨_, rfl⟩
      rw [← hF4] at hf4 hs4
      have hbl := (hd4.rdo.2 (H.length + 1) (by omega) (by omega)).trans hb1
      have hKl := hd4.le
      have hself := fun b : Blk => List.getElem?_set_self (l := S4) (i := H.length + 1) (a := b) (by omega)
      simp (dsimp := false) [hbl, goB_of hbl, hself]
      exact ⟨l4, F4, Rp.fr hs4 fun j hj => List.getElem?_set_ne (by have := hf4.1 j hj; omega), hf4.weak (by omega), by omega, ((hdH.to hd4).weak (by omega)).keep (by simp) (fun j hj => List.getElem?_set_ne (by omega))⟩
  · simp (dsimp := false)
    obtain ⟨id, o, c, e, f, ow, cs, Fi, E⟩ := SlR.get hs3 ki hki
    obtain ⟨rfl, rfl, hok⟩ := E.rep
    obtain rfl := E.own' rfl
    have hle := E.le
    have hput := E.set1 (v := str [121]) (x' := ⟨l1[ki].op, [121], l1[ki].n⟩) (k := 1) hf3.2 rfl (by decide) ⟨rfl, rfl, hok.1, (by simp only [okS]; first | (simp; done) | omega), hok.2.2⟩
    have hd4 := hd3.keep (S' := S3.set id ⟨.cells (setL c (o + 1) [str [121]]) e f, true, true⟩) (by simp) (fun j hj => List.getElem?_set_ne (by rintro rfl; have := hf3.1 _ E.mem; omega))
    have hf4 := hf3
    simp (dsimp := false) [E.idx, E.goB, E.le, E.lt, show o + 1 + 1 ≤ c.size by omega]
    obtain ⟨S4, hS⟩ : ∃ q, q = S3.set id (⟨.cells (setL c (o + 1) [str [121]]) e f, true, true⟩ : Blk) := ⟨_, rfl⟩
    rw [← hS] at hput hd4 ⊢
    obtain ⟨l4, hl⟩ : ∃ q, q = l1.set ki ⟨l1[ki].op, [121], l1[ki].n⟩ := ⟨_, rfl⟩
    have hll : l1.length = l4.length := by rw [hl]; simp
    rw [← hl, hll] at hput
    rw [hll]
    have hs4 := hput
    obtain ⟨F4, hF⟩ : ∃ q, q = F1 := ⟨_, rfl⟩
    rw [← hF] at hs4 hf4
    have hbl := (hd4.rdo.2 (H.length + 1) (by omega) (by omega)).trans hb1
    have hKl := hd4.le
    have hself := fun b : Blk => List.getElem?_set_self (l := S4) (i := H.length + 1) (a := b) (by omega)
    simp (dsimp := false) [hbl, goB_of hbl, hself]
    exact ⟨l4, F4, Rp.fr hs4 fun j hj => List.getElem?_set_ne (by have := hf4.1 j hj; omega), hf4.weak (by omega), by omega, ((hdH.to hd4).weak (by omega)).keep (by simp) (fun j hj => List.getElem?_set_ne (by omega))⟩
end Go.Proofs.YtbigpkfdeaigeaaDoor
