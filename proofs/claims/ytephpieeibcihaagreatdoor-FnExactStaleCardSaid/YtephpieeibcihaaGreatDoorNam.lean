/- Names; the order of strings; looking for a name. No condition. -/
import Derived.Test.YtephpieeibcihaaGreatDoorSpec
import Derived.Test.YtephpieeibcihaaGreatDoorF2
import Derived.Test.YtephpieeibcihaaGreatDoorShelf
set_option linter.unusedSimpArgs false
set_option linter.unusedVariables false
namespace Go.Proofs.YtephpieeibcihaaGreatDoor
open Go Go.Am Go.Proofs
set_option maxRecDepth 20000
variable {ng : Nat}
theorem compareBytes_eq : ∀ a b : List UInt8, Lib.compareBytes a b = cmpS a b
  | [], [] => rfl
  | [], _ :: _ => rfl
  | _ :: _, [] => rfl
  | a :: x, b :: y => by
    have ih := compareBytes_eq x y
    simp only [Lib.compareBytes, cmpS, ltS, Op.bytesLess] at ih ⊢
    by_cases h1 : a < b
    · simp [h1]
    · by_cases h2 : b < a
      · have : a ≠ b := fun h => by subst h; exact h1 h2
        simp [h1, h2, this]
      · have : a = b := by
          rw [UInt8.lt_iff_toNat_lt] at h1 h2
          exact UInt8.toNat_inj.1 (by omega)
        subst this
        simp [h1, ih]
theorem compare_ac (a b : List UInt8) (H : Heap) : AC Tryz.prog ng 174 [str a, str b] H fun v S' => v = int (cmpS a b) ∧ S' = H := by
  rw [← compareBytes_eq]
  exact AC.ofCalls (by rfl) (by rfl) fun w => Tryz.strings_Compare _ _ w
theorem isName_ac (s : List UInt8) (hs : okS s) (H : Heap) : AC Tryz.prog ng 82 [str s] H fun v S' => v = .bool (nameOk s) ∧ S' = H := by
  unfold okS at hs
  refine .flat (AC.go [] Tryz.func82 rfl Tryz.ntmps82 rfl ⟨mixed, by kernel_rfl⟩ ?_)
  simp +contextual (dsimp := false)
  refine LoopA.up (σ := Nat) [0, 3] (fun i => [(3, int i)]) (fun i => H) (fun i => i ≤ s.length ∧ ∀ y ∈ s.take i, nameB y = true) (fun i => s.length - i) 0 rfl (by simp) ?_
  rintro i ⟨hi, hv⟩
  simp +contextual (dsimp := false)
  refine ifA_dec (fun h3 => ?_) (fun h3 => ?_)
  · simp +contextual (dsimp := false) [h3, wrap_succ (show i < 9223372036854775807 by omega)]
    refine ifA_dec (fun h4 => ?_) (fun h4 => ?_)
    · exact nameOk_bad h3 (by simp [nameB]; omega)
    refine ifA_dec (fun h5 => ?_) (fun h5 => ?_)
    · exact nameOk_bad h3 (by simp [nameB]; omega)
    exact LoopN.of (i + 1) rfl ⟨h3, all_take hv h3 (by simp [nameB]; omega)⟩ (by omega)
  · rw [nameOk_all (all_end hv (by omega))]
    refine ifA_dec (fun h4 => ?_) (fun h4 => ?_)
    · rw [Bool.eq_iff_iff]
      simp only [Bool.and_eq_true, decide_eq_true_eq]
      omega
    · rw [Bool.eq_iff_iff]
      simp only [Bool.and_eq_true, decide_eq_true_eq]
      simp
      omega
theorem l1NameOk_ac (s : List UInt8) (hs : okS s) (H : Heap) : AC Tryz.prog ng 58 [str s] H fun v S' => v = .bool (nameOk s) ∧ S' = H := by
  unfold okS at hs
  refine .flat (AC.go [] Tryz.func58 rfl Tryz.ntmps58 rfl ⟨mixed, by kernel_rfl⟩ ?_)
  simp +contextual (dsimp := false)
  refine ifA_dec (fun h1 => ?_) (fun h1 => ?_)
  · simp [nameOk]
    omega
  refine ifA_dec (fun h2 => ?_) (fun h2 => ?_)
  · simp [nameOk]
    omega
  refine LoopA.up (σ := Nat) [0, 3] (fun i => [(3, int i)]) (fun i => H) (fun i => i ≤ s.length ∧ ∀ y ∈ s.take i, nameB y = true) (fun i => s.length - i) 0 rfl (by simp) ?_
  rintro i ⟨hi, hv⟩
  simp +contextual (dsimp := false)
  refine ifA_dec (fun h3 => ?_) (fun h3 => ?_)
  · simp +contextual (dsimp := false) [h3, wrap_succ (show i < 9223372036854775807 by omega)]
    refine ifA_dec (fun h4 => ?_) (fun h4 => ?_)
    · exact nameOk_bad h3 (by simp [nameB]; omega)
    refine ifA_dec (fun h5 => ?_) (fun h5 => ?_)
    · exact nameOk_bad h3 (by simp [nameB]; omega)
    exact LoopN.of (i + 1) rfl ⟨h3, all_take hv h3 (by simp [nameB]; omega)⟩ (by omega)
  · rw [nameOk_all (all_end hv (by omega))]
    simp
    omega
theorem targetF_ac {own : Bool} {x : Tgt} {c : List Value} {F : List Nat} {H : Heap} (h : TgtR own H x c F) (n : List UInt8) : AC Tryz.prog ng 173 [.agg c.toArray, str n] H fun v S' => v = int (cmpS x.name n) ∧ S' = H := by
  obtain ⟨hk, s1, rfl, hc1⟩ := h
  obtain ⟨a1, z1, rfl⟩ := hc1.form
  refine .flat (AC.go [] Tryz.func173 rfl Tryz.ntmps173 rfl ⟨mixed, by kernel_rfl⟩ ?_)
  simp +contextual (dsimp := false)
  refine CallK.fl ⟨_, Tryz.func174, rfl, rfl⟩ (compare_ac _ _ _) ?_
  simp +contextual (dsimp := false)
theorem sourceF_ac (x : Sou) (n : List UInt8) (H : Heap) : AC Tryz.prog ng 177 [.agg x.c.toArray, str n] H fun v S' => v = int (cmpS x.name n) ∧ S' = H := by
  refine .flat (AC.go [] Tryz.func177 rfl Tryz.ntmps177 rfl ⟨mixed, by kernel_rfl⟩ ?_)
  simp +contextual (dsimp := false) [Sou.c]
  refine CallK.fl ⟨_, Tryz.func174, rfl, rfl⟩ (compare_ac _ _ _) ?_
  simp +contextual (dsimp := false)
theorem bsT_ac {own : Bool} {l : List Tgt} {s : Value} {F : List Nat} {H : Heap} (hs : TgtsR own H l [s] F) (n : List UInt8) : AC Tryz.prog ng 172 [s, str n, .func (.func 173) #[] #[]] H fun v S' =>
    v = .tuple #[int (bsP (l.map (·.name)) n), .bool (bsF (l.map (·.name)) n)] ∧ S' = H := by
  obtain ⟨a, z, rfl⟩ := hs.form
  have hb := hs.bound
  have hd : ∀ h (hh : h < l.length), (l.map (·.name)).getD h [] = l[h].name := fun h hh => by simp [List.getD, hh]
  refine .flat (AC.go [] Tryz.func172 rfl Tryz.ntmps172 rfl ⟨mixed, by kernel_rfl⟩ ?_)
  simp +contextual (dsimp := false)
  refine LoopA.up (σ := Nat × Nat) [0, 1, 2, 8, 9, 10] (fun x => [(9, int x.1), (10, int x.2)]) (fun i => H)
    (fun x => x.1 ≤ x.2 ∧ x.2 ≤ l.length ∧ bsI (fun h => ltS ((l.map (·.name)).getD h []) n) x.1 x.2 = bsP (l.map (·.name)) n) (fun x => x.2 - x.1) (0, l.length) rfl (by simp [bsP]) ?_
  rintro ⟨i, j⟩ ⟨hij, hj, hv⟩
  dsimp only at hij hj hv
  simp +contextual (dsimp := false)
  refine ifA_dec (fun h3 => ?_) (fun h3 => ?_)
  · have hw1 : IntKind.i64.wrap ((i : Int) + j) = ((i + j : Nat) : Int) := (wrap_of ((i : Int) + j) (by omega) (by omega)).trans (by omega)
    have hw2 : IntKind.u64.wrap (((i + j : Nat) : Int)) = ((i + j : Nat) : Int) := by rw [IntKind.wrap_u64]; omega
    have hq : ((i + j : Nat) : Int) / 2 = (((i + j) / 2 : Nat) : Int) := by omega
    have hw3 : IntKind.i64.wrap ((((i + j) / 2 : Nat) : Int)) = (((i + j) / 2 : Nat) : Int) := wrap_nat (by omega)
    have hs2 : bin? Tryz.prog .shr 237 (.tmp 21) (.const (.int .u64 1)) (.int .u64 ((i + j : Nat) : Int)) (.int .u64 1) = some (.int .u64 (((i + j) / 2 : Nat) : Int)) := by rw [bin_shrU (by omega) (by omega), hq]
    generalize hm : (i + j) / 2 = m at *
    obtain ⟨id, o, c, e, f, ow, cs, Fi, E⟩ := SlR.get hs m (by omega)
    have hrep := E.rep
    obtain ⟨hk, s1, rfl, hc1⟩ := E.rep
    simp +contextual (dsimp := false) [-Int.natCast_add, hw1, hw2, hs2, hw3, E.idx, E.goB, E.le, E.lt, E.ext]
    refine CallK.fl ⟨_, Tryz.func173, rfl, rfl⟩ (targetF_ac hrep n) ?_
    simp +contextual (dsimp := false) [cmpS_lt]
    have hlt : ltS ((l.map (·.name)).getD ((i + j) / 2) []) n = ltS l[m].name n := by rw [hm, hd m (by omega)]
    refine ifA_intro (fun h4 => ?_) (fun h4 => ?_)
    · refine LoopN.of (m + 1, j) ?_ ⟨by dsimp only; omega, hj, ?_⟩ (by dsimp only; omega)
      · rw [wrap_succ (by omega)]
        rfl
      · dsimp only
        rw [← hv, bsI_up _ h3 (by rw [hlt]; exact h4), hm]
    · refine LoopN.of (i, m) rfl ⟨by dsimp only; omega, by dsimp only; omega, ?_⟩ (by dsimp only; omega)
      dsimp only
      rw [← hv, bsI_down _ h3 (by rw [hlt]; exact h4), hm]
  · obtain rfl : i = j := by omega
    rw [bsI_stop _ (by omega)] at hv
    refine ifA_dec (fun h4 => ?_) (fun h4 => ?_)
    · obtain ⟨id, o, c, e, f, ow, cs, Fi, E⟩ := SlR.get hs i h4
      have hrep := E.rep
      obtain ⟨hk, s1, rfl, hc1⟩ := E.rep
      simp +contextual (dsimp := false) [h4, E.idx, E.goB, E.le, E.lt, E.ext]
      refine CallK.fl ⟨_, Tryz.func173, rfl, rfl⟩ (targetF_ac hrep n) ?_
      simp +contextual (dsimp := false) [cmpS_z]
      simp [bsF, ← hv, hd i h4, h4]
    · simp [bsF, ← hv]
      intro h; omega
theorem bsS_ac {own : Bool} {l : List Sou} {s : Value} {F : List Nat} {H : Heap} (hs : SousR own H l [s] F) (n : List UInt8) : AC Tryz.prog ng 176 [s, str n, .func (.func 177) #[] #[]] H fun v S' =>
    v = .tuple #[int (bsP (l.map (·.name)) n), .bool (bsF (l.map (·.name)) n)] ∧ S' = H := by
  obtain ⟨a, z, rfl⟩ := hs.form
  have hb := hs.bound
  have hd : ∀ h (hh : h < l.length), (l.map (·.name)).getD h [] = l[h].name := fun h hh => by simp [List.getD, hh]
  refine .flat (AC.go [] Tryz.func176 rfl Tryz.ntmps176 rfl ⟨mixed, by kernel_rfl⟩ ?_)
  simp +contextual (dsimp := false)
  refine LoopA.up (σ := Nat × Nat) [0, 1, 2, 8, 9, 10] (fun x => [(9, int x.1), (10, int x.2)]) (fun i => H)
    (fun x => x.1 ≤ x.2 ∧ x.2 ≤ l.length ∧ bsI (fun h => ltS ((l.map (·.name)).getD h []) n) x.1 x.2 = bsP (l.map (·.name)) n) (fun x => x.2 - x.1) (0, l.length) rfl (by simp [bsP]) ?_
  rintro ⟨i, j⟩ ⟨hij, hj, hv⟩
  dsimp only at hij hj hv
  simp +contextual (dsimp := false)
  refine ifA_dec (fun h3 => ?_) (fun h3 => ?_)
  · have hw1 : IntKind.i64.wrap ((i : Int) + j) = ((i + j : Nat) : Int) := (wrap_of ((i : Int) + j) (by omega) (by omega)).trans (by omega)
    have hw2 : IntKind.u64.wrap (((i + j : Nat) : Int)) = ((i + j : Nat) : Int) := by rw [IntKind.wrap_u64]; omega
    have hq : ((i + j : Nat) : Int) / 2 = (((i + j) / 2 : Nat) : Int) := by omega
    have hw3 : IntKind.i64.wrap ((((i + j) / 2 : Nat) : Int)) = (((i + j) / 2 : Nat) : Int) := wrap_nat (by omega)
    have hs2 : bin? Tryz.prog .shr 237 (.tmp 21) (.const (.int .u64 1)) (.int .u64 ((i + j : Nat) : Int)) (.int .u64 1) = some (.int .u64 (((i + j) / 2 : Nat) : Int)) := by rw [bin_shrU (by omega) (by omega), hq]
    generalize hm : (i + j) / 2 = m at *
    obtain ⟨id, o, c, e, f, ow, cs, Fi, E⟩ := SlR.get hs m (by omega)
    obtain ⟨rfl, rfl, hok⟩ := E.rep
    simp +contextual (dsimp := false) [-Int.natCast_add, hw1, hw2, hs2, hw3, E.idx, E.goB, E.le, E.lt, E.ext]
    refine CallK.fl ⟨_, Tryz.func177, rfl, rfl⟩ (sourceF_ac l[m] n _) ?_
    simp +contextual (dsimp := false) [cmpS_lt]
    have hlt : ltS ((l.map (·.name)).getD ((i + j) / 2) []) n = ltS l[m].name n := by rw [hm, hd m (by omega)]
    refine ifA_intro (fun h4 => ?_) (fun h4 => ?_)
    · refine LoopN.of (m + 1, j) ?_ ⟨by dsimp only; omega, hj, ?_⟩ (by dsimp only; omega)
      · rw [wrap_succ (by omega)]
        rfl
      · dsimp only
        rw [← hv, bsI_up _ h3 (by rw [hlt]; exact h4), hm]
    · refine LoopN.of (i, m) rfl ⟨by dsimp only; omega, by dsimp only; omega, ?_⟩ (by dsimp only; omega)
      dsimp only
      rw [← hv, bsI_down _ h3 (by rw [hlt]; exact h4), hm]
  · obtain rfl : i = j := by omega
    rw [bsI_stop _ (by omega)] at hv
    refine ifA_dec (fun h4 => ?_) (fun h4 => ?_)
    · obtain ⟨id, o, c, e, f, ow, cs, Fi, E⟩ := SlR.get hs i h4
      obtain ⟨rfl, rfl, hok⟩ := E.rep
      simp +contextual (dsimp := false) [h4, E.idx, E.goB, E.le, E.lt, E.ext]
      refine CallK.fl ⟨_, Tryz.func177, rfl, rfl⟩ (sourceF_ac l[i] n _) ?_
      simp +contextual (dsimp := false) [cmpS_z]
      simp [bsF, ← hv, hd i h4, h4]
    · simp [bsF, ← hv]
      intro h; omega
theorem target_ac {own : Bool} {x : Spc} {c : List Value} {F : List Nat} {H : Heap} (h : SpcR own H x c F) (n : List UInt8) : AC Tryz.prog ng 119 [.agg c.toArray, str n] H fun v S' => v = .tuple #[int (bsP (tNames x) n), .bool (bsF (tNames x) n)] ∧ S' = H := by
  obtain ⟨s1, s2, G1, G2, rfl, rfl, hc1, hc2⟩ := h
  obtain ⟨a1, z1, rfl⟩ := hc1.form
  obtain ⟨a2, z2, rfl⟩ := hc2.form
  refine .flat (AC.go [] Tryz.func119 rfl Tryz.ntmps119 rfl ⟨mixed, by kernel_rfl⟩ ?_)
  simp +contextual (dsimp := false)
  refine CallK.fl ⟨_, Tryz.func172, rfl, rfl⟩ (bsT_ac (Rp.ext hc2 (Ext.app _ _)) n) ?_
  simp +contextual (dsimp := false) [tNames]
theorem source_ac {own : Bool} {x : Spc} {c : List Value} {F : List Nat} {H : Heap} (h : SpcR own H x c F) (n : List UInt8) : AC Tryz.prog ng 127 [.agg c.toArray, str n] H fun v S' => v = .tuple #[int (bsP (sNames x) n), .bool (bsF (sNames x) n)] ∧ S' = H := by
  obtain ⟨s1, s2, G1, G2, rfl, rfl, hc1, hc2⟩ := h
  obtain ⟨a1, z1, rfl⟩ := hc1.form
  obtain ⟨a2, z2, rfl⟩ := hc2.form
  refine .flat (AC.go [] Tryz.func127 rfl Tryz.ntmps127 rfl ⟨mixed, by kernel_rfl⟩ ?_)
  simp +contextual (dsimp := false)
  refine CallK.fl ⟨_, Tryz.func176, rfl, rfl⟩ (bsS_ac (Rp.ext hc1 (Ext.app _ _)) n) ?_
  simp +contextual (dsimp := false) [sNames]
end Go.Proofs.YtephpieeibcihaaGreatDoor
