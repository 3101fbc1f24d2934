/- The exact laws' helpers for lists of accounts and of numbers. No condition. -/
import Derived.Test.YtephpieeibcihaaGreatDoorLSpc
import Derived.Test.YtephpieeibcihaaGreatDoorSpec
set_option linter.unusedSimpArgs false
set_option linter.unusedVariables false
namespace Go.Proofs.YtephpieeibcihaaGreatDoor
open Go Go.Am Go.Proofs
set_option maxRecDepth 20000
variable {ng : Nat}
abbrev accW (x : List Deed) : Nat := wL Deed.w x
abbrev accM (x : List Deed) : Nat := sumN Deed.m x
abbrev accK (k : Nat) (x : List Deed) : List Deed := mkL Deed.mk' Deed.m k x
theorem Accs.m_le (l : List (List Deed)) : sumN accM l ≤ 4 * wL accW l := sumN_mul _ _ 4 (fun x => by have := Deed.m_le x; show sumN Deed.m x ≤ 4 * (wL Deed.w x + 1); omega) l
theorem AccZ (H : Heap) : DeedsR true H ([] : List Deed) [.slice none 0 0] [] := SlR.nil
theorem szAccountS_ac {own : Bool} {l : List (List Deed)} {s : Value} {F : List Nat} {H : Heap} (hs : AccsR own H l [s] F) (left : Int) (hl : 0 ≤ left ∧ left ≤ 1048576) : AC Tryz.prog ng 10 [s, int left] H fun v S' => v = int (szR left (wL accW l)) ∧ S' = H := by
  obtain ⟨a, z, rfl⟩ := hs.form
  have hb := hs.bound
  refine .flat (AC.go [] Tryz.func10 rfl Tryz.ntmps10 rfl ⟨mixed, by kernel_rfl⟩ ?_)
  have hw : IntKind.i64.wrap (left - (l.length : Int)) = left - l.length := wrap_of _ (by omega) (by omega)
  simp +contextual (dsimp := false) [hw]
  refine ifA_dec (fun h => ?_) (fun h => ?_)
  · rw [szR_neg (by unfold wL; omega)]
  refine LoopA.up (σ := Nat) [0, 1, 5] (fun i => [(1, int (left - l.length - wS accW l i)), (5, int i)]) (fun i => H) (fun i => i ≤ l.length ∧ 0 ≤ left - l.length - wS accW l i) (fun i => l.length - i) 0
    (by simp) (by simp; omega) ?_
  rintro i ⟨hi, hv⟩
  simp +contextual (dsimp := false)
  refine ifA_dec (fun h3 => ?_) (fun h3 => ?_)
  · obtain ⟨id, o, c, e, f, ow, cs, Fi, E⟩ := SlR.get hs i h3
    have hrep0 := E.rep
    obtain ⟨s1, rfl⟩ := List.length_eq_one_iff.1 (Rp.len hrep0)
    obtain ⟨a1, z1, rfl⟩ := hrep0.form
    simp +contextual (dsimp := false) [E.idx, E.goB, E.lt, E.le, E.ext]
    refine CallK.fl ⟨_, Tryz.func28, rfl, rfl⟩ (szAccount_ac hrep0 _ (by omega)) ?_
    simp +contextual (dsimp := false) [wrap_succ (show i < 9223372036854775807 by omega)]
    have hst : wS accW l (i + 1) = wS accW l i + wL Deed.w l[i] := wS_s accW l i h3
    have hsl := wS_le accW l (i + 1)
    refine ifA_dec (fun h4 => ?_) (fun h4 => ?_)
    · rw [szR_lt hv] at h4
      rw [szR_neg (by omega)]
    · rw [szR_lt hv] at h4
      refine LoopN.of (i + 1) ?_ ⟨h3, by omega⟩ (by omega)
      rw [szR_ge (by omega), show left - l.length - wS accW l i - wL Deed.w l[i] = left - l.length - wS accW l (i + 1) by omega]
      simp
  · have := wS_all accW l i (by omega)
    rw [szR_ge (by omega)]
    try simp
    omega
theorem toAccountS_ac {own : Bool} {l : List (List Deed)} {s : Value} {F : List Nat} {H : Heap} (hs : AccsR own H l [s] F) (hl : wL accW l ≤ 1048576) : AC Tryz.prog ng 12 [s] H fun v S' => ∃ F', Ext H S' ∧ AccsR true S' l [v] F' ∧ Fresh H.length F' := by
  obtain ⟨a, z, rfl⟩ := hs.form
  have hb := hs.bound
  have hll := wL_le accW l
  refine AC.go [] Tryz.func12 rfl Tryz.ntmps12 rfl ⟨mixed, by kernel_rfl⟩ ?_
  simp +contextual (dsimp := false)
  obtain ⟨hm, hr⟩ := SlR.make (H := H) (R := (DeedsR true)) slt26 zer58 [] (fun H => AccZ H) (show l.length * 24 ≤ 281474976710656 by omega) hb
  refine MakeK.of hm ?_
  simp +contextual (dsimp := false)
  refine LoopA.up (σ := Nat × Heap × List Nat) [0, 3, 4] (fun x => [(4, int x.1)]) (fun x => x.2.1)
    (fun x => x.1 ≤ l.length ∧ Ext H x.2.1 ∧ AccsR true x.2.1 (partL l [] x.1) [.slice (some ⟨H.length, 0, none⟩) l.length 1] x.2.2 ∧ Fresh H.length x.2.2) (fun x => l.length - x.1) (0, _, [H.length]) rfl ⟨by simp, by simp, by rw [partL_z]; simpa using hr, by simp [Fresh]⟩ ?_
  rintro ⟨i, hp, F1⟩ ⟨hi, he, hv, hf⟩
  dsimp only at hi he hv hf
  simp +contextual (dsimp := false)
  refine ifA_dec (fun h3 => ?_) (fun h3 => ?_)
  · obtain ⟨id, o, c, e, f, ow, cs, Fi, E⟩ := SlR.get (Rp.ext hs he) i h3
    have hrep0 := E.rep
    obtain ⟨s1, rfl⟩ := List.length_eq_one_iff.1 (Rp.len hrep0)
    obtain ⟨a1, z1, rfl⟩ := hrep0.form
    simp +contextual (dsimp := false) [E.idx, E.goB, E.lt, E.le, E.ext]
    have hwm : wL Deed.w l[i] + l.length ≤ wL accW l := wL_mem accW (List.getElem_mem h3)
    refine CallK.of ⟨_, Tryz.func30, rfl, rfl⟩ (toAccount_ac hrep0 (by omega)) ?_
    rintro v S' ⟨c1, F2, rfl, he2, hv2, hf2⟩
    have hv1 := Rp.ext hv he2
    obtain ⟨id', o', c', e', f', ow', cs', Fi', E'⟩ := SlR.get hv1 i (by rw [partL_length _ _ _ hi]; exact h3)
    obtain rfl := E'.own' rfl
    have hle' := E'.le
    obtain ⟨a3, z3, rfl⟩ := hv2.form
    simp +contextual (dsimp := false) [wrap_succ (show i < 9223372036854775807 by omega), E'.idx, E'.goB, E'.le, E'.lt]
    have hidF := hf.1 _ E'.mem
    obtain ⟨F3, q1, q2, q3, q4, q5, q6, q7⟩ := E'.upd hf.2 (fun _ => rfl) (S'.set id' ⟨.cells (setL c' o' [.slice a3 l[i].length z3]) e' f', true, true⟩) (setL c' o' [.slice a3 l[i].length z3]) l[i] [.slice a3 l[i].length z3] F2 (List.getElem?_set_self E'.lt) (setL_size _ _ _) rfl
      (fun j hj => by rw [setL_get _ _ _ _ (by simp; omega), if_pos (by simp; omega)]; congr 1; omega) (fun j hj => by rw [setL_get _ _ _ _ (by simp; omega), if_neg (by simp; omega)])
      (Rp.fr hv2 fun j hj => List.getElem?_set_ne (by rintro rfl; have := hf2.1 _ hj; have := Rp.lt hv _ E'.mem; omega)) (fun j hj hne _ => List.getElem?_set_ne (Ne.symm hne))
    rw [partL_s _ _ _ h3] at q1
    refine LoopN.of (i + 1, _, F3) rfl ⟨h3, (he.trans he2).set hidF _, q1, fun j hj => ?_, q4 hf2.2 fun j hj hj2 => ?_⟩ (by dsimp only; omega)
    · rcases q3 j hj with h | h
      · exact hf.1 j h
      · have := hf2.1 j h; have := he.le; omega
    · have := hf2.1 j hj; have := Rp.lt hv j hj2; omega
  · rw [partL_all _ _ _ (by omega)] at hv
    first | exact ⟨he, F1, hv, hf⟩ | exact ⟨F1, he, hv, hf⟩
theorem eqAccountS_ac {o1 o2 : Bool} {l1 l2 : List (List Deed)} {s1 s2 : Value} {F1 F2 : List Nat} {H : Heap} (hs1 : AccsR o1 H l1 [s1] F1) (hs2 : AccsR o2 H l2 [s2] F2) : AC Tryz.prog ng 15 [s1, s2] H fun v S' => v = .bool (decide (l1 = l2)) ∧ S' = H := by
  obtain ⟨a1, z1, rfl⟩ := hs1.form
  obtain ⟨a2, z2, rfl⟩ := hs2.form
  have hb := hs1.bound
  refine .flat (AC.go [] Tryz.func15 rfl Tryz.ntmps15 rfl ⟨mixed, by kernel_rfl⟩ ?_)
  simp +contextual (dsimp := false)
  refine ifA_dec (fun h => ?_) (fun h => ?_)
  · refine LoopA.up (σ := Nat) [0, 1, 5] (fun i => [(5, int i)]) (fun i => H) (fun i => i ≤ l1.length ∧ l1.take i = l2.take i) (fun i => l1.length - i) 0 (by simp) (by simp) ?_
    rintro i ⟨hi, hv⟩
    simp +contextual (dsimp := false)
    refine ifA_dec (fun h3 => ?_) (fun h3 => ?_)
    · obtain ⟨id, o, c, e, f, ow, cs, Fi, E⟩ := SlR.get hs1 i h3
      have hrep0 := E.rep
      obtain ⟨s1, rfl⟩ := List.length_eq_one_iff.1 (Rp.len hrep0)
      obtain ⟨a3, z3, rfl⟩ := hrep0.form
      obtain ⟨id', o', c', e', f', ow', cs', Fi', E'⟩ := SlR.get hs2 i (by omega)
      have hrep0' := E'.rep
      obtain ⟨s2, rfl⟩ := List.length_eq_one_iff.1 (Rp.len hrep0')
      obtain ⟨a4, z4, rfl⟩ := hrep0'.form
      simp +contextual (dsimp := false) [E.idx, E.goB, E.lt, E.le, E.ext, E'.idx, E'.goB, E'.lt, E'.le, E'.ext]
      refine CallK.fl ⟨_, Tryz.func32, rfl, rfl⟩ (eqAccount_ac hrep0 hrep0') ?_
      simp +contextual (dsimp := false) [wrap_succ (show i < 9223372036854775807 by omega)]
      refine ifA_dec (fun h4 => ?_) (fun h4 => ?_)
      · refine LoopN.of (i + 1) rfl ⟨h3, ?_⟩ (by omega)
        rw [List.take_succ_eq_append_getElem h3, List.take_succ_eq_append_getElem (show i < l2.length by omega), hv, h4]
      · try simp
        rintro rfl
        exact h4 rfl
    · rw [List.take_of_length_le (by omega), List.take_of_length_le (by omega)] at hv
      simp [hv]
  · try simp
    rintro rfl
    exact h rfl
theorem markAccountS_ac {l : List (List Deed)} {s : Value} {F : List Nat} {H : Heap} (hs : AccsR true H l [s] F) (hnd : F.Nodup) (k : Nat) {e : Int} (hek : e = k) (hk : k + sumN accM l ≤ 1000000000) :
    AC Tryz.prog ng 16 [s, int e] H fun v S' => v = int ((k + sumN accM l : Nat) : Int) ∧ AccsR true S' (mkL accK accM k l) [s] F ∧ S'.length = H.length ∧ ∀ j, j ∉ F → S'[j]? = H[j]? := by
  subst hek
  obtain ⟨a, z, rfl⟩ := hs.form
  have hb := hs.bound
  refine AC.go [] Tryz.func16 rfl Tryz.ntmps16 rfl ⟨mixed, by kernel_rfl⟩ ?_
  simp +contextual (dsimp := false)
  refine LoopA.up (σ := Nat × Heap) [0, 1, 5] (fun x => [(1, int ((k + sumN accM (l.take x.1) : Nat) : Int)), (5, int x.1)]) (fun x => x.2)
    (fun x => x.1 ≤ l.length ∧ AccsR true x.2 (mkP accK accM k l x.1) [.slice a l.length z] F ∧ x.2.length = H.length ∧ ∀ j, j ∉ F → x.2[j]? = H[j]?) (fun x => l.length - x.1) (0, H) (by simp [sumN_nil]) ⟨by simp, by rw [mkP_z]; exact hs, rfl, fun _ _ => rfl⟩ ?_
  rintro ⟨i, hp⟩ ⟨hi, hv, hl, hf⟩
  dsimp only at hi hv hl hf
  simp +contextual (dsimp := false)
  refine ifA_dec (fun h3 => ?_) (fun h3 => ?_)
  · have hlen := mkP_length accK accM k l i
    have hst : sumN accM (l.take (i + 1)) = sumN accM (l.take i) + sumN Deed.m l[i] := sumN_take accM l i h3
    have hsl := sumN_take_le accM l (i + 1)
    have hm0 := mkP_s accK accM k l i h3
    obtain ⟨id, o, c, e, f, ow, cs, Fi, E⟩ := SlR.get hv i (by omega)
    have hrep := E.rep
    rw [mkP_get _ _ _ _ _ h3] at hrep
    obtain ⟨s1, rfl⟩ := List.length_eq_one_iff.1 (Rp.len hrep)
    obtain ⟨a1, z1, rfl⟩ := hrep.form
    have hc0 := E.cell0 (by omega)
    have hix := E.idx
    simp +contextual (dsimp := false) [hix, E.goB, E.le, E.lt, hc0, hlen]
    refine CallK.of ⟨_, Tryz.func53, rfl, rfl⟩ (markDeedS_ac hrep (E.ndi hnd) (k + sumN accM (l.take i)) (by simp) (by omega)) ?_
    rintro v S1 ⟨rfl, q1, q2, q3⟩
    simp +contextual (dsimp := false) [wrap_succ (show i < 9223372036854775807 by omega)]
    have hsame := SlR.same E hnd q1 fun j hj hj2 => q3 j hj2
    rw [hm0] at hsame
    refine LoopN.of (i + 1, S1) ?_ ⟨h3, hsame, by dsimp only; omega, fun j hj => (q3 j fun hm => hj (E.sub j hm)).trans (hf j hj)⟩ (by dsimp only; omega)
    rw [show k + sumN accM (l.take (i + 1)) = k + sumN accM (l.take i) + sumN Deed.m l[i] by omega]
    simp
  · rw [mkP_all _ _ _ _ _ (by omega)] at hv
    rw [sumN_all _ _ _ (by omega)]
    first | exact ⟨hv, hl, hf⟩ | exact ⟨rfl, hv, hl, hf⟩ | (simp; exact ⟨hv, hl, hf⟩)
theorem eqIntS_ac {o1 o2 : Bool} {l1 l2 : List Int} {s1 s2 : Value} {F1 F2 : List Nat} {H : Heap} (hs1 : IntsR o1 H l1 [s1] F1) (hs2 : IntsR o2 H l2 [s2] F2) : AC Tryz.prog ng 43 [s1, s2] H fun v S' => v = .bool (decide (l1 = l2)) ∧ S' = H := by
  obtain ⟨a1, z1, rfl⟩ := hs1.form
  obtain ⟨a2, z2, rfl⟩ := hs2.form
  have hb := hs1.bound
  refine .flat (AC.go [] Tryz.func43 rfl Tryz.ntmps43 rfl ⟨mixed, by kernel_rfl⟩ ?_)
  simp +contextual (dsimp := false)
  refine ifA_dec (fun h => ?_) (fun h => ?_)
  · refine LoopA.up (σ := Nat) [0, 1, 5] (fun i => [(5, int i)]) (fun i => H) (fun i => i ≤ l1.length ∧ l1.take i = l2.take i) (fun i => l1.length - i) 0 (by simp) (by simp) ?_
    rintro i ⟨hi, hv⟩
    simp +contextual (dsimp := false)
    refine ifA_dec (fun h3 => ?_) (fun h3 => ?_)
    · obtain ⟨id, o, c, e, f, ow, cs, Fi, E⟩ := SlR.get hs1 i h3
      obtain ⟨rfl, rfl, hok⟩ := E.rep
      obtain ⟨id', o', c', e', f', ow', cs', Fi', E'⟩ := SlR.get hs2 i (by omega)
      obtain ⟨rfl, rfl, hok'⟩ := E'.rep
      have hc0 := E.cell0 (by omega)
      have hc0' := E'.cell0 (by omega)
      simp +contextual (dsimp := false) [E.idx, E.goB, E.lt, E.le, hc0, E'.idx, E'.goB, E'.lt, E'.le, hc0', wrap_succ (show i < 9223372036854775807 by omega)]
      refine ifA_dec (fun h4 => ?_) (fun h4 => ?_)
      · refine LoopN.of (i + 1) rfl ⟨h3, ?_⟩ (by omega)
        rw [List.take_succ_eq_append_getElem h3, List.take_succ_eq_append_getElem (show i < l2.length by omega), hv, h4]
      · try simp
        rintro rfl
        exact h4 rfl
    · rw [List.take_of_length_le (by omega), List.take_of_length_le (by omega)] at hv
      simp [hv]
  · try simp
    rintro rfl
    exact h rfl
abbrev intK (k : Nat) (_ : Int) : Int := (k : Int)
abbrev intM (_ : Int) : Nat := 1
theorem markIntS_ac {l : List Int} {s : Value} {F : List Nat} {H : Heap} (hs : IntsR true H l [s] F) (hnd : F.Nodup) (k : Nat) {e : Int} (hek : e = k) (hk : k + l.length ≤ 1000000000) :
    AC Tryz.prog ng 44 [s, int e] H fun v S' => v = int ((k + l.length : Nat) : Int) ∧ IntsR true S' (mkL intK intM k l) [s] F ∧ S'.length = H.length ∧ ∀ j, j ∉ F → S'[j]? = H[j]? := by
  subst hek
  obtain ⟨a, z, rfl⟩ := hs.form
  have hb := hs.bound
  refine AC.go [] Tryz.func44 rfl Tryz.ntmps44 rfl ⟨mixed, by kernel_rfl⟩ ?_
  simp +contextual (dsimp := false)
  have hsum : ∀ i, i ≤ l.length → sumN intM (l.take i) = i := fun i hi => by rw [sumN_const]; simp; omega
  refine LoopA.up (σ := Nat × Heap) [0, 1, 5] (fun x => [(1, int ((k + x.1 : Nat) : Int)), (5, int x.1)]) (fun x => x.2)
    (fun x => x.1 ≤ l.length ∧ IntsR true x.2 (mkP intK intM k l x.1) [.slice a l.length z] F ∧ x.2.length = H.length ∧ ∀ j, j ∉ F → x.2[j]? = H[j]?) (fun x => l.length - x.1) (0, H) (by simp) ⟨by simp, by rw [mkP_z]; exact hs, rfl, fun _ _ => rfl⟩ ?_
  rintro ⟨i, hp⟩ ⟨hi, hv, hl, hf⟩
  dsimp only at hi hv hl hf
  simp +contextual (dsimp := false)
  refine ifA_dec (fun h3 => ?_) (fun h3 => ?_)
  · have hlen := mkP_length intK intM k l i
    have hm0 := mkP_s intK intM k l i h3
    rw [hsum i hi] at hm0
    obtain ⟨id, o, c, e, f, ow, cs, Fi, E⟩ := SlR.get hv i (by omega)
    obtain rfl := E.own' rfl
    have hix := E.idx
    have hle := E.le
    have hset := E.set hnd rfl (x' := intK (k + i) l[i]) (cs' := [.int .i64 ((k + i : Nat) : Int)]) rfl (by
      obtain ⟨_, hFi, _⟩ := E.rep
      exact ⟨rfl, hFi, ⟨by simp only [intK]; omega, by simp only [intK]; omega⟩⟩)
    rw [hm0] at hset
    have hw1 : IntKind.i64.wrap ((k : Int) + i + 1) = (k : Int) + i + 1 := wrap_of _ (by omega) (by omega)
    simp +contextual (dsimp := false) [hix, E.goB, E.le, E.lt, hlen, hw1, wrap_succ (show i < 9223372036854775807 by omega)]
    refine LoopN.of (i + 1, _) ?_ ⟨h3, hset, by simp [hl], fun j hj => (List.getElem?_set_ne (by rintro rfl; exact hj E.mem)).trans (hf j hj)⟩ (by dsimp only; omega)
    simp [Int.add_assoc]
  · obtain rfl : i = l.length := by omega
    rw [mkP_all _ _ _ _ _ (by omega)] at hv
    first | exact ⟨hv, hl, hf⟩ | exact ⟨rfl, hv, hl, hf⟩ | (simp; exact ⟨hv, hl, hf⟩)
theorem heldIntS_ac {own : Bool} {l : List Int} {k : Nat} {s : Value} {F : List Nat} {H : Heap} (hs : IntsR own H (mkL intK intM k l) [s] F) {e : Int} (hek : e = k) (hk : k + l.length ≤ 1000000000) :
    AC Tryz.prog ng 45 [s, int e] H fun v S' => v = int ((k + l.length : Nat) : Int) ∧ S' = H := by
  subst hek
  have hlen := mkL_length intK intM l k
  obtain ⟨a, z, hse⟩ := hs.form
  rw [hlen] at hse
  subst hse
  have hb := hs.bound
  rw [hlen] at hb
  have hsum : ∀ i, i ≤ l.length → sumN intM (l.take i) = i := fun i hi => by rw [sumN_const]; simp; omega
  refine .flat (AC.go [] Tryz.func45 rfl Tryz.ntmps45 rfl ⟨mixed, by kernel_rfl⟩ ?_)
  simp +contextual (dsimp := false)
  refine LoopA.upc (σ := Nat) [0, 1, 5] (fun i => [(1, int ((k + i : Nat) : Int)), (5, int i)]) (fun i => i ≤ l.length) (fun i => l.length - i) 0 (by simp) (by simp) ?_
  rintro i hi
  simp +contextual (dsimp := false) [hlen]
  refine ifA_dec (fun h3 => ?_) (fun h3 => ?_)
  · obtain ⟨id, o, c, e, f, ow, cs, Fi, E⟩ := SlR.get hs i (by omega)
    obtain ⟨rfl, rfl, hok⟩ := E.rep
    have hg := mkL_get intK intM l k i h3
    rw [hsum i hi] at hg
    have hc0 := E.cell0 (by omega)
    have hix := E.idx
    have hw1 : IntKind.i64.wrap ((k : Int) + i + 1) = (k : Int) + i + 1 := wrap_of _ (by omega) (by omega)
    simp +contextual (dsimp := false) [hix, E.goB, E.lt, E.le, hc0, hg, hlen, hw1, wrap_succ (show i < 9223372036854775807 by omega)]
    refine LoopN.of (i + 1) ?_ h3 (by omega)
    simp [Int.add_assoc]
  · obtain rfl : i = l.length := by omega
    simp
end Go.Proofs.YtephpieeibcihaaGreatDoor
