import Derived.Test.YtbigpkfdeaigeaaGreatDoorStr
import Derived.Test.YtbigpkfdeaigeaaGreatDoorDat2
import Derived.Test.YtbigpkfdeaigeaaGreatDoorF2
/- The exact laws' helpers for plain records. No condition. -/
set_option linter.unusedSimpArgs false
set_option linter.unusedVariables false
namespace Go.Proofs.YtbigpkfdeaigeaaGreatDoor
open Go Go.Am Go.Proofs
set_option maxRecDepth 20000
set_option linter.unusedSimpArgs false
set_option linter.unusedVariables false
variable {ng : Nat}
theorem markInsS_ac {l : List Ins} {s : Value} {F : List Nat} {H : Heap} (hs : CodeR true H l [s] F) (hnd : F.Nodup) (k : Nat) {e : Int} (hek : e = k) (hk : k + sumN Ins.m l ≤ 1000000000) :
    AC Tryz.prog ng 108 [s, int e] H fun v S' => v = int ((k + sumN Ins.m l : Nat) : Int) ∧ CodeR true S' (mkL Ins.mk' Ins.m k l) [s] F ∧ S'.length = H.length ∧ ∀ j, j ∉ F → S'[j]? = H[j]? := by
  subst hek
  obtain ⟨a, z, rfl⟩ := hs.form
  have hb := hs.bound
  refine AC.go [] Tryz.func108 rfl Tryz.ntmps108 rfl ⟨mixed, by kernel_rfl⟩ ?_
  simp +contextual (dsimp := false)
  refine LoopA.up (σ := Nat × Heap) [0, 1, 5] (fun x => [(1, int ((k + sumN Ins.m (l.take x.1) : Nat) : Int)), (5, int x.1)]) (fun x => x.2)
    (fun x => x.1 ≤ l.length ∧ CodeR true x.2 (mkP Ins.mk' Ins.m k l x.1) [.slice a l.length z] F ∧ x.2.length = H.length ∧ ∀ j, j ∉ F → x.2[j]? = H[j]?) (fun x => l.length - x.1) (0, H) (by simp [sumN_nil]) ⟨by simp, by rw [mkP_z]; exact hs, rfl, fun _ _ => rfl⟩ ?_
  rintro ⟨i, hp⟩ ⟨hi, hv, hl, hf⟩
  dsimp only at hi hv hl hf
  simp +contextual (dsimp := false)
  refine ifA_dec (fun h3 => ?_) (fun h3 => ?_)
  · have hlen := mkP_length Ins.mk' Ins.m k l i
    have hst := sumN_take Ins.m l i h3
    have hsl := sumN_take_le Ins.m l (i + 1)
    have hm : Ins.m l[i] = 3 := rfl
    obtain ⟨id, o, c, e, f, ow, cs, Fi, E⟩ := SlR.get hv i (by omega)
    have hrep := E.rep
    rw [mkP_get _ _ _ _ _ h3] at hrep
    obtain ⟨rfl, rfl, hok⟩ := hrep
    obtain rfl := E.own' rfl
    have hle := E.le
    have hle1 : o + 1 ≤ c.size := by omega
    have hle2 : o + 1 + 1 ≤ c.size := by omega
    have hle3 : o + 1 + 1 + 1 ≤ c.size := by omega
    have hlf1 : o + 1 + 1 ≤ c.size := by omega
    have hlf2 : o + 2 + 1 ≤ c.size := by omega
    have hm0 := mkP_s Ins.mk' Ins.m k l i h3
    generalize hQ : sumN Ins.m (l.take i) = q at *
    have hw1 : IntKind.i64.wrap ((k : Int) + q + 1) = (k : Int) + q + 1 := (wrap_of ((k : Int) + q + 1) (by omega) (by omega)).trans (by omega)
    have hw2 : IntKind.i64.wrap ((k : Int) + q + 1 + 1) = (k : Int) + q + 2 := (wrap_of ((k : Int) + q + 1 + 1) (by omega) (by omega)).trans (by omega)
    have hw3 : IntKind.i64.wrap ((k : Int) + q + 2 + 1) = (k : Int) + q + 3 := (wrap_of ((k : Int) + q + 2 + 1) (by omega) (by omega)).trans (by omega)
    simp +contextual (dsimp := false) [E.idx, E.goB, goB_self E.lt, E.le, E.lt, hlen, setL_size, hw1, hw2, hw3, hle1, hle2, hle3, hlf1, hlf2]
    refine CallK.fl ⟨_, Tryz.func55, rfl, rfl⟩ (markText_ac (k + q + 1) (by omega) (by omega) _) ?_
    simp +contextual (dsimp := false) [E.idx, E.goB, goB_self E.lt, E.le, E.lt, hlen, setL_size, hw1, hw2, hw3, hle1, hle2, hle3, hlf1, hlf2]
    rw [setL_app _ _ [_] _ (o + 1) rfl]
    simp only [List.cons_append, List.nil_append]
    first | rw [setL_app _ _ [_, _] _ (o + 1 + 1) rfl] | rw [setL_app _ _ [_, _] _ (o + 2) rfl]
    have hset := E.set hnd rfl rfl (show InsR hp (Ins.mk' (k + q) l[i]) [int ((k + q : Nat) : Int), str (mText (k + q + 1)), int ((k + q + 2 : Nat) : Int)] [] from ⟨rfl, rfl, ⟨show i64 ((k + q : Nat) : Int) from ⟨by omega, by omega⟩, show okS (mText (k + q + 1)) from mText_ok (by omega), show i64 ((k + q + 2 : Nat) : Int) from ⟨by omega, by omega⟩⟩⟩)
    rw [hm0] at hset
    refine LoopN.of (i + 1, _) ?_ ⟨h3, hset, ?_, ?_⟩ (by dsimp only; omega)
    · simp [wrap_succ (show i < 9223372036854775807 by omega), hst, hm, Int.add_assoc]
    · simp [hl]
    · intro j hj
      dsimp only
      rw [List.getElem?_set_ne (by rintro rfl; exact hj E.mem), hf j hj]
  · rw [mkP_all _ _ _ _ _ (by omega)] at hv
    have := sumN_all Ins.m l i (by omega)
    exact ⟨by omega, hv, hl, hf⟩
theorem szLink_ac (x : Lnk) (hx : x.ok) (left : Int) (hl : 0 ≤ left ∧ left ≤ 1048576) (H : Heap) : AC Tryz.prog ng 173 [.agg x.c.toArray, int left] H fun v S' => v = int (szR left x.w) ∧ S' = H := by
  obtain ⟨h0, h1⟩ := hx
  unfold okS at *
  have hw0 : IntKind.i64.wrap (left - x.name.length) = left - x.name.length := wrap_of _ (by omega) (by omega)
  refine .flat (AC.go [] Tryz.func173 rfl Tryz.ntmps173 rfl ⟨mixed, by kernel_rfl⟩ ?_)
  simp +contextual (dsimp := false) [Lnk.c, hw0]
  
  refine ifA_dec (fun _ => ?_) (fun _ => ?_)
  · rw [szR_neg (by simp only [Lnk.w]; omega)]
  · rw [szR_ge (by simp only [Lnk.w]; omega)]
    simp only [Lnk.w]
    try simp
    try omega
theorem toLink_ac (x : Lnk) (H : Heap) : AC Tryz.prog ng 177 [.agg x.c.toArray] H fun v S' => v = .agg x.c.toArray ∧ S' = H := by
  refine .flat (AC.go [] Tryz.func177 rfl Tryz.ntmps177 rfl ⟨mixed, by kernel_rfl⟩ ?_)
  simp +contextual (dsimp := false) [Lnk.c]
theorem eqLink_ac (x y : Lnk) (H : Heap) : AC Tryz.prog ng 194 [.agg x.c.toArray, .agg y.c.toArray] H fun v S' => v = .bool (decide (x = y)) ∧ S' = H := by
  refine .flat (AC.go [] Tryz.func194 rfl Tryz.ntmps194 rfl ⟨mixed, by kernel_rfl⟩ ?_)
  cases x
  cases y
  simp +contextual (dsimp := false) [Lnk.c, bin_bneq und4]
  simp [ifA_ite]
  try grind
theorem szLinkS_ac {own : Bool} {l : List Lnk} {s : Value} {F : List Nat} {H : Heap} (hs : LnksR own H l [s] F) (left : Int) (hl : 0 ≤ left ∧ left ≤ 1048576) : AC Tryz.prog ng 142 [s, int left] H fun v S' => v = int (szR left (wL Lnk.w l)) ∧ S' = H := by
  obtain ⟨a, z, rfl⟩ := hs.form
  have hb := hs.bound
  refine .flat (AC.go [] Tryz.func142 rfl Tryz.ntmps142 rfl ⟨mixed, by kernel_rfl⟩ ?_)
  have hw : IntKind.i64.wrap (left - (l.length : Int)) = left - l.length := wrap_of _ (by omega) (by omega)
  simp +contextual (dsimp := false) [hw]
  refine ifA_dec (fun h => ?_) (fun h => ?_)
  · rw [szR_neg (by unfold wL; omega)]
  refine LoopA.up (σ := Nat) [0, 1, 5] (fun i => [(1, int (left - l.length - wS Lnk.w l i)), (5, int i)]) (fun i => H) (fun i => i ≤ l.length ∧ 0 ≤ left - l.length - wS Lnk.w l i) (fun i => l.length - i) 0
    (by simp) (by simp; omega) ?_
  rintro i ⟨hi, hv⟩
  simp +contextual (dsimp := false)
  refine ifA_dec (fun h3 => ?_) (fun h3 => ?_)
  · obtain ⟨id, o, c, e, f, ow, cs, Fi, E⟩ := SlR.get hs i h3
    obtain ⟨rfl, rfl, hok⟩ := E.rep
    simp +contextual (dsimp := false) [E.idx, E.goB, E.lt, E.le, E.ext, Lnk.c]
    refine CallK.fl ⟨_, Tryz.func173, rfl, rfl⟩ (szLink_ac l[i] hok _ (by omega) _) ?_
    simp +contextual (dsimp := false) [wrap_succ (show i < 9223372036854775807 by omega)]
    have hst := wS_s Lnk.w l i h3
    have hsl := wS_le Lnk.w l (i + 1)
    refine ifA_dec (fun h4 => ?_) (fun h4 => ?_)
    · rw [szR_lt hv] at h4
      rw [szR_neg (by omega)]
    · rw [szR_lt hv] at h4
      refine LoopN.of (i + 1) ?_ ⟨h3, by omega⟩ (by omega)
      rw [szR_ge (by omega), show left - l.length - wS Lnk.w l i - l[i].w = left - l.length - wS Lnk.w l (i + 1) by omega]
      simp
  · have := wS_all Lnk.w l i (by omega)
    rw [szR_ge (by omega)]
    try simp
    omega
theorem toLinkS_ac {own : Bool} {l : List Lnk} {s : Value} {F : List Nat} {H : Heap} (hs : LnksR own H l [s] F) (hl : wL Lnk.w l ≤ 1048576) : AC Tryz.prog ng 145 [s] H fun v S' => ∃ F', Ext H S' ∧ LnksR true S' l [v] F' ∧ Fresh H.length F' := by
  obtain ⟨a, z, rfl⟩ := hs.form
  have hb := hs.bound
  have hll := wL_le Lnk.w l
  refine AC.go [] Tryz.func145 rfl Tryz.ntmps145 rfl ⟨mixed, by kernel_rfl⟩ ?_
  simp +contextual (dsimp := false)
  obtain ⟨hm, hr⟩ := SlR.make (H := H) (R := LnkR) slt55 zer129 Lnk.zero (fun H => ⟨rfl, rfl, Lnk.zero_ok⟩) (show l.length * 32 ≤ 281474976710656 by omega) hb
  refine MakeK.of hm ?_
  simp +contextual (dsimp := false)
  refine LoopA.up (σ := Nat × Heap × List Nat) [0, 3, 4] (fun x => [(4, int x.1)]) (fun x => x.2.1)
    (fun x => x.1 ≤ l.length ∧ Ext H x.2.1 ∧ LnksR true x.2.1 (partL l Lnk.zero x.1) [.slice (some ⟨H.length, 0, none⟩) l.length 4] x.2.2 ∧ Fresh H.length x.2.2) (fun x => l.length - x.1) (0, _, [H.length]) rfl ⟨by simp, by simp, by rw [partL_z]; exact hr, by simp [Fresh]⟩ ?_
  rintro ⟨i, hp, F1⟩ ⟨hi, he, hv, hf⟩
  dsimp only at hi he hv hf
  simp +contextual (dsimp := false)
  refine ifA_dec (fun h3 => ?_) (fun h3 => ?_)
  · obtain ⟨id, o, c, e, f, ow, cs, Fi, E⟩ := SlR.get (Rp.ext hs he) i h3
    obtain ⟨rfl, rfl, hok⟩ := E.rep
    obtain ⟨id', o', c', e', f', ow', cs', Fi', E'⟩ := SlR.get hv i (by rw [partL_length _ _ _ hi]; exact h3)
    obtain ⟨_, rfl, _⟩ := E'.rep
    obtain rfl := E'.own' rfl
    simp +contextual (dsimp := false) [E.idx, E.goB, E.le, E.ext, Lnk.c]
    refine CallK.fl ⟨_, Tryz.func177, rfl, rfl⟩ (toLink_ac l[i] _) ?_
    simp +contextual (dsimp := false) [wrap_succ (show i < 9223372036854775807 by omega), E'.idx, E'.goB, E'.le, Lnk.c]
    have hset := E'.set hf.2 rfl rfl (show LnkR hp l[i] l[i].c [] from ⟨rfl, rfl, hok⟩)
    rw [partL_s _ _ _ h3] at hset
    exact LoopN.of (i + 1, _, F1) rfl ⟨h3, he.set (hf.1 _ E'.mem) _, hset, hf⟩ (by dsimp only; omega)
  · rw [partL_all _ _ _ (by omega)] at hv
    first | exact ⟨he, F1, hv, hf⟩ | exact ⟨F1, he, hv, hf⟩
theorem eqLinkS_ac {o1 o2 : Bool} {l1 l2 : List Lnk} {s1 s2 : Value} {F1 F2 : List Nat} {H : Heap} (hs1 : LnksR o1 H l1 [s1] F1) (hs2 : LnksR o2 H l2 [s2] F2) : AC Tryz.prog ng 154 [s1, s2] H fun v S' => v = .bool (decide (l1 = l2)) ∧ S' = H := by
  obtain ⟨a1, z1, rfl⟩ := hs1.form
  obtain ⟨a2, z2, rfl⟩ := hs2.form
  have hb := hs1.bound
  refine .flat (AC.go [] Tryz.func154 rfl Tryz.ntmps154 rfl ⟨mixed, by kernel_rfl⟩ ?_)
  simp +contextual (dsimp := false)
  refine ifA_dec (fun h => ?_) (fun h => ?_)
  · refine LoopA.up (σ := Nat) [0, 1, 5] (fun i => [(5, int i)]) (fun i => H) (fun i => i ≤ l1.length ∧ l1.take i = l2.take i) (fun i => l1.length - i) 0 (by simp) (by simp) ?_
    rintro i ⟨hi, hv⟩
    simp +contextual (dsimp := false)
    refine ifA_dec (fun h3 => ?_) (fun h3 => ?_)
    · obtain ⟨id, o, c, e, f, ow, cs, Fi, E⟩ := SlR.get hs1 i h3
      obtain ⟨rfl, rfl, hok⟩ := E.rep
      obtain ⟨id', o', c', e', f', ow', cs', Fi', E'⟩ := SlR.get hs2 i (by omega)
      obtain ⟨rfl, rfl, hok'⟩ := E'.rep
      simp +contextual (dsimp := false) [E.idx, E.goB, E.lt, E.le, E.ext, E'.idx, E'.goB, E'.lt, E'.le, E'.ext, Lnk.c]
      refine CallK.fl ⟨_, Tryz.func194, rfl, rfl⟩ (eqLink_ac l1[i] l2[i] _) ?_
      simp +contextual (dsimp := false) [wrap_succ (show i < 9223372036854775807 by omega)]
      refine ifA_dec (fun h4 => ?_) (fun h4 => ?_)
      · refine LoopN.of (i + 1) rfl ⟨h3, ?_⟩ (by omega)
        rw [List.take_succ_eq_append_getElem h3, List.take_succ_eq_append_getElem (show i < l2.length by omega), hv, h4]
      · try simp
        rintro rfl
        exact h4 rfl
    · rw [List.take_of_length_le (by omega), List.take_of_length_le (by omega)] at hv
      simp [hv]
  · try simp
    rintro rfl
    exact h rfl
theorem markLinkS_ac {l : List Lnk} {s : Value} {F : List Nat} {H : Heap} (hs : LnksR true H l [s] F) (hnd : F.Nodup) (k : Nat) {e : Int} (hek : e = k) (hk : k + sumN Lnk.m l ≤ 1000000000) :
    AC Tryz.prog ng 109 [s, int e] H fun v S' => v = int ((k + sumN Lnk.m l : Nat) : Int) ∧ LnksR true S' (mkL Lnk.mk' Lnk.m k l) [s] F ∧ S'.length = H.length ∧ ∀ j, j ∉ F → S'[j]? = H[j]? := by
  subst hek
  obtain ⟨a, z, rfl⟩ := hs.form
  have hb := hs.bound
  refine AC.go [] Tryz.func109 rfl Tryz.ntmps109 rfl ⟨mixed, by kernel_rfl⟩ ?_
  simp +contextual (dsimp := false)
  refine LoopA.up (σ := Nat × Heap) [0, 1, 5] (fun x => [(1, int ((k + sumN Lnk.m (l.take x.1) : Nat) : Int)), (5, int x.1)]) (fun x => x.2)
    (fun x => x.1 ≤ l.length ∧ LnksR true x.2 (mkP Lnk.mk' Lnk.m k l x.1) [.slice a l.length z] F ∧ x.2.length = H.length ∧ ∀ j, j ∉ F → x.2[j]? = H[j]?) (fun x => l.length - x.1) (0, H) (by simp [sumN_nil]) ⟨by simp, by rw [mkP_z]; exact hs, rfl, fun _ _ => rfl⟩ ?_
  rintro ⟨i, hp⟩ ⟨hi, hv, hl, hf⟩
  dsimp only at hi hv hl hf
  simp +contextual (dsimp := false)
  refine ifA_dec (fun h3 => ?_) (fun h3 => ?_)
  · have hlen := mkP_length Lnk.mk' Lnk.m k l i
    have hst := sumN_take Lnk.m l i h3
    have hsl := sumN_take_le Lnk.m l (i + 1)
    have hm : Lnk.m l[i] = 4 := rfl
    obtain ⟨id, o, c, e, f, ow, cs, Fi, E⟩ := SlR.get hv i (by omega)
    have hrep := E.rep
    rw [mkP_get _ _ _ _ _ h3] at hrep
    obtain ⟨rfl, rfl, hok⟩ := hrep
    obtain rfl := E.own' rfl
    have hle := E.le
    have hle1 : o + 1 ≤ c.size := by omega
    have hle2 : o + 1 + 1 ≤ c.size := by omega
    have hle3 : o + 1 + 1 + 1 ≤ c.size := by omega
    have hle4 : o + 1 + 1 + 1 + 1 ≤ c.size := by omega
    have hlf1 : o + 1 + 1 ≤ c.size := by omega
    have hlf2 : o + 2 + 1 ≤ c.size := by omega
    have hlf3 : o + 3 + 1 ≤ c.size := by omega
    have hm0 := mkP_s Lnk.mk' Lnk.m k l i h3
    generalize hQ : sumN Lnk.m (l.take i) = q at *
    have hw1 : IntKind.i64.wrap ((k : Int) + q + 1) = (k : Int) + q + 1 := (wrap_of ((k : Int) + q + 1) (by omega) (by omega)).trans (by omega)
    have hw2 : IntKind.i64.wrap ((k : Int) + q + 1 + 1) = (k : Int) + q + 2 := (wrap_of ((k : Int) + q + 1 + 1) (by omega) (by omega)).trans (by omega)
    have hw3 : IntKind.i64.wrap ((k : Int) + q + 2 + 1) = (k : Int) + q + 3 := (wrap_of ((k : Int) + q + 2 + 1) (by omega) (by omega)).trans (by omega)
    have hw4 : IntKind.i64.wrap ((k : Int) + q + 3 + 1) = (k : Int) + q + 4 := (wrap_of ((k : Int) + q + 3 + 1) (by omega) (by omega)).trans (by omega)
    have ht1 : decide (((k : Int) + q + 1).tmod 3 = 0) = decide ((k + q + 1) % 3 = 0) := by rw [Int.tmod_eq_emod_of_nonneg (by omega)]; congr 1; apply propext; omega
    have ht2 : decide (((k : Int) + q + 2).tmod 3 = 0) = decide ((k + q + 2) % 3 = 0) := by rw [Int.tmod_eq_emod_of_nonneg (by omega)]; congr 1; apply propext; omega
    have ht3 : decide (((k : Int) + q + 3).tmod 3 = 0) = decide ((k + q + 3) % 3 = 0) := by rw [Int.tmod_eq_emod_of_nonneg (by omega)]; congr 1; apply propext; omega
    refine CallK.fl ⟨_, Tryz.func55, rfl, rfl⟩ (markText_ac (k + q) (by omega) (by omega) _) ?_
    simp +contextual (dsimp := false) [E.idx, E.goB, goB_self E.lt, E.le, E.lt, hlen, setL_size, ht1, ht2, ht3, hw1, hw2, hw3, hw4, hle1, hle2, hle3, hle4, hlf1, hlf2, hlf3]
    rw [setL_app _ _ [_] _ (o + 1) rfl]
    simp only [List.cons_append, List.nil_append]
    first | rw [setL_app _ _ [_, _] _ (o + 1 + 1) rfl] | rw [setL_app _ _ [_, _] _ (o + 2) rfl]
    simp only [List.cons_append, List.nil_append]
    first | rw [setL_app _ _ [_, _, _] _ (o + 1 + 1 + 1) rfl] | rw [setL_app _ _ [_, _, _] _ (o + 3) rfl]
    have hset := E.set hnd rfl rfl (show LnkR hp (Lnk.mk' (k + q) l[i]) [str (mText (k + q)), .bool (decide ((k + q + 1) % 3 = 0)), .bool (decide ((k + q + 2) % 3 = 0)), int ((k + q + 3 : Nat) : Int)] [] from ⟨rfl, rfl, ⟨show okS (mText (k + q)) from mText_ok (by omega), show i64 ((k + q + 3 : Nat) : Int) from ⟨by omega, by omega⟩⟩⟩)
    rw [hm0] at hset
    refine LoopN.of (i + 1, _) ?_ ⟨h3, hset, ?_, ?_⟩ (by dsimp only; omega)
    · simp [wrap_succ (show i < 9223372036854775807 by omega), hst, hm, Int.add_assoc]
    · simp [hl]
    · intro j hj
      dsimp only
      rw [List.getElem?_set_ne (by rintro rfl; exact hj E.mem), hf j hj]
  · rw [mkP_all _ _ _ _ _ (by omega)] at hv
    have := sumN_all Lnk.m l i (by omega)
    exact ⟨by omega, hv, hl, hf⟩
end Go.Proofs.YtbigpkfdeaigeaaGreatDoor

/- The exact laws' helpers for records with lists. No condition. -/
set_option linter.unusedSimpArgs false
set_option linter.unusedVariables false
namespace Go.Proofs.YtbigpkfdeaigeaaGreatDoor
open Go Go.Am Go.Proofs
set_option maxRecDepth 20000
set_option linter.unusedSimpArgs false
set_option linter.unusedVariables false
variable {ng : Nat}
theorem szDeed_ac {own : Bool} {x : Deed} {c : List Value} {F : List Nat} {H : Heap} (h : DeedR own H x c F) (left : Int) (hl : 0 ≤ left ∧ left ≤ 1048576) : AC Tryz.prog ng 99 [.agg c.toArray, int left] H fun v S' => v = int (szR left x.w) ∧ S' = H := by
  obtain ⟨hk, s1, s2, G1, G2, rfl, rfl, hc1, hc2⟩ := h
  obtain ⟨a1, z1, rfl⟩ := hc1.form
  obtain ⟨a2, z2, rfl⟩ := hc2.form
  obtain ⟨ho0, ho1, ho2, ho3⟩ := hk
  unfold okS at *
  have hw0 : IntKind.i64.wrap (left - x.name.length) = left - x.name.length := wrap_of _ (by omega) (by omega)
  have hw1 : IntKind.i64.wrap (left - x.name.length - x.text.length) = left - x.name.length - x.text.length := wrap_of _ (by omega) (by omega)
  refine .flat (AC.go [] Tryz.func99 rfl Tryz.ntmps99 rfl ⟨mixed, by kernel_rfl⟩ ?_)
  simp +contextual (dsimp := false) [hw0, hw1]
  refine ifA_dec (fun _ => ?_) (fun _ => ?_)
  · rw [szR_neg (by simp only [Deed.w]; omega)]
  refine ifA_dec (fun _ => ?_) (fun _ => ?_)
  · rw [szR_neg (by simp only [Deed.w]; omega)]
  refine CallK.fl ⟨_, Tryz.func141, rfl, rfl⟩ (szProgram_ac (Rp.ext hc1 (Ext.app _ _)) (left - x.name.length - x.text.length) (by omega)) ?_
  simp +contextual (dsimp := false)
  refine ifA_dec (fun h => ?_) (fun h => ?_)
  · rw [szR_lt (by omega)] at h
    rw [szR_neg (by simp only [Deed.w]; omega)]
  rw [szR_lt (by omega)] at h
  rw [szR_ge (by omega)]
  refine CallK.fl ⟨_, Tryz.func142, rfl, rfl⟩ (szLinkS_ac (Rp.ext hc2 (Ext.app _ _)) (left - x.name.length - x.text.length - (wL Ins.w x.action : Nat)) (by omega)) ?_
  simp +contextual (dsimp := false)
  refine ifA_dec (fun h => ?_) (fun h => ?_)
  · rw [szR_lt (by omega)] at h
    rw [szR_neg (by simp only [Deed.w]; omega)]
  rw [szR_lt (by omega)] at h
  rw [szR_ge (by omega), szR_ge (by simp only [Deed.w]; omega)]
  simp only [Deed.w]
  try simp
  try omega
theorem toDeed_ac {own : Bool} {x : Deed} {c : List Value} {F : List Nat} {H : Heap} (h : DeedR own H x c F) (hl : x.w ≤ 1048576) : AC Tryz.prog ng 103 [.agg c.toArray] H fun v S' => ∃ c' F', v = .agg c'.toArray ∧ Ext H S' ∧ DeedR true S' x c' F' ∧ Fresh H.length F' := by
  obtain ⟨hk, s1, s2, G1, G2, rfl, rfl, hc1, hc2⟩ := h
  obtain ⟨a1, z1, rfl⟩ := hc1.form
  obtain ⟨a2, z2, rfl⟩ := hc2.form
  obtain ⟨ho0, ho1, ho2, ho3⟩ := hk
  refine AC.go [] Tryz.func103 rfl Tryz.ntmps103 rfl ⟨mixed, by kernel_rfl⟩ ?_
  simp +contextual (dsimp := false)
  refine CallK.of ⟨_, Tryz.func144, rfl, rfl⟩ (toProgram_ac (Rp.ext hc1 (Ext.app _ _)) (by have := wL_le Ins.w x.action; simp only [Deed.w] at hl; omega)) ?_
  rintro v S1 ⟨u1, D1, rfl, he1, hv1, hf1⟩
  obtain ⟨b1, y1, rfl⟩ := hv1.form
  obtain ⟨X1, rfl⟩ := he1.split
  try simp only [List.append_assoc, List.cons_append, List.nil_append] at hv1 ⊢
  simp [Fresh] at hf1
  simp +contextual (dsimp := false)
  refine CallK.of ⟨_, Tryz.func145, rfl, rfl⟩ (toLinkS_ac (Rp.ext hc2 (Ext.app _ _)) (by simp only [Deed.w] at hl; omega)) ?_
  rintro v S2 ⟨D2, he2, hv2, hf2⟩
  obtain ⟨b2, y2, rfl⟩ := hv2.form
  obtain ⟨X2, rfl⟩ := he2.split
  try simp only [List.append_assoc, List.cons_append, List.nil_append] at hv2 ⊢
  simp [Fresh] at hf2
  simp +contextual (dsimp := false)
  refine ⟨D1 ++ D2, ⟨⟨ho0, ho1, ho2, ho3⟩, _, _, D1, D2, rfl, rfl, Rp.fr hv1 fun i hi => by exact fr3 (hf1.1 i hi) (Rp.lt hv1 i hi), Rp.fr hv2 fun i hi => by exact fr_drop 3 (by rfl) (by have := hf2.1 i hi; omega)⟩, fun i hi => ?_, List.nodup_append.2 ⟨hf1.2, hf2.2, fun a ha b hb hab => ?_⟩⟩
  · rcases List.mem_append.1 hi with h | h
    · have := hf1.1 i h; omega
    · have := hf2.1 i h; omega
  · subst hab
    have h1 := Rp.lt hv1 a ha
    have h2 := hf2.1 a hb
    simp only [List.length_append, List.length_cons] at h1
    omega
theorem eqDeed_ac {o1 o2 : Bool} {x y : Deed} {c1 c2 : List Value} {F1 F2 : List Nat} {H : Heap} (h1 : DeedR o1 H x c1 F1) (h2 : DeedR o2 H y c2 F2) : AC Tryz.prog ng 107 [.agg c1.toArray, .agg c2.toArray] H fun v S' => v = .bool (decide (x = y)) ∧ S' = H := by
  obtain ⟨hk, s1, s2, G1, G2, rfl, rfl, hc1, hc2⟩ := h1
  obtain ⟨hk', s'1, s'2, G'1, G'2, rfl, rfl, hc'1, hc'2⟩ := h2
  obtain ⟨a1, z1, rfl⟩ := hc1.form
  obtain ⟨a2, z2, rfl⟩ := hc2.form
  obtain ⟨a'1, z'1, rfl⟩ := hc'1.form
  obtain ⟨a'2, z'2, rfl⟩ := hc'2.form
  refine .flat (AC.go [] Tryz.func107 rfl Tryz.ntmps107 rfl ⟨mixed, by kernel_rfl⟩ ?_)
  simp +contextual (dsimp := false) [str_eq]
  refine ifA_dec (fun h3 => ?_) (fun h3 => ?_)
  rotate_left
  · try simp
    rintro rfl
    exact h3 rfl
  refine ifA_dec (fun h3 => ?_) (fun h3 => ?_)
  rotate_left
  · try simp
    rintro rfl
    exact h3 rfl
  refine ifA_dec (fun h3 => ?_) (fun h3 => ?_)
  rotate_left
  · try simp
    rintro rfl
    exact h3 rfl
  refine ifA_dec (fun h3 => ?_) (fun h3 => ?_)
  rotate_left
  · try simp
    rintro rfl
    exact h3 rfl
  refine CallK.fl ⟨_, Tryz.func153, rfl, rfl⟩ (eqProgram_ac (Rp.ext hc1 (Ext.app _ _)) (Rp.ext hc'1 (Ext.app _ _))) ?_
  simp +contextual (dsimp := false)
  refine ifA_dec (fun h3 => ?_) (fun h3 => ?_)
  rotate_left
  · try simp
    rintro rfl
    exact h3 rfl
  refine CallK.fl ⟨_, Tryz.func154, rfl, rfl⟩ (eqLinkS_ac (Rp.ext hc2 (Ext.app _ _)) (Rp.ext hc'2 (Ext.app _ _))) ?_
  simp +contextual (dsimp := false)
  cases x
  cases y
  simp_all [ifA_ite]
theorem szDeedS_ac {own : Bool} {l : List Deed} {s : Value} {F : List Nat} {H : Heap} (hs : DeedsR own H l [s] F) (left : Int) (hl : 0 ≤ left ∧ left ≤ 1048576) : AC Tryz.prog ng 43 [s, int left] H fun v S' => v = int (szR left (wL Deed.w l)) ∧ S' = H := by
  obtain ⟨a, z, rfl⟩ := hs.form
  have hb := hs.bound
  refine .flat (AC.go [] Tryz.func43 rfl Tryz.ntmps43 rfl ⟨mixed, by kernel_rfl⟩ ?_)
  have hw : IntKind.i64.wrap (left - (l.length : Int)) = left - l.length := wrap_of _ (by omega) (by omega)
  simp +contextual (dsimp := false) [hw]
  refine ifA_dec (fun h => ?_) (fun h => ?_)
  · rw [szR_neg (by unfold wL; omega)]
  refine LoopA.up (σ := Nat) [0, 1, 5] (fun i => [(1, int (left - l.length - wS Deed.w l i)), (5, int i)]) (fun i => H) (fun i => i ≤ l.length ∧ 0 ≤ left - l.length - wS Deed.w l i) (fun i => l.length - i) 0
    (by simp) (by simp; omega) ?_
  rintro i ⟨hi, hv⟩
  simp +contextual (dsimp := false)
  refine ifA_dec (fun h3 => ?_) (fun h3 => ?_)
  · obtain ⟨id, o, c, e, f, ow, cs, Fi, E⟩ := SlR.get hs i h3
    have hrep0 := E.rep; obtain ⟨hk, s1, s2, G1, G2, rfl, rfl, hc1, hc2⟩ := E.rep
    simp +contextual (dsimp := false) [E.idx, E.goB, E.lt, E.le, E.ext]
    refine CallK.fl ⟨_, Tryz.func99, rfl, rfl⟩ (szDeed_ac hrep0 _ (by omega)) ?_
    simp +contextual (dsimp := false) [wrap_succ (show i < 9223372036854775807 by omega)]
    have hst := wS_s Deed.w l i h3
    have hsl := wS_le Deed.w l (i + 1)
    refine ifA_dec (fun h4 => ?_) (fun h4 => ?_)
    · rw [szR_lt hv] at h4
      rw [szR_neg (by omega)]
    · rw [szR_lt hv] at h4
      refine LoopN.of (i + 1) ?_ ⟨h3, by omega⟩ (by omega)
      rw [szR_ge (by omega), show left - l.length - wS Deed.w l i - l[i].w = left - l.length - wS Deed.w l (i + 1) by omega]
      simp
  · have := wS_all Deed.w l i (by omega)
    rw [szR_ge (by omega)]
    try simp
    omega
theorem toDeedS_ac {own : Bool} {l : List Deed} {s : Value} {F : List Nat} {H : Heap} (hs : DeedsR own H l [s] F) (hl : wL Deed.w l ≤ 1048576) : AC Tryz.prog ng 48 [s] H fun v S' => ∃ F', Ext H S' ∧ DeedsR true S' l [v] F' ∧ Fresh H.length F' := by
  obtain ⟨a, z, rfl⟩ := hs.form
  have hb := hs.bound
  have hll := wL_le Deed.w l
  refine AC.go [] Tryz.func48 rfl Tryz.ntmps48 rfl ⟨mixed, by kernel_rfl⟩ ?_
  simp +contextual (dsimp := false)
  obtain ⟨hm, hr⟩ := SlR.make (H := H) (R := (DeedR true)) slt28 zer57 Deed.zero (fun H => Deed.zero_rep H) (show l.length * 96 ≤ 281474976710656 by omega) hb
  refine MakeK.of hm ?_
  simp +contextual (dsimp := false)
  refine LoopA.up (σ := Nat × Heap × List Nat) [0, 3, 4] (fun x => [(4, int x.1)]) (fun x => x.2.1)
    (fun x => x.1 ≤ l.length ∧ Ext H x.2.1 ∧ DeedsR true x.2.1 (partL l Deed.zero x.1) [.slice (some ⟨H.length, 0, none⟩) l.length 6] x.2.2 ∧ Fresh H.length x.2.2) (fun x => l.length - x.1) (0, _, [H.length]) rfl ⟨by simp, by simp, by rw [partL_z]; exact hr, by simp [Fresh]⟩ ?_
  rintro ⟨i, hp, F1⟩ ⟨hi, he, hv, hf⟩
  dsimp only at hi he hv hf
  simp +contextual (dsimp := false)
  refine ifA_dec (fun h3 => ?_) (fun h3 => ?_)
  · obtain ⟨id, o, c, e, f, ow, cs, Fi, E⟩ := SlR.get (Rp.ext hs he) i h3
    have hrep0 := E.rep; obtain ⟨hk, s1, s2, G1, G2, rfl, rfl, hc1, hc2⟩ := E.rep
    simp +contextual (dsimp := false) [E.idx, E.goB, E.lt, E.le, E.ext]
    have hwm := wL_mem Deed.w (List.getElem_mem h3)
    refine CallK.of ⟨_, Tryz.func103, rfl, rfl⟩ (toDeed_ac hrep0 (by omega)) ?_
    rintro v S' ⟨c1, F2, rfl, he2, hv2, hf2⟩
    have hv1 := Rp.ext hv he2
    obtain ⟨id', o', c', e', f', ow', cs', Fi', E'⟩ := SlR.get hv1 i (by rw [partL_length _ _ _ hi]; exact h3)
    obtain rfl := E'.own' rfl
    have hc1 := Rp.len hv2
    have hc2 := Rp.one hv2
    have hle' := E'.le
    simp +contextual (dsimp := false) [wrap_succ (show i < 9223372036854775807 by omega), E'.idx, E'.goB, E'.le, E'.lt, lenV_eq, hc1, hc2, onesV]
    have hidF := hf.1 _ E'.mem
    obtain ⟨F3, q1, q2, q3, q4, q5, q6, q7⟩ := E'.upd hf.2 (fun _ => rfl) (S'.set id' ⟨.cells (setL c' o' c1) e' f', true, true⟩) (setL c' o' c1) l[i] c1 F2 (List.getElem?_set_self E'.lt) (setL_size _ _ _) hc1
      (fun j hj => by rw [setL_get _ _ _ _ (by omega), if_pos (by omega)]; congr 1; omega) (fun j hj => by rw [setL_get _ _ _ _ (by omega), if_neg (by omega)])
      (Rp.fr hv2 fun j hj => List.getElem?_set_ne (by rintro rfl; have := hf2.1 _ hj; have := Rp.lt hv _ E'.mem; omega)) (fun j hj hne _ => List.getElem?_set_ne (Ne.symm hne))
    rw [partL_s _ _ _ h3] at q1
    refine LoopN.of (i + 1, _, F3) rfl ⟨h3, (he.trans he2).set hidF _, q1, fun j hj => ?_, q4 hf2.2 fun j hj hj2 => ?_⟩ (by dsimp only; omega)
    · rcases q3 j hj with h | h
      · exact hf.1 j h
      · have := hf2.1 j h; have := he.le; omega
    · have := hf2.1 j hj; have := Rp.lt hv j hj2; omega
  · rw [partL_all _ _ _ (by omega)] at hv
    first | exact ⟨he, F1, hv, hf⟩ | exact ⟨F1, he, hv, hf⟩
theorem eqDeedS_ac {o1 o2 : Bool} {l1 l2 : List Deed} {s1 s2 : Value} {F1 F2 : List Nat} {H : Heap} (hs1 : DeedsR o1 H l1 [s1] F1) (hs2 : DeedsR o2 H l2 [s2] F2) : AC Tryz.prog ng 53 [s1, s2] H fun v S' => v = .bool (decide (l1 = l2)) ∧ S' = H := by
  obtain ⟨a1, z1, rfl⟩ := hs1.form
  obtain ⟨a2, z2, rfl⟩ := hs2.form
  have hb := hs1.bound
  refine .flat (AC.go [] Tryz.func53 rfl Tryz.ntmps53 rfl ⟨mixed, by kernel_rfl⟩ ?_)
  simp +contextual (dsimp := false)
  refine ifA_dec (fun h => ?_) (fun h => ?_)
  · refine LoopA.up (σ := Nat) [0, 1, 5] (fun i => [(5, int i)]) (fun i => H) (fun i => i ≤ l1.length ∧ l1.take i = l2.take i) (fun i => l1.length - i) 0 (by simp) (by simp) ?_
    rintro i ⟨hi, hv⟩
    simp +contextual (dsimp := false)
    refine ifA_dec (fun h3 => ?_) (fun h3 => ?_)
    · obtain ⟨id, o, c, e, f, ow, cs, Fi, E⟩ := SlR.get hs1 i h3
      have hrep0 := E.rep; obtain ⟨hk, s1, s2, G1, G2, rfl, rfl, hc1, hc2⟩ := E.rep
      obtain ⟨id', o', c', e', f', ow', cs', Fi', E'⟩ := SlR.get hs2 i (by omega)
      have hrep0' := E'.rep; obtain ⟨hk', s'1, s'2, G'1, G'2, rfl, rfl, hc'1, hc'2⟩ := E'.rep
      simp +contextual (dsimp := false) [E.idx, E.goB, E.lt, E.le, E.ext, E'.idx, E'.goB, E'.lt, E'.le, E'.ext]
      refine CallK.fl ⟨_, Tryz.func107, rfl, rfl⟩ (eqDeed_ac hrep0 hrep0') ?_
      simp +contextual (dsimp := false) [wrap_succ (show i < 9223372036854775807 by omega)]
      refine ifA_dec (fun h4 => ?_) (fun h4 => ?_)
      · refine LoopN.of (i + 1) rfl ⟨h3, ?_⟩ (by omega)
        rw [List.take_succ_eq_append_getElem h3, List.take_succ_eq_append_getElem (show i < l2.length by omega), hv, h4]
      · try simp
        rintro rfl
        exact h4 rfl
    · rw [List.take_of_length_le (by omega), List.take_of_length_le (by omega)] at hv
      simp [hv]
  · try simp
    rintro rfl
    exact h rfl
theorem markDeedS_ac {l : List Deed} {s : Value} {F : List Nat} {H : Heap} (hs : DeedsR true H l [s] F) (hnd : F.Nodup) (k : Nat) {e : Int} (hek : e = k) (hk : k + sumN Deed.m l ≤ 1000000000) :
    AC Tryz.prog ng 54 [s, int e] H fun v S' => v = int ((k + sumN Deed.m l : Nat) : Int) ∧ DeedsR true S' (mkL Deed.mk' Deed.m k l) [s] F ∧ S'.length = H.length ∧ ∀ j, j ∉ F → S'[j]? = H[j]? := by
  subst hek
  obtain ⟨a, z, rfl⟩ := hs.form
  have hb := hs.bound
  refine AC.go [] Tryz.func54 rfl Tryz.ntmps54 rfl ⟨mixed, by kernel_rfl⟩ ?_
  simp +contextual (dsimp := false)
  refine LoopA.up (σ := Nat × Heap) [0, 1, 5] (fun x => [(1, int ((k + sumN Deed.m (l.take x.1) : Nat) : Int)), (5, int x.1)]) (fun x => x.2)
    (fun x => x.1 ≤ l.length ∧ DeedsR true x.2 (mkP Deed.mk' Deed.m k l x.1) [.slice a l.length z] F ∧ x.2.length = H.length ∧ ∀ j, j ∉ F → x.2[j]? = H[j]?) (fun x => l.length - x.1) (0, H) (by simp [sumN_nil]) ⟨by simp, by rw [mkP_z]; exact hs, rfl, fun _ _ => rfl⟩ ?_
  rintro ⟨i, hp⟩ ⟨hi, hv, hl, hf⟩
  dsimp only at hi hv hl hf
  simp +contextual (dsimp := false)
  refine ifA_dec (fun h3 => ?_) (fun h3 => ?_)
  · have hlen := mkP_length Deed.mk' Deed.m k l i
    have hst := sumN_take Deed.m l i h3
    have hsl := sumN_take_le Deed.m l (i + 1)
    have hm : Deed.m l[i] = 4 + sumN Ins.m l[i].action + sumN Lnk.m l[i].links := rfl
    obtain ⟨id, o, c, e, f, ow, cs, Fi0, E⟩ := SlR.get hv i (by omega)
    have hrep := E.rep
    rw [mkP_get _ _ _ _ _ h3] at hrep
    obtain ⟨hk, s1, s2, G1, G2, hcs, hFi, hc1, hc2⟩ := hrep
    
    
    obtain rfl := hcs
    obtain rfl := E.own' rfl
    have hle := E.le
    have hle1 : o + 1 ≤ c.size := by omega
    have hle2 : o + 2 ≤ c.size := by omega
    have hle3 : o + 3 ≤ c.size := by omega
    have hle4 : o + 4 ≤ c.size := by omega
    have hle5 : o + 5 ≤ c.size := by omega
    have hle6 : o + 6 ≤ c.size := by omega
    have hlf1 : o + 1 + 1 ≤ c.size := by omega
    have hlf2 : o + 2 + 1 ≤ c.size := by omega
    have hlf3 : o + 3 + 1 ≤ c.size := by omega
    have hlf4 : o + 4 + 1 ≤ c.size := by omega
    have hlf5 : o + 5 + 1 ≤ c.size := by omega
    have hm0 := mkP_s Deed.mk' Deed.m k l i h3
    generalize hQ : sumN Deed.m (l.take i) = q at *
    have hw1 : IntKind.i64.wrap ((k : Int) + q + 1) = (k : Int) + q + 1 := (wrap_of ((k : Int) + q + 1) (by omega) (by omega)).trans (by omega)
    have hw2 : IntKind.i64.wrap ((k : Int) + q + 1 + 1) = (k : Int) + q + 2 := (wrap_of ((k : Int) + q + 1 + 1) (by omega) (by omega)).trans (by omega)
    have hw3 : IntKind.i64.wrap ((k : Int) + q + 2 + 1) = (k : Int) + q + 3 := (wrap_of ((k : Int) + q + 2 + 1) (by omega) (by omega)).trans (by omega)
    have hw4 : IntKind.i64.wrap ((k : Int) + q + 3 + 1) = (k : Int) + q + 4 := (wrap_of ((k : Int) + q + 3 + 1) (by omega) (by omega)).trans (by omega)
    have hz0 : c[o + 4]? = some s1 := E.cell 4 (by omega)
    have hz1 : c[o + 5]? = some s2 := E.cell 5 (by omega)
    have hnd0 : (G1 ++ G2).Nodup := hFi ▸ E.ndi hnd
    have hnd0 := List.nodup_append.1 hnd0
    have hnd1 := hnd0.1
    have hnd2 := hnd0.2.1
    have hdis : ∀ j, j ∈ G1 → j ∈ G2 → False := fun j h1 h2 => hnd0.2.2 j h1 j h2 rfl
    
    refine CallK.fl ⟨_, Tryz.func55, rfl, rfl⟩ (markText_ac (k + q) (by omega) (by omega) _) ?_
    simp +contextual (dsimp := false) [E.idx, E.goB, goB_self E.lt, E.le, E.lt, hlen, setL_size, setL_ne1, hw1, hw2, hw3, hw4, hle1, hle2, hle3, hle4, hle5, hle6, hlf1, hlf2, hlf3, hlf4, hlf5, hz0, hz1]
    refine CallK.fl ⟨_, Tryz.func55, rfl, rfl⟩ (markText_ac (k + q + 3) (by omega) (by omega) _) ?_
    simp +contextual (dsimp := false) [E.idx, E.goB, goB_self E.lt, E.le, E.lt, hlen, setL_size, setL_ne1, hw1, hw2, hw3, hw4, hle1, hle2, hle3, hle4, hle5, hle6, hlf1, hlf2, hlf3, hlf4, hlf5, hz0, hz1]
    rw [setL_app _ _ [_] _ (o + 1) rfl]
    simp only [List.cons_append, List.nil_append]
    rw [setL_app _ _ [_, _] _ (o + 2) rfl]
    simp only [List.cons_append, List.nil_append]
    rw [setL_app _ _ [_, _, _] _ (o + 3) rfl]
    simp only [List.cons_append, List.nil_append]
    have hidn : ∀ j ∈ Fi0, id ≠ j := fun j hj h => E.notin hnd (h ▸ hj)
    refine CallK.of ⟨_, Tryz.func108, rfl, rfl⟩ (markInsS_ac (Rp.fr hc1 fun j hj => List.getElem?_set_ne (hidn j (by simp [hFi, hj]))) hnd1 (k + q + 4) (by omega) (by omega)) ?_
    rintro v S1 ⟨rfl, q1_0, q2_0, q3_0⟩
    have hb1 : ∀ q : Blk → Prop, goB S1 id q = q _ := fun q => goB_of ((q3_0 id (fun h => hidn id (by simp [hFi, h]) rfl)).trans (List.getElem?_set_self E.lt)) q
    simp +contextual (dsimp := false) [E.idx, E.goB, goB_self E.lt, E.le, E.lt, hlen, setL_size, setL_ne1, setL_ne4, hb1, hw1, hw2, hw3, hw4, hle1, hle2, hle3, hle4, hle5, hle6, hlf1, hlf2, hlf3, hlf4, hlf5, hz0, hz1]
    refine CallK.of ⟨_, Tryz.func109, rfl, rfl⟩ (markLinkS_ac (Rp.fr hc2 fun j hj => by rw [q3_0 j (fun h => hdis j h hj), List.getElem?_set_ne (hidn j (by simp [hFi, hj]))]) hnd2 (k + q + 4 + sumN Ins.m l[i].action) (by omega) (by omega)) ?_
    rintro v S2 ⟨rfl, q1_1, q2_1, q3_1⟩
    simp +contextual (dsimp := false)
    have hfr : ∀ j ∈ F, j ≠ id → j ∉ Fi0 → S2[j]? = hp[j]? := by
      intro j hj hj1 hj2
      rw [q3_1 j (by intro h; exact hj2 (by simp [hFi, h])), q3_0 j (by intro h; exact hj2 (by simp [hFi, h])), List.getElem?_set_ne (Ne.symm hj1)]
    obtain ⟨F', r1, r2, -⟩ := E.upd hnd (fun _ => rfl) S2 (setL c o [str (mText (k + q)), int ((k + q + 1 : Nat) : Int), int ((k + q + 2 : Nat) : Int), str (mText (k + q + 3))]) (Deed.mk' (k + q) l[i]) [str (mText (k + q)), int ((k + q + 1 : Nat) : Int), int ((k + q + 2 : Nat) : Int), str (mText (k + q + 3)), s1, s2] Fi0 ((q3_1 id (fun h => hidn id (by simp [hFi, h]) rfl)).trans ((q3_0 id (fun h => hidn id (by simp [hFi, h]) rfl)).trans (List.getElem?_set_self E.lt))) (setL_size _ _ _) rfl
      (fun j hj => match j, hj with
        | 0, _ => by (rw [setL_get _ _ _ _ (by simp; omega)]; simp)
        | 1, _ => by (rw [setL_get _ _ _ _ (by simp; omega)]; simp)
        | 2, _ => by (rw [setL_get _ _ _ _ (by simp; omega)]; simp)
        | 3, _ => by (rw [setL_get _ _ _ _ (by simp; omega)]; simp)
        | 4, _ => by (rw [setL_get _ _ _ _ (by simp; omega)]; simp [hz0])
        | 5, _ => by (rw [setL_get _ _ _ _ (by simp; omega)]; simp [hz1]))
      (fun j hj => by rw [setL_get _ _ _ _ (by simp; omega), if_neg (by simp; omega)]) ⟨⟨show okS (mText (k + q)) from mText_ok (by omega), show i64 ((k + q + 1 : Nat) : Int) from ⟨by omega, by omega⟩, show i64 ((k + q + 2 : Nat) : Int) from ⟨by omega, by omega⟩, show okS (mText (k + q + 3)) from mText_ok (by omega)⟩, s1, s2, G1, G2, rfl, hFi, Rp.fr q1_0 fun j hj => q3_1 j (fun h => hdis j hj h), q1_1⟩ hfr
    rw [r2 rfl, hm0] at r1
    refine LoopN.of (i + 1, S2) ?_ ⟨h3, r1, by simp [q2_1, q2_0, hl], ?_⟩ (by dsimp only; omega)
    · simp [wrap_succ (show i < 9223372036854775807 by omega), hst, hm, Int.add_assoc]
    · intro j hj
      dsimp only
      rw [q3_1 j (fun h => hj (E.sub _ (by simp [hFi, h]))), q3_0 j (fun h => hj (E.sub _ (by simp [hFi, h]))), List.getElem?_set_ne (by rintro rfl; exact hj E.mem), hf j hj]
  · rw [mkP_all _ _ _ _ _ (by omega)] at hv
    have := sumN_all Deed.m l i (by omega)
    exact ⟨by omega, hv, hl, hf⟩
end Go.Proofs.YtbigpkfdeaigeaaGreatDoor

/- The exact laws' helpers for spaces and accounts. No condition. -/
set_option linter.unusedSimpArgs false
set_option linter.unusedVariables false
namespace Go.Proofs.YtbigpkfdeaigeaaGreatDoor
open Go Go.Am Go.Proofs
set_option maxRecDepth 20000
variable {ng : Nat}
theorem szAccount_ac {own : Bool} {l : List Deed} {s : Value} {F : List Nat} {H : Heap} (hs : DeedsR own H l [s] F) (left : Int) (hl : 0 ≤ left ∧ left ≤ 1048576) : AC Tryz.prog ng 8 [.agg #[s], int left] H fun v S' => v = int (szR left (wL Deed.w l)) ∧ S' = H := by
  obtain ⟨a, z, rfl⟩ := hs.form
  refine .flat (AC.go [] Tryz.func8 rfl Tryz.ntmps8 rfl ⟨mixed, by kernel_rfl⟩ ?_)
  simp +contextual (dsimp := false)
  refine CallK.fl ⟨_, Tryz.func43, rfl, rfl⟩ (szDeedS_ac (Rp.ext hs (Ext.app _ _)) left hl) ?_
  simp +contextual (dsimp := false)
  refine ifA_dec (fun h => ?_) (fun h => ?_)
  · rw [szR_lt hl.1] at h; rw [szR_neg h]
  · trivial
theorem toAccount_ac {own : Bool} {l : List Deed} {s : Value} {F : List Nat} {H : Heap} (hs : DeedsR own H l [s] F) (hl : wL Deed.w l ≤ 1048576) : AC Tryz.prog ng 10 [.agg #[s]] H fun v S' => ∃ s' F', v = .agg #[s'] ∧ Ext H S' ∧ DeedsR true S' l [s'] F' ∧ Fresh H.length F' := by
  obtain ⟨a, z, rfl⟩ := hs.form
  refine AC.go [] Tryz.func10 rfl Tryz.ntmps10 rfl ⟨mixed, by kernel_rfl⟩ ?_
  simp +contextual (dsimp := false)
  refine CallK.of ⟨_, Tryz.func48, rfl, rfl⟩ (toDeedS_ac (Rp.ext hs (Ext.app _ _)) hl) ?_
  rintro v S' ⟨F', he, hv, hf⟩
  obtain ⟨a', z', rfl⟩ := hv.form
  obtain ⟨G, rfl⟩ := he.split
  try simp only [List.append_assoc, List.cons_append, List.nil_append] at hv ⊢
  simp [Fresh] at hf
  simp +contextual (dsimp := false)
  exact ⟨F', Rp.fr hv fun i hi => by exact fr_drop 3 (by rfl) (hf.1 i hi), fun i hi => by have := hf.1 i hi; omega, hf.2⟩
theorem eqAccount_ac {o1 o2 : Bool} {l1 l2 : List Deed} {s1 s2 : Value} {F1 F2 : List Nat} {H : Heap} (hs1 : DeedsR o1 H l1 [s1] F1) (hs2 : DeedsR o2 H l2 [s2] F2) : AC Tryz.prog ng 13 [.agg #[s1], .agg #[s2]] H fun v S' => v = .bool (decide (l1 = l2)) ∧ S' = H := by
  obtain ⟨a1, z1, rfl⟩ := hs1.form
  obtain ⟨a2, z2, rfl⟩ := hs2.form
  refine .flat (AC.go [] Tryz.func13 rfl Tryz.ntmps13 rfl ⟨mixed, by kernel_rfl⟩ ?_)
  simp +contextual (dsimp := false)
  refine CallK.fl ⟨_, Tryz.func53, rfl, rfl⟩ (eqDeedS_ac (Rp.ext hs1 (Ext.app _ _)) (Rp.ext hs2 (Ext.app _ _))) ?_
  simp +contextual (dsimp := false)
  simp [ifA_ite]
theorem markAccount_ac {l : List Deed} {s : Value} {F : List Nat} {H : Heap} (hs : DeedsR true H l [s] F) (hnd : F.Nodup) (k : Nat) {e : Int} (hek : e = k) (hk : k + sumN Deed.m l ≤ 1000000000) :
    AC Tryz.prog ng 14 [.agg #[s], int e] H fun v S' => v = int ((k + sumN Deed.m l : Nat) : Int) ∧ DeedsR true S' (mkL Deed.mk' Deed.m k l) [s] F ∧ H.length ≤ S'.length ∧ ∀ j, j < H.length → j ∉ F → S'[j]? = H[j]? := by
  subst hek
  obtain ⟨a, z, rfl⟩ := hs.form
  refine AC.go [] Tryz.func14 rfl Tryz.ntmps14 rfl ⟨mixed, by kernel_rfl⟩ ?_
  simp +contextual (dsimp := false)
  refine CallK.of ⟨_, Tryz.func54, rfl, rfl⟩ (markDeedS_ac (Rp.ext hs (Ext.app _ _)) hnd k rfl hk) ?_
  rintro v S' ⟨rfl, q1, q2, q3⟩
  simp +contextual (dsimp := false)
  refine ⟨q1, by simp at q2; omega, fun j hj hn => by rw [q3 j hn, get_ext hj, List.getElem?_eq_getElem hj]⟩
end Go.Proofs.YtbigpkfdeaigeaaGreatDoor
