/- The exact laws' helpers for plain records. No condition. -/
import Derived.Test.YtephpieeibcihaaDoorStr
import Derived.Test.YtephpieeibcihaaDoorDat2
import Derived.Test.YtephpieeibcihaaDoorF2
set_option linter.unusedSimpArgs false
set_option linter.unusedVariables false
namespace Go.Proofs.YtephpieeibcihaaDoor
open Go Go.Am Go.Proofs
set_option maxRecDepth 20000
set_option linter.unusedSimpArgs false
set_option linter.unusedVariables false
variable {ng : Nat}
theorem markInsS_ac {l : List Ins} {s : Value} {F : List Nat} {H : Heap} (hs : CodeR true H l [s] F) (hnd : F.Nodup) (k : Nat) {e : Int} (hek : e = k) (hk : k + sumN Ins.m l ≤ 1000000000) :
    AC Tryd.prog ng 30 [s, int e] H fun v S' => v = int ((k + sumN Ins.m l : Nat) : Int) ∧ CodeR true S' (mkL Ins.mk' Ins.m k l) [s] F ∧ S'.length = H.length ∧ ∀ j, j ∉ F → S'[j]? = H[j]? := by
  subst hek
  obtain ⟨a, z, rfl⟩ := hs.form
  have hb := hs.bound
  refine AC.go [] Tryd.func30 rfl Tryd.ntmps30 rfl ⟨mixed, by kernel_rfl⟩ ?_
  simp +contextual (dsimp := false)
  refine LoopA.up (σ := Nat × Heap) [0, 1, 5] (fun x => [(1, int ((k + sumN Ins.m (l.take x.1) : Nat) : Int)), (5, int x.1)]) (fun x => x.2)
    (fun x => x.1 ≤ l.length ∧ CodeR true x.2 (mkP Ins.mk' Ins.m k l x.1) [.slice a l.length z] F ∧ x.2.length = H.length ∧ ∀ j, j ∉ F → x.2[j]? = H[j]?) (fun x => l.length - x.1) (0, H) (by simp [sumN_nil]) ⟨by simp, by rw [mkP_z]; exact hs, rfl, fun _ _ => rfl⟩ ?_
  rintro ⟨i, hp⟩ ⟨hi, hv, hl, hf⟩
  dsimp only at hi hv hl hf
  simp +contextual (dsimp := false)
  refine ifA_dec (fun h3 => ?_) (fun h3 => ?_)
  · have hlen := mkP_length Ins.mk' Ins.m k l i
    have hst := sumN_take Ins.m l i h3
    have hsl := sumN_take_le Ins.m l (i + 1)
    have hm : Ins.m l[i] = 3 := rfl
    obtain ⟨id, o, c, e, f, ow, cs, Fi, E⟩ := SlR.get hv i (by omega)
    have hrep := E.rep
    rw [mkP_get _ _ _ _ _ h3] at hrep
    obtain ⟨rfl, rfl, hok⟩ := hrep
    obtain rfl := E.own' rfl
    have hle := E.le
    have hle1 : o + 1 ≤ c.size := by omega
    have hle2 : o + 1 + 1 ≤ c.size := by omega
    have hle3 : o + 1 + 1 + 1 ≤ c.size := by omega
    have hlf1 : o + 1 + 1 ≤ c.size := by omega
    have hlf2 : o + 2 + 1 ≤ c.size := by omega
    have hm0 := mkP_s Ins.mk' Ins.m k l i h3
    generalize hQ : sumN Ins.m (l.take i) = q at *
    have hw1 : IntKind.i64.wrap ((k : Int) + q + 1) = (k : Int) + q + 1 := (wrap_of ((k : Int) + q + 1) (by omega) (by omega)).trans (by omega)
    have hw2 : IntKind.i64.wrap ((k : Int) + q + 1 + 1) = (k : Int) + q + 2 := (wrap_of ((k : Int) + q + 1 + 1) (by omega) (by omega)).trans (by omega)
    have hw3 : IntKind.i64.wrap ((k : Int) + q + 2 + 1) = (k : Int) + q + 3 := (wrap_of ((k : Int) + q + 2 + 1) (by omega) (by omega)).trans (by omega)
    simp +contextual (dsimp := false) [E.idx, E.goB, goB_self E.lt, E.le, E.lt, hlen, setL_size, hw1, hw2, hw3, hle1, hle2, hle3, hlf1, hlf2]
    refine CallK.fl ⟨_, Tryd.func61, rfl, rfl⟩ (markText_ac (k + q + 1) (by omega) (by omega) _) ?_
    simp +contextual (dsimp := false) [E.idx, E.goB, goB_self E.lt, E.le, E.lt, hlen, setL_size, hw1, hw2, hw3, hle1, hle2, hle3, hlf1, hlf2]
    rw [setL_app _ _ [_] _ (o + 1) rfl]
    simp only [List.cons_append, List.nil_append]
    first | rw [setL_app _ _ [_, _] _ (o + 1 + 1) rfl] | rw [setL_app _ _ [_, _] _ (o + 2) rfl]
    have hset := E.set hnd rfl rfl (show InsR hp (Ins.mk' (k + q) l[i]) [int ((k + q : Nat) : Int), str (mText (k + q + 1)), int ((k + q + 2 : Nat) : Int)] [] from ⟨rfl, rfl, ⟨show i64 ((k + q : Nat) : Int) from ⟨by omega, by omega⟩, show okS (mText (k + q + 1)) from mText_ok (by omega), show i64 ((k + q + 2 : Nat) : Int) from ⟨by omega, by omega⟩⟩⟩)
    rw [hm0] at hset
    refine LoopN.of (i + 1, _) ?_ ⟨h3, hset, ?_, ?_⟩ (by dsimp only; omega)
    · simp [wrap_succ (show i < 9223372036854775807 by omega), hst, hm, Int.add_assoc]
    · simp [hl]
    · intro j hj
      dsimp only
      rw [List.getElem?_set_ne (by rintro rfl; exact hj E.mem), hf j hj]
  · rw [mkP_all _ _ _ _ _ (by omega)] at hv
    have := sumN_all Ins.m l i (by omega)
    exact ⟨by omega, hv, hl, hf⟩
theorem heldInsS_ac {own : Bool} {l : List Ins} {k : Nat} {s : Value} {F : List Nat} {H : Heap} (hs : CodeR own H (mkL Ins.mk' Ins.m k l) [s] F) {e : Int} (hek : e = k) (hk : k + sumN Ins.m l ≤ 1000000000) :
    AC Tryd.prog ng 31 [s, int e] H fun v S' => v = int ((k + sumN Ins.m l : Nat) : Int) ∧ S' = H := by
  subst hek
  obtain ⟨a, z, rfl⟩ := hs.form
  have hlen := mkL_length Ins.mk' Ins.m l k
  have hb := hs.bound
  rw [hlen] at hs hb
  rw [hlen]
  refine .flat (AC.go [(7, .take 0 <| .take 1 <| .take 2 <| .take 3 <| .take 5 <| .take 4 <| .one 6 [4] <| .take 7 <| .done)] Tryd.func31 rfl Tryd.ntmps31 rfl ⟨mixed, by kernel_rfl⟩ ?_)
  simp +contextual (dsimp := false)
  refine LoopA.up (σ := Nat × Heap) [0, 1, 5] (fun x => [(1, int ((k + sumN Ins.m (l.take x.1) : Nat) : Int)), (5, int x.1)]) (fun x => x.2)
    (fun x => x.1 ≤ l.length ∧ Ext H x.2) (fun x => l.length - x.1) (0, H) (by simp [sumN_nil]) ⟨by simp, Ext.refl _⟩ ?_
  rintro ⟨i, hp⟩ ⟨hi, hx⟩
  dsimp only at hi hx
  simp +contextual (dsimp := false)
  refine ifA_dec (fun h3 => ?_) (fun h3 => ?_)
  · obtain ⟨id, o, c, e, f, ow, cs, Fi, E⟩ := SlR.get (Rp.ext hs hx) i (by rw [hlen]; exact h3)
    have hst := sumN_take Ins.m l i h3
    have hsl := sumN_take_le Ins.m l (i + 1)
    have hm : Ins.m l[i] = 3 := rfl
    have hrep := E.rep
    have hE : (mkL Ins.mk' Ins.m k l)[i]'(by omega) = Ins.mk' (k + sumN Ins.m (l.take i)) l[i] := mkL_get _ _ _ _ _ h3
    rw [hE] at hrep
    obtain ⟨rfl, rfl, hok⟩ := hrep
    generalize hQ : sumN Ins.m (l.take i) = q at *
    have hw1 : IntKind.i64.wrap ((k : Int) + q + 1) = (k : Int) + q + 1 := (wrap_of ((k : Int) + q + 1) (by omega) (by omega)).trans (by omega)
    have hw2 : IntKind.i64.wrap ((k : Int) + q + 1 + 1) = (k : Int) + q + 2 := (wrap_of ((k : Int) + q + 1 + 1) (by omega) (by omega)).trans (by omega)
    have hw3 : IntKind.i64.wrap ((k : Int) + q + 2 + 1) = (k : Int) + q + 3 := (wrap_of ((k : Int) + q + 2 + 1) (by omega) (by omega)).trans (by omega)
    simp +contextual (dsimp := false) [E.idx, E.goB, E.le, E.lt, hlen, E.cell0, E.cell 1 (by omega), E.cell 2 (by omega), hw1, hw2, hw3, hE, Ins.mk', Ins.c]
    refine CallK.fl ⟨_, Tryd.func61, rfl, rfl⟩ (markText_ac (k + q + 1) (by omega) (by omega) _) ?_
    simp +contextual (dsimp := false) [E.idx, E.goB, E.le, E.lt, hlen, E.cell0, E.cell 1 (by omega), E.cell 2 (by omega), hw1, hw2, hw3, hE, Ins.mk', Ins.c]
    refine LoopN.of (i + 1, hp) ?_ ⟨h3, hx⟩ (by dsimp only; omega)
    simp [wrap_succ (show i < 9223372036854775807 by omega), hst, hm, Int.add_assoc]
  · have := sumN_all Ins.m l i (by omega)
    exact ⟨by omega, hx⟩
theorem szLink_ac (x : Lnk) (hx : x.ok) (left : Int) (hl : 0 ≤ left ∧ left ≤ 1048576) (H : Heap) : AC Tryd.prog ng 123 [.agg x.c.toArray, int left] H fun v S' => v = int (szR left x.w) ∧ S' = H := by
  obtain ⟨h0, h1⟩ := hx
  unfold okS at *
  have hw0 : IntKind.i64.wrap (left - x.name.length) = left - x.name.length := wrap_of _ (by omega) (by omega)
  refine .flat (AC.go [] Tryd.func123 rfl Tryd.ntmps123 rfl ⟨mixed, by kernel_rfl⟩ ?_)
  simp +contextual (dsimp := false) [Lnk.c, hw0]
  
  refine ifA_dec (fun _ => ?_) (fun _ => ?_)
  · rw [szR_neg (by simp only [Lnk.w]; omega)]
  · rw [szR_ge (by simp only [Lnk.w]; omega)]
    simp only [Lnk.w]
    try simp
    try omega
theorem toLink_ac (x : Lnk) (H : Heap) : AC Tryd.prog ng 125 [.agg x.c.toArray] H fun v S' => v = .agg x.c.toArray ∧ S' = H := by
  refine .flat (AC.go [] Tryd.func125 rfl Tryd.ntmps125 rfl ⟨mixed, by kernel_rfl⟩ ?_)
  simp +contextual (dsimp := false) [Lnk.c]
theorem eqLink_ac (x y : Lnk) (H : Heap) : AC Tryd.prog ng 134 [.agg x.c.toArray, .agg y.c.toArray] H fun v S' => v = .bool (decide (x = y)) ∧ S' = H := by
  refine .flat (AC.go [] Tryd.func134 rfl Tryd.ntmps134 rfl ⟨mixed, by kernel_rfl⟩ ?_)
  cases x
  cases y
  simp +contextual (dsimp := false) [Lnk.c, bin_bneq und4]
  simp [ifA_ite]
  try grind
theorem szLinkS_ac {own : Bool} {l : List Lnk} {s : Value} {F : List Nat} {H : Heap} (hs : LnksR own H l [s] F) (left : Int) (hl : 0 ≤ left ∧ left ≤ 1048576) : AC Tryd.prog ng 97 [s, int left] H fun v S' => v = int (szR left (wL Lnk.w l)) ∧ S' = H := by
  obtain ⟨a, z, rfl⟩ := hs.form
  have hb := hs.bound
  refine .flat (AC.go [] Tryd.func97 rfl Tryd.ntmps97 rfl ⟨mixed, by kernel_rfl⟩ ?_)
  have hw : IntKind.i64.wrap (left - (l.length : Int)) = left - l.length := wrap_of _ (by omega) (by omega)
  simp +contextual (dsimp := false) [hw]
  refine ifA_dec (fun h => ?_) (fun h => ?_)
  · rw [szR_neg (by unfold wL; omega)]
  refine LoopA.up (σ := Nat) [0, 1, 5] (fun i => [(1, int (left - l.length - wS Lnk.w l i)), (5, int i)]) (fun i => H) (fun i => i ≤ l.length ∧ 0 ≤ left - l.length - wS Lnk.w l i) (fun i => l.length - i) 0
    (by simp) (by simp; omega) ?_
  rintro i ⟨hi, hv⟩
  simp +contextual (dsimp := false)
  refine ifA_dec (fun h3 => ?_) (fun h3 => ?_)
  · obtain ⟨id, o, c, e, f, ow, cs, Fi, E⟩ := SlR.get hs i h3
    obtain ⟨rfl, rfl, hok⟩ := E.rep
    simp +contextual (dsimp := false) [E.idx, E.goB, E.lt, E.le, E.ext, Lnk.c]
    refine CallK.fl ⟨_, Tryd.func123, rfl, rfl⟩ (szLink_ac l[i] hok _ (by omega) _) ?_
    simp +contextual (dsimp := false) [wrap_succ (show i < 9223372036854775807 by omega)]
    have hst := wS_s Lnk.w l i h3
    have hsl := wS_le Lnk.w l (i + 1)
    refine ifA_dec (fun h4 => ?_) (fun h4 => ?_)
    · rw [szR_lt hv] at h4
      rw [szR_neg (by omega)]
    · rw [szR_lt hv] at h4
      refine LoopN.of (i + 1) ?_ ⟨h3, by omega⟩ (by omega)
      rw [szR_ge (by omega), show left - l.length - wS Lnk.w l i - l[i].w = left - l.length - wS Lnk.w l (i + 1) by omega]
      simp
  · have := wS_all Lnk.w l i (by omega)
    rw [szR_ge (by omega)]
    try simp
    omega
theorem toLinkS_ac {own : Bool} {l : List Lnk} {s : Value} {F : List Nat} {H : Heap} (hs : LnksR own H l [s] F) (hl : wL Lnk.w l ≤ 1048576) : AC Tryd.prog ng 100 [s] H fun v S' => ∃ F', Ext H S' ∧ LnksR true S' l [v] F' ∧ Fresh H.length F' := by
  obtain ⟨a, z, rfl⟩ := hs.form
  have hb := hs.bound
  have hll := wL_le Lnk.w l
  refine AC.go [] Tryd.func100 rfl Tryd.ntmps100 rfl ⟨mixed, by kernel_rfl⟩ ?_
  simp +contextual (dsimp := false)
  obtain ⟨hm, hr⟩ := SlR.make (H := H) (R := LnkR) slt84 zer121 Lnk.zero (fun H => ⟨rfl, rfl, Lnk.zero_ok⟩) (show l.length * 32 ≤ 281474976710656 by omega) hb
  refine MakeK.of hm ?_
  simp +contextual (dsimp := false)
  refine LoopA.up (σ := Nat × Heap × List Nat) [0, 3, 4] (fun x => [(4, int x.1)]) (fun x => x.2.1)
    (fun x => x.1 ≤ l.length ∧ Ext H x.2.1 ∧ LnksR true x.2.1 (partL l Lnk.zero x.1) [.slice (some ⟨H.length, 0, none⟩) l.length 4] x.2.2 ∧ Fresh H.length x.2.2) (fun x => l.length - x.1) (0, _, [H.length]) rfl ⟨by simp, by simp, by rw [partL_z]; exact hr, by simp [Fresh]⟩ ?_
  rintro ⟨i, hp, F1⟩ ⟨hi, he, hv, hf⟩
  dsimp only at hi he hv hf
  simp +contextual (dsimp := false)
  refine ifA_dec (fun h3 => ?_) (fun h3 => ?_)
  · obtain ⟨id, o, c, e, f, ow, cs, Fi, E⟩ := SlR.get (Rp.ext hs he) i h3
    obtain ⟨rfl, rfl, hok⟩ := E.rep
    obtain ⟨id', o', c', e', f', ow', cs', Fi', E'⟩ := SlR.get hv i (by rw [partL_length _ _ _ hi]; exact h3)
    obtain ⟨_, rfl, _⟩ := E'.rep
    obtain rfl := E'.own' rfl
    simp +contextual (dsimp := false) [E.idx, E.goB, E.le, E.ext, Lnk.c]
    refine CallK.fl ⟨_, Tryd.func125, rfl, rfl⟩ (toLink_ac l[i] _) ?_
    simp +contextual (dsimp := false) [wrap_succ (show i < 9223372036854775807 by omega), E'.idx, E'.goB, E'.le, Lnk.c]
    have hset := E'.set hf.2 rfl rfl (show LnkR hp l[i] l[i].c [] from ⟨rfl, rfl, hok⟩)
    rw [partL_s _ _ _ h3] at hset
    exact LoopN.of (i + 1, _, F1) rfl ⟨h3, he.set (hf.1 _ E'.mem) _, hset, hf⟩ (by dsimp only; omega)
  · rw [partL_all _ _ _ (by omega)] at hv
    first | exact ⟨he, F1, hv, hf⟩ | exact ⟨F1, he, hv, hf⟩
theorem eqLinkS_ac {o1 o2 : Bool} {l1 l2 : List Lnk} {s1 s2 : Value} {F1 F2 : List Nat} {H : Heap} (hs1 : LnksR o1 H l1 [s1] F1) (hs2 : LnksR o2 H l2 [s2] F2) : AC Tryd.prog ng 105 [s1, s2] H fun v S' => v = .bool (decide (l1 = l2)) ∧ S' = H := by
  obtain ⟨a1, z1, rfl⟩ := hs1.form
  obtain ⟨a2, z2, rfl⟩ := hs2.form
  have hb := hs1.bound
  refine .flat (AC.go [] Tryd.func105 rfl Tryd.ntmps105 rfl ⟨mixed, by kernel_rfl⟩ ?_)
  simp +contextual (dsimp := false)
  refine ifA_dec (fun h => ?_) (fun h => ?_)
  · refine LoopA.up (σ := Nat) [0, 1, 5] (fun i => [(5, int i)]) (fun i => H) (fun i => i ≤ l1.length ∧ l1.take i = l2.take i) (fun i => l1.length - i) 0 (by simp) (by simp) ?_
    rintro i ⟨hi, hv⟩
    simp +contextual (dsimp := false)
    refine ifA_dec (fun h3 => ?_) (fun h3 => ?_)
    · obtain ⟨id, o, c, e, f, ow, cs, Fi, E⟩ := SlR.get hs1 i h3
      obtain ⟨rfl, rfl, hok⟩ := E.rep
      obtain ⟨id', o', c', e', f', ow', cs', Fi', E'⟩ := SlR.get hs2 i (by omega)
      obtain ⟨rfl, rfl, hok'⟩ := E'.rep
      simp +contextual (dsimp := false) [E.idx, E.goB, E.lt, E.le, E.ext, E'.idx, E'.goB, E'.lt, E'.le, E'.ext, Lnk.c]
      refine CallK.fl ⟨_, Tryd.func134, rfl, rfl⟩ (eqLink_ac l1[i] l2[i] _) ?_
      simp +contextual (dsimp := false) [wrap_succ (show i < 9223372036854775807 by omega)]
      refine ifA_dec (fun h4 => ?_) (fun h4 => ?_)
      · refine LoopN.of (i + 1) rfl ⟨h3, ?_⟩ (by omega)
        rw [List.take_succ_eq_append_getElem h3, List.take_succ_eq_append_getElem (show i < l2.length by omega), hv, h4]
      · try simp
        rintro rfl
        exact h4 rfl
    · rw [List.take_of_length_le (by omega), List.take_of_length_le (by omega)] at hv
      simp [hv]
  · try simp
    rintro rfl
    exact h rfl
end Go.Proofs.YtephpieeibcihaaDoor
