/- Lists of strings: the laws' helpers. No condition. -/
import Derived.Test.YtbigpkfdeaigeaaGreatDoorF2
namespace Go.Proofs.YtbigpkfdeaigeaaGreatDoor
open Go Go.Am
set_option linter.unusedSimpArgs false
set_option linter.unusedVariables false
set_option maxRecDepth 20000
variable {ng : Nat}

theorem eqStringS_ac {o1 o2 : Bool} {l1 l2 : List (List UInt8)} {s1 s2 : Value} {F1 F2 : List Nat} {H : Heap} (hs1 : StrsR o1 H l1 [s1] F1) (hs2 : StrsR o2 H l2 [s2] F2) : AC Tryz.prog ng 12 [s1, s2] H fun v S' => v = .bool (decide (l1 = l2)) ∧ S' = H := by
  obtain ⟨a1, z1, rfl⟩ := hs1.form
  obtain ⟨a2, z2, rfl⟩ := hs2.form
  have hb := hs1.bound
  refine .flat (AC.go [] Tryz.func12 rfl Tryz.ntmps12 rfl ⟨mixed, by kernel_rfl⟩ ?_)
  simp +contextual (dsimp := false)
  refine ifA_dec (fun h => ?_) (fun h => ?_)
  · refine LoopA.by (σ := Nat) [0, 1, 5] (fun i => ⟨slots 0 26 [(0, .slice a1 l1.length z1), (1, .slice a2 l2.length z2), (5, int i)], H⟩) (fun i => i ≤ l1.length ∧ l1.take i = l2.take i) (fun i => l1.length - i) 0 (by simp) (by simp) ?_
    rintro i ⟨hi, hv⟩
    simp +contextual (dsimp := false)
    refine ifA_dec (fun h3 => ?_) (fun h3 => ?_)
    · obtain ⟨id, o, c, e, f, ow, cs, Fi, E⟩ := SlR.get hs1 i h3
      obtain ⟨rfl, rfl, hok⟩ := E.rep
      obtain ⟨id', o', c', e', f', ow', cs', Fi', E'⟩ := SlR.get hs2 i (by omega)
      obtain ⟨rfl, rfl, hok'⟩ := E'.rep
      simp +contextual (dsimp := false) [E.idx, E.goB, E.le, E.cell0, E'.idx, E'.goB, E'.le, E'.cell0, str_eq, wrap_succ (show i < 9223372036854775807 by omega)]
      refine ifA_dec (fun h4 => ?_) (fun h4 => ?_)
      · refine LoopN.of (i + 1) rfl ⟨h3, ?_⟩ (by omega)
        rw [List.take_succ_eq_append_getElem h3, List.take_succ_eq_append_getElem (show i < l2.length by omega), hv, h4]
      · try simp
        rintro rfl
        exact h4 rfl
    · rw [List.take_of_length_le (by omega), List.take_of_length_le (by omega)] at hv
      simp [hv]
  · try simp
    rintro rfl
    exact h rfl
theorem markText_ac (k : Nat) {e : Int} (he : e = k) (hk : k ≤ 1000000000) (H : Heap) : AC Tryz.prog ng 55 [int e] H fun v S' => v = str (mText k) ∧ S' = H := by
  subst he
  refine .flat (AC.go [] Tryz.func55 rfl Tryz.ntmps55 rfl ⟨mixed, by kernel_rfl⟩ ?_)
  simp +contextual (dsimp := false)
  refine ifA_dec (fun h => ?_) (fun h => ?_)
  · simp [mText, show k = 0 by omega]
  · refine LoopA.by (σ := Nat × List UInt8 × Heap) [0, 3] (fun x => ⟨slots 0 20 [(0, int x.1), (3, str x.2.1)], x.2.2⟩) (fun x => x.2.1.length + x.1 ≤ k ∧ mDig x.1 x.2.1 = mDig k [] ∧ Ext H x.2.2) (fun x => x.1) (k, [], H) rfl ⟨by simp, rfl, Ext.refl _⟩ ?_
    rintro ⟨i, o, hp⟩ ⟨hi, hv, he⟩
    dsimp only at hi hv he
    simp +contextual (dsimp := false)
    have e1 : ((i : Nat) : Int).tmod 10 = ((i % 10 : Nat) : Int) := by simp [Int.tmod_eq_emod_of_nonneg]
    have e2 : ((i : Nat) : Int).tdiv 10 = ((i / 10 : Nat) : Int) := by simp [Int.tdiv_eq_ediv_of_nonneg]
    have e3 : IntKind.u8.wrap (IntKind.i64.wrap (48 + ((i % 10 : Nat) : Int))) = ((48 + i % 10 : Nat) : Int) := by
      rw [wrap_of _ (by omega) (by omega), wrap_u8 (by omega) (by omega)]; omega
    refine ifA_dec (fun h3 => ?_) (fun h3 => ?_)
    · rw [e1, e3]
      refine ConvK.of (v := str [dig i]) (conv_byteN (m := 48 + i % 10) und37 und5 und9 (by omega) (by rw [List.getElem?_append_right (Nat.le_refl _), Nat.sub_self]; rfl)) ?_
      simp +contextual (dsimp := false) [bin_ladd (show [dig i].length + o.length ≤ 9223372036854775807 by simp; omega), show IntKind.i64.wrap ((i : Int) / 10) = (i : Int) / 10 from wrap_of _ (by omega) (by omega)]
      refine LoopN.of (i / 10, dig i :: o, _) (by rw [show (i : Int) / 10 = ((i / 10 : Nat) : Int) by omega]; rfl) ⟨?_, ?_, he.trans (Ext.app _ _)⟩ ?_
      · simp
        omega
      · rw [← hv]
        exact (mDig_s (by omega) o).symm
      · dsimp only
        omega
    · obtain rfl : i = 0 := by omega
      rw [mDig_z] at hv
      rw [show (Value.string { data := #[109] }) = str [109] from rfl, bin_ladd (by simp; omega)]
      simp +contextual (dsimp := false)
      simp [mText, h, hv, he]
theorem markStringS_ac {l : List (List UInt8)} {s : Value} {F : List Nat} {H : Heap} (hs : StrsR true H l [s] F) (hnd : F.Nodup) (k : Nat) {e : Int} (hek : e = k) (hk : k + l.length ≤ 1000000000) :
    AC Tryz.prog ng 15 [s, int e] H fun v S' => v = int ((k + l.length : Nat) : Int) ∧ StrsR true S' (mList k l.length) [s] F ∧ S'.length = H.length ∧ ∀ j, j ∉ F → S'[j]? = H[j]? := by
  subst hek
  obtain ⟨a, z, rfl⟩ := hs.form
  have hb := hs.bound
  refine AC.go [] Tryz.func15 rfl Tryz.ntmps15 rfl ⟨mixed, by kernel_rfl⟩ ?_
  simp +contextual (dsimp := false)
  refine LoopA.by (σ := Nat × Heap) [0, 1, 5] (fun x => ⟨slots 0 20 [(0, .slice a l.length z), (1, int ((k : Int) + (x.1 : Int))), (5, int x.1)], x.2⟩)
    (fun x => x.1 ≤ l.length ∧ StrsR true x.2 (mPart l k x.1) [.slice a l.length z] F ∧ x.2.length = H.length ∧ ∀ j, j ∉ F → x.2[j]? = H[j]?) (fun x => l.length - x.1) (0, H) (by simp) ⟨by simp, by rw [mPart_z]; exact hs, rfl, fun _ _ => rfl⟩ ?_
  rintro ⟨i, hp⟩ ⟨hi, hv, hl, hf⟩
  dsimp only at hi hv hl hf
  simp +contextual (dsimp := false)
  refine ifA_dec (fun h3 => ?_) (fun h3 => ?_)
  · refine CallK.fl ⟨_, Tryz.func55, rfl, rfl⟩ (markText_ac (k + i) (by omega) (by omega) _) ?_
    have hlen := mPart_length l k i hi
    obtain ⟨id, o, c, e, f, ow, cs, Fi, E⟩ := SlR.get hv i (by omega)
    obtain ⟨rfl, rfl, hok⟩ := E.rep
    obtain rfl := E.own' rfl
    simp +contextual (dsimp := false) [E.idx, E.goB, E.le, E.lt, hlen]
    have hset := E.set hnd rfl rfl (show strR hp (mText (k + i)) [str (mText (k + i))] [] from ⟨rfl, rfl, mText_ok (by omega)⟩)
    rw [mPart_s _ _ _ h3] at hset
    refine LoopN.of (i + 1, hp.set id ⟨.cells (setL c o [str (mText (k + i))]) e f, true, true⟩) ?_ ⟨h3, hset, by simp [hl], fun j hj => ?_⟩ (by dsimp only; omega)
    · rw [wrap_of ((k : Int) + i + 1) (by omega) (by omega), wrap_of ((i : Int) + 1) (by omega) (by omega)]
      simp [Int.add_assoc]
    · dsimp only
      rw [List.getElem?_set_ne (by rintro rfl; exact hj E.mem), hf j hj]
  · rw [mPart_all _ _ _ (by omega) hi] at hv
    exact ⟨by omega, hv, hl, hf⟩
theorem heldStringS_ac {own : Bool} {n k : Nat} {s : Value} {F : List Nat} {H : Heap} (hs : StrsR own H (mList k n) [s] F) {e : Int} (hek : e = k) (hk : k + n ≤ 1000000000) :
    AC Tryz.prog ng 16 [s, int e] H fun v S' => v = int ((k + n : Nat) : Int) ∧ S' = H := by
  subst hek
  obtain ⟨a, z, rfl⟩ := hs.form
  rw [mList_length] at hs
  rw [mList_length]
  refine .flat (AC.go [(4, .take 0 <| .take 1 <| .take 2 <| .take 4 <| .take 3 <| .one 5 [3] <| .take 6 <| .done)] Tryz.func16 rfl Tryz.ntmps16 rfl ⟨mixed, by kernel_rfl⟩ ?_)
  simp +contextual (dsimp := false)
  refine LoopA.by (σ := Nat × Heap) [0, 1, 5] (fun x => ⟨slots 0 22 [(0, .slice a n z), (1, int ((k : Int) + (x.1 : Int))), (5, int x.1)], x.2⟩)
    (fun x => x.1 ≤ n ∧ Ext H x.2) (fun x => n - x.1) (0, H) (by simp) ⟨by simp, Ext.refl _⟩ ?_
  rintro ⟨i, hp⟩ ⟨hi, hx⟩
  dsimp only at hi hx
  simp +contextual (dsimp := false)
  refine ifA_dec (fun h3 => ?_) (fun h3 => ?_)
  · obtain ⟨id, o, c, e, f, ow, cs, Fi, E⟩ := SlR.get (Rp.ext hs hx) i (by rw [mList_length]; exact h3)
    have hrep := E.rep
    rw [mList_get _ _ _ h3] at hrep
    obtain ⟨rfl, rfl, hok⟩ := hrep
    simp +contextual (dsimp := false) [E.idx, E.goB, E.le, E.lt, E.cell0]
    refine CallK.fl ⟨_, Tryz.func55, rfl, rfl⟩ (markText_ac (k + i) (by omega) (by omega) _) ?_
    simp +contextual (dsimp := false) [str_eq, E.goB, E.le, E.lt, E.cell0]
    refine LoopN.of (i + 1, hp) ?_ ⟨h3, hx⟩ (by dsimp only; omega)
    rw [wrap_of ((k : Int) + i + 1) (by omega) (by omega), wrap_of ((i : Int) + 1) (by omega) (by omega)]
    simp [Int.add_assoc]
  · exact ⟨by omega, hx⟩
end Go.Proofs.YtbigpkfdeaigeaaGreatDoor
