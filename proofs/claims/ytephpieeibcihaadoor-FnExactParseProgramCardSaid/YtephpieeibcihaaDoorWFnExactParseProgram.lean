/- FnExactParseProgram: its walk. No condition. -/
import Derived.Test.YtephpieeibcihaaDoorParW
import Derived.Test.YtephpieeibcihaaDoorRdP
import Derived.Test.YtephpieeibcihaaDoorLFlat
set_option linter.unusedSimpArgs false
set_option linter.unusedVariables false
namespace Go.Proofs.YtephpieeibcihaaDoor
open Go Go.Am
set_option maxRecDepth 20000
variable {ng : Nat}
theorem markProgram_ac {l : List Ins} {s : Value} {F : List Nat} {H : Heap} (hs : CodeR true H l [s] F) (hnd : F.Nodup) (k : Nat) {e : Int} (hek : e = k) (hk : k + sumN Ins.m l ≤ 1000000000) :
    AC Tryd.prog ng 11 [.agg #[s], int e] H fun v S' => v = int ((k + sumN Ins.m l : Nat) : Int) ∧ CodeR true S' (mkL Ins.mk' Ins.m k l) [s] F ∧ H.length ≤ S'.length ∧ ∀ j, j < H.length → j ∉ F → S'[j]? = H[j]? := by
  obtain ⟨a, z, rfl⟩ := hs.form
  refine AC.go [] Tryd.func11 rfl Tryd.ntmps11 rfl ⟨mixed, by kernel_rfl⟩ ?_
  simp +contextual (dsimp := false)
  refine CallK.of ⟨_, Tryd.func30, rfl, rfl⟩ (markInsS_ac (Rp.ext hs (Ext.app _ _)) hnd k hek hk) ?_
  rintro v S' ⟨rfl, q1, q2, q3⟩
  simp +contextual (dsimp := false)
  exact ⟨q1, by simp at q2; omega, fun j hj hn => by rw [q3 j hn, get_ext hj, List.getElem?_eq_getElem hj]⟩
theorem heldProgram_ac {own : Bool} {l : List Ins} {k : Nat} {s : Value} {F : List Nat} {H : Heap} (hs : CodeR own H (mkL Ins.mk' Ins.m k l) [s] F) {e : Int} (hek : e = k) (hk : k + sumN Ins.m l ≤ 1000000000) :
    AC Tryd.prog ng 12 [.agg #[s], int e] H fun v S' => v = int ((k + sumN Ins.m l : Nat) : Int) ∧ S' = H := by
  obtain ⟨a, z, rfl⟩ := hs.form
  refine .flat (AC.go [] Tryd.func12 rfl Tryd.ntmps12 rfl ⟨mixed, by kernel_rfl⟩ ?_)
  simp +contextual (dsimp := false)
  refine CallK.fl ⟨_, Tryd.func31, rfl, rfl⟩ (heldInsS_ac (Rp.ext hs (Ext.app _ _)) hek hk) ?_
  simp +contextual (dsimp := false)
  refine ifA_dec (fun h => ?_) (fun h => ?_)
  · omega
  · simp
theorem eqFault_ac (a b c d : Int) (H : Heap) : AC Tryd.prog ng 10 [.agg #[int a, int b], .agg #[int c, int d]] H fun v S' => v = .bool (decide (a = c ∧ b = d)) ∧ S' = H := by
  refine .flat (AC.go [] Tryd.func10 rfl Tryd.ntmps10 rfl ⟨mixed, by kernel_rfl⟩ ?_)
  simp +contextual (dsimp := false)
  by_cases h1 : a = c
  · by_cases h2 : b = d <;> simp [h1, h2]
  · simp [h1]
theorem parseFrom_len (ls : List (List UInt8)) : ∀ (f k : Nat) (p : List Ins), (parseFrom ls f k p).1.length ≤ 200
  | 0, k, p => by simp [parseFrom]
  | f + 1, k, p => by
    rw [parseFrom]
    split
    · split
      · exact parseFrom_len ls f _ _
      · simp
    · split
      · simp
      · split
        · simp
        · dsimp only; omega
theorem parseP_len (src : List UInt8) : (parseP src).1.length ≤ 200 := by
  unfold parseP
  split
  · simp
  · exact parseFrom_len _ _ _ _
theorem parseP_m (src : List UInt8) : sumN Ins.m (parseP src).1 ≤ 600 := by
  have h := parseP_len src
  have : sumN Ins.m (parseP src).1 = 3 * (parseP src).1.length := sumN_const 3 _
  omega
set_option maxHeartbeats 1000000 in
theorem fnExactParseProgram_ac {H : Heap} {src : List UInt8} (hn1 : okS src) (hE : ErrG gE H) (hW : WordsG gW H) (hP : P10 g10 H) (h0 : gW < ng) (h2 : g10 < ng) (hg : gE < ng) :
    AC Tryd.prog ng 3 [str src] H fun v S' => v = .bool true ∧ S' = H := by
  refine .flat (AC.go [] Tryd.func3 rfl Tryd.ntmps3 rfl ⟨mixed, by kernel_rfl⟩ ?_)
  simp +contextual (dsimp := false)
  refine ifA_dec (fun h => ?_) (fun h => ?_)
  · simp
  have hm := parseP_m src
  have hpa := fun H' => specParse_ac (ng := ng) (src := src) (H := H')
  have hpi := fun (H' : Heap) (he : Ext H H') => implParse_ac (ng := ng) (src := src) (H := H') (hW.ext he) (hP.ext he) (hE.ext he) h0 h2 hg
  generalize parseP src = pp at hpa hpi hm
  obtain ⟨pl, pc, pn⟩ := pp
  dsimp only at hpa hpi hm
  refine CallK.of ⟨_, Tryd.func7, rfl, rfl⟩ (hpa _) ?_
  rintro v S1 ⟨sw, Fw, rfl, hew, hvw, hfw⟩
  obtain ⟨X1, rfl⟩ := hew.split
  obtain ⟨aw, zw, rfl⟩ := hvw.form
  simp +contextual (dsimp := false)
  refine CallK.of ⟨_, Tryd.func8, rfl, rfl⟩ (hpi _ (by first | exact Ext.app _ _ | exact Ext.refl _ | (refine Ext.of ?_; simp))) ?_
  rintro v S2 ⟨sg, Fg, rfl, heg, hvg, hfg⟩
  obtain ⟨X2, rfl⟩ := heg.split
  try simp only [List.append_assoc, List.cons_append, List.nil_append] at hvg ⊢
  obtain ⟨ag, zg, rfl⟩ := hvg.form
  simp +contextual (dsimp := false)
  refine CallK.fl ⟨_, Tryd.func9, rfl, rfl⟩ (eqProgram_ac (Rp.ext hvg (by first | exact Ext.app _ _ | exact Ext.refl _ | (refine Ext.of ?_; simp))) (Rp.ext hvw (by first | exact Ext.app _ _ | exact Ext.refl _ | (refine Ext.of ?_; simp)))) ?_
  simp +contextual (dsimp := false)
  refine CallK.fl ⟨_, Tryd.func10, rfl, rfl⟩ (eqFault_ac pc pn pc pn _) ?_
  simp +contextual (dsimp := false)
  refine CallK.gen fun K hK => ?_
  have hKx : Ext H K := by rw [hK]; first | exact Ext.app _ _ | exact Ext.refl _ | (refine Ext.of ?_; simp)
  have kx1 : K[H.length + X1.length]? = some (⟨.cells #[.slice aw pl.length zw] 24 (0, 0), true, true⟩ : Blk) := by rw [hK]; first | (simp only [get_at, get_at0, List.getElem?_cons_succ, List.getElem?_cons_zero]; done) | simp
  have kx2 : K[H.length + (X1.length + 1)]? = some (⟨.cells #[int pc, int pn] 26 (0, 0), true, true⟩ : Blk) := by rw [hK]; first | (simp only [get_at, get_at0, List.getElem?_cons_succ, List.getElem?_cons_zero]; done) | simp
  have kx3 : K[H.length + (X1.length + (X2.length + 1 + 1))]? = some (⟨.cells #[.slice ag pl.length zg] 24 (0, 0), true, true⟩ : Blk) := by rw [hK]; first | (simp only [get_at, get_at0, List.getElem?_cons_succ, List.getElem?_cons_zero]; done) | simp
  have krw := Rp.ext hvw (H' := K) (by rw [hK]; first | exact Ext.app _ _ | exact Ext.refl _ | (refine Ext.of ?_; simp))
  have krg := Rp.ext hvg (H' := K) (by rw [hK]; first | exact Ext.app _ _ | exact Ext.refl _ | (refine Ext.of ?_; simp))
  have hlw := Rp.lt hvw
  have hlg := Rp.lt hvg
  have hkl := congrArg List.length hK
  simp only [List.length_append, List.length_cons, List.length_nil, Fresh] at hkl hlw hlg hfw hfg
  have n1 : H.length + X1.length ∉ Fg := fun hm => by have a := hfg.1 _ hm; have b := hlg _ hm; omega
  have n2 : H.length + (X1.length + 1) ∉ Fg := fun hm => by have a := hfg.1 _ hm; have b := hlg _ hm; omega
  have n3 : H.length + (X1.length + (X2.length + 1 + 1)) ∉ Fg := fun hm => by have a := hfg.1 _ hm; have b := hlg _ hm; omega
  have dgw : ∀ j ∈ Fg, j ∉ Fw := fun j h1 h2 => by have a := hfg.1 _ h1; have b := hlg _ h1; have c := hfw.1 _ h2; have d := hlw _ h2; omega
  have og : ∀ j, j < H.length → j ∉ Fg := fun j hj hm => by have a := hfg.1 _ hm; omega
  clear hK
  refine CallK.of ⟨_, Tryd.func11, rfl, rfl⟩ (markProgram_ac krg hfg.2 1 rfl (by omega)) ?_
  rintro v N ⟨rfl, qN, lN, eN⟩
  have m1 := (eN _ (List.getElem?_eq_some_iff.1 kx1).1 n1).trans kx1
  have m2 := (eN _ (List.getElem?_eq_some_iff.1 kx2).1 n2).trans kx2
  have m3 := (eN _ (List.getElem?_eq_some_iff.1 kx3).1 n3).trans kx3
  have krwN := Rp.fr (H' := N) krw fun j hj => eN j (Rp.lt krw j hj) fun h => dgw j h hj
  have hxN : Ext H N := fun j hj => (eN j (by omega) (og j hj)).trans (hKx j hj)
  simp +contextual (dsimp := false) [m1, m2, m3]
  refine CallK.fl ⟨_, Tryd.func12, rfl, rfl⟩ (heldProgram_ac (k := 1) qN rfl (by omega)) ?_
  simp +contextual (dsimp := false) [m1, m2, m3]
  try refine ifA_dec (fun h => by omega) (fun _ => ?_)
  refine CallK.of ⟨_, Tryd.func8, rfl, rfl⟩ (hpi _ hxN) ?_
  rintro v S3 ⟨sh, Fh, rfl, heh, hvh, hfh⟩
  obtain ⟨X3, rfl⟩ := heh.split
  obtain ⟨ah, zh, rfl⟩ := hvh.form
  have hln1 := (List.getElem?_eq_some_iff.1 m1).1
  have hln2 := (List.getElem?_eq_some_iff.1 m2).1
  have m1T : ∀ T : Heap, (N ++ T)[H.length + X1.length]? = _ := fun T => (List.getElem?_append_left hln1).trans m1
  have m2T : ∀ T : Heap, (N ++ T)[H.length + (X1.length + 1)]? = _ := fun T => (List.getElem?_append_left hln2).trans m2
  simp +contextual (dsimp := false) [m1T, m2T]
  refine CallK.fl ⟨_, Tryd.func9, rfl, rfl⟩ (eqProgram_ac (Rp.ext hvh (by first | exact Ext.app _ _ | exact Ext.refl _ | (refine Ext.of ?_; simp))) (Rp.ext krwN (by first | exact Ext.app _ _ | exact Ext.refl _ | (refine Ext.of ?_; simp)))) ?_
  simp +contextual (dsimp := false) [m1T, m2T]
  refine CallK.fl ⟨_, Tryd.func10, rfl, rfl⟩ (eqFault_ac pc pn pc pn _) ?_
  simp +contextual (dsimp := false)
  exact hxN.trans (Ext.app _ _)
end Go.Proofs.YtephpieeibcihaaDoor
