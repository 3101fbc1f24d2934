/- Is a deed right, by the reference? No condition. -/
import Derived.Test.YtehhjbomdohgoaaAcc
import Derived.Test.YtehhjbomdohgoaaAccD
import Derived.Test.YtehhjbomdohgoaaChk
set_option linter.unusedSimpArgs false
set_option linter.unusedVariables false
namespace Go.Proofs.Ytehhjbomdohgoaa
open Go Go.Am Go.Proofs
set_option maxRecDepth 20000
variable {ng : Nat}
theorem l3SourceOk_ac {own : Bool} {x : Deed} {c : List Value} {F : List Nat} {H : Heap} (hx : DeedR own H x c F) : AC Try.prog ng 100 [.agg c.toArray] H fun v S' => v = .bool (plainD x && decide (x.text.length ≤ 2000)) ∧ S' = H := by
  obtain ⟨hk, s1, s2, G1, G2, rfl, rfl, hc1, hc2⟩ := hx
  obtain ⟨a1, z1, rfl⟩ := hc1.form
  obtain ⟨a2, z2, rfl⟩ := hc2.form
  refine .flat (AC.go [] Try.func100 rfl Try.ntmps100 rfl ⟨mixed, by kernel_rfl⟩ ?_)
  simp +contextual (dsimp := false)
  repeat' refine ifA_dec (fun _ => ?_) (fun _ => ?_)
  all_goals simp_all [plainD]
  all_goals (intros; omega)
theorem deedOk_t {ds : List Deed} {i : Nat} {x : Deed} (h1 : nameOk x.name = true) (h3 : x.kind = 3) : deedOk ds i x = (decide (x.text.length ≤ 2000) && decide (0 ≤ x.code) && decide (x.code ≤ 5) && validP x.action && decide (x.links.length ≤ 200) && x.links.all (linkOk ds i)) := by
  simp only [deedOk, h1, h3]
  simp [Bool.and_assoc]
set_option maxHeartbeats 2000000 in
theorem l3TargetOk_ac {own : Bool} {ds : List Deed} {sd : Value} {F : List Nat} {H : Heap} (hs : DeedsR own H ds [sd] F) (p : Nat) (hp : p < ds.length) {x : Deed} (hX : ds[p] = x) (h1 : nameOk x.name = true) (hk3 : x.kind = 3) :
    AC Try.prog ng 101 [.agg #[sd], int p] H fun v S' => v = .bool (deedOk ds p x) ∧ S' = H := by
  obtain ⟨a3, z3, rfl⟩ := hs.form
  have hb3 := hs.bound
  obtain ⟨id0, o0, c0, e0, f0, ow0, cs0, Fi0, E0⟩ := SlR.get hs p hp
  rw [hX] at E0
  obtain ⟨hk, s1, s2, G1, G2, rfl, hFi, hc1, hc2⟩ := E0.rep
  obtain ⟨a1, z1, rfl⟩ := hc1.form
  obtain ⟨a2, z2, rfl⟩ := hc2.form
  have hb2 := hc2.bound
  refine .flat (AC.go [] Try.func101 rfl Try.ntmps101 rfl ⟨mixed, by kernel_rfl⟩ ?_)
  simp +contextual (dsimp := false) [E0.idx, E0.goB, E0.le, E0.lt, E0.ext]
  by_cases h4 : 0 ≤ x.code
  rotate_left
  · simp +contextual (dsimp := false) [show x.code < 0 by omega]
    simp [deedOk_t h1 hk3, h4]
  by_cases h5 : x.code ≤ 5
  rotate_left
  · simp +contextual (dsimp := false) [show ¬ x.code < 0 by omega, show 5 < x.code by omega]
    simp [deedOk_t h1 hk3, h5]
  by_cases h2 : x.text.length ≤ 2000
  rotate_left
  · simp +contextual (dsimp := false) [show ¬ x.code < 0 by omega, show ¬ 5 < x.code by omega, show (2000 : Int) < x.text.length by omega]
    simp [deedOk_t h1 hk3, h2]
  simp +contextual (dsimp := false) [show ¬ x.code < 0 by omega, show ¬ 5 < x.code by omega, show ¬ (2000 : Int) < x.text.length by omega]
  refine CallK.fl ⟨_, Try.func45, rfl, rfl⟩ (specValid_ac (Rp.ext hc1 (Ext.app _ _))) ?_
  simp +contextual (dsimp := false)
  refine ifA_intro (fun h6 => ?_) (fun h6 => ?_)
  rotate_left
  · simp [deedOk_t h1 hk3, h6]
  refine ifA_dec (fun h7 => ?_) (fun h7 => ?_)
  · have : ¬ x.links.length ≤ 200 := by omega
    simp [deedOk_t h1 hk3, this]
  have h7' : x.links.length ≤ 200 := by omega
  rw [deedOk_3 h1 h2 hk3 h4 h5 h6 h7']
  generalize hR : x.links.all (linkOk ds p) = R
  obtain ⟨H0, hH0⟩ : ∃ H0, H0 = H ++ [(⟨.cells #[.slice a3 ds.length z3] 43 (0, 0), true, true⟩ : Blk), ⟨.cells #[.string ⟨⟨x.name⟩⟩, .int .i64 x.kind, .int .i64 x.code, .string ⟨⟨x.text⟩⟩, .slice a1 x.action.length z1, .slice a2 x.links.length z2] 91 (0, 0), true, true⟩] := ⟨_, rfl⟩
  have hx0 : Ext H H0 := by rw [hH0]; exact Ext.app _ _
  have hb0 : H0[H.length]? = some (⟨.cells #[.slice a3 ds.length z3] 43 (0, 0), true, true⟩ : Blk) := by rw [hH0]; simp
  have hb1 : H0[H.length + 1]? = some (⟨.cells #[.string ⟨⟨x.name⟩⟩, .int .i64 x.kind, .int .i64 x.code, .string ⟨⟨x.text⟩⟩, .slice a1 x.action.length z1, .slice a2 x.links.length z2] 91 (0, 0), true, true⟩ : Blk) := by rw [hH0]; simp
  have hll : H0.length = H.length + 2 := by rw [hH0]; simp
  try rw [← hH0]
  refine LoopA.up (σ := Nat × Heap) [1, 2, 5, 6] (fun i => [(6, int i.1)]) (fun i => i.2) (fun i => i.1 ≤ x.links.length ∧ Ext H0 i.2 ∧ ∀ y ∈ x.links.take i.1, linkOk ds p y = true) (fun i => x.links.length - i.1) (0, _) rfl ⟨by simp, by first | exact Ext.refl _ | (rw [hH0]; exact Ext.refl _), by simp⟩ ?_
  rintro ⟨i, hp⟩ ⟨hi, he, hv⟩
  dsimp only at hi he hv
  have hex : Ext H hp := hx0.trans he
  have hle := he.le
  have hb : hp[H.length]? = _ := (he _ (by omega)).trans hb0
  have hbd : hp[H.length + 1]? = _ := (he _ (by omega)).trans hb1
  simp +contextual (dsimp := false) [hbd]
  refine ifA_dec (fun h3 => ?_) (fun h3 => ?_)
  rotate_left
  · obtain rfl : R = true := by rw [← hR]; exact List.all_eq_true.2 (all_end hv (by omega))
    simp [hex]
  obtain ⟨id, o, c, e, f, ow, cs, Fi, E⟩ := SlR.get (Rp.ext hc2 hex) i h3
  obtain ⟨rfl, rfl, hok⟩ := E.rep
  simp +contextual (dsimp := false) [E.idx, E.goB, E.blk, E.le, E.lt, E.ext, Lnk.c]
  refine CallK.fl ⟨_, Try.func43, rfl, rfl⟩ (l1NameOk_ac _ hok.1 _) ?_
  generalize hL : x.links[i] = L at *
  cases hn : nameOk L.name
  · simp +contextual (dsimp := false)
    obtain rfl : R = false := by rw [← hR]; exact all_bad h3 (by simp [linkOk, hL, hn])
    simp [hex]
  cases ha : L.ask
  · simp +contextual (dsimp := false) [ha, wrap_succ (show i < 9223372036854775807 by omega)]
    refine ifA_dec (fun h8 => ?_) (fun h8 => ?_)
    · exact LoopN.of (i + 1, _) rfl ⟨h3, he.trans (Ext.app _ _), all_take hv h3 (by simp [linkOk, hL, hn, ha, h8])⟩ (by dsimp only; omega)
    · obtain rfl : R = false := by rw [← hR]; exact all_bad h3 (by simp [linkOk, hL, hn, ha, h8])
      simp [hex]
  cases hh : L.has
  rotate_left
  · simp +contextual (dsimp := false) [ha, hh]
    obtain rfl : R = false := by rw [← hR]; exact all_bad h3 (by simp [linkOk, hL, hn, ha, hh])
    simp [hex]
  by_cases h8 : L.at_ < 0
  · simp +contextual (dsimp := false) [ha, hh, h8]
    obtain rfl : R = false := by rw [← hR]; exact all_bad h3 (by simp [linkOk, hL, hn, ha, hh]; omega)
    simp [hex]
  by_cases h9 : (p : Int) ≤ L.at_
  · simp +contextual (dsimp := false) [ha, hh, h8, h9]
    obtain rfl : R = false := by rw [← hR]; exact all_bad h3 (by simp [linkOk, hL, hn, ha, hh]; omega)
    simp [hex]
  obtain ⟨j, hj⟩ : ∃ j : Nat, L.at_ = j := ⟨L.at_.toNat, by omega⟩
  have hjl : j < ds.length := by omega
  obtain ⟨id2, o2, c2, e2, f2, ow2, cs2, Fi2, E2⟩ := SlR.get (Rp.ext hs hex) j hjl
  obtain ⟨hkk, t1, t2, G1', G2', rfl, hFi', hcc1, hcc2⟩ := E2.rep
  have hd : dAt ds j = ds[j] := dAt_lt hjl
  have hbq : ∀ T : Heap, (hp ++ T)[H.length]? = _ := fun T => (get_ext (by omega)).trans hb
  by_cases h10 : ds[j].name = L.name
  · simp +contextual (dsimp := false) [hbq, ha, hh, hj, h10, show ¬ (j : Int) < 0 by omega, show ¬ p ≤ j by omega, E2.idx, E2.goB, E2.blk, E2.le, E2.lt, E2.cell0, wrap_succ (show i < 9223372036854775807 by omega)]
    exact LoopN.of (i + 1, _) rfl ⟨h3, he.trans (Ext.app _ _), all_take hv h3 (by simp [linkOk, hL, hn, ha, hh, hj, hd, h10]; omega)⟩ (by dsimp only; omega)
  · simp +contextual (dsimp := false) [hbq, ha, hh, hj, h10, show ¬ (j : Int) < 0 by omega, show ¬ p ≤ j by omega, E2.idx, E2.goB, E2.blk, E2.le, E2.lt, E2.cell0]
    obtain rfl : R = false := by rw [← hR]; exact all_bad h3 (by simp [linkOk, hL, hn, ha, hh, hj, hd, h10])
    simp [hex]
theorem l3DeedOk_ac {own : Bool} {ds : List Deed} {sd : Value} {F : List Nat} {H : Heap} (hs : DeedsR own H ds [sd] F) (p : Nat) (hp : p < ds.length) :
    AC Try.prog ng 54 [.agg #[sd], int p] H fun v S' => v = .bool (deedOk ds p ds[p]) ∧ S' = H := by
  have hs0 := hs
  obtain ⟨a3, z3, rfl⟩ := hs.form
  have hb3 := hs.bound
  obtain ⟨id0, o0, c0, e0, f0, ow0, cs0, Fi0, E0⟩ := SlR.get hs p hp
  have hrep := E0.rep
  generalize hX : ds[p] = x at *
  obtain ⟨hk, s1, s2, G1, G2, rfl, hFi, hc1, hc2⟩ := E0.rep
  obtain ⟨hk1, hk2, hk3, hk4⟩ := id hk
  obtain ⟨a1, z1, rfl⟩ := hc1.form
  obtain ⟨a2, z2, rfl⟩ := hc2.form
  refine .flat (AC.go [] Try.func54 rfl Try.ntmps54 rfl ⟨mixed, by kernel_rfl⟩ ?_)
  simp +contextual (dsimp := false) [E0.idx, E0.goB, E0.le, E0.lt, E0.ext]
  refine CallK.fl ⟨_, Try.func43, rfl, rfl⟩ (l1NameOk_ac _ hk1 _) ?_
  cases h1 : nameOk x.name
  · simp +contextual (dsimp := false)
    simp [deedOk, h1]
  by_cases q1 : x.kind = 1
  · simp +contextual (dsimp := false) [q1]
    refine CallK.fl ⟨_, Try.func100, rfl, rfl⟩ (l3SourceOk_ac (Rp.ext (q1 ▸ hrep) (Ext.app _ _))) ?_
    simp +contextual (dsimp := false)
    simp [deedOk, h1, q1, Bool.and_comm]
  by_cases q2 : x.kind = 2
  · simp +contextual (dsimp := false) [q2]
    repeat' refine ifA_dec (fun _ => ?_) (fun _ => ?_)
    all_goals simp_all [deedOk, plainD]
  by_cases q3 : x.kind = 3
  rotate_left
  · simp +contextual (dsimp := false) [q1, q2, q3]
    simp [deedOk, h1, q1, q2, q3]
  simp +contextual (dsimp := false) [q3]
  refine CallK.fl ⟨_, Try.func101, rfl, rfl⟩ (l3TargetOk_ac (Rp.ext hs0 (Ext.app _ _)) p hp hX h1 q3) ?_
  simp +contextual (dsimp := false)
end Go.Proofs.Ytehhjbomdohgoaa
