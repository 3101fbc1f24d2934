import Derived.Test.YtbigpkfdeaigeaaGreatDoorAcc
import Derived.Test.YtbigpkfdeaigeaaGreatDoorNam
import Derived.Test.YtbigpkfdeaigeaaGreatDoorChk
import Derived.Test.YtbigpkfdeaigeaaGreatDoorAm23
/- Is a deed right? No condition. -/
set_option linter.unusedSimpArgs false
set_option linter.unusedVariables false
namespace Go.Proofs.YtbigpkfdeaigeaaGreatDoor
open Go Go.Am Go.Proofs
set_option maxRecDepth 20000
variable {ng : Nat}
theorem deedOk_name {ds : List Deed} {i : Nat} {x : Deed} (h : nameOk x.name = false) : deedOk ds i x = false := by simp [deedOk, h]
theorem deedOk_text {ds : List Deed} {i : Nat} {x : Deed} (h : 2000 < x.text.length) : deedOk ds i x = false := by
  have : ¬ x.text.length ≤ 2000 := by omega
  simp [deedOk, this]
theorem deedOk_3 {ds : List Deed} {i : Nat} {x : Deed} (h1 : nameOk x.name = true) (h2 : x.text.length ≤ 2000) (h3 : x.kind = 3) (h4 : 0 ≤ x.code) (h5 : x.code ≤ 5) (h6 : validP x.action = true) (h7 : x.links.length ≤ 200) : deedOk ds i x = x.links.all (linkOk ds i) := by
  simp [deedOk, *]
theorem all_bad {ds : List Deed} {i k : Nat} {l : List Lnk} (h : k < l.length) (hb : linkOk ds i l[k] = false) : l.all (linkOk ds i) = false := List.all_eq_false.2 ⟨l[k], List.getElem_mem h, by simp [hb]⟩
set_option maxHeartbeats 2000000 in
theorem right_ac {own own' : Bool} {ds : List Deed} {sd : Value} {F : List Nat} {H : Heap} (hs : DeedsR own H ds [sd] F) {x : Deed} {c : List Value} {Fx : List Nat} (hx : DeedR own' H x c Fx) (p : Nat) (hp : p < ds.length) :
    AC Tryz.prog ng 146 [.agg c.toArray, int p, sd] H fun v S' => v = .bool (deedOk ds p x) ∧ S' = H := by
  obtain ⟨hk, s1, s2, G1, G2, rfl, rfl, hc1, hc2⟩ := hx
  obtain ⟨hk1, hk2, hk3, hk4⟩ := id hk
  obtain ⟨a1, z1, rfl⟩ := hc1.form
  obtain ⟨a2, z2, rfl⟩ := hc2.form
  obtain ⟨a3, z3, rfl⟩ := hs.form
  have hb2 := hc2.bound
  have hb3 := hs.bound
  refine .flat (AC.go [] Tryz.func146 rfl Tryz.ntmps146 rfl ⟨mixed, by kernel_rfl⟩ ?_)
  cases h1 : nameOk x.name
  · rw [deedOk_name h1]
    simp +contextual (dsimp := false)
    refine CallK.fl ⟨_, Tryz.func136, rfl, rfl⟩ (isName_ac _ hk1 _) ?_
    simp +contextual (dsimp := false) [h1]
  by_cases h2 : 2000 < x.text.length
  · rw [deedOk_text h2]
    simp +contextual (dsimp := false)
    refine CallK.fl ⟨_, Tryz.func136, rfl, rfl⟩ (isName_ac _ hk1 _) ?_
    simp +contextual (dsimp := false) [h1, show (2000 : Int) < x.text.length by omega]
  have h2' : x.text.length ≤ 2000 := by omega
  have h2n : ¬ (2000 : Int) < x.text.length := by omega
  by_cases q1 : x.kind = 1
  · simp +contextual (dsimp := false)
    refine CallK.fl ⟨_, Tryz.func136, rfl, rfl⟩ (isName_ac _ hk1 _) ?_
    simp +contextual (dsimp := false) [h1, h2n, q1]
    repeat' refine ifA_dec (fun _ => ?_) (fun _ => ?_)
    all_goals simp_all [deedOk, plainD]
  by_cases q2 : x.kind = 2
  · simp +contextual (dsimp := false)
    refine CallK.fl ⟨_, Tryz.func136, rfl, rfl⟩ (isName_ac _ hk1 _) ?_
    simp +contextual (dsimp := false) [h1, h2n, q2]
    repeat' refine ifA_dec (fun _ => ?_) (fun _ => ?_)
    all_goals simp_all [deedOk, plainD]
  by_cases q3 : x.kind = 3
  rotate_left
  · simp +contextual (dsimp := false)
    refine CallK.fl ⟨_, Tryz.func136, rfl, rfl⟩ (isName_ac _ hk1 _) ?_
    simp +contextual (dsimp := false) [h1, h2n, q1, q2, q3]
    repeat' refine ifA_dec (fun _ => ?_) (fun _ => ?_)
    all_goals simp_all [deedOk, plainD]
  by_cases c0 : x.code = 0
  · by_cases l1 : x.action.length = 0
    · have hv : validP x.action = false := by simp [validP, l1]
      by_cases l2 : x.links.length = 0
      all_goals
        simp +contextual (dsimp := false)
        refine CallK.fl ⟨_, Tryz.func136, rfl, rfl⟩ (isName_ac _ hk1 _) ?_
        simp +contextual (dsimp := false) [h1, h2n, q3, c0, l1, l2]
        refine CallK.fl ⟨_, Tryz.func147, rfl, rfl⟩ (validProgram_ac (Rp.ext (l1 ▸ hc1) (Ext.app _ _))) ?_
        simp +contextual (dsimp := false) [hv]
        simp [deedOk, hv, q3]
    have h4 : 0 ≤ x.code := by omega
    have h5 : x.code ≤ 5 := by omega
    simp +contextual (dsimp := false)
    refine CallK.fl ⟨_, Tryz.func136, rfl, rfl⟩ (isName_ac _ hk1 _) ?_
    simp +contextual (dsimp := false) [h1, h2n, q3, c0, l1]
    refine CallK.fl ⟨_, Tryz.func147, rfl, rfl⟩ (validProgram_ac (Rp.ext hc1 (Ext.app _ _))) ?_
    simp +contextual (dsimp := false)
    refine ifA_intro (fun h6 => ?_) (fun h6 => ?_)
    rotate_left
    · simp [deedOk, h6, q3]
    refine ifA_dec (fun h7 => ?_) (fun h7 => ?_)
    · have : ¬ x.links.length ≤ 200 := by omega
      simp [deedOk, this, q3]
    have h7' : x.links.length ≤ 200 := by omega
    rw [deedOk_3 h1 h2' q3 h4 h5 h6 h7']
    generalize hR : x.links.all (linkOk ds p) = R
    obtain ⟨H0, hH0⟩ : ∃ H0, H0 = H ++ [(⟨.cells #[.string ⟨⟨x.name⟩⟩, .int .i64 x.kind, .int .i64 x.code, .string ⟨⟨x.text⟩⟩, .slice a1 x.action.length z1, .slice a2 x.links.length z2] 57 (0, 0), true, true⟩ : Blk)] := ⟨_, rfl⟩
    have hx0 : Ext H H0 := by rw [hH0]; exact Ext.app _ _
    refine LoopA.up (σ := Nat × Heap) [1, 2, 72, 73, 74] (fun i => [(74, int i.1)]) (fun i => i.2) (fun i => i.1 ≤ x.links.length ∧ Ext H i.2 ∧ ∀ y ∈ x.links.take i.1, linkOk ds p y = true) (fun i => x.links.length - i.1) (0, _) rfl ⟨by simp, Ext.app _ _, by simp⟩ ?_
    rintro ⟨i, hp⟩ ⟨hi, he, hv⟩
    dsimp only at hi he hv
    simp +contextual (dsimp := false)
    refine ifA_dec (fun h3 => ?_) (fun h3 => ?_)
    rotate_left
    · obtain rfl : R = true := by rw [← hR]; exact List.all_eq_true.2 (all_end hv (by omega))
      simp [he]
    obtain ⟨id, o, c, e, f, ow, cs, Fi, E⟩ := SlR.get (Rp.ext hc2 he) i h3
    obtain ⟨rfl, rfl, hok⟩ := E.rep
    simp +contextual (dsimp := false) [E.idx, E.goB, E.le, E.lt, E.ext, Lnk.c]
    refine CallK.fl ⟨_, Tryz.func136, rfl, rfl⟩ (isName_ac _ hok.1 _) ?_
    generalize hL : x.links[i] = L at *
    cases hn : nameOk L.name
    · simp +contextual (dsimp := false)
      obtain rfl : R = false := by rw [← hR]; exact all_bad h3 (by simp [linkOk, hL, hn])
      simp [he]
    cases ha : L.ask
    · simp +contextual (dsimp := false) [ha, wrap_succ (show i < 9223372036854775807 by omega)]
      refine ifA_dec (fun h8 => ?_) (fun h8 => ?_)
      · exact LoopN.of (i + 1, _) rfl ⟨h3, he.trans (Ext.app _ _), all_take hv h3 (by simp [linkOk, hL, hn, ha, h8])⟩ (by dsimp only; omega)
      · obtain rfl : R = false := by rw [← hR]; exact all_bad h3 (by simp [linkOk, hL, hn, ha, h8])
        simp [he]
    cases hh : L.has
    rotate_left
    · simp +contextual (dsimp := false) [ha, hh]
      obtain rfl : R = false := by rw [← hR]; exact all_bad h3 (by simp [linkOk, hL, hn, ha, hh])
      simp [he]
    by_cases h8 : L.at_ < 0
    · simp +contextual (dsimp := false) [ha, hh, h8]
      obtain rfl : R = false := by rw [← hR]; exact all_bad h3 (by simp [linkOk, hL, hn, ha, hh]; omega)
      simp [he]
    by_cases h9 : (p : Int) ≤ L.at_
    · simp +contextual (dsimp := false) [ha, hh, h8, h9]
      obtain rfl : R = false := by rw [← hR]; exact all_bad h3 (by simp [linkOk, hL, hn, ha, hh]; omega)
      simp [he]
    obtain ⟨j, hj⟩ : ∃ j : Nat, L.at_ = j := ⟨L.at_.toNat, by omega⟩
    have hjl : j < ds.length := by omega
    obtain ⟨id2, o2, c2, e2, f2, ow2, cs2, Fi2, E2⟩ := SlR.get (Rp.ext hs he) j hjl
    obtain ⟨hkk, t1, t2, G1', G2', rfl, hFi, hcc1, hcc2⟩ := E2.rep
    have hd : dAt ds j = ds[j] := dAt_lt hjl
    by_cases h10 : ds[j].name = L.name
    · simp +contextual (dsimp := false) [ha, hh, hj, h10, show ¬ (j : Int) < 0 by omega, show ¬ p ≤ j by omega, E2.idx, E2.goB, E2.le, E2.lt, E2.cell0, wrap_succ (show i < 9223372036854775807 by omega)]
      exact LoopN.of (i + 1, _) rfl ⟨h3, he.trans (Ext.app _ _), all_take hv h3 (by simp [linkOk, hL, hn, ha, hh, hj, hd, h10]; omega)⟩ (by dsimp only; omega)
    · simp +contextual (dsimp := false) [ha, hh, hj, h10, show ¬ (j : Int) < 0 by omega, show ¬ p ≤ j by omega, E2.idx, E2.goB, E2.le, E2.lt, E2.cell0]
      obtain rfl : R = false := by rw [← hR]; exact all_bad h3 (by simp [linkOk, hL, hn, ha, hh, hj, hd, h10])
      simp [he]
  · by_cases h4 : 0 ≤ x.code
    rotate_left
    · simp +contextual (dsimp := false)
      refine CallK.fl ⟨_, Tryz.func136, rfl, rfl⟩ (isName_ac _ hk1 _) ?_
      simp +contextual (dsimp := false) [h1, h2n, q3, c0, show x.code < 0 by omega]
      simp [deedOk, h4, q3]
    by_cases h5 : x.code ≤ 5
    rotate_left
    · simp +contextual (dsimp := false)
      refine CallK.fl ⟨_, Tryz.func136, rfl, rfl⟩ (isName_ac _ hk1 _) ?_
      simp +contextual (dsimp := false) [h1, h2n, q3, c0, show ¬ x.code < 0 by omega, show 5 < x.code by omega]
      simp [deedOk, h5, q3]
    simp +contextual (dsimp := false)
    refine CallK.fl ⟨_, Tryz.func136, rfl, rfl⟩ (isName_ac _ hk1 _) ?_
    simp +contextual (dsimp := false) [h1, h2n, q3, c0, show ¬ x.code < 0 by omega, show ¬ 5 < x.code by omega]
    refine CallK.fl ⟨_, Tryz.func147, rfl, rfl⟩ (validProgram_ac (Rp.ext hc1 (Ext.app _ _))) ?_
    simp +contextual (dsimp := false)
    refine ifA_intro (fun h6 => ?_) (fun h6 => ?_)
    rotate_left
    · simp [deedOk, h6, q3]
    refine ifA_dec (fun h7 => ?_) (fun h7 => ?_)
    · have : ¬ x.links.length ≤ 200 := by omega
      simp [deedOk, this, q3]
    have h7' : x.links.length ≤ 200 := by omega
    rw [deedOk_3 h1 h2' q3 h4 h5 h6 h7']
    generalize hR : x.links.all (linkOk ds p) = R
    obtain ⟨H0, hH0⟩ : ∃ H0, H0 = H ++ [(⟨.cells #[.string ⟨⟨x.name⟩⟩, .int .i64 x.kind, .int .i64 x.code, .string ⟨⟨x.text⟩⟩, .slice a1 x.action.length z1, .slice a2 x.links.length z2] 57 (0, 0), true, true⟩ : Blk)] := ⟨_, rfl⟩
    have hx0 : Ext H H0 := by rw [hH0]; exact Ext.app _ _
    refine LoopA.up (σ := Nat × Heap) [1, 2, 72, 73, 74] (fun i => [(74, int i.1)]) (fun i => i.2) (fun i => i.1 ≤ x.links.length ∧ Ext H i.2 ∧ ∀ y ∈ x.links.take i.1, linkOk ds p y = true) (fun i => x.links.length - i.1) (0, _) rfl ⟨by simp, Ext.app _ _, by simp⟩ ?_
    rintro ⟨i, hp⟩ ⟨hi, he, hv⟩
    dsimp only at hi he hv
    simp +contextual (dsimp := false)
    refine ifA_dec (fun h3 => ?_) (fun h3 => ?_)
    rotate_left
    · obtain rfl : R = true := by rw [← hR]; exact List.all_eq_true.2 (all_end hv (by omega))
      simp [he]
    obtain ⟨id, o, c, e, f, ow, cs, Fi, E⟩ := SlR.get (Rp.ext hc2 he) i h3
    obtain ⟨rfl, rfl, hok⟩ := E.rep
    simp +contextual (dsimp := false) [E.idx, E.goB, E.le, E.lt, E.ext, Lnk.c]
    refine CallK.fl ⟨_, Tryz.func136, rfl, rfl⟩ (isName_ac _ hok.1 _) ?_
    generalize hL : x.links[i] = L at *
    cases hn : nameOk L.name
    · simp +contextual (dsimp := false)
      obtain rfl : R = false := by rw [← hR]; exact all_bad h3 (by simp [linkOk, hL, hn])
      simp [he]
    cases ha : L.ask
    · simp +contextual (dsimp := false) [ha, wrap_succ (show i < 9223372036854775807 by omega)]
      refine ifA_dec (fun h8 => ?_) (fun h8 => ?_)
      · exact LoopN.of (i + 1, _) rfl ⟨h3, he.trans (Ext.app _ _), all_take hv h3 (by simp [linkOk, hL, hn, ha, h8])⟩ (by dsimp only; omega)
      · obtain rfl : R = false := by rw [← hR]; exact all_bad h3 (by simp [linkOk, hL, hn, ha, h8])
        simp [he]
    cases hh : L.has
    rotate_left
    · simp +contextual (dsimp := false) [ha, hh]
      obtain rfl : R = false := by rw [← hR]; exact all_bad h3 (by simp [linkOk, hL, hn, ha, hh])
      simp [he]
    by_cases h8 : L.at_ < 0
    · simp +contextual (dsimp := false) [ha, hh, h8]
      obtain rfl : R = false := by rw [← hR]; exact all_bad h3 (by simp [linkOk, hL, hn, ha, hh]; omega)
      simp [he]
    by_cases h9 : (p : Int) ≤ L.at_
    · simp +contextual (dsimp := false) [ha, hh, h8, h9]
      obtain rfl : R = false := by rw [← hR]; exact all_bad h3 (by simp [linkOk, hL, hn, ha, hh]; omega)
      simp [he]
    obtain ⟨j, hj⟩ : ∃ j : Nat, L.at_ = j := ⟨L.at_.toNat, by omega⟩
    have hjl : j < ds.length := by omega
    obtain ⟨id2, o2, c2, e2, f2, ow2, cs2, Fi2, E2⟩ := SlR.get (Rp.ext hs he) j hjl
    obtain ⟨hkk, t1, t2, G1', G2', rfl, hFi, hcc1, hcc2⟩ := E2.rep
    have hd : dAt ds j = ds[j] := dAt_lt hjl
    by_cases h10 : ds[j].name = L.name
    · simp +contextual (dsimp := false) [ha, hh, hj, h10, show ¬ (j : Int) < 0 by omega, show ¬ p ≤ j by omega, E2.idx, E2.goB, E2.le, E2.lt, E2.cell0, wrap_succ (show i < 9223372036854775807 by omega)]
      exact LoopN.of (i + 1, _) rfl ⟨h3, he.trans (Ext.app _ _), all_take hv h3 (by simp [linkOk, hL, hn, ha, hh, hj, hd, h10]; omega)⟩ (by dsimp only; omega)
    · simp +contextual (dsimp := false) [ha, hh, hj, h10, show ¬ (j : Int) < 0 by omega, show ¬ p ≤ j by omega, E2.idx, E2.goB, E2.le, E2.lt, E2.cell0]
      obtain rfl : R = false := by rw [← hR]; exact all_bad h3 (by simp [linkOk, hL, hn, ha, hh, hj, hd, h10])
      simp [he]
end Go.Proofs.YtbigpkfdeaigeaaGreatDoor

/- Is a deed right, by the reference? No condition. -/
set_option linter.unusedSimpArgs false
set_option linter.unusedVariables false
namespace Go.Proofs.YtbigpkfdeaigeaaGreatDoor
open Go Go.Am Go.Proofs
set_option maxRecDepth 20000
variable {ng : Nat}
theorem l3SourceOk_ac {own : Bool} {x : Deed} {c : List Value} {F : List Nat} {H : Heap} (hx : DeedR own H x c F) : AC Tryz.prog ng 174 [.agg c.toArray] H fun v S' => v = .bool (plainD x && decide (x.text.length ≤ 2000)) ∧ S' = H := by
  obtain ⟨hk, s1, s2, G1, G2, rfl, rfl, hc1, hc2⟩ := hx
  obtain ⟨a1, z1, rfl⟩ := hc1.form
  obtain ⟨a2, z2, rfl⟩ := hc2.form
  refine .flat (AC.go [] Tryz.func174 rfl Tryz.ntmps174 rfl ⟨mixed, by kernel_rfl⟩ ?_)
  simp +contextual (dsimp := false)
  repeat' refine ifA_dec (fun _ => ?_) (fun _ => ?_)
  all_goals simp_all [plainD]
  all_goals (intros; omega)
theorem deedOk_t {ds : List Deed} {i : Nat} {x : Deed} (h1 : nameOk x.name = true) (h3 : x.kind = 3) : deedOk ds i x = (decide (x.text.length ≤ 2000) && decide (0 ≤ x.code) && decide (x.code ≤ 5) && validP x.action && decide (x.links.length ≤ 200) && x.links.all (linkOk ds i)) := by
  simp only [deedOk, h1, h3]
  simp [Bool.and_assoc]
set_option maxHeartbeats 2000000 in
theorem l3TargetOk_ac {own : Bool} {ds : List Deed} {sd : Value} {F : List Nat} {H : Heap} (hs : DeedsR own H ds [sd] F) (p : Nat) (hp : p < ds.length) {x : Deed} (hX : ds[p] = x) (h1 : nameOk x.name = true) (hk3 : x.kind = 3) :
    AC Tryz.prog ng 175 [.agg #[sd], int p] H fun v S' => v = .bool (deedOk ds p x) ∧ S' = H := by
  obtain ⟨a3, z3, rfl⟩ := hs.form
  have hb3 := hs.bound
  obtain ⟨id0, o0, c0, e0, f0, ow0, cs0, Fi0, E0⟩ := SlR.get hs p hp
  rw [hX] at E0
  obtain ⟨hk, s1, s2, G1, G2, rfl, hFi, hc1, hc2⟩ := E0.rep
  obtain ⟨a1, z1, rfl⟩ := hc1.form
  obtain ⟨a2, z2, rfl⟩ := hc2.form
  have hb2 := hc2.bound
  refine .flat (AC.go [] Tryz.func175 rfl Tryz.ntmps175 rfl ⟨mixed, by kernel_rfl⟩ ?_)
  simp +contextual (dsimp := false) [E0.idx, E0.goB, E0.le, E0.lt, E0.ext]
  by_cases h4 : 0 ≤ x.code
  rotate_left
  · simp +contextual (dsimp := false) [show x.code < 0 by omega]
    simp [deedOk_t h1 hk3, h4]
  by_cases h5 : x.code ≤ 5
  rotate_left
  · simp +contextual (dsimp := false) [show ¬ x.code < 0 by omega, show 5 < x.code by omega]
    simp [deedOk_t h1 hk3, h5]
  by_cases h2 : x.text.length ≤ 2000
  rotate_left
  · simp +contextual (dsimp := false) [show ¬ x.code < 0 by omega, show ¬ 5 < x.code by omega, show (2000 : Int) < x.text.length by omega]
    simp [deedOk_t h1 hk3, h2]
  simp +contextual (dsimp := false) [show ¬ x.code < 0 by omega, show ¬ 5 < x.code by omega, show ¬ (2000 : Int) < x.text.length by omega]
  refine CallK.fl ⟨_, Tryz.func97, rfl, rfl⟩ (specValid_ac (Rp.ext hc1 (Ext.app _ _))) ?_
  simp +contextual (dsimp := false)
  refine ifA_intro (fun h6 => ?_) (fun h6 => ?_)
  rotate_left
  · simp [deedOk_t h1 hk3, h6]
  refine ifA_dec (fun h7 => ?_) (fun h7 => ?_)
  · have : ¬ x.links.length ≤ 200 := by omega
    simp [deedOk_t h1 hk3, this]
  have h7' : x.links.length ≤ 200 := by omega
  rw [deedOk_3 h1 h2 hk3 h4 h5 h6 h7']
  generalize hR : x.links.all (linkOk ds p) = R
  obtain ⟨H0, hH0⟩ : ∃ H0, H0 = H ++ [(⟨.cells #[.slice a3 ds.length z3] 30 (0, 0), true, true⟩ : Blk), ⟨.cells #[.string ⟨⟨x.name⟩⟩, .int .i64 x.kind, .int .i64 x.code, .string ⟨⟨x.text⟩⟩, .slice a1 x.action.length z1, .slice a2 x.links.length z2] 57 (0, 0), true, true⟩] := ⟨_, rfl⟩
  have hx0 : Ext H H0 := by rw [hH0]; exact Ext.app _ _
  have hb0 : H0[H.length]? = some (⟨.cells #[.slice a3 ds.length z3] 30 (0, 0), true, true⟩ : Blk) := by rw [hH0]; simp
  have hb1 : H0[H.length + 1]? = some (⟨.cells #[.string ⟨⟨x.name⟩⟩, .int .i64 x.kind, .int .i64 x.code, .string ⟨⟨x.text⟩⟩, .slice a1 x.action.length z1, .slice a2 x.links.length z2] 57 (0, 0), true, true⟩ : Blk) := by rw [hH0]; simp
  have hll : H0.length = H.length + 2 := by rw [hH0]; simp
  try rw [← hH0]
  refine LoopA.up (σ := Nat × Heap) [1, 2, 5, 6] (fun i => [(6, int i.1)]) (fun i => i.2) (fun i => i.1 ≤ x.links.length ∧ Ext H0 i.2 ∧ ∀ y ∈ x.links.take i.1, linkOk ds p y = true) (fun i => x.links.length - i.1) (0, _) rfl ⟨by simp, by first | exact Ext.refl _ | (rw [hH0]; exact Ext.refl _), by simp⟩ ?_
  rintro ⟨i, hp⟩ ⟨hi, he, hv⟩
  dsimp only at hi he hv
  have hex : Ext H hp := hx0.trans he
  have hle := he.le
  have hb : hp[H.length]? = _ := (he _ (by omega)).trans hb0
  have hbd : hp[H.length + 1]? = _ := (he _ (by omega)).trans hb1
  simp +contextual (dsimp := false) [hbd]
  refine ifA_dec (fun h3 => ?_) (fun h3 => ?_)
  rotate_left
  · obtain rfl : R = true := by rw [← hR]; exact List.all_eq_true.2 (all_end hv (by omega))
    simp [hex]
  obtain ⟨id, o, c, e, f, ow, cs, Fi, E⟩ := SlR.get (Rp.ext hc2 hex) i h3
  obtain ⟨rfl, rfl, hok⟩ := E.rep
  simp +contextual (dsimp := false) [E.idx, E.goB, E.blk, E.le, E.lt, E.ext, Lnk.c]
  refine CallK.fl ⟨_, Tryz.func66, rfl, rfl⟩ (l1NameOk_ac _ hok.1 _) ?_
  generalize hL : x.links[i] = L at *
  cases hn : nameOk L.name
  · simp +contextual (dsimp := false)
    obtain rfl : R = false := by rw [← hR]; exact all_bad h3 (by simp [linkOk, hL, hn])
    simp [hex]
  cases ha : L.ask
  · simp +contextual (dsimp := false) [ha, wrap_succ (show i < 9223372036854775807 by omega)]
    refine ifA_dec (fun h8 => ?_) (fun h8 => ?_)
    · exact LoopN.of (i + 1, _) rfl ⟨h3, he.trans (Ext.app _ _), all_take hv h3 (by simp [linkOk, hL, hn, ha, h8])⟩ (by dsimp only; omega)
    · obtain rfl : R = false := by rw [← hR]; exact all_bad h3 (by simp [linkOk, hL, hn, ha, h8])
      simp [hex]
  cases hh : L.has
  rotate_left
  · simp +contextual (dsimp := false) [ha, hh]
    obtain rfl : R = false := by rw [← hR]; exact all_bad h3 (by simp [linkOk, hL, hn, ha, hh])
    simp [hex]
  by_cases h8 : L.at_ < 0
  · simp +contextual (dsimp := false) [ha, hh, h8]
    obtain rfl : R = false := by rw [← hR]; exact all_bad h3 (by simp [linkOk, hL, hn, ha, hh]; omega)
    simp [hex]
  by_cases h9 : (p : Int) ≤ L.at_
  · simp +contextual (dsimp := false) [ha, hh, h8, h9]
    obtain rfl : R = false := by rw [← hR]; exact all_bad h3 (by simp [linkOk, hL, hn, ha, hh]; omega)
    simp [hex]
  obtain ⟨j, hj⟩ : ∃ j : Nat, L.at_ = j := ⟨L.at_.toNat, by omega⟩
  have hjl : j < ds.length := by omega
  obtain ⟨id2, o2, c2, e2, f2, ow2, cs2, Fi2, E2⟩ := SlR.get (Rp.ext hs hex) j hjl
  obtain ⟨hkk, t1, t2, G1', G2', rfl, hFi', hcc1, hcc2⟩ := E2.rep
  have hd : dAt ds j = ds[j] := dAt_lt hjl
  have hbq : ∀ T : Heap, (hp ++ T)[H.length]? = _ := fun T => (get_ext (by omega)).trans hb
  by_cases h10 : ds[j].name = L.name
  · simp +contextual (dsimp := false) [hbq, ha, hh, hj, h10, show ¬ (j : Int) < 0 by omega, show ¬ p ≤ j by omega, E2.idx, E2.goB, E2.blk, E2.le, E2.lt, E2.cell0, wrap_succ (show i < 9223372036854775807 by omega)]
    exact LoopN.of (i + 1, _) rfl ⟨h3, he.trans (Ext.app _ _), all_take hv h3 (by simp [linkOk, hL, hn, ha, hh, hj, hd, h10]; omega)⟩ (by dsimp only; omega)
  · simp +contextual (dsimp := false) [hbq, ha, hh, hj, h10, show ¬ (j : Int) < 0 by omega, show ¬ p ≤ j by omega, E2.idx, E2.goB, E2.blk, E2.le, E2.lt, E2.cell0]
    obtain rfl : R = false := by rw [← hR]; exact all_bad h3 (by simp [linkOk, hL, hn, ha, hh, hj, hd, h10])
    simp [hex]
theorem l3DeedOk_ac {own : Bool} {ds : List Deed} {sd : Value} {F : List Nat} {H : Heap} (hs : DeedsR own H ds [sd] F) (p : Nat) (hp : p < ds.length) :
    AC Tryz.prog ng 143 [.agg #[sd], int p] H fun v S' => v = .bool (deedOk ds p ds[p]) ∧ S' = H := by
  have hs0 := hs
  obtain ⟨a3, z3, rfl⟩ := hs.form
  have hb3 := hs.bound
  obtain ⟨id0, o0, c0, e0, f0, ow0, cs0, Fi0, E0⟩ := SlR.get hs p hp
  have hrep := E0.rep
  generalize hX : ds[p] = x at *
  obtain ⟨hk, s1, s2, G1, G2, rfl, hFi, hc1, hc2⟩ := E0.rep
  obtain ⟨hk1, hk2, hk3, hk4⟩ := id hk
  obtain ⟨a1, z1, rfl⟩ := hc1.form
  obtain ⟨a2, z2, rfl⟩ := hc2.form
  refine .flat (AC.go [] Tryz.func143 rfl Tryz.ntmps143 rfl ⟨mixed, by kernel_rfl⟩ ?_)
  simp +contextual (dsimp := false) [E0.idx, E0.goB, E0.le, E0.lt, E0.ext]
  refine CallK.fl ⟨_, Tryz.func66, rfl, rfl⟩ (l1NameOk_ac _ hk1 _) ?_
  cases h1 : nameOk x.name
  · simp +contextual (dsimp := false)
    simp [deedOk, h1]
  by_cases q1 : x.kind = 1
  · simp +contextual (dsimp := false) [q1]
    refine CallK.fl ⟨_, Tryz.func174, rfl, rfl⟩ (l3SourceOk_ac (Rp.ext (q1 ▸ hrep) (Ext.app _ _))) ?_
    simp +contextual (dsimp := false)
    simp [deedOk, h1, q1, Bool.and_comm]
  by_cases q2 : x.kind = 2
  · simp +contextual (dsimp := false) [q2]
    repeat' refine ifA_dec (fun _ => ?_) (fun _ => ?_)
    all_goals simp_all [deedOk, plainD]
  by_cases q3 : x.kind = 3
  rotate_left
  · simp +contextual (dsimp := false) [q1, q2, q3]
    simp [deedOk, h1, q1, q2, q3]
  simp +contextual (dsimp := false) [q3]
  refine CallK.fl ⟨_, Tryz.func175, rfl, rfl⟩ (l3TargetOk_ac (Rp.ext hs0 (Ext.app _ _)) p hp hX h1 q3) ?_
  simp +contextual (dsimp := false)
end Go.Proofs.YtbigpkfdeaigeaaGreatDoor

/- The listing of deeds, the program's. No condition. -/
set_option linter.unusedSimpArgs false
set_option linter.unusedVariables false
namespace Go.Proofs.YtbigpkfdeaigeaaGreatDoor
open Go Go.Am Go.Proofs
set_option maxRecDepth 20000
variable {ng : Nat}
abbrev kI : Int → Value := fun k => .int .i64 k
theorem keyI : KeyT Tryz.prog 123 kI 3 3 (.int .i64) (.int .i64 0) :=
  ⟨und123, und3, zer3, rfl, fun _ => rfl, fun a b => sameNow_int .i64 a b⟩
/-- Pairs, as the map holds them. -/
def vI (l : List (Int × Int)) : List (Int × Value) := l.map fun p => (p.1, int p.2)
theorem putP_new {κ : Type} [DecidableEq κ] (a : κ) (v : Value) : ∀ (l : List (κ × Value)), a ∉ l.map (·.1) → putP a v l = l ++ [(a, v)]
  | [], _ => rfl
  | p :: l, h => by
    simp only [List.map_cons, List.mem_cons, not_or] at h
    rw [putP, if_neg h.1, putP_new a v l h.2]
    rfl
theorem getP_none {κ : Type} [DecidableEq κ] (a : κ) : ∀ (l : List (κ × Value)), (getP a l = none) ↔ a ∉ l.map (·.1)
  | [] => by simp [getP_nil]
  | p :: l => by
    rw [getP_cons]
    by_cases h : a = p.1
    · simp [h]
    · rw [if_neg h, getP_none a l]
      simp [h]
theorem vI_keys (l : List (Int × Int)) : (vI l).map (·.1) = l.map (·.1) := by simp [vI]
/-- What the walk's blocks hold. -/
structure WalkS (own : Bool) (H : Heap) (ds : List Deed) (sd : Value) (FD : List Nat) (pd pb pw po m base : Nat) (st : List (Int × Int) × List Int) (s : Value) (F : List Nat) : Prop where
  bd : H[pd]? = some ⟨.cells #[.map (some m)] 123 (0, 0), true, true⟩
  bb : H[pb]? = some ⟨.cells #[sd] 28 (0, 0), true, true⟩
  bw : H[pw]? = some ⟨.cells #[.func (.func 132) #[] #[.pointer (some ⟨pd, 0, none⟩), .pointer (some ⟨pb, 0, none⟩), .pointer (some ⟨pw, 0, none⟩), .pointer (some ⟨po, 0, none⟩)]] 201 (0, 0), true, true⟩
  bo : H[po]? = some ⟨.cells #[s] 122 (0, 0), true, true⟩
  mp : MapR kI H m (vI st.1)
  ord : IntsR true H st.2 [s] F
  fr : Fresh base F
  le : pd < base ∧ pb < base ∧ pw < base ∧ po < base ∧ m < base ∧ base ≤ H.length
  ne : m ≠ pd ∧ m ≠ pb ∧ m ≠ pw ∧ m ≠ po ∧ po ≠ pd ∧ po ≠ pb ∧ po ≠ pw
  dd : DeedsR own H ds [sd] FD
  df : ∀ j ∈ FD, j < base ∧ j ≠ m ∧ j ≠ po
theorem WalkS.ext {own : Bool} {H : Heap} {ds : List Deed} {sd : Value} {FD : List Nat} {pd pb pw po m base : Nat} {st : List (Int × Int) × List Int} {s : Value} {F : List Nat} (W : WalkS own H ds sd FD pd pb pw po m base st s F) {H' : Heap} (he : Ext H H') : WalkS own H' ds sd FD pd pb pw po m base st s F := by
  obtain ⟨h1, h2, h3, h4, h5, h6⟩ := W.le
  have hle := he.le
  exact ⟨(he _ (by omega)).trans W.bd, (he _ (by omega)).trans W.bb, (he _ (by omega)).trans W.bw, (he _ (by omega)).trans W.bo, W.mp.fr (he _ (by omega)), Rp.ext W.ord he, W.fr, ⟨h1, h2, h3, h4, h5, by omega⟩, W.ne, Rp.ext W.dd he, W.df⟩
theorem foldl_take_s {α β : Type} (f : β → α → β) (l : List α) (b : β) (i : Nat) (h : i < l.length) : (l.take (i + 1)).foldl f b = f ((l.take i).foldl f b) l[i] := by
  rw [List.take_succ_eq_append_getElem h, List.foldl_append]; rfl
theorem walk_ac {own : Bool} {ds : List Deed} {sd : Value} {FD : List Nat} {pd pb pw po m base : Nat} (hbk : back ds) (hdl : ds.length ≤ 400) : ∀ (f i : Nat) (d : Int) (H : Heap) (st : List (Int × Int) × List Int) (s : Value) (F : List Nat),
    i < f → i < ds.length → 0 ≤ d → d + i ≤ 1000000 → LOk ds.length st → WalkS own H ds sd FD pd pb pw po m base st s F →
    AC Tryz.prog ng 132 [int i, int d, .pointer (some ⟨pd, 0, none⟩), .pointer (some ⟨pb, 0, none⟩), .pointer (some ⟨pw, 0, none⟩), .pointer (some ⟨po, 0, none⟩)] H fun v S' => v = .tuple #[] ∧ ∃ s' F', WalkS own S' ds sd FD pd pb pw po m base (dfs ds f i d st) s' F' ∧
      (∀ j, j < base → j ≠ m → j ≠ po → S'[j]? = H[j]?)
  | 0, i, d, H, st, s, F, h, _, _, _, _, _ => by omega
  | f + 1, i, d, H, st, s, F, hf, hi, hd0, hd1, hok, W => by
    obtain ⟨⟨h1, h2, h3, h4, h5, h6⟩, ⟨n1, n2, n3, n4, n5, n6, n7⟩⟩ := And.intro W.le W.ne
    have hsd := W.dd.form
    obtain ⟨ad, zd, rfl⟩ := hsd
    refine AC.go [] Tryz.func132 rfl Tryz.ntmps132 rfl ⟨mixed, by kernel_rfl⟩ ?_
    simp +contextual (dsimp := false) [W.bd]
    refine LookK.map (a := (i : Int)) keyI W.mp ?_
    by_cases hm : (i : Int) ∈ st.1.map (·.1)
    · have hg : getP (i : Int) (vI st.1) ≠ none := fun hc => ((getP_none _ _).1 hc) (by rw [vI_keys]; exact hm)
      obtain ⟨v, hv⟩ := Option.ne_none_iff_exists'.1 hg
      rw [dfs, if_pos hm]
      simp +contextual (dsimp := false) [hv]
      exact ⟨s, F, W⟩
    · have hg : getP (i : Int) (vI st.1) = none := (getP_none _ _).2 (by rw [vI_keys]; exact hm)
      have hWd := W.bd
      simp +contextual (dsimp := false) [hg, W.bd]
      refine UpdK.map (a := (i : Int)) keyI W.mp rfl ?_
      intro es cl hmp
      rw [putP_new _ _ _ (by rw [vI_keys]; exact hm)] at hmp
      obtain ⟨H1, hH1⟩ : ∃ H1, H1 = H.set m ⟨.map es cl, true, true⟩ := ⟨_, rfl⟩
      rw [← hH1] at hmp ⊢
      have hlen : H1.length = H.length := by rw [hH1]; simp
      have hne : ∀ j, j ≠ m → H1[j]? = H[j]? := fun j hj => by rw [hH1]; exact List.getElem?_set_ne (Ne.symm hj)
      have W1 : WalkS own H1 ds (.slice ad ds.length zd) FD pd pb pw po m base (st.1 ++ [((i : Int), d)], st.2) s F :=
        ⟨(hne _ (Ne.symm n1)).trans W.bd, (hne _ (Ne.symm n2)).trans W.bb, (hne _ (Ne.symm n3)).trans W.bw, (hne _ (Ne.symm n4)).trans W.bo, by simpa [vI] using hmp, Rp.fr W.ord fun j hj => hne j (by have := W.fr.1 j hj; omega), W.fr, ⟨h1, h2, h3, h4, h5, by omega⟩, W.ne,
          Rp.fr W.dd fun j hj => hne j (W.df j hj).2.1, W.df⟩
      have hok1 : LOk ds.length (st.1 ++ [((i : Int), d)], st.2) := by
        refine ⟨?_, ?_, ?_, ?_, hok.nd2⟩
        · rw [List.map_append, List.nodup_append]
          refine ⟨hok.nd, by simp, fun a ha b hb hab => hm ?_⟩
          simp at hb
          rw [← hb, ← hab]
          exact ha
        · intro p hp
          rcases List.mem_append.1 hp with hp | hp
          · exact hok.lt p hp
          · simp at hp
            subst hp
            exact ⟨by simp, by simpa using hi⟩
        · intro k hk
          rw [List.map_append]
          exact List.mem_append_left _ (hok.sub k hk)
        · have := hok.len
          simp only [List.length_append, List.length_singleton]
          omega
      obtain ⟨id, o, c, e, f', ow, cs, Fi, E⟩ := SlR.get W1.dd i hi
      obtain ⟨hkk, s1, s2, G1, G2, rfl, hFi, hc1, hc2⟩ := E.rep
      obtain ⟨a2, z2, rfl⟩ := hc2.form
      have hb2 := hc2.bound
      have hda : dAt ds i = ds[i] := dAt_lt hi
      have hsub2 : ∀ j ∈ G2, j ∈ FD := fun j hj => E.sub j (by rw [hFi]; simp [hj])
      simp +contextual (dsimp := false) [W1.bb, E.idx, E.goB, E.le, E.cell 5 (by omega)]
      refine LoopA.up (σ := Nat × Heap × (List (Int × Int) × List Int) × Value × List Nat) [0, 1, 4, 5, 26, 27, 28] (fun x => [(28, int x.1)]) (fun x => x.2.1)
        (fun x => x.1 ≤ ds[i].links.length ∧ WalkS own x.2.1 ds (.slice ad ds.length zd) FD pd pb pw po m base x.2.2.1 x.2.2.2.1 x.2.2.2.2 ∧ LOk ds.length x.2.2.1 ∧
          x.2.2.1 = (ds[i].links.take x.1).foldl (fun s l => if l.ask then dfs ds f l.at_.toNat (d + 1) s else s) (st.1 ++ [((i : Int), d)], st.2) ∧ (∀ j, j < base → j ≠ m → j ≠ po → x.2.1[j]? = H[j]?))
        (fun x => ds[i].links.length - x.1) (0, H1, (st.1 ++ [((i : Int), d)], st.2), s, F) rfl ⟨by simp, W1, hok1, by simp, fun j hj hj1 hj2 => hne j hj1⟩ ?_
      rintro ⟨k, hp, st', s', F'⟩ ⟨hk, W2, hok2, hst, hfr⟩
      dsimp only at hk W2 hok2 hst hfr
      simp +contextual (dsimp := false)
      have hbl := hok2.bound
      refine ifA_dec (fun h9 => ?_) (fun h9 => ?_)
      · obtain ⟨id2, o2, c2, e2, f2, ow2, cs2, Fi2, E2⟩ := SlR.get (Rp.fr hc2 (H' := hp) fun j hj => by
            have := W.df j (hsub2 j hj)
            rw [hfr j this.1 this.2.1 this.2.2, hne j this.2.1]) k h9
        obtain ⟨rfl, rfl, hokL⟩ := E2.rep
        have hbkL := hbk i hi
        rw [hda] at hbkL
        have hbkk := hbkL _ (List.getElem_mem h9)
        have hnext := foldl_take_s (fun s l => if l.ask then dfs ds f l.at_.toNat (d + 1) s else s) ds[i].links (st.1 ++ [((i : Int), d)], st.2) k h9
        rw [← hst] at hnext
        generalize ds[i].links[k] = L at *
        cases ha : L.ask
        · simp +contextual (dsimp := false) [E2.idx, E2.goB, E2.blk, E2.le, E2.lt, E2.ext, Lnk.c, ha, wrap_succ (show k < 9223372036854775807 by omega)]
          refine LoopN.of (k + 1, _, st', s', F') rfl ⟨h9, W2.ext (Ext.app _ _), hok2, by rw [hnext, ha]; rfl, fun j hj hj1 hj2 => (get_ext (by have := W2.le; omega)).trans (hfr j hj hj1 hj2)⟩ (by dsimp only; omega)
        · obtain ⟨g1, g2⟩ := hbkk ha
          obtain ⟨q, hq⟩ : ∃ q : Nat, L.at_ = q := ⟨L.at_.toNat, by omega⟩
          have hwd : IntKind.i64.wrap (d + 1) = d + 1 := wrap_of (d + 1) (by omega) (by omega)
          have hbw : ∀ T : Heap, (hp ++ T)[pw]? = _ := fun T => (get_ext (by have := W2.le; omega)).trans W2.bw
          simp +contextual (dsimp := false) [E2.idx, E2.goB, E2.blk, E2.le, E2.lt, E2.ext, Lnk.c, ha, hbw, hwd, hq]
          refine CallK.of ⟨_, Tryz.func132, rfl, rfl⟩ (walk_ac hbk hdl f q (d + 1) _ st' s' F' (by omega) (by omega) (by omega) (by omega) hok2 (W2.ext (Ext.app _ _))) ?_
          rintro v S' ⟨rfl, s'', F'', W3, hfr3⟩
          simp +contextual (dsimp := false) [wrap_succ (show k < 9223372036854775807 by omega)]
          refine LoopN.of (k + 1, S', dfs ds f q (d + 1) st', s'', F'') rfl ⟨h9, W3, (dfs_ok hbk f q (d + 1) st' (by omega) (by omega) hok2).1, by rw [hnext, ha, hq]; rfl, fun j hj hj1 hj2 => ((hfr3 j hj hj1 hj2).trans (get_ext (by have := W2.le; omega))).trans (hfr j hj hj1 hj2)⟩ (by dsimp only; omega)
      · rw [List.take_of_length_le (by omega)] at hst
        have hD : dfs ds (f + 1) i d st = (st'.1, st'.2 ++ [(i : Int)]) := by rw [dfs, if_neg hm, hst, hda]
        rw [hD]
        obtain ⟨as', zs', rfl⟩ := W2.ord.form
        simp +contextual (dsimp := false) [W2.bo]
        refine AppK.one (R := intR') (l := st'.2) (ex := 3) (fx := (0, 0)) (ox := true) (base := base) (x := (i : Int)) (cx := [.int .i64 (i : Int)]) (Fx := []) slt122 und122 ?_ W2.fr ?_ ?_ (Fresh.nil _) (by simp) ?_ ?_ (by decide) ?_
        · exact Rp.ext W2.ord (Ext.app _ _)
        · simp
        · exact ⟨rfl, rfl, by omega, by omega⟩
        · have := W2.le; simp; omega
        · omega
        intro s4 H4 F4 q1 q2 q3 q4 q5
        simp at q3
        have hq : ∀ j, j < base → H4[j]? = hp[j]? := fun j hj => (q4 j (by have := W2.le; simp; omega) (fun hm => by have := W2.fr.1 j hm; omega)).trans (get_ext (by have := W2.le; omega))
        have e4 := (hq po (by omega)).trans W2.bo
        obtain ⟨a4, z4, rfl⟩ := q1.form
        simp +contextual (dsimp := false) [e4]
        have hle4 : base ≤ H4.length := by have := W2.le; omega
        refine ⟨⟨.slice a4 (st'.2.length + 1) z4, F4, ⟨?_, ?_, ?_, ?_, ?_, ?_, q2, ⟨h1, h2, h3, h4, h5, by simpa using hle4⟩, W2.ne, ?_, W2.df⟩⟩, fun j hj hj1 hj2 => (List.getElem?_set_ne (Ne.symm hj2)).trans ((hq j hj).trans (hfr j hj hj1 hj2))⟩
        · exact (List.getElem?_set_ne n5).trans ((hq pd h1).trans W2.bd)
        · exact (List.getElem?_set_ne n6).trans ((hq pb h2).trans W2.bb)
        · exact (List.getElem?_set_ne n7).trans ((hq pw h3).trans W2.bw)
        · rw [List.getElem?_set_self (by omega)]
        · exact W2.mp.fr ((List.getElem?_set_ne (Ne.symm n4)).trans (hq m h5))
        · simp only [List.length_append, List.length_singleton] at q1
          exact Rp.fr q1 fun j hj => List.getElem?_set_ne (by rintro rfl; have := q2.1 _ hj; omega)
        · exact Rp.fr W2.dd fun j hj => (List.getElem?_set_ne (Ne.symm (W2.df j hj).2.2)).trans (hq j (W2.df j hj).1)
theorem listing_ac {own : Bool} {ds : List Deed} {sd : Value} {FD : List Nat} {H : Heap} (hbk : back ds) (hdl : ds.length ≤ 400) (hs : DeedsR own H ds [sd] FD) (root : Nat) (hr : root < ds.length) :
    AC Tryz.prog ng 75 [sd, int root] H fun v S' => ∃ so m Fo, v = .tuple #[so, .map (some m)] ∧ Ext H S' ∧ IntsR true S' (listing ds root).2 [so] Fo ∧ Fresh H.length Fo ∧ MapR kI S' m (vI (listing ds root).1) ∧ H.length ≤ m := by
  obtain ⟨ad, zd, rfl⟩ := hs.form
  refine AC.go [(5, .take 0 <| .take 1 <| .one 2 [1] <| .one 3 [] <| .done)] Tryz.func75 rfl Tryz.ntmps75 rfl ⟨mixed, by kernel_rfl⟩ ?_
  simp +contextual (dsimp := false)
  refine CallK.of ⟨_, Tryz.func132, rfl, rfl⟩ (walk_ac (own := own) (sd := .slice ad ds.length zd) (FD := FD) (pd := H.length + 2) (pb := H.length) (pw := H.length + 4) (po := H.length + 1) (m := H.length + 3) (base := H.length + 5) hbk hdl ds.length root 0 _ ([], []) (.slice none 0 0) [] hr hr (by omega) (by omega) (LOk.start _)
    ⟨by simp, by simp, by simp, by simp, MapR.new (by simp), SlR.nil, Fresh.nil _, by simp, by simp, Rp.ext hs (Ext.app _ _), fun j hj => by have := Rp.lt hs j hj; omega⟩) ?_
  rintro v S' ⟨rfl, so, Fo, W, hfr⟩
  have hl := W.le
  obtain ⟨ao, zo, rfl⟩ := W.ord.form
  have e1 : ∀ b : Blk, (S'.set (H.length + 1) b)[H.length + 1]? = some b := fun b => List.getElem?_set_self (by omega)
  have e2 : ∀ (b : Blk), (S'.set (H.length + 1) b)[H.length + 2]? = S'[H.length + 2]? := fun b => List.getElem?_set_ne (by omega)
  have e3 : ∀ (S : Heap) (b : Blk), (S.set (H.length + 2) b)[H.length + 1]? = S[H.length + 1]? := fun S b => List.getElem?_set_ne (by omega)
  have e4 : ∀ (b b' : Blk), ((S'.set (H.length + 1) b').set (H.length + 2) b)[H.length + 2]? = some b := fun b b' => List.getElem?_set_self (by simp; omega)
  simp +contextual (dsimp := false) [W.bo, W.bd, e1, e2, e3, e4]
  have hk : ∀ (b b' : Blk) (j : Nat), j ≠ H.length + 1 → j ≠ H.length + 2 → ((S'.set (H.length + 1) b).set (H.length + 2) b')[j]? = S'[j]? := fun b b' j h1 h2 => (List.getElem?_set_ne (Ne.symm h2)).trans (List.getElem?_set_ne (Ne.symm h1))
  exact ⟨_, _, ⟨rfl, rfl⟩, fun j hj => (hk _ _ j (by omega) (by omega)).trans ((hfr j (by omega) (by omega) (by omega)).trans (get_ext hj)), Fo, Rp.fr W.ord fun j hj => hk _ _ j (by have := W.fr.1 j hj; omega) (by have := W.fr.1 j hj; omega), W.fr.weak (by omega), W.mp.fr (hk _ _ _ (by omega) (by omega)), by omega⟩
end Go.Proofs.YtbigpkfdeaigeaaGreatDoor

/- CheckAccount, the program's. No condition. -/
set_option linter.unusedSimpArgs false
set_option linter.unusedVariables false
namespace Go.Proofs.YtbigpkfdeaigeaaGreatDoor
open Go Go.Am Go.Proofs
set_option maxRecDepth 20000
variable {ng : Nat}
abbrev kS : List UInt8 → Value := fun s => .string ⟨⟨s⟩⟩
theorem keySB : KeyT Tryz.prog 93 kS 9 4 .string (.bool false) :=
  ⟨und93, und9, zer4, rfl, fun _ => rfl, fun a b => sameNow_str a b⟩
/-- A set of names, as the map holds it. -/
def vS (l : List (List UInt8)) : List (List UInt8 × Value) := l.map fun n => (n, .bool true)
theorem vS_keys (l : List (List UInt8)) : (vS l).map (·.1) = l := by
  unfold vS
  rw [List.map_map]
  exact List.map_id l
theorem getP_vS (a : List UInt8) : ∀ l : List (List UInt8), getP a (vS l) = if a ∈ l then some (.bool true) else none
  | [] => rfl
  | b :: l => by
    have ih := getP_vS a l
    unfold vS at ih ⊢
    rw [List.map_cons, getP_cons, ih]
    by_cases h : a = b
    · simp [h]
    · simp [h]
theorem getP_vI (a : Int) : ∀ l : List (Int × Int), (l.map (·.1)).Nodup → ∀ d, (a, d) ∈ l → getP a (vI l) = some (int d)
  | [], _, _, h => by cases h
  | p :: l, hn, d, h => by
    unfold vI
    rw [List.map_cons, getP_cons]
    have hn' := List.nodup_cons.1 hn
    rcases List.mem_cons.1 h with rfl | h
    · simp
    · have : a ≠ p.1 := fun hc => hn'.1 (List.mem_map.2 ⟨(a, d), h, hc⟩)
      rw [if_neg this]
      exact getP_vI a l hn'.2 d h
set_option maxHeartbeats 2000000 in
theorem implCheckAccount_ac {own : Bool} {ds : List Deed} {sd : Value} {FD : List Nat} {H : Heap} (hs : DeedsR own H ds [sd] FD) : AC Tryz.prog ng 104 [.agg #[sd]] H fun v S' => v = .tuple #[int (checkAcc ds).1, int (checkAcc ds).2] ∧ S' = H := by
  obtain ⟨ad, zd, rfl⟩ := hs.form
  have hb := hs.bound
  refine .flat (AC.go [] Tryz.func104 rfl Tryz.ntmps104 rfl ⟨mixed, by kernel_rfl⟩ ?_)
  by_cases k1 : ds.length = 0 ∨ 400 < ds.length
  · rw [checkAcc_1 k1]
    rcases k1 with h | h
    · simp +contextual (dsimp := false) [h]
    · simp +contextual (dsimp := false) [show ¬ ds.length = 0 by omega, show (400 : Int) < ds.length by omega, show ¬ ds = [] by rintro rfl; simp at h]
  have k0 : ¬ ds = [] := by rintro rfl; simp at k1
  simp +contextual (dsimp := false) [show ¬ ds.length = 0 by omega, k0, show ¬ (400 : Int) < ds.length by omega]
  obtain ⟨H0, hH0⟩ : ∃ H0, H0 = H ++ [(⟨.cells #[.slice ad ds.length zd] 30 (0, 0), true, true⟩ : Blk)] := ⟨_, rfl⟩
  have hl0 : H.length < H0.length := by rw [hH0]; simp
  have hx0 : Ext H H0 := by rw [hH0]; exact Ext.app _ _
  have hb0 : H0[H.length]? = some (⟨.cells #[.slice ad ds.length zd] 30 (0, 0), true, true⟩ : Blk) := by rw [hH0]; simp
  rw [← hH0]
  refine LoopA.up (σ := Nat × Heap) [1, 26, 27, 28] (fun i => [(28, int i.1)]) (fun i => i.2) (fun i => i.1 ≤ ds.length ∧ Ext H0 i.2 ∧ ∀ j (hj : j < ds.length), j < i.1 → deedOk ds j ds[j] = true) (fun i => ds.length - i.1) (0, _) rfl ⟨by simp, Ext.refl _, by simp⟩ ?_
  rintro ⟨i, hp⟩ ⟨hi, he, hv⟩
  dsimp only at hi he hv
  have hex : Ext H hp := hx0.trans he
  have hbx : hp[H.length]? = _ := (he _ hl0).trans hb0
  have hbx2 : ∀ T : Heap, (hp ++ T)[H.length]? = _ := fun T => (get_ext (Nat.lt_of_lt_of_le hl0 he.le)).trans hbx
  simp +contextual (dsimp := false) [hbx]
  refine ifA_dec (fun h3 => ?_) (fun h3 => ?_)
  · obtain ⟨id, o, c, e, f, ow, cs, Fi, E⟩ := SlR.get (Rp.ext hs hex) i h3
    have hrep := E.rep
    obtain ⟨hk, s1, s2, G1, G2, rfl, hFi, hc1, hc2⟩ := E.rep
    obtain ⟨a1, z1, rfl⟩ := hc1.form
    obtain ⟨a2, z2, rfl⟩ := hc2.form
    simp +contextual (dsimp := false) [E.idx, E.goB, E.le, E.lt, E.ext, hbx, hbx2, wrap_succ (show i < 9223372036854775807 by omega)]
    refine CallK.fl ⟨_, Tryz.func146, rfl, rfl⟩ (right_ac (Rp.ext hs (hex.trans (Ext.app _ _))) (Rp.ext hrep (Ext.app _ _)) i h3) ?_
    simp +contextual (dsimp := false) [wrap_succ (show i < 9223372036854775807 by omega)]
    refine ifA_intro (fun h4 => ?_) (fun h4 => ?_)
    · exact LoopN.of (i + 1, _) rfl ⟨h3, he.trans (Ext.app _ _), fun j hj hlt => by
        rcases Nat.lt_or_ge j i with h | h
        · exact hv j hj h
        · obtain rfl : j = i := by dsimp only at hlt; omega
          exact h4⟩ (by dsimp only; omega)
    · rw [checkAcc_2 k1 h3 h4 hv]
      simp [hex]
  have k2 : ∀ j (hj : j < ds.length), deedOk ds j ds[j] = true := fun j hj => hv j hj (by omega)
  have hbk : back ds := deedOk_back fun i hi => by rw [dAt_lt hi]; exact k2 i hi
  clear hv
  simp +contextual (dsimp := false) [hbx, hbx2]
  refine LoopA.up (σ := Nat × Heap) [1, 6, 43, 44, 45] (fun i => [(45, int i.1)]) (fun i => i.2)
    (fun x => x.1 ≤ ds.length ∧ (∀ j, j < hp.length → x.2[j]? = hp[j]?) ∧ MapR kS x.2 hp.length (vS ((ds.take x.1).map (·.name))) ∧ hp.length < x.2.length ∧ ∀ j (hj : j < ds.length), j < x.1 → ds[j].name ∉ (ds.take j).map (·.name))
    (fun i => ds.length - i.1) (0, _) rfl ⟨by simp, fun j hj => get_ext hj, MapR.new (by simp), by simp, by simp⟩ ?_
  rintro ⟨k, h2⟩ ⟨hk, he2, hm2, hl2, hv2⟩
  dsimp only at hk he2 hm2 hl2 hv2
  have hle := he.le
  have hx2 : Ext H h2 := fun j hj => (he2 j (by omega)).trans (hex j hj)
  have hbh2 : h2[H.length]? = _ := (he2 _ (by omega)).trans hbx
  simp +contextual (dsimp := false) [hbh2]
  refine ifA_dec (fun h9 => ?_) (fun h9 => ?_)
  · obtain ⟨id, o, c, e, f, ow, cs, Fi, E⟩ := SlR.get (Rp.ext hs hx2) k h9
    obtain ⟨hkk, s1, s2, G1, G2, rfl, hFi, hc1, hc2⟩ := E.rep
    obtain ⟨a1, z1, rfl⟩ := hc1.form
    obtain ⟨a2, z2, rfl⟩ := hc2.form
    simp +contextual (dsimp := false) [E.idx, E.goB, E.le, E.lt, E.ext]
    have hm3 : ∀ T : Heap, MapR kS (h2 ++ T) hp.length (vS ((ds.take k).map (·.name))) := fun T => hm2.fr (get_ext hl2)
    refine LookK.map (a := ds[k].name) keySB (hm3 _) ?_
    rw [getP_vS]
    by_cases hin : ds[k].name ∈ (ds.take k).map (·.name)
    · rw [if_pos hin, checkAcc_3 k1 k2 h9 hin hv2]
      simp +contextual (dsimp := false)
      simp [hx2]
    · rw [if_neg hin]
      simp +contextual (dsimp := false)
      refine UpdK.map (a := ds[k].name) keySB (hm3 _) rfl ?_
      intro es cl hmp
      rw [putP_new _ _ _ (by rw [vS_keys]; exact hin)] at hmp
      simp +contextual (dsimp := false) [wrap_succ (show k < 9223372036854775807 by omega)]
      refine LoopN.of (k + 1, _) rfl ⟨h9, fun j hj => (List.getElem?_set_ne (by omega)).trans ((get_ext (by omega)).trans (he2 j hj)), ?_, by simp; omega, fun j hj hlt => ?_⟩ (by dsimp only; omega)
      · dsimp only
        rw [List.take_succ_eq_append_getElem h9, List.map_append]
        simpa [vS] using hmp
      · rcases Nat.lt_or_ge j k with h | h
        · exact hv2 j hj h
        · obtain rfl : j = k := by dsimp only at hlt; omega
          exact hin
  have k3 : ∀ j (hj : j < ds.length), ds[j].name ∉ (ds.take j).map (·.name) := fun j hj => hv2 j hj (by omega)
  clear hv2
  have hw : IntKind.i64.wrap ((ds.length : Int) - 1) = ((ds.length - 1 : Nat) : Int) := (wrap_of ((ds.length : Int) - 1) (by omega) (by omega)).trans (by omega)
  simp +contextual (dsimp := false) [hbh2, hw]
  refine CallK.of ⟨_, Tryz.func75, rfl, rfl⟩ (listing_ac hbk (by omega) (Rp.ext hs hx2) (ds.length - 1) (by omega)) ?_
  rintro v S' ⟨so, m, Fo, rfl, he3, ho, hfo, hmp, hmm⟩
  have hbnd := (listing_ok hbk (show ds.length - 1 < ds.length by omega)).1
  have hall := listing_all hbk (show 0 < ds.length by omega)
  have hck4 := fun i => checkAcc_4 (i := i) k1 k2 k3
  have hck5 := checkAcc_5 k1 k2 k3
  generalize hL : listing ds (ds.length - 1) = L at *
  obtain ⟨ao, zo, rfl⟩ := ho.form
  have hlo := hbnd.bound
  have hx3 : Ext H S' := hx2.trans he3
  have hbS : S'[H.length]? = _ := (he3 _ (by omega)).trans hbh2
  simp +contextual (dsimp := false) [hbS]
  refine LoopA.upc (σ := Nat) [1, 10, 69, 70, 71] (fun i => [(71, int i)]) (fun i => i ≤ L.2.length ∧ ∀ j (hj : j < L.2.length), j < i → L.2[j] = j) (fun i => L.2.length - i) 0 rfl (by simp) ?_
  rintro q ⟨hq, hv⟩
  simp +contextual (dsimp := false)
  refine ifA_dec (fun h10 => ?_) (fun h10 => ?_)
  · obtain ⟨id, o, c, e, f, ow, cs, Fi, E⟩ := SlR.get ho q h10
    obtain ⟨rfl, rfl, hok⟩ := E.rep
    simp +contextual (dsimp := false) [E.idx, E.goB, E.le, E.cell0, wrap_succ (show q < 9223372036854775807 by omega)]
    refine ifA_dec (fun h11 => ?_) (fun h11 => ?_)
    · exact LoopN.of (q + 1) rfl ⟨h10, fun j hj hlt => by
        rcases Nat.lt_or_ge j q with h | h
        · exact hv j hj h
        · obtain rfl : j = q := by omega
          exact h11.symm⟩ (by omega)
    · rw [hck4 q h10 (fun hc => h11 hc.symm) hv]
      simp [hx3]
  have k4 : ∀ j (hj : j < L.2.length), L.2[j] = j := fun j hj => hv j hj (by omega)
  clear hv
  rw [hck5 k4]
  have hlen : L.2.length = ds.length := hall fun i hi => by simp [List.getD, hi]; exact k4 i hi
  have hvis : ∀ i, i < ds.length → ∃ d, ((i : Int), d) ∈ L.1 ∧ getP (i : Int) (vI L.1) = some (int d) ∧ (tooDeep ds L.1 i = (decide ((dAt ds i).kind = 3) && decide (60 ≤ d))) := by
    intro i hi
    have hm : (i : Int) ∈ L.1.map (·.1) := hbnd.sub _ (by rw [← k4 i (by omega)]; exact List.getElem_mem _)
    obtain ⟨p, hp1, hp2⟩ := List.mem_map.1 hm
    obtain ⟨a, d⟩ := p
    dsimp only at hp2
    subst hp2
    have hg := getP_vI _ L.1 hbnd.nd d hp1
    refine ⟨d, hp1, hg, ?_⟩
    unfold tooDeep
    congr 1
    rw [decide_eq_decide]
    constructor
    · rintro ⟨p, hpm, hpe, hpd⟩
      obtain ⟨a', d'⟩ := p
      dsimp only at hpe hpd
      subst hpe
      have := getP_vI _ L.1 hbnd.nd d' hpm
      rw [hg] at this
      simp at this
      omega
    · intro hd
      exact ⟨_, hp1, rfl, hd⟩
  simp +contextual (dsimp := false) [hbS]
  refine LoopA.up (σ := Nat × Heap) [10, 82, 83, 84] (fun i => [(84, int i.1)]) (fun i => i.2) (fun i => i.1 ≤ ds.length ∧ Ext S' i.2 ∧ ∀ j, j < i.1 → tooDeep ds L.1 j = false) (fun i => ds.length - i.1) (0, _) rfl ⟨by simp, Ext.refl _, by simp⟩ ?_
  rintro ⟨r, h4⟩ ⟨hr, he4, hv⟩
  dsimp only at hr he4 hv
  have hx4 : Ext H h4 := hx3.trans he4
  simp +contextual (dsimp := false)
  refine ifA_dec (fun h12 => ?_) (fun h12 => ?_)
  · obtain ⟨id, o, c, e, f, ow, cs, Fi, E⟩ := SlR.get (Rp.ext hs hx4) r h12
    obtain ⟨hkk, s1, s2, G1, G2, rfl, hFi, hc1, hc2⟩ := E.rep
    obtain ⟨a1, z1, rfl⟩ := hc1.form
    obtain ⟨a2, z2, rfl⟩ := hc2.form
    obtain ⟨d, hd1, hd2, hd3⟩ := hvis r h12
    rw [dAt_lt h12] at hd3
    have hm3 : ∀ T : Heap, MapR kI (h4 ++ T) m (vI L.1) := fun T => hmp.fr ((get_ext (Nat.lt_of_lt_of_le hmp.lt he4.le)).trans (he4 _ hmp.lt))
    by_cases q3 : ds[r].kind = 3
    · simp +contextual (dsimp := false) [E.idx, E.goB, E.le, E.lt, E.ext, q3]
      refine LookK.map (a := (r : Int)) keyI (hm3 _) ?_
      rw [hd2]
      simp +contextual (dsimp := false) [wrap_succ (show r < 9223372036854775807 by omega)]
      refine ifA_dec (fun h13 => ?_) (fun h13 => ?_)
      · rw [firstI_hit h12 (by rw [hd3]; simp [q3, h13]) hv]
        simp [hx4]
      · exact LoopN.of (r + 1, _) rfl ⟨h12, he4.trans (Ext.app _ _), fun j hlt => by
          rcases Nat.lt_or_ge j r with h | h
          · exact hv j h
          · obtain rfl : j = r := by dsimp only at hlt; omega
            rw [hd3]; simp [h13]⟩ (by dsimp only; omega)
    · simp +contextual (dsimp := false) [E.idx, E.goB, E.le, E.lt, E.ext, q3, wrap_succ (show r < 9223372036854775807 by omega)]
      exact LoopN.of (r + 1, _) rfl ⟨h12, he4.trans (Ext.app _ _), fun j hlt => by
        rcases Nat.lt_or_ge j r with h | h
        · exact hv j h
        · obtain rfl : j = r := by dsimp only at hlt; omega
          rw [hd3]; simp [q3]⟩ (by dsimp only; omega)
  rw [firstI_none fun j hj => hv j (by omega)]
  simp [hx4]
theorem accValid_ac {own : Bool} {ds : List Deed} {sd : Value} {FD : List Nat} {H : Heap} (hs : DeedsR own H ds [sd] FD) : AC Tryz.prog ng 49 [.agg #[sd]] H fun v S' => v = .bool (accOk ds) ∧ S' = H := by
  obtain ⟨ad, zd, rfl⟩ := hs.form
  refine .flat (AC.go [] Tryz.func49 rfl Tryz.ntmps49 rfl ⟨mixed, by kernel_rfl⟩ ?_)
  simp +contextual (dsimp := false)
  refine CallK.fl ⟨_, Tryz.func104, rfl, rfl⟩ (implCheckAccount_ac (Rp.ext hs (Ext.app _ _))) ?_
  simp +contextual (dsimp := false) [accOk]
end Go.Proofs.YtbigpkfdeaigeaaGreatDoor

/- The listing of deeds, the reference's. No condition. -/
set_option linter.unusedSimpArgs false
set_option linter.unusedVariables false
namespace Go.Proofs.YtbigpkfdeaigeaaGreatDoor
open Go Go.Am Go.Proofs
set_option maxRecDepth 20000
variable {ng : Nat}
abbrev BoolsR (own : Bool) : RepT (List Bool) := SlR own 1 boolR
/-- Who was met, as a row of marks. -/
def metL (n : Nat) (vis : List (Int × Int)) : List Bool := (List.range n).map fun (j : Nat) => decide ((j : Int) ∈ vis.map (·.1))
theorem metL_len (n : Nat) (vis : List (Int × Int)) : (metL n vis).length = n := by simp [metL]
theorem metL_get (n : Nat) (vis : List (Int × Int)) (j : Nat) (h : j < n) : (metL n vis)[j]'(by rw [metL_len]; exact h) = decide ((j : Int) ∈ vis.map (·.1)) := by simp [metL]
theorem metL_set (n : Nat) (vis : List (Int × Int)) (i : Nat) (d : Int) (h : i < n) : (metL n vis).set i true = metL n (vis ++ [((i : Int), d)]) := by
  apply List.ext_getElem
  · simp [metL]
  · intro j h1 h2
    rw [List.getElem_set]
    simp only [metL, List.getElem_map, List.getElem_range, List.map_append, List.mem_append]
    by_cases hj : i = j
    · subst hj; simp
    · rw [if_neg hj]
      have : ¬ (j : Int) = (i : Int) := fun hc => hj (by omega)
      simp [this]
/-- The first of those that are too deep. -/
def deepS (ds : List Deed) (m : Int) (p : Int × Int) : Int := if (dAt ds p.1.toNat).kind = 3 ∧ 60 ≤ p.2 ∧ (m < 0 ∨ p.1 < m) then p.1 else m
def deepM (ds : List Deed) (vis : List (Int × Int)) : Int := vis.foldl (deepS ds) (-1)
theorem deepM_s (ds : List Deed) (vis : List (Int × Int)) (p : Int × Int) : deepM ds (vis ++ [p]) = deepS ds (deepM ds vis) p := by simp [deepM, List.foldl_append]
theorem dfs_in {ds : List Deed} {f i : Nat} {d : Int} {st : List (Int × Int) × List Int} (h : (i : Int) ∈ st.1.map (·.1)) : dfs ds f i d st = st := by
  cases f with
  | zero => rfl
  | succ f => rw [dfs, if_pos h]
structure ListS (own : Bool) (H : Heap) (ds : List Deed) (sd : Value) (FD : List Nat) (ph base : Nat) (sl : Value) (Fl : List Nat) (st : List (Int × Int) × List Int) (so : Value) (Fo : List Nat) : Prop where
  bh : H[ph]? = some ⟨.cells #[sd, sl, so, .int .i64 (deepM ds st.1)] 137 (0, 0), true, true⟩
  ls : BoolsR true H (metL ds.length st.1) [sl] Fl
  fl : Fl.Nodup ∧ ∀ j ∈ Fl, j < base ∧ j ≠ ph
  ord : IntsR true H st.2 [so] Fo
  fr : Fresh base Fo
  le : ph < base ∧ base ≤ H.length
  dd : DeedsR own H ds [sd] FD
  df : ∀ j ∈ FD, j < base ∧ j ≠ ph ∧ j ∉ Fl
theorem ListS.ext {own : Bool} {H : Heap} {ds : List Deed} {sd : Value} {FD : List Nat} {ph base : Nat} {sl : Value} {Fl : List Nat} {st : List (Int × Int) × List Int} {so : Value} {Fo : List Nat} (W : ListS own H ds sd FD ph base sl Fl st so Fo) {H' : Heap} (he : Ext H H') : ListS own H' ds sd FD ph base sl Fl st so Fo := by
  obtain ⟨h1, h2⟩ := W.le
  have := he.le
  exact ⟨(he _ (by omega)).trans W.bh, Rp.ext W.ls he, W.fl, Rp.ext W.ord he, W.fr, ⟨h1, by omega⟩, Rp.ext W.dd he, W.df⟩
theorem _root_.Go.Am.LOk.push {n : Nat} {st : List (Int × Int) × List Int} (hok : LOk n st) {i : Nat} {d : Int} (hi : i < n) (hm : (i : Int) ∉ st.1.map (·.1)) : LOk n (st.1 ++ [((i : Int), d)], st.2) := by
  refine ⟨?_, ?_, ?_, ?_, hok.nd2⟩
  · rw [List.map_append, List.nodup_append]
    refine ⟨hok.nd, by simp, fun a ha b hb hab => hm ?_⟩
    simp at hb
    rw [← hb, ← hab]
    exact ha
  · intro p hp
    rcases List.mem_append.1 hp with hp | hp
    · exact hok.lt p hp
    · simp at hp
      subst hp
      exact ⟨by simp, by simpa using hi⟩
  · intro k hk
    rw [List.map_append]
    exact List.mem_append_left _ (hok.sub k hk)
  · have := hok.len
    simp only [List.length_append, List.length_singleton]
    omega
set_option maxHeartbeats 2000000 in
theorem list_ac {own : Bool} {ds : List Deed} {sd : Value} {FD : List Nat} {ph base : Nat} {sl : Value} {Fl : List Nat} (hbk : back ds) (hdl : ds.length ≤ 400) : ∀ (f i : Nat) (d : Int) (H : Heap) (st : List (Int × Int) × List Int) (so : Value) (Fo : List Nat),
    i < f → i < ds.length → 0 ≤ d → d + i ≤ 1000000 → LOk ds.length st → (i : Int) ∉ st.1.map (·.1) → ListS own H ds sd FD ph base sl Fl st so Fo →
    AC Tryz.prog ng 134 [.pointer (some ⟨ph, 0, none⟩), int i, int d] H fun v S' => v = .tuple #[] ∧ ∃ so' Fo', ListS own S' ds sd FD ph base sl Fl (dfs ds f i d st) so' Fo' ∧
      (∀ j, j < H.length → j ≠ ph → j ∉ Fl → j ∉ Fo → S'[j]? = H[j]?) ∧ (∀ j ∈ Fo', j ∈ Fo ∨ H.length ≤ j) ∧ H.length ≤ S'.length := by
  intro f
  induction f with
  | zero => intro i d H st so Fo h; omega
  | succ f ih =>
    intro i d H st so Fo hf hi hd0 hd1 hok hm W
    obtain ⟨hl1, hl2⟩ := W.le
    obtain ⟨ad, zd, rfl⟩ := W.dd.form
    obtain ⟨al, zl, rfl⟩ := W.ls.form
    obtain ⟨ao, zo, rfl⟩ := W.ord.form
    obtain ⟨id, o, c, e, f', ow, cs, Fi, E⟩ := SlR.get W.ls i (by rw [metL_len]; exact hi)
    obtain ⟨rfl, rfl, -⟩ := E.rep
    obtain rfl := E.own' rfl
    refine AC.go [] Tryz.func134 rfl Tryz.ntmps134 rfl ⟨mixed, by kernel_rfl⟩ ?_
    simp +contextual (dsimp := false) [W.bh, E.idx, E.goB, E.le]
    have hidl := W.fl.2 _ E.mem
    obtain ⟨H1, hH1⟩ : ∃ H1, H1 = H.set id ⟨.cells (setL c o [.bool true]) e f', true, true⟩ := ⟨_, rfl⟩
    rw [← hH1]
    have hlen : H1.length = H.length := by rw [hH1]; simp
    have hne : ∀ j, j ≠ id → H1[j]? = H[j]? := fun j hj => by rw [hH1]; exact List.getElem?_set_ne (Ne.symm hj)
    have hls := E.set W.fl.1 rfl rfl (show boolR H true [.bool true] [] from ⟨rfl, rfl, trivial⟩)
    rw [metL_set _ _ _ d hi, ← hH1] at hls
    have hbh1 := (hne ph (Ne.symm hidl.2)).trans W.bh
    have hdd1 : DeedsR own H1 ds [.slice ad ds.length zd] FD := Rp.fr W.dd fun j hj => hne j (fun hc => (W.df j hj).2.2 (hc ▸ E.mem))
    obtain ⟨id2, o2, c2, e2, f2, ow2, cs2, Fi2, E2⟩ := SlR.get hdd1 i hi
    obtain ⟨hkk, s1, s2, G1, G2, rfl, hFi, hc1, hc2⟩ := E2.rep
    obtain ⟨a1, z1, rfl⟩ := hc1.form
    obtain ⟨a2, z2, rfl⟩ := hc2.form
    have hda : dAt ds i = ds[i] := dAt_lt hi
    simp +contextual (dsimp := false) [hbh1, E2.idx, E2.goB, E2.le, E2.lt, E2.ext]
    have hph1 : ph < H1.length := by omega
    have hb2 : ∀ T : Heap, (H1 ++ T)[ph]? = _ := fun T => (get_ext hph1).trans hbh1
    have hgs : ∀ (T : Heap) (b : Blk) (k : Heap → Prop), goSB (H1 ++ T) ph b k = k (H1.set ph b ++ T) := fun T b k => goSB_old hph1
    have hnb : deepM ds (st.1 ++ [((i : Int), d)]) = if ds[i].kind = 3 ∧ 60 ≤ d ∧ (deepM ds st.1 < 0 ∨ (i : Int) < deepM ds st.1) then (i : Int) else deepM ds st.1 := by
      rw [deepM_s, deepS]
      simp only [Int.toNat_natCast, hda]
    clear hph1
    have hok1 := hok.push hi hm (d := d)
    have hsub2 : ∀ j ∈ G2, j ∈ FD := fun j hj => E2.sub j (by rw [hFi]; simp [hj])
    have hat : ∀ (K : Heap) (B : Blk), K.length = H1.length → (K ++ [B])[H1.length]? = some B := fun K B hK => by rw [← hK]; simp
    have prep : ∀ (K : Heap) (B : Blk), (∀ j, j ≠ ph → K[j]? = H1[j]?) → K.length = H1.length → K[ph]? = some ⟨.cells #[.slice ad ds.length zd, .slice al (metL ds.length st.1).length zl, .slice ao st.2.length zo, .int .i64 (deepM ds (st.1 ++ [((i : Int), d)]))] 137 (0, 0), true, true⟩ →
        ListS own (K ++ [B]) ds (.slice ad ds.length zd) FD ph base (.slice al (metL ds.length st.1).length zl) Fl (st.1 ++ [((i : Int), d)], st.2) (.slice ao st.2.length zo) Fo ∧ (∀ j, j < H.length → j ≠ ph → j ∉ Fl → j ∉ Fo → (K ++ [B])[j]? = H[j]?) := by
      intro K B k1 k2 k3
      have hx : ∀ j, j < H.length → (K ++ [B])[j]? = K[j]? := fun j hj => get_ext (by omega)
      refine ⟨⟨(hx ph (by omega)).trans k3, ?_, W.fl, ?_, W.fr, ⟨hl1, by simp; omega⟩, ?_, W.df⟩, fun j hj hj1 hj2 hj3 => (hx j hj).trans ((k1 j hj1).trans (hne j fun hc => hj2 (hc ▸ E.mem)))⟩
      · exact Rp.fr hls fun j hj => (hx j (by have := W.fl.2 j hj; omega)).trans (k1 j (W.fl.2 j hj).2)
      · exact Rp.fr W.ord fun j hj => by
          have h1 := W.fr.1 j hj
          have h2 := Rp.lt W.ord j hj
          exact (hx j h2).trans ((k1 j (by omega)).trans (hne j (by omega)))
      · exact Rp.fr hdd1 fun j hj => (hx j (by have := W.df j hj; omega)).trans (k1 j (W.df j hj).2.1)
    have hset : ∀ (b : Blk) (j : Nat), j ≠ ph → (H1.set ph b)[j]? = H1[j]? := fun b j hj => List.getElem?_set_ne (Ne.symm hj)
    have hsetl : ∀ (b : Blk), (H1.set ph b).length = H1.length := fun b => by simp
    have hsets : ∀ (b : Blk), (H1.set ph b)[ph]? = some b := fun b => List.getElem?_set_self (by omega)
    have fin : ∀ (K : Heap) (x0 x1 x2 x3 x4 : Value), (∀ j, j ≠ ph → K[j]? = H1[j]?) → K.length = H1.length → K[ph]? = some ⟨.cells #[.slice ad ds.length zd, .slice al (metL ds.length st.1).length zl, .slice ao st.2.length zo, .int .i64 (deepM ds (st.1 ++ [((i : Int), d)]))] 137 (0, 0), true, true⟩ →
        0 ≤ ds[i].links.length ∧ ListS own (K ++ [⟨.cells #[x0, x1, x2, x3, x4, .slice a2 ds[i].links.length z2] 57 (0, 0), true, true⟩]) ds (.slice ad ds.length zd) FD ph base (.slice al (metL ds.length st.1).length zl) Fl (st.1 ++ [((i : Int), d)], st.2) (.slice ao st.2.length zo) Fo ∧ LOk ds.length (st.1 ++ [((i : Int), d)], st.2) ∧
          (st.1 ++ [((i : Int), d)], st.2) = (ds[i].links.take 0).foldl (fun s l => if l.ask then dfs ds f l.at_.toNat (d + 1) s else s) (st.1 ++ [((i : Int), d)], st.2) ∧
          (∃ y0 y1 y2 y3 y4, (K ++ [(⟨.cells #[x0, x1, x2, x3, x4, .slice a2 ds[i].links.length z2] 57 (0, 0), true, true⟩ : Blk)])[H1.length]? = some ⟨.cells #[y0, y1, y2, y3, y4, .slice a2 ds[i].links.length z2] 57 (0, 0), true, true⟩) ∧
          (∀ j, j < H.length → j ≠ ph → j ∉ Fl → j ∉ Fo → (K ++ [(⟨.cells #[x0, x1, x2, x3, x4, .slice a2 ds[i].links.length z2] 57 (0, 0), true, true⟩ : Blk)])[j]? = H[j]?) ∧ (∀ j ∈ Fo, j ∈ Fo ∨ H.length + 1 ≤ j) ∧ H.length + 1 ≤ (K ++ [(⟨.cells #[x0, x1, x2, x3, x4, .slice a2 ds[i].links.length z2] 57 (0, 0), true, true⟩ : Blk)]).length := by
      intro K x0 x1 x2 x3 x4 k1 k2 k3
      obtain ⟨p1, p2⟩ := prep K ⟨.cells #[x0, x1, x2, x3, x4, .slice a2 ds[i].links.length z2] 57 (0, 0), true, true⟩ k1 k2 k3
      exact ⟨Nat.zero_le _, p1, hok1, by simp, ⟨_, _, _, _, _, hat _ _ k2⟩, p2, fun j hj => .inl hj, by simp; omega⟩
    have hnb2 := hnb
    by_cases hC : ds[i].kind = 3 ∧ 60 ≤ d ∧ (deepM ds st.1 < 0 ∨ (i : Int) < deepM ds st.1)
    · rw [if_pos hC] at hnb
      have fin1 := fun x0 x1 x2 x3 x4 => fin _ x0 x1 x2 x3 x4 (hset _) (hsetl _) (hsets _)
      rw [hnb] at fin1
      obtain ⟨k3, h60, hdd⟩ := hC
      by_cases hdn : deepM ds st.1 < 0
      · simp +contextual (dsimp := false) [k3, h60, hb2, hdn, hgs]
        refine LoopA.up (σ := Nat × Heap × (List (Int × Int) × List Int) × Value × List Nat) [0, 1, 2, 6, 7] (fun x => [(7, int x.1)]) (fun x => x.2.1)
          (fun x => x.1 ≤ ds[i].links.length ∧ ListS own x.2.1 ds (.slice ad ds.length zd) FD ph base (.slice al (metL ds.length st.1).length zl) Fl x.2.2.1 x.2.2.2.1 x.2.2.2.2 ∧ LOk ds.length x.2.2.1 ∧
            x.2.2.1 = (ds[i].links.take x.1).foldl (fun s l => if l.ask then dfs ds f l.at_.toNat (d + 1) s else s) (st.1 ++ [((i : Int), d)], st.2) ∧
            (∃ x0 x1 x2 x3 x4, x.2.1[H1.length]? = some ⟨.cells #[x0, x1, x2, x3, x4, .slice a2 ds[i].links.length z2] 57 (0, 0), true, true⟩) ∧
            (∀ j, j < H.length → j ≠ ph → j ∉ Fl → j ∉ Fo → x.2.1[j]? = H[j]?) ∧ (∀ j ∈ x.2.2.2.2, j ∈ Fo ∨ H.length + 1 ≤ j) ∧ H.length + 1 ≤ x.2.1.length)
          (fun x => ds[i].links.length - x.1) (0, _, (st.1 ++ [((i : Int), d)], st.2), .slice ao st.2.length zo, Fo) rfl (fin1 _ _ _ _ _) ?_
        rintro ⟨k, hp, st', s', F'⟩ ⟨hk, W2, hok2, hst, ⟨x0, x1, x2, x3, x4, hbc⟩, hfr, hFs, hle⟩
        dsimp only at hk W2 hok2 hst hbc hfr hFs hle
        simp +contextual (dsimp := false) [hbc]
        refine ifA_dec (fun h9 => ?_) (fun h9 => ?_)
        · obtain ⟨id5, o5, c5, e5, f5, ow5, cs5, Fi5, E5⟩ := SlR.get (Rp.fr hc2 (H' := hp) fun j hj => by
            have h1 := W.df j (hsub2 j hj)
            have h2 := Rp.lt hc2 j hj
            rw [hfr j (by omega) h1.2.1 h1.2.2 (fun hc => by have := W.fr.1 j hc; omega), hne j (fun hc => h1.2.2 (hc ▸ E.mem))]) k h9
          obtain ⟨rfl, rfl, hokL⟩ := E5.rep
          have hbkL := hbk i hi
          rw [hda] at hbkL
          have hbkk := hbkL _ (List.getElem_mem h9)
          have hnext := foldl_take_s (fun s l => if l.ask then dfs ds f l.at_.toNat (d + 1) s else s) ds[i].links (st.1 ++ [((i : Int), d)], st.2) k h9
          rw [← hst] at hnext
          have hbc2 : ∀ T : Heap, (hp ++ T)[H1.length]? = _ := fun T => (get_ext (by omega)).trans hbc
          have hbh2 : ∀ T : Heap, (hp ++ T)[ph]? = _ := fun T => (get_ext (by omega)).trans W2.bh
          have hbh0 := W2.bh
          have hbnd2 := hc2.bound
          generalize ds[i].links[k] = L at *
          cases ha : L.ask
          · simp +contextual (dsimp := false) [E5.idx, E5.goB, E5.blk, E5.le, E5.lt, E5.ext, E5.cell 1 (by omega), E5.cell 3 (by omega), Lnk.c, ha, hbc, hbc2, wrap_succ (show k < 9223372036854775807 by omega)]
            exact LoopN.of (k + 1, _, st', s', F') rfl ⟨h9, W2, hok2, by rw [hnext, ha]; rfl, ⟨x0, x1, x2, x3, x4, hbc⟩, hfr, hFs, hle⟩ (by dsimp only; omega)
          · obtain ⟨g1, g2⟩ := hbkk ha
            obtain ⟨q, hq⟩ : ∃ q : Nat, L.at_ = q := ⟨L.at_.toNat, by omega⟩
            obtain ⟨id6, o6, c6, e6, f6, ow6, cs6, Fi6, E6⟩ := SlR.get W2.ls q (by rw [metL_len]; omega)
            obtain ⟨rfl, rfl, -⟩ := E6.rep
            have hx6 := metL_get ds.length st'.1 q (by omega)
            have hwd : IntKind.i64.wrap (d + 1) = d + 1 := wrap_of (d + 1) (by omega) (by omega)
            by_cases hmq : (q : Int) ∈ st'.1.map (·.1)
            · rw [decide_eq_true hmq] at hx6
              simp +contextual (dsimp := false) [E5.idx, E5.goB, E5.blk, E5.le, E5.lt, E5.ext, E5.cell 1 (by omega), E5.cell 3 (by omega), E6.idx, E6.goB, E6.blk, E6.le, E6.lt, E6.ext, E6.cell0 (by decide), Lnk.c, ha, hbc, hbc2, hbh0, hbh2, hwd, hq, hx6, wrap_succ (show k < 9223372036854775807 by omega)]
              exact LoopN.of (k + 1, _, st', s', F') rfl ⟨h9, W2, hok2, by rw [hnext, ha, hq]; exact (dfs_in hmq).symm, ⟨x0, x1, x2, x3, x4, hbc⟩, hfr, hFs, hle⟩ (by dsimp only; omega)
            · rw [decide_eq_false hmq] at hx6
              simp +contextual (dsimp := false) [E5.idx, E5.goB, E5.blk, E5.le, E5.lt, E5.ext, E5.cell 1 (by omega), E5.cell 3 (by omega), E6.idx, E6.goB, E6.blk, E6.le, E6.lt, E6.ext, E6.cell0 (by decide), Lnk.c, ha, hbc, hbc2, hbh0, hbh2, hwd, hq, hx6, wrap_succ (show k < 9223372036854775807 by omega)]
              refine CallK.of ⟨_, Tryz.func134, rfl, rfl⟩ (ih q (d + 1) _ st' s' F' (by omega) (by omega) (by omega) (by omega) hok2 hmq W2) ?_
              rintro v S' ⟨rfl, s'', F'', W3, hfr3, hFs3, hle3⟩
              simp +contextual (dsimp := false) [wrap_succ (show k < 9223372036854775807 by omega)]
              have hnF : ∀ j, j < H.length + 1 → j ∉ Fo → j ∉ F' := fun j h1 h2 h3 => (hFs j h3).elim h2 fun h => by omega
              refine LoopN.of (k + 1, S', dfs ds f q (d + 1) st', s'', F'') rfl ⟨h9, W3, (dfs_ok hbk f q (d + 1) st' (by omega) (by omega) hok2).1, by rw [hnext, ha, hq]; rfl, ⟨x0, x1, x2, x3, x4, (hfr3 _ (by omega) (by omega) (fun hc => by have := W.fl.2 _ hc; omega) (hnF _ (by omega) fun hc => by have := Rp.lt W.ord _ hc; omega)).trans hbc⟩,
                fun j h1 h2 h3 h4 => (hfr3 j (by omega) h2 h3 (hnF j (by omega) h4)).trans (hfr j h1 h2 h3 h4), fun j hj => (hFs3 j hj).elim (hFs j) fun h => .inr (by omega), by dsimp only; omega⟩ (by dsimp only; omega)
        · rw [List.take_of_length_le (by omega)] at hst
          have hD : dfs ds (f + 1) i d st = (st'.1, st'.2 ++ [(i : Int)]) := by rw [dfs, if_neg hm, hst, hda]
          rw [hD]
          obtain ⟨as', zs', rfl⟩ := W2.ord.form
          have hbnd3 := hok2.bound
          simp +contextual (dsimp := false) [W2.bh]
          refine AppK.one (R := intR') (l := st'.2) (ex := 3) (fx := (0, 0)) (ox := true) (base := base) (x := (i : Int)) (cx := [.int .i64 (i : Int)]) (Fx := []) slt122 und122 ?_ W2.fr ?_ ?_ (Fresh.nil _) (by simp) ?_ ?_ (by decide) ?_
          · exact Rp.ext W2.ord (Ext.app _ _)
          · simp
          · exact ⟨rfl, rfl, by omega, by omega⟩
          · simp; omega
          · omega
          intro s4 H4 F4 q1 q2 q3 q4 q5
          simp at q3
          have hnF : ∀ j, j < H.length + 1 → j ∉ Fo → j ∉ F' := fun j h1 h2 h3 => (hFs j h3).elim h2 fun h => by omega
          have hq : ∀ j, j < hp.length → j ∉ F' → H4[j]? = hp[j]? := fun j hj hn => (q4 j (by simp; omega) hn).trans (get_ext hj)
          have hnb' : ∀ j, j < base → j ∉ F' := fun j h1 h2 => by have := W2.fr.1 j h2; omega
          have e4 := (hq ph (by omega) (hnb' _ hl1)).trans W2.bh
          obtain ⟨a4, z4, rfl⟩ := q1.form
          simp +contextual (dsimp := false) [e4]
          have hne4 : ∀ (b : Blk) (j : Nat), j ≠ ph → (H4.set ph b)[j]? = H4[j]? := fun b j hj => List.getElem?_set_ne (Ne.symm hj)
          refine ⟨.slice a4 (st'.2.length + 1) z4, F4, ⟨?_, ?_, W.fl, ?_, q2, ⟨hl1, by simp; omega⟩, ?_, W.df⟩, fun j hj h1 h2 h3 => ((hne4 _ j h1).trans ((hq j (by omega) (hnF j (by omega) h3)).trans (hfr j hj h1 h2 h3))).trans (List.getElem?_eq_getElem hj), fun j hj => ?_, by omega⟩
          · exact List.getElem?_set_self (by omega)
          · exact Rp.fr W2.ls fun j hj => (hne4 _ j (W.fl.2 j hj).2).trans (hq j (Rp.lt W2.ls j hj) (hnb' j (W.fl.2 j hj).1))
          · simp only [List.length_append, List.length_singleton] at q1
            exact Rp.fr q1 fun j hj => hne4 _ j (by have := q2.1 j hj; omega)
          · exact Rp.fr W2.dd fun j hj => (hne4 _ j (W.df j hj).2.1).trans (hq j (Rp.lt W2.dd j hj) (hnb' j (W.df j hj).1))
          · rcases q5 j hj with h | h | h
            · exact (hFs j h).imp_right (by omega)
            · cases h
            · simp at h
              exact .inr (by omega)
      · have hdn2 : (i : Int) < deepM ds st.1 := by omega
        simp +contextual (dsimp := false) [k3, h60, hb2, hdn, hdn2, hgs]
        refine LoopA.up (σ := Nat × Heap × (List (Int × Int) × List Int) × Value × List Nat) [0, 1, 2, 6, 7] (fun x => [(7, int x.1)]) (fun x => x.2.1)
          (fun x => x.1 ≤ ds[i].links.length ∧ ListS own x.2.1 ds (.slice ad ds.length zd) FD ph base (.slice al (metL ds.length st.1).length zl) Fl x.2.2.1 x.2.2.2.1 x.2.2.2.2 ∧ LOk ds.length x.2.2.1 ∧
            x.2.2.1 = (ds[i].links.take x.1).foldl (fun s l => if l.ask then dfs ds f l.at_.toNat (d + 1) s else s) (st.1 ++ [((i : Int), d)], st.2) ∧
            (∃ x0 x1 x2 x3 x4, x.2.1[H1.length]? = some ⟨.cells #[x0, x1, x2, x3, x4, .slice a2 ds[i].links.length z2] 57 (0, 0), true, true⟩) ∧
            (∀ j, j < H.length → j ≠ ph → j ∉ Fl → j ∉ Fo → x.2.1[j]? = H[j]?) ∧ (∀ j ∈ x.2.2.2.2, j ∈ Fo ∨ H.length + 1 ≤ j) ∧ H.length + 1 ≤ x.2.1.length)
          (fun x => ds[i].links.length - x.1) (0, _, (st.1 ++ [((i : Int), d)], st.2), .slice ao st.2.length zo, Fo) rfl (fin1 _ _ _ _ _) ?_
        rintro ⟨k, hp, st', s', F'⟩ ⟨hk, W2, hok2, hst, ⟨x0, x1, x2, x3, x4, hbc⟩, hfr, hFs, hle⟩
        dsimp only at hk W2 hok2 hst hbc hfr hFs hle
        simp +contextual (dsimp := false) [hbc]
        refine ifA_dec (fun h9 => ?_) (fun h9 => ?_)
        · obtain ⟨id5, o5, c5, e5, f5, ow5, cs5, Fi5, E5⟩ := SlR.get (Rp.fr hc2 (H' := hp) fun j hj => by
            have h1 := W.df j (hsub2 j hj)
            have h2 := Rp.lt hc2 j hj
            rw [hfr j (by omega) h1.2.1 h1.2.2 (fun hc => by have := W.fr.1 j hc; omega), hne j (fun hc => h1.2.2 (hc ▸ E.mem))]) k h9
          obtain ⟨rfl, rfl, hokL⟩ := E5.rep
          have hbkL := hbk i hi
          rw [hda] at hbkL
          have hbkk := hbkL _ (List.getElem_mem h9)
          have hnext := foldl_take_s (fun s l => if l.ask then dfs ds f l.at_.toNat (d + 1) s else s) ds[i].links (st.1 ++ [((i : Int), d)], st.2) k h9
          rw [← hst] at hnext
          have hbc2 : ∀ T : Heap, (hp ++ T)[H1.length]? = _ := fun T => (get_ext (by omega)).trans hbc
          have hbh2 : ∀ T : Heap, (hp ++ T)[ph]? = _ := fun T => (get_ext (by omega)).trans W2.bh
          have hbh0 := W2.bh
          have hbnd2 := hc2.bound
          generalize ds[i].links[k] = L at *
          cases ha : L.ask
          · simp +contextual (dsimp := false) [E5.idx, E5.goB, E5.blk, E5.le, E5.lt, E5.ext, E5.cell 1 (by omega), E5.cell 3 (by omega), Lnk.c, ha, hbc, hbc2, wrap_succ (show k < 9223372036854775807 by omega)]
            exact LoopN.of (k + 1, _, st', s', F') rfl ⟨h9, W2, hok2, by rw [hnext, ha]; rfl, ⟨x0, x1, x2, x3, x4, hbc⟩, hfr, hFs, hle⟩ (by dsimp only; omega)
          · obtain ⟨g1, g2⟩ := hbkk ha
            obtain ⟨q, hq⟩ : ∃ q : Nat, L.at_ = q := ⟨L.at_.toNat, by omega⟩
            obtain ⟨id6, o6, c6, e6, f6, ow6, cs6, Fi6, E6⟩ := SlR.get W2.ls q (by rw [metL_len]; omega)
            obtain ⟨rfl, rfl, -⟩ := E6.rep
            have hx6 := metL_get ds.length st'.1 q (by omega)
            have hwd : IntKind.i64.wrap (d + 1) = d + 1 := wrap_of (d + 1) (by omega) (by omega)
            by_cases hmq : (q : Int) ∈ st'.1.map (·.1)
            · rw [decide_eq_true hmq] at hx6
              simp +contextual (dsimp := false) [E5.idx, E5.goB, E5.blk, E5.le, E5.lt, E5.ext, E5.cell 1 (by omega), E5.cell 3 (by omega), E6.idx, E6.goB, E6.blk, E6.le, E6.lt, E6.ext, E6.cell0 (by decide), Lnk.c, ha, hbc, hbc2, hbh0, hbh2, hwd, hq, hx6, wrap_succ (show k < 9223372036854775807 by omega)]
              exact LoopN.of (k + 1, _, st', s', F') rfl ⟨h9, W2, hok2, by rw [hnext, ha, hq]; exact (dfs_in hmq).symm, ⟨x0, x1, x2, x3, x4, hbc⟩, hfr, hFs, hle⟩ (by dsimp only; omega)
            · rw [decide_eq_false hmq] at hx6
              simp +contextual (dsimp := false) [E5.idx, E5.goB, E5.blk, E5.le, E5.lt, E5.ext, E5.cell 1 (by omega), E5.cell 3 (by omega), E6.idx, E6.goB, E6.blk, E6.le, E6.lt, E6.ext, E6.cell0 (by decide), Lnk.c, ha, hbc, hbc2, hbh0, hbh2, hwd, hq, hx6, wrap_succ (show k < 9223372036854775807 by omega)]
              refine CallK.of ⟨_, Tryz.func134, rfl, rfl⟩ (ih q (d + 1) _ st' s' F' (by omega) (by omega) (by omega) (by omega) hok2 hmq W2) ?_
              rintro v S' ⟨rfl, s'', F'', W3, hfr3, hFs3, hle3⟩
              simp +contextual (dsimp := false) [wrap_succ (show k < 9223372036854775807 by omega)]
              have hnF : ∀ j, j < H.length + 1 → j ∉ Fo → j ∉ F' := fun j h1 h2 h3 => (hFs j h3).elim h2 fun h => by omega
              refine LoopN.of (k + 1, S', dfs ds f q (d + 1) st', s'', F'') rfl ⟨h9, W3, (dfs_ok hbk f q (d + 1) st' (by omega) (by omega) hok2).1, by rw [hnext, ha, hq]; rfl, ⟨x0, x1, x2, x3, x4, (hfr3 _ (by omega) (by omega) (fun hc => by have := W.fl.2 _ hc; omega) (hnF _ (by omega) fun hc => by have := Rp.lt W.ord _ hc; omega)).trans hbc⟩,
                fun j h1 h2 h3 h4 => (hfr3 j (by omega) h2 h3 (hnF j (by omega) h4)).trans (hfr j h1 h2 h3 h4), fun j hj => (hFs3 j hj).elim (hFs j) fun h => .inr (by omega), by dsimp only; omega⟩ (by dsimp only; omega)
        · rw [List.take_of_length_le (by omega)] at hst
          have hD : dfs ds (f + 1) i d st = (st'.1, st'.2 ++ [(i : Int)]) := by rw [dfs, if_neg hm, hst, hda]
          rw [hD]
          obtain ⟨as', zs', rfl⟩ := W2.ord.form
          have hbnd3 := hok2.bound
          simp +contextual (dsimp := false) [W2.bh]
          refine AppK.one (R := intR') (l := st'.2) (ex := 3) (fx := (0, 0)) (ox := true) (base := base) (x := (i : Int)) (cx := [.int .i64 (i : Int)]) (Fx := []) slt122 und122 ?_ W2.fr ?_ ?_ (Fresh.nil _) (by simp) ?_ ?_ (by decide) ?_
          · exact Rp.ext W2.ord (Ext.app _ _)
          · simp
          · exact ⟨rfl, rfl, by omega, by omega⟩
          · simp; omega
          · omega
          intro s4 H4 F4 q1 q2 q3 q4 q5
          simp at q3
          have hnF : ∀ j, j < H.length + 1 → j ∉ Fo → j ∉ F' := fun j h1 h2 h3 => (hFs j h3).elim h2 fun h => by omega
          have hq : ∀ j, j < hp.length → j ∉ F' → H4[j]? = hp[j]? := fun j hj hn => (q4 j (by simp; omega) hn).trans (get_ext hj)
          have hnb' : ∀ j, j < base → j ∉ F' := fun j h1 h2 => by have := W2.fr.1 j h2; omega
          have e4 := (hq ph (by omega) (hnb' _ hl1)).trans W2.bh
          obtain ⟨a4, z4, rfl⟩ := q1.form
          simp +contextual (dsimp := false) [e4]
          have hne4 : ∀ (b : Blk) (j : Nat), j ≠ ph → (H4.set ph b)[j]? = H4[j]? := fun b j hj => List.getElem?_set_ne (Ne.symm hj)
          refine ⟨.slice a4 (st'.2.length + 1) z4, F4, ⟨?_, ?_, W.fl, ?_, q2, ⟨hl1, by simp; omega⟩, ?_, W.df⟩, fun j hj h1 h2 h3 => ((hne4 _ j h1).trans ((hq j (by omega) (hnF j (by omega) h3)).trans (hfr j hj h1 h2 h3))).trans (List.getElem?_eq_getElem hj), fun j hj => ?_, by omega⟩
          · exact List.getElem?_set_self (by omega)
          · exact Rp.fr W2.ls fun j hj => (hne4 _ j (W.fl.2 j hj).2).trans (hq j (Rp.lt W2.ls j hj) (hnb' j (W.fl.2 j hj).1))
          · simp only [List.length_append, List.length_singleton] at q1
            exact Rp.fr q1 fun j hj => hne4 _ j (by have := q2.1 j hj; omega)
          · exact Rp.fr W2.dd fun j hj => (hne4 _ j (W.df j hj).2.1).trans (hq j (Rp.lt W2.dd j hj) (hnb' j (W.df j hj).1))
          · rcases q5 j hj with h | h | h
            · exact (hFs j h).imp_right (by omega)
            · cases h
            · simp at h
              exact .inr (by omega)
    · rw [if_neg hC] at hnb
      rw [hnb] at fin
      have fin1 := fun x0 x1 x2 x3 x4 => fin H1 x0 x1 x2 x3 x4 (fun _ _ => rfl) rfl hbh1
      by_cases k3 : ds[i].kind = 3
      · by_cases h60 : 60 ≤ d
        · have hdn : ¬ deepM ds st.1 < 0 := fun h => hC ⟨k3, h60, .inl h⟩
          have hdn2 : ¬ (i : Int) < deepM ds st.1 := fun h => hC ⟨k3, h60, .inr h⟩
          simp +contextual (dsimp := false) [k3, h60, hb2, hdn, hdn2, hgs]
          refine LoopA.up (σ := Nat × Heap × (List (Int × Int) × List Int) × Value × List Nat) [0, 1, 2, 6, 7] (fun x => [(7, int x.1)]) (fun x => x.2.1)
            (fun x => x.1 ≤ ds[i].links.length ∧ ListS own x.2.1 ds (.slice ad ds.length zd) FD ph base (.slice al (metL ds.length st.1).length zl) Fl x.2.2.1 x.2.2.2.1 x.2.2.2.2 ∧ LOk ds.length x.2.2.1 ∧
              x.2.2.1 = (ds[i].links.take x.1).foldl (fun s l => if l.ask then dfs ds f l.at_.toNat (d + 1) s else s) (st.1 ++ [((i : Int), d)], st.2) ∧
              (∃ x0 x1 x2 x3 x4, x.2.1[H1.length]? = some ⟨.cells #[x0, x1, x2, x3, x4, .slice a2 ds[i].links.length z2] 57 (0, 0), true, true⟩) ∧
              (∀ j, j < H.length → j ≠ ph → j ∉ Fl → j ∉ Fo → x.2.1[j]? = H[j]?) ∧ (∀ j ∈ x.2.2.2.2, j ∈ Fo ∨ H.length + 1 ≤ j) ∧ H.length + 1 ≤ x.2.1.length)
            (fun x => ds[i].links.length - x.1) (0, _, (st.1 ++ [((i : Int), d)], st.2), .slice ao st.2.length zo, Fo) rfl (fin1 _ _ _ _ _) ?_
          rintro ⟨k, hp, st', s', F'⟩ ⟨hk, W2, hok2, hst, ⟨x0, x1, x2, x3, x4, hbc⟩, hfr, hFs, hle⟩
          dsimp only at hk W2 hok2 hst hbc hfr hFs hle
          simp +contextual (dsimp := false) [hbc]
          refine ifA_dec (fun h9 => ?_) (fun h9 => ?_)
          · obtain ⟨id5, o5, c5, e5, f5, ow5, cs5, Fi5, E5⟩ := SlR.get (Rp.fr hc2 (H' := hp) fun j hj => by
              have h1 := W.df j (hsub2 j hj)
              have h2 := Rp.lt hc2 j hj
              rw [hfr j (by omega) h1.2.1 h1.2.2 (fun hc => by have := W.fr.1 j hc; omega), hne j (fun hc => h1.2.2 (hc ▸ E.mem))]) k h9
            obtain ⟨rfl, rfl, hokL⟩ := E5.rep
            have hbkL := hbk i hi
            rw [hda] at hbkL
            have hbkk := hbkL _ (List.getElem_mem h9)
            have hnext := foldl_take_s (fun s l => if l.ask then dfs ds f l.at_.toNat (d + 1) s else s) ds[i].links (st.1 ++ [((i : Int), d)], st.2) k h9
            rw [← hst] at hnext
            have hbc2 : ∀ T : Heap, (hp ++ T)[H1.length]? = _ := fun T => (get_ext (by omega)).trans hbc
            have hbh2 : ∀ T : Heap, (hp ++ T)[ph]? = _ := fun T => (get_ext (by omega)).trans W2.bh
            have hbh0 := W2.bh
            have hbnd2 := hc2.bound
            generalize ds[i].links[k] = L at *
            cases ha : L.ask
            · simp +contextual (dsimp := false) [E5.idx, E5.goB, E5.blk, E5.le, E5.lt, E5.ext, E5.cell 1 (by omega), E5.cell 3 (by omega), Lnk.c, ha, hbc, hbc2, wrap_succ (show k < 9223372036854775807 by omega)]
              exact LoopN.of (k + 1, _, st', s', F') rfl ⟨h9, W2, hok2, by rw [hnext, ha]; rfl, ⟨x0, x1, x2, x3, x4, hbc⟩, hfr, hFs, hle⟩ (by dsimp only; omega)
            · obtain ⟨g1, g2⟩ := hbkk ha
              obtain ⟨q, hq⟩ : ∃ q : Nat, L.at_ = q := ⟨L.at_.toNat, by omega⟩
              obtain ⟨id6, o6, c6, e6, f6, ow6, cs6, Fi6, E6⟩ := SlR.get W2.ls q (by rw [metL_len]; omega)
              obtain ⟨rfl, rfl, -⟩ := E6.rep
              have hx6 := metL_get ds.length st'.1 q (by omega)
              have hwd : IntKind.i64.wrap (d + 1) = d + 1 := wrap_of (d + 1) (by omega) (by omega)
              by_cases hmq : (q : Int) ∈ st'.1.map (·.1)
              · rw [decide_eq_true hmq] at hx6
                simp +contextual (dsimp := false) [E5.idx, E5.goB, E5.blk, E5.le, E5.lt, E5.ext, E5.cell 1 (by omega), E5.cell 3 (by omega), E6.idx, E6.goB, E6.blk, E6.le, E6.lt, E6.ext, E6.cell0 (by decide), Lnk.c, ha, hbc, hbc2, hbh0, hbh2, hwd, hq, hx6, wrap_succ (show k < 9223372036854775807 by omega)]
                exact LoopN.of (k + 1, _, st', s', F') rfl ⟨h9, W2, hok2, by rw [hnext, ha, hq]; exact (dfs_in hmq).symm, ⟨x0, x1, x2, x3, x4, hbc⟩, hfr, hFs, hle⟩ (by dsimp only; omega)
              · rw [decide_eq_false hmq] at hx6
                simp +contextual (dsimp := false) [E5.idx, E5.goB, E5.blk, E5.le, E5.lt, E5.ext, E5.cell 1 (by omega), E5.cell 3 (by omega), E6.idx, E6.goB, E6.blk, E6.le, E6.lt, E6.ext, E6.cell0 (by decide), Lnk.c, ha, hbc, hbc2, hbh0, hbh2, hwd, hq, hx6, wrap_succ (show k < 9223372036854775807 by omega)]
                refine CallK.of ⟨_, Tryz.func134, rfl, rfl⟩ (ih q (d + 1) _ st' s' F' (by omega) (by omega) (by omega) (by omega) hok2 hmq W2) ?_
                rintro v S' ⟨rfl, s'', F'', W3, hfr3, hFs3, hle3⟩
                simp +contextual (dsimp := false) [wrap_succ (show k < 9223372036854775807 by omega)]
                have hnF : ∀ j, j < H.length + 1 → j ∉ Fo → j ∉ F' := fun j h1 h2 h3 => (hFs j h3).elim h2 fun h => by omega
                refine LoopN.of (k + 1, S', dfs ds f q (d + 1) st', s'', F'') rfl ⟨h9, W3, (dfs_ok hbk f q (d + 1) st' (by omega) (by omega) hok2).1, by rw [hnext, ha, hq]; rfl, ⟨x0, x1, x2, x3, x4, (hfr3 _ (by omega) (by omega) (fun hc => by have := W.fl.2 _ hc; omega) (hnF _ (by omega) fun hc => by have := Rp.lt W.ord _ hc; omega)).trans hbc⟩,
                  fun j h1 h2 h3 h4 => (hfr3 j (by omega) h2 h3 (hnF j (by omega) h4)).trans (hfr j h1 h2 h3 h4), fun j hj => (hFs3 j hj).elim (hFs j) fun h => .inr (by omega), by dsimp only; omega⟩ (by dsimp only; omega)
          · rw [List.take_of_length_le (by omega)] at hst
            have hD : dfs ds (f + 1) i d st = (st'.1, st'.2 ++ [(i : Int)]) := by rw [dfs, if_neg hm, hst, hda]
            rw [hD]
            obtain ⟨as', zs', rfl⟩ := W2.ord.form
            have hbnd3 := hok2.bound
            simp +contextual (dsimp := false) [W2.bh]
            refine AppK.one (R := intR') (l := st'.2) (ex := 3) (fx := (0, 0)) (ox := true) (base := base) (x := (i : Int)) (cx := [.int .i64 (i : Int)]) (Fx := []) slt122 und122 ?_ W2.fr ?_ ?_ (Fresh.nil _) (by simp) ?_ ?_ (by decide) ?_
            · exact Rp.ext W2.ord (Ext.app _ _)
            · simp
            · exact ⟨rfl, rfl, by omega, by omega⟩
            · simp; omega
            · omega
            intro s4 H4 F4 q1 q2 q3 q4 q5
            simp at q3
            have hnF : ∀ j, j < H.length + 1 → j ∉ Fo → j ∉ F' := fun j h1 h2 h3 => (hFs j h3).elim h2 fun h => by omega
            have hq : ∀ j, j < hp.length → j ∉ F' → H4[j]? = hp[j]? := fun j hj hn => (q4 j (by simp; omega) hn).trans (get_ext hj)
            have hnb' : ∀ j, j < base → j ∉ F' := fun j h1 h2 => by have := W2.fr.1 j h2; omega
            have e4 := (hq ph (by omega) (hnb' _ hl1)).trans W2.bh
            obtain ⟨a4, z4, rfl⟩ := q1.form
            simp +contextual (dsimp := false) [e4]
            have hne4 : ∀ (b : Blk) (j : Nat), j ≠ ph → (H4.set ph b)[j]? = H4[j]? := fun b j hj => List.getElem?_set_ne (Ne.symm hj)
            refine ⟨.slice a4 (st'.2.length + 1) z4, F4, ⟨?_, ?_, W.fl, ?_, q2, ⟨hl1, by simp; omega⟩, ?_, W.df⟩, fun j hj h1 h2 h3 => ((hne4 _ j h1).trans ((hq j (by omega) (hnF j (by omega) h3)).trans (hfr j hj h1 h2 h3))).trans (List.getElem?_eq_getElem hj), fun j hj => ?_, by omega⟩
            · exact List.getElem?_set_self (by omega)
            · exact Rp.fr W2.ls fun j hj => (hne4 _ j (W.fl.2 j hj).2).trans (hq j (Rp.lt W2.ls j hj) (hnb' j (W.fl.2 j hj).1))
            · simp only [List.length_append, List.length_singleton] at q1
              exact Rp.fr q1 fun j hj => hne4 _ j (by have := q2.1 j hj; omega)
            · exact Rp.fr W2.dd fun j hj => (hne4 _ j (W.df j hj).2.1).trans (hq j (Rp.lt W2.dd j hj) (hnb' j (W.df j hj).1))
            · rcases q5 j hj with h | h | h
              · exact (hFs j h).imp_right (by omega)
              · cases h
              · simp at h
                exact .inr (by omega)
        · simp +contextual (dsimp := false) [k3, h60, hb2, hgs]
          refine LoopA.up (σ := Nat × Heap × (List (Int × Int) × List Int) × Value × List Nat) [0, 1, 2, 6, 7] (fun x => [(7, int x.1)]) (fun x => x.2.1)
            (fun x => x.1 ≤ ds[i].links.length ∧ ListS own x.2.1 ds (.slice ad ds.length zd) FD ph base (.slice al (metL ds.length st.1).length zl) Fl x.2.2.1 x.2.2.2.1 x.2.2.2.2 ∧ LOk ds.length x.2.2.1 ∧
              x.2.2.1 = (ds[i].links.take x.1).foldl (fun s l => if l.ask then dfs ds f l.at_.toNat (d + 1) s else s) (st.1 ++ [((i : Int), d)], st.2) ∧
              (∃ x0 x1 x2 x3 x4, x.2.1[H1.length]? = some ⟨.cells #[x0, x1, x2, x3, x4, .slice a2 ds[i].links.length z2] 57 (0, 0), true, true⟩) ∧
              (∀ j, j < H.length → j ≠ ph → j ∉ Fl → j ∉ Fo → x.2.1[j]? = H[j]?) ∧ (∀ j ∈ x.2.2.2.2, j ∈ Fo ∨ H.length + 1 ≤ j) ∧ H.length + 1 ≤ x.2.1.length)
            (fun x => ds[i].links.length - x.1) (0, _, (st.1 ++ [((i : Int), d)], st.2), .slice ao st.2.length zo, Fo) rfl (fin1 _ _ _ _ _) ?_
          rintro ⟨k, hp, st', s', F'⟩ ⟨hk, W2, hok2, hst, ⟨x0, x1, x2, x3, x4, hbc⟩, hfr, hFs, hle⟩
          dsimp only at hk W2 hok2 hst hbc hfr hFs hle
          simp +contextual (dsimp := false) [hbc]
          refine ifA_dec (fun h9 => ?_) (fun h9 => ?_)
          · obtain ⟨id5, o5, c5, e5, f5, ow5, cs5, Fi5, E5⟩ := SlR.get (Rp.fr hc2 (H' := hp) fun j hj => by
              have h1 := W.df j (hsub2 j hj)
              have h2 := Rp.lt hc2 j hj
              rw [hfr j (by omega) h1.2.1 h1.2.2 (fun hc => by have := W.fr.1 j hc; omega), hne j (fun hc => h1.2.2 (hc ▸ E.mem))]) k h9
            obtain ⟨rfl, rfl, hokL⟩ := E5.rep
            have hbkL := hbk i hi
            rw [hda] at hbkL
            have hbkk := hbkL _ (List.getElem_mem h9)
            have hnext := foldl_take_s (fun s l => if l.ask then dfs ds f l.at_.toNat (d + 1) s else s) ds[i].links (st.1 ++ [((i : Int), d)], st.2) k h9
            rw [← hst] at hnext
            have hbc2 : ∀ T : Heap, (hp ++ T)[H1.length]? = _ := fun T => (get_ext (by omega)).trans hbc
            have hbh2 : ∀ T : Heap, (hp ++ T)[ph]? = _ := fun T => (get_ext (by omega)).trans W2.bh
            have hbh0 := W2.bh
            have hbnd2 := hc2.bound
            generalize ds[i].links[k] = L at *
            cases ha : L.ask
            · simp +contextual (dsimp := false) [E5.idx, E5.goB, E5.blk, E5.le, E5.lt, E5.ext, E5.cell 1 (by omega), E5.cell 3 (by omega), Lnk.c, ha, hbc, hbc2, wrap_succ (show k < 9223372036854775807 by omega)]
              exact LoopN.of (k + 1, _, st', s', F') rfl ⟨h9, W2, hok2, by rw [hnext, ha]; rfl, ⟨x0, x1, x2, x3, x4, hbc⟩, hfr, hFs, hle⟩ (by dsimp only; omega)
            · obtain ⟨g1, g2⟩ := hbkk ha
              obtain ⟨q, hq⟩ : ∃ q : Nat, L.at_ = q := ⟨L.at_.toNat, by omega⟩
              obtain ⟨id6, o6, c6, e6, f6, ow6, cs6, Fi6, E6⟩ := SlR.get W2.ls q (by rw [metL_len]; omega)
              obtain ⟨rfl, rfl, -⟩ := E6.rep
              have hx6 := metL_get ds.length st'.1 q (by omega)
              have hwd : IntKind.i64.wrap (d + 1) = d + 1 := wrap_of (d + 1) (by omega) (by omega)
              by_cases hmq : (q : Int) ∈ st'.1.map (·.1)
              · rw [decide_eq_true hmq] at hx6
                simp +contextual (dsimp := false) [E5.idx, E5.goB, E5.blk, E5.le, E5.lt, E5.ext, E5.cell 1 (by omega), E5.cell 3 (by omega), E6.idx, E6.goB, E6.blk, E6.le, E6.lt, E6.ext, E6.cell0 (by decide), Lnk.c, ha, hbc, hbc2, hbh0, hbh2, hwd, hq, hx6, wrap_succ (show k < 9223372036854775807 by omega)]
                exact LoopN.of (k + 1, _, st', s', F') rfl ⟨h9, W2, hok2, by rw [hnext, ha, hq]; exact (dfs_in hmq).symm, ⟨x0, x1, x2, x3, x4, hbc⟩, hfr, hFs, hle⟩ (by dsimp only; omega)
              · rw [decide_eq_false hmq] at hx6
                simp +contextual (dsimp := false) [E5.idx, E5.goB, E5.blk, E5.le, E5.lt, E5.ext, E5.cell 1 (by omega), E5.cell 3 (by omega), E6.idx, E6.goB, E6.blk, E6.le, E6.lt, E6.ext, E6.cell0 (by decide), Lnk.c, ha, hbc, hbc2, hbh0, hbh2, hwd, hq, hx6, wrap_succ (show k < 9223372036854775807 by omega)]
                refine CallK.of ⟨_, Tryz.func134, rfl, rfl⟩ (ih q (d + 1) _ st' s' F' (by omega) (by omega) (by omega) (by omega) hok2 hmq W2) ?_
                rintro v S' ⟨rfl, s'', F'', W3, hfr3, hFs3, hle3⟩
                simp +contextual (dsimp := false) [wrap_succ (show k < 9223372036854775807 by omega)]
                have hnF : ∀ j, j < H.length + 1 → j ∉ Fo → j ∉ F' := fun j h1 h2 h3 => (hFs j h3).elim h2 fun h => by omega
                refine LoopN.of (k + 1, S', dfs ds f q (d + 1) st', s'', F'') rfl ⟨h9, W3, (dfs_ok hbk f q (d + 1) st' (by omega) (by omega) hok2).1, by rw [hnext, ha, hq]; rfl, ⟨x0, x1, x2, x3, x4, (hfr3 _ (by omega) (by omega) (fun hc => by have := W.fl.2 _ hc; omega) (hnF _ (by omega) fun hc => by have := Rp.lt W.ord _ hc; omega)).trans hbc⟩,
                  fun j h1 h2 h3 h4 => (hfr3 j (by omega) h2 h3 (hnF j (by omega) h4)).trans (hfr j h1 h2 h3 h4), fun j hj => (hFs3 j hj).elim (hFs j) fun h => .inr (by omega), by dsimp only; omega⟩ (by dsimp only; omega)
          · rw [List.take_of_length_le (by omega)] at hst
            have hD : dfs ds (f + 1) i d st = (st'.1, st'.2 ++ [(i : Int)]) := by rw [dfs, if_neg hm, hst, hda]
            rw [hD]
            obtain ⟨as', zs', rfl⟩ := W2.ord.form
            have hbnd3 := hok2.bound
            simp +contextual (dsimp := false) [W2.bh]
            refine AppK.one (R := intR') (l := st'.2) (ex := 3) (fx := (0, 0)) (ox := true) (base := base) (x := (i : Int)) (cx := [.int .i64 (i : Int)]) (Fx := []) slt122 und122 ?_ W2.fr ?_ ?_ (Fresh.nil _) (by simp) ?_ ?_ (by decide) ?_
            · exact Rp.ext W2.ord (Ext.app _ _)
            · simp
            · exact ⟨rfl, rfl, by omega, by omega⟩
            · simp; omega
            · omega
            intro s4 H4 F4 q1 q2 q3 q4 q5
            simp at q3
            have hnF : ∀ j, j < H.length + 1 → j ∉ Fo → j ∉ F' := fun j h1 h2 h3 => (hFs j h3).elim h2 fun h => by omega
            have hq : ∀ j, j < hp.length → j ∉ F' → H4[j]? = hp[j]? := fun j hj hn => (q4 j (by simp; omega) hn).trans (get_ext hj)
            have hnb' : ∀ j, j < base → j ∉ F' := fun j h1 h2 => by have := W2.fr.1 j h2; omega
            have e4 := (hq ph (by omega) (hnb' _ hl1)).trans W2.bh
            obtain ⟨a4, z4, rfl⟩ := q1.form
            simp +contextual (dsimp := false) [e4]
            have hne4 : ∀ (b : Blk) (j : Nat), j ≠ ph → (H4.set ph b)[j]? = H4[j]? := fun b j hj => List.getElem?_set_ne (Ne.symm hj)
            refine ⟨.slice a4 (st'.2.length + 1) z4, F4, ⟨?_, ?_, W.fl, ?_, q2, ⟨hl1, by simp; omega⟩, ?_, W.df⟩, fun j hj h1 h2 h3 => ((hne4 _ j h1).trans ((hq j (by omega) (hnF j (by omega) h3)).trans (hfr j hj h1 h2 h3))).trans (List.getElem?_eq_getElem hj), fun j hj => ?_, by omega⟩
            · exact List.getElem?_set_self (by omega)
            · exact Rp.fr W2.ls fun j hj => (hne4 _ j (W.fl.2 j hj).2).trans (hq j (Rp.lt W2.ls j hj) (hnb' j (W.fl.2 j hj).1))
            · simp only [List.length_append, List.length_singleton] at q1
              exact Rp.fr q1 fun j hj => hne4 _ j (by have := q2.1 j hj; omega)
            · exact Rp.fr W2.dd fun j hj => (hne4 _ j (W.df j hj).2.1).trans (hq j (Rp.lt W2.dd j hj) (hnb' j (W.df j hj).1))
            · rcases q5 j hj with h | h | h
              · exact (hFs j h).imp_right (by omega)
              · cases h
              · simp at h
                exact .inr (by omega)
      · simp +contextual (dsimp := false) [k3, hb2, hgs]
        refine LoopA.up (σ := Nat × Heap × (List (Int × Int) × List Int) × Value × List Nat) [0, 1, 2, 6, 7] (fun x => [(7, int x.1)]) (fun x => x.2.1)
          (fun x => x.1 ≤ ds[i].links.length ∧ ListS own x.2.1 ds (.slice ad ds.length zd) FD ph base (.slice al (metL ds.length st.1).length zl) Fl x.2.2.1 x.2.2.2.1 x.2.2.2.2 ∧ LOk ds.length x.2.2.1 ∧
            x.2.2.1 = (ds[i].links.take x.1).foldl (fun s l => if l.ask then dfs ds f l.at_.toNat (d + 1) s else s) (st.1 ++ [((i : Int), d)], st.2) ∧
            (∃ x0 x1 x2 x3 x4, x.2.1[H1.length]? = some ⟨.cells #[x0, x1, x2, x3, x4, .slice a2 ds[i].links.length z2] 57 (0, 0), true, true⟩) ∧
            (∀ j, j < H.length → j ≠ ph → j ∉ Fl → j ∉ Fo → x.2.1[j]? = H[j]?) ∧ (∀ j ∈ x.2.2.2.2, j ∈ Fo ∨ H.length + 1 ≤ j) ∧ H.length + 1 ≤ x.2.1.length)
          (fun x => ds[i].links.length - x.1) (0, _, (st.1 ++ [((i : Int), d)], st.2), .slice ao st.2.length zo, Fo) rfl (fin1 _ _ _ _ _) ?_
        rintro ⟨k, hp, st', s', F'⟩ ⟨hk, W2, hok2, hst, ⟨x0, x1, x2, x3, x4, hbc⟩, hfr, hFs, hle⟩
        dsimp only at hk W2 hok2 hst hbc hfr hFs hle
        simp +contextual (dsimp := false) [hbc]
        refine ifA_dec (fun h9 => ?_) (fun h9 => ?_)
        · obtain ⟨id5, o5, c5, e5, f5, ow5, cs5, Fi5, E5⟩ := SlR.get (Rp.fr hc2 (H' := hp) fun j hj => by
            have h1 := W.df j (hsub2 j hj)
            have h2 := Rp.lt hc2 j hj
            rw [hfr j (by omega) h1.2.1 h1.2.2 (fun hc => by have := W.fr.1 j hc; omega), hne j (fun hc => h1.2.2 (hc ▸ E.mem))]) k h9
          obtain ⟨rfl, rfl, hokL⟩ := E5.rep
          have hbkL := hbk i hi
          rw [hda] at hbkL
          have hbkk := hbkL _ (List.getElem_mem h9)
          have hnext := foldl_take_s (fun s l => if l.ask then dfs ds f l.at_.toNat (d + 1) s else s) ds[i].links (st.1 ++ [((i : Int), d)], st.2) k h9
          rw [← hst] at hnext
          have hbc2 : ∀ T : Heap, (hp ++ T)[H1.length]? = _ := fun T => (get_ext (by omega)).trans hbc
          have hbh2 : ∀ T : Heap, (hp ++ T)[ph]? = _ := fun T => (get_ext (by omega)).trans W2.bh
          have hbh0 := W2.bh
          have hbnd2 := hc2.bound
          generalize ds[i].links[k] = L at *
          cases ha : L.ask
          · simp +contextual (dsimp := false) [E5.idx, E5.goB, E5.blk, E5.le, E5.lt, E5.ext, E5.cell 1 (by omega), E5.cell 3 (by omega), Lnk.c, ha, hbc, hbc2, wrap_succ (show k < 9223372036854775807 by omega)]
            exact LoopN.of (k + 1, _, st', s', F') rfl ⟨h9, W2, hok2, by rw [hnext, ha]; rfl, ⟨x0, x1, x2, x3, x4, hbc⟩, hfr, hFs, hle⟩ (by dsimp only; omega)
          · obtain ⟨g1, g2⟩ := hbkk ha
            obtain ⟨q, hq⟩ : ∃ q : Nat, L.at_ = q := ⟨L.at_.toNat, by omega⟩
            obtain ⟨id6, o6, c6, e6, f6, ow6, cs6, Fi6, E6⟩ := SlR.get W2.ls q (by rw [metL_len]; omega)
            obtain ⟨rfl, rfl, -⟩ := E6.rep
            have hx6 := metL_get ds.length st'.1 q (by omega)
            have hwd : IntKind.i64.wrap (d + 1) = d + 1 := wrap_of (d + 1) (by omega) (by omega)
            by_cases hmq : (q : Int) ∈ st'.1.map (·.1)
            · rw [decide_eq_true hmq] at hx6
              simp +contextual (dsimp := false) [E5.idx, E5.goB, E5.blk, E5.le, E5.lt, E5.ext, E5.cell 1 (by omega), E5.cell 3 (by omega), E6.idx, E6.goB, E6.blk, E6.le, E6.lt, E6.ext, E6.cell0 (by decide), Lnk.c, ha, hbc, hbc2, hbh0, hbh2, hwd, hq, hx6, wrap_succ (show k < 9223372036854775807 by omega)]
              exact LoopN.of (k + 1, _, st', s', F') rfl ⟨h9, W2, hok2, by rw [hnext, ha, hq]; exact (dfs_in hmq).symm, ⟨x0, x1, x2, x3, x4, hbc⟩, hfr, hFs, hle⟩ (by dsimp only; omega)
            · rw [decide_eq_false hmq] at hx6
              simp +contextual (dsimp := false) [E5.idx, E5.goB, E5.blk, E5.le, E5.lt, E5.ext, E5.cell 1 (by omega), E5.cell 3 (by omega), E6.idx, E6.goB, E6.blk, E6.le, E6.lt, E6.ext, E6.cell0 (by decide), Lnk.c, ha, hbc, hbc2, hbh0, hbh2, hwd, hq, hx6, wrap_succ (show k < 9223372036854775807 by omega)]
              refine CallK.of ⟨_, Tryz.func134, rfl, rfl⟩ (ih q (d + 1) _ st' s' F' (by omega) (by omega) (by omega) (by omega) hok2 hmq W2) ?_
              rintro v S' ⟨rfl, s'', F'', W3, hfr3, hFs3, hle3⟩
              simp +contextual (dsimp := false) [wrap_succ (show k < 9223372036854775807 by omega)]
              have hnF : ∀ j, j < H.length + 1 → j ∉ Fo → j ∉ F' := fun j h1 h2 h3 => (hFs j h3).elim h2 fun h => by omega
              refine LoopN.of (k + 1, S', dfs ds f q (d + 1) st', s'', F'') rfl ⟨h9, W3, (dfs_ok hbk f q (d + 1) st' (by omega) (by omega) hok2).1, by rw [hnext, ha, hq]; rfl, ⟨x0, x1, x2, x3, x4, (hfr3 _ (by omega) (by omega) (fun hc => by have := W.fl.2 _ hc; omega) (hnF _ (by omega) fun hc => by have := Rp.lt W.ord _ hc; omega)).trans hbc⟩,
                fun j h1 h2 h3 h4 => (hfr3 j (by omega) h2 h3 (hnF j (by omega) h4)).trans (hfr j h1 h2 h3 h4), fun j hj => (hFs3 j hj).elim (hFs j) fun h => .inr (by omega), by dsimp only; omega⟩ (by dsimp only; omega)
        · rw [List.take_of_length_le (by omega)] at hst
          have hD : dfs ds (f + 1) i d st = (st'.1, st'.2 ++ [(i : Int)]) := by rw [dfs, if_neg hm, hst, hda]
          rw [hD]
          obtain ⟨as', zs', rfl⟩ := W2.ord.form
          have hbnd3 := hok2.bound
          simp +contextual (dsimp := false) [W2.bh]
          refine AppK.one (R := intR') (l := st'.2) (ex := 3) (fx := (0, 0)) (ox := true) (base := base) (x := (i : Int)) (cx := [.int .i64 (i : Int)]) (Fx := []) slt122 und122 ?_ W2.fr ?_ ?_ (Fresh.nil _) (by simp) ?_ ?_ (by decide) ?_
          · exact Rp.ext W2.ord (Ext.app _ _)
          · simp
          · exact ⟨rfl, rfl, by omega, by omega⟩
          · simp; omega
          · omega
          intro s4 H4 F4 q1 q2 q3 q4 q5
          simp at q3
          have hnF : ∀ j, j < H.length + 1 → j ∉ Fo → j ∉ F' := fun j h1 h2 h3 => (hFs j h3).elim h2 fun h => by omega
          have hq : ∀ j, j < hp.length → j ∉ F' → H4[j]? = hp[j]? := fun j hj hn => (q4 j (by simp; omega) hn).trans (get_ext hj)
          have hnb' : ∀ j, j < base → j ∉ F' := fun j h1 h2 => by have := W2.fr.1 j h2; omega
          have e4 := (hq ph (by omega) (hnb' _ hl1)).trans W2.bh
          obtain ⟨a4, z4, rfl⟩ := q1.form
          simp +contextual (dsimp := false) [e4]
          have hne4 : ∀ (b : Blk) (j : Nat), j ≠ ph → (H4.set ph b)[j]? = H4[j]? := fun b j hj => List.getElem?_set_ne (Ne.symm hj)
          refine ⟨.slice a4 (st'.2.length + 1) z4, F4, ⟨?_, ?_, W.fl, ?_, q2, ⟨hl1, by simp; omega⟩, ?_, W.df⟩, fun j hj h1 h2 h3 => ((hne4 _ j h1).trans ((hq j (by omega) (hnF j (by omega) h3)).trans (hfr j hj h1 h2 h3))).trans (List.getElem?_eq_getElem hj), fun j hj => ?_, by omega⟩
          · exact List.getElem?_set_self (by omega)
          · exact Rp.fr W2.ls fun j hj => (hne4 _ j (W.fl.2 j hj).2).trans (hq j (Rp.lt W2.ls j hj) (hnb' j (W.fl.2 j hj).1))
          · simp only [List.length_append, List.length_singleton] at q1
            exact Rp.fr q1 fun j hj => hne4 _ j (by have := q2.1 j hj; omega)
          · exact Rp.fr W2.dd fun j hj => (hne4 _ j (W.df j hj).2.1).trans (hq j (Rp.lt W2.dd j hj) (hnb' j (W.df j hj).1))
          · rcases q5 j hj with h | h | h
            · exact (hFs j h).imp_right (by omega)
            · cases h
            · simp at h
              exact .inr (by omega)
end Go.Proofs.YtbigpkfdeaigeaaGreatDoor

/- CheckAccount, the reference's. No condition. -/
set_option linter.unusedSimpArgs false
set_option linter.unusedVariables false
namespace Go.Proofs.YtbigpkfdeaigeaaGreatDoor
open Go Go.Am Go.Proofs
set_option maxRecDepth 20000
variable {ng : Nat}
/-- Is it too deep? -/
def deepP (ds : List Deed) (p : Int × Int) : Prop := (dAt ds p.1.toNat).kind = 3 ∧ 60 ≤ p.2
theorem deepF (ds : List Deed) : ∀ (vis : List (Int × Int)) (m : Int), (∀ p ∈ vis, 0 ≤ p.1) → -1 ≤ m →
    ((vis.foldl (deepS ds) m = m ∧ ∀ p ∈ vis, deepP ds p → 0 ≤ m ∧ m ≤ p.1) ∨ ∃ p ∈ vis, deepP ds p ∧ vis.foldl (deepS ds) m = p.1 ∧ (0 ≤ m → p.1 < m) ∧ ∀ q ∈ vis, deepP ds q → p.1 ≤ q.1)
  | [], m, _, _ => .inl ⟨rfl, by simp⟩
  | p :: vis, m, h, hm => by
    have hp := h p (by simp)
    have hrec := fun m hm => deepF ds vis m (fun q hq => h q (by simp [hq])) hm
    rw [List.foldl_cons]
    by_cases hc : (dAt ds p.1.toNat).kind = 3 ∧ 60 ≤ p.2 ∧ (m < 0 ∨ p.1 < m)
    · have e : deepS ds m p = p.1 := if_pos hc
      rw [e]
      refine .inr ?_
      have hpd : deepP ds p := ⟨hc.1, hc.2.1⟩
      rcases hrec p.1 (by omega) with ⟨e1, h1⟩ | ⟨q, hq, h1, h2, h3, h4⟩
      · refine ⟨p, by simp, hpd, e1, fun h0 => by have := hc.2.2; omega, fun q hq hd => ?_⟩
        rcases List.mem_cons.1 hq with rfl | hq
        · exact Int.le_refl _
        · exact (h1 q hq hd).2
      · have := h3 hp
        refine ⟨q, by simp [hq], h1, h2, fun h0 => by have := hc.2.2; omega, fun r hr hd => ?_⟩
        rcases List.mem_cons.1 hr with rfl | hr
        · omega
        · exact h4 r hr hd
    · have e : deepS ds m p = m := if_neg hc
      rw [e]
      have hnd : deepP ds p → 0 ≤ m ∧ m ≤ p.1 := fun hd => by
        have : ¬ (m < 0 ∨ p.1 < m) := fun h' => hc ⟨hd.1, hd.2, h'⟩
        omega
      rcases hrec m hm with ⟨e1, h1⟩ | ⟨q, hq, h1, h2, h3, h4⟩
      · refine .inl ⟨e1, fun q hq hd => ?_⟩
        rcases List.mem_cons.1 hq with rfl | hq
        · exact hnd hd
        · exact h1 q hq hd
      · refine .inr ⟨q, by simp [hq], h1, h2, h3, fun r hr hd => ?_⟩
        rcases List.mem_cons.1 hr with rfl | hr
        · have := hnd hd
          have := h3 this.1
          omega
        · exact h4 r hr hd
theorem deepM_first {ds : List Deed} {st : List (Int × Int) × List Int} (hok : LOk ds.length st) :
    (firstI ds.length (tooDeep ds st.1) = none ∧ deepM ds st.1 < 0) ∨ ∃ i : Nat, firstI ds.length (tooDeep ds st.1) = some i ∧ deepM ds st.1 = i := by
  have hP : ∀ j : Nat, tooDeep ds st.1 j = true ↔ ∃ p ∈ st.1, p.1 = (j : Int) ∧ deepP ds p := by
    intro j
    simp only [tooDeep, Bool.and_eq_true, decide_eq_true_eq, deepP]
    constructor
    · rintro ⟨h, p, h1, h2, h3⟩
      exact ⟨p, h1, h2, by rw [h2]; exact h, h3⟩
    · rintro ⟨p, h1, h2, h3, h4⟩
      exact ⟨by rw [h2] at h3; exact h3, p, h1, h2, h4⟩
  rcases deepF ds st.1 (-1) (fun p hp => (hok.lt p hp).1) (by omega) with ⟨e, h⟩ | ⟨p, hp, h1, h2, h3, h4⟩
  · refine .inl ⟨firstI_none fun j hj => ?_, by unfold deepM; omega⟩
    rw [Bool.eq_false_iff]
    intro hc
    obtain ⟨p, h1, h2, h3⟩ := (hP j).1 hc
    have := h p h1 h3
    omega
  · have hl := hok.lt p hp
    refine .inr ⟨p.1.toNat, firstI_hit (by omega) ((hP _).2 ⟨p, hp, by omega, h1⟩) (fun j hj => ?_), by unfold deepM; omega⟩
    rw [Bool.eq_false_iff]
    intro hc
    obtain ⟨q, g1, g2, g3⟩ := (hP j).1 hc
    have := h4 q g1 g3
    omega
theorem metL_nil (n : Nat) : metL n [] = List.replicate n false := by
  apply List.ext_getElem
  · simp [metL]
  · intro j h1 h2
    simp [metL]
theorem l3Order_ac {own : Bool} {ds : List Deed} {sd : Value} {FD : List Nat} {H : Heap} (hbk : back ds) (hdl : ds.length ≤ 400) (hs : DeedsR own H ds [sd] FD) (root : Nat) (hr : root < ds.length) :
    AC Tryz.prog ng 79 [.agg #[sd], int root] H fun v S' => ∃ ph base sl Fl so Fo, v = .pointer (some ⟨ph, 0, none⟩) ∧ Ext H S' ∧ ListS own S' ds sd FD ph base sl Fl (listing ds root) so Fo := by
  obtain ⟨ad, zd, rfl⟩ := hs.form
  refine AC.go [(1, .take 1 <| .take 0 <| .take 2 <| .take 3 <| .one 4 [0] <| .take 5 <| .one 6 [] <| .take 7 <| .done)] Tryz.func79 rfl Tryz.ntmps79 rfl ⟨mixed, by kernel_rfl⟩ ?_
  simp +contextual (dsimp := false)
  obtain ⟨hm, hls⟩ := SlR.make (H := H ++ [(⟨.cells #[.slice ad ds.length zd] 30 (0, 0), true, true⟩ : Blk)]) (R := boolR) (m := ds.length) slt135 zer4 false (fun H => ⟨rfl, rfl, trivial⟩) (by omega) (by omega)
  refine MakeK.of hm ?_
  simp +contextual (dsimp := false)
  have hbl := metL_len ds.length []
  refine CallK.of ⟨_, Tryz.func134, rfl, rfl⟩ (list_ac (own := own) (ds := ds) (sd := .slice ad ds.length zd) (FD := FD) (ph := H.length + 2) (base := H.length + 3) (sl := .slice (some ⟨H.length + 1, 0, none⟩) ds.length 1) (Fl := [H.length + 1]) hbk hdl ds.length root 0 _ ([], []) (.slice none 0 0) [] hr hr (by omega) (by omega) (LOk.start _) (by simp)
    ⟨by simp [deepM], ?_, by simp, SlR.nil, Fresh.nil _, by simp, Rp.ext hs (Ext.app _ _), fun j hj => by have := Rp.lt hs j hj; simp; omega⟩) ?_
  · rw [metL_nil]
    try simp only [List.append_assoc, List.cons_append, List.nil_append] at hls ⊢
    simp only [List.length_append, List.length_singleton] at hls
    exact Rp.ext hls (by first | exact Ext.app _ _ | exact Ext.refl _ | (refine Ext.of ?_; simp))
  rintro v S' ⟨rfl, so, Fo, W, hfr, hFs, hle⟩
  simp +contextual (dsimp := false)
  refine ⟨fun j hj => (hfr j (by simp; omega) (by omega) (by simp; omega) (by simp)).trans (get_ext hj), _, _, _, _, _, W⟩
set_option maxHeartbeats 2000000 in
theorem specCheckAccount_ac {own : Bool} {ds : List Deed} {sd : Value} {FD : List Nat} {H : Heap} (hs : DeedsR own H ds [sd] FD) : AC Tryz.prog ng 100 [.agg #[sd]] H fun v S' => v = .tuple #[int (checkAcc ds).1, int (checkAcc ds).2] ∧ S' = H := by
  obtain ⟨ad, zd, rfl⟩ := hs.form
  have hb := hs.bound
  refine .flat (AC.go [] Tryz.func100 rfl Tryz.ntmps100 rfl ⟨mixed, by kernel_rfl⟩ ?_)
  by_cases k1 : ds.length = 0 ∨ 400 < ds.length
  · rw [checkAcc_1 k1]
    rcases k1 with h | h
    · simp +contextual (dsimp := false) [h]
    · simp +contextual (dsimp := false) [show ¬ (ds.length : Int) < 1 by omega, show ¬ ds.length = 0 by omega, show (400 : Int) < ds.length by omega, show ¬ ds = [] by rintro rfl; simp at h]
  have k0 : ¬ ds = [] := by rintro rfl; simp at k1
  simp +contextual (dsimp := false) [show ¬ (ds.length : Int) < 1 by omega, show ¬ ds.length = 0 by omega, k0, show ¬ (400 : Int) < ds.length by omega]
  obtain ⟨H0, hH0⟩ : ∃ H0, H0 = H ++ [(⟨.cells #[.slice ad ds.length zd] 30 (0, 0), true, true⟩ : Blk)] := ⟨_, rfl⟩
  have hl0 : H.length < H0.length := by rw [hH0]; simp
  have hx0 : Ext H H0 := by rw [hH0]; exact Ext.app _ _
  have hb0 : H0[H.length]? = some (⟨.cells #[.slice ad ds.length zd] 30 (0, 0), true, true⟩ : Blk) := by rw [hH0]; simp
  rw [← hH0]
  refine LoopA.up (σ := Nat × Heap) [1, 4, 5] (fun i => [(5, int i.1)]) (fun i => i.2) (fun i => i.1 ≤ ds.length ∧ Ext H0 i.2 ∧ ∀ j (hj : j < ds.length), j < i.1 → deedOk ds j ds[j] = true) (fun i => ds.length - i.1) (0, _) rfl ⟨by simp, Ext.refl _, by simp⟩ ?_
  rintro ⟨i, hp⟩ ⟨hi, he, hv⟩
  dsimp only at hi he hv
  have hex : Ext H hp := hx0.trans he
  have hbx : hp[H.length]? = _ := (he _ hl0).trans hb0
  simp +contextual (dsimp := false) [hbx]
  refine ifA_dec (fun h3 => ?_) (fun h3 => ?_)
  · refine CallK.fl ⟨_, Tryz.func143, rfl, rfl⟩ (l3DeedOk_ac (Rp.ext hs hex) i h3) ?_
    simp +contextual (dsimp := false) [wrap_succ (show i < 9223372036854775807 by omega)]
    refine ifA_intro (fun h4 => ?_) (fun h4 => ?_)
    · exact LoopN.of (i + 1, _) rfl ⟨h3, he, fun j hj hlt => by
        rcases Nat.lt_or_ge j i with h | h
        · exact hv j hj h
        · obtain rfl : j = i := by dsimp only at hlt; omega
          exact h4⟩ (by dsimp only; omega)
    · rw [checkAcc_2 k1 h3 h4 hv]
      simp [hex]
  have k2 : ∀ j (hj : j < ds.length), deedOk ds j ds[j] = true := fun j hj => hv j hj (by omega)
  have hbk : back ds := deedOk_back fun i hi => by rw [dAt_lt hi]; exact k2 i hi
  clear hv
  refine LoopA.up (σ := Nat × Heap) [1, 4, 6] (fun i => [(6, int i.1)]) (fun i => i.2) (fun x => x.1 ≤ ds.length ∧ Ext hp x.2 ∧ ∀ j (hj : j < ds.length), j < x.1 → ds[j].name ∉ (ds.take j).map (·.name)) (fun i => ds.length - i.1) (0, _) rfl ⟨by simp, Ext.refl _, by simp⟩ ?_
  rintro ⟨k, h2⟩ ⟨hk, he2, hv2⟩
  dsimp only at hk he2 hv2
  have hx2 : Ext H h2 := hex.trans he2
  have hle := he.le
  have hbh2 : h2[H.length]? = _ := (he2 _ (by omega)).trans hbx
  simp +contextual (dsimp := false) [hbh2]
  refine ifA_dec (fun h9 => ?_) (fun h9 => ?_)
  · have hbk2 := Rp.ext hs hx2
    refine LoopA.up (σ := Nat × Heap) [1, 4, 6, 7] (fun i => [(7, int i.1)]) (fun i => i.2) (fun x => x.1 ≤ k ∧ Ext h2 x.2 ∧ ∀ j (hj : j < ds.length), j < x.1 → ds[j].name ≠ ds[k].name) (fun i => k - i.1) (0, _) rfl ⟨by simp, Ext.refl _, by simp⟩ ?_
    rintro ⟨q, h5⟩ ⟨hq, he5, hv5⟩
    dsimp only at hq he5 hv5
    have hx5 : Ext H h5 := hx2.trans he5
    have hbh5 : h5[H.length]? = _ := (he5 _ (by have := he2.le; omega)).trans hbh2
    simp +contextual (dsimp := false) [hbh5]
    refine ifA_dec (fun h10 => ?_) (fun h10 => ?_)
    · obtain ⟨id, o, c, e, f, ow, cs, Fi, E⟩ := SlR.get (Rp.ext hs hx5) q (by omega)
      obtain ⟨hkk, s1, s2, G1, G2, rfl, hFi, hc1, hc2⟩ := E.rep
      obtain ⟨a1, z1, rfl⟩ := hc1.form
      obtain ⟨a2, z2, rfl⟩ := hc2.form
      obtain ⟨id', o', c', e', f', ow', cs', Fi', E'⟩ := SlR.get (Rp.ext hs hx5) k h9
      obtain ⟨hkk', s1', s2', G1', G2', rfl, hFi', hc1', hc2'⟩ := E'.rep
      obtain ⟨a1', z1', rfl⟩ := hc1'.form
      obtain ⟨a2', z2', rfl⟩ := hc2'.form
      simp +contextual (dsimp := false) [hbh5, E.idx, E.goB, E.le, E.lt, E.ext, E.cell0 (by decide), E'.idx, E'.goB, E'.le, E'.lt, E'.ext, E'.cell0 (by decide), wrap_succ (show q < 9223372036854775807 by omega)]
      refine ifA_dec (fun h11 => ?_) (fun h11 => ?_)
      · rw [checkAcc_3 k1 k2 h9 (List.mem_map.2 ⟨ds[q], List.mem_take_iff_getElem.2 ⟨q, by omega, rfl⟩, h11⟩) hv2]
        simp [hx5]
      · exact LoopN.of (q + 1, _) rfl ⟨h10, he5, fun j hj hlt => by
          rcases Nat.lt_or_ge j q with h | h
          · exact hv5 j hj h
          · obtain rfl : j = q := by dsimp only at hlt; omega
            exact h11⟩ (by dsimp only; omega)
    · simp +contextual (dsimp := false) [wrap_succ (show k < 9223372036854775807 by omega)]
      exact LoopN.of (k + 1, _) rfl ⟨h9, he2.trans he5, fun j hj hlt => by
        rcases Nat.lt_or_ge j k with h | h
        · exact hv2 j hj h
        · obtain rfl : j = k := by dsimp only at hlt; omega
          intro hm
          obtain ⟨d, hd, hn⟩ := List.mem_map.1 hm
          obtain ⟨r, hr, rfl⟩ := List.mem_take_iff_getElem.1 hd
          exact hv5 r (by omega) (by omega) hn⟩ (by dsimp only; omega)
  have k3 : ∀ j (hj : j < ds.length), ds[j].name ∉ (ds.take j).map (·.name) := fun j hj => hv2 j hj (by omega)
  clear hv2
  have hw : IntKind.i64.wrap ((ds.length : Int) - 1) = ((ds.length - 1 : Nat) : Int) := by rw [wrap_of _ (by omega) (by omega)]; omega
  simp +contextual (dsimp := false) [hw, hbh2]
  refine CallK.of ⟨_, Tryz.func79, rfl, rfl⟩ (l3Order_ac hbk (by omega) (Rp.ext hs hx2) (ds.length - 1) (by omega)) ?_
  rintro v S' ⟨ph, base, sl, Fl, so, Fo, rfl, he3, W⟩
  have hbnd := (listing_ok hbk (show ds.length - 1 < ds.length by omega)).1
  have hall := listing_all hbk (show 0 < ds.length by omega)
  have hck4 := fun i => checkAcc_4 (i := i) k1 k2 k3
  have hck5 := checkAcc_5 k1 k2 k3
  have hdm := deepM_first hbnd
  generalize hL : listing ds (ds.length - 1) = L at *
  obtain ⟨ao, zo, hso⟩ := W.ord.form
  subst hso
  have hlo := hbnd.bound
  have hx3 : Ext H S' := hx2.trans he3
  have hWb := W.bh
  simp +contextual (dsimp := false)
  refine LoopA.upc (σ := Nat) [4, 8, 9] (fun i => [(9, int i)]) (fun i => i ≤ ds.length ∧ ∀ j (hj : j < L.2.length), j < i → L.2[j] = j) (fun i => ds.length - i) 0 rfl (by simp) ?_
  rintro q ⟨hq, hv⟩
  simp +contextual (dsimp := false)
  refine ifA_dec (fun h10 => ?_) (fun h10 => ?_)
  · have hql : q < L.2.length := by
      rcases Nat.lt_or_ge q L.2.length with h | h
      · exact h
      · have := hall fun i hi => by
          have := hv i hi (by omega)
          simp [List.getD, hi, this]
        omega
    obtain ⟨id, o, c, e, f, ow, cs, Fi, E⟩ := SlR.get W.ord q hql
    obtain ⟨rfl, rfl, -⟩ := E.rep
    simp +contextual (dsimp := false) [hWb, show ¬ L.2.length ≤ q by omega, E.idx, E.goB, E.le, E.lt, E.ext, E.cell0 (by decide), wrap_succ (show q < 9223372036854775807 by omega)]
    refine ifA_dec (fun h11 => ?_) (fun h11 => ?_)
    · exact LoopN.of (q + 1) rfl ⟨h10, fun j hj hlt => by
        rcases Nat.lt_or_ge j q with h | h
        · exact hv j hj h
        · obtain rfl : j = q := by omega
          exact h11⟩ (by omega)
    · rw [hck4 q hql h11 hv]
      exact ⟨⟨rfl, rfl⟩, hx3⟩
  · rw [hck5 fun j hj => hv j hj (by omega)]
    rcases hdm with ⟨e1, e2⟩ | ⟨m, e1, e2⟩
    · rw [e1]
      simp +contextual (dsimp := false) [hWb, show ¬ 0 ≤ deepM ds L.1 by omega, hx3]
    · rw [e1]
      rw [e2] at hWb
      simp +contextual (dsimp := false) [hWb, hx3]
theorem l3Ok_ac {own : Bool} {ds : List Deed} {sd : Value} {FD : List Nat} {H : Heap} (hs : DeedsR own H ds [sd] FD) : AC Tryz.prog ng 44 [.agg #[sd]] H fun v S' => v = .bool (accOk ds) ∧ S' = H := by
  obtain ⟨ad, zd, rfl⟩ := hs.form
  refine .flat (AC.go [] Tryz.func44 rfl Tryz.ntmps44 rfl ⟨mixed, by kernel_rfl⟩ ?_)
  simp +contextual (dsimp := false)
  refine CallK.fl ⟨_, Tryz.func100, rfl, rfl⟩ (specCheckAccount_ac (Rp.ext hs (Ext.app _ _))) ?_
  simp +contextual (dsimp := false) [accOk]
end Go.Proofs.YtbigpkfdeaigeaaGreatDoor
