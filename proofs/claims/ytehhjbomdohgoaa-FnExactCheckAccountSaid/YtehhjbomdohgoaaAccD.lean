/- Is a deed right? No condition. -/
import Derived.Test.YtehhjbomdohgoaaAcc
import Derived.Test.YtehhjbomdohgoaaNam
set_option linter.unusedSimpArgs false
set_option linter.unusedVariables false
namespace Go.Proofs.Ytehhjbomdohgoaa
open Go Go.Am Go.Proofs
set_option maxRecDepth 20000
variable {ng : Nat}
theorem deedOk_name {ds : List Deed} {i : Nat} {x : Deed} (h : nameOk x.name = false) : deedOk ds i x = false := by simp [deedOk, h]
theorem deedOk_text {ds : List Deed} {i : Nat} {x : Deed} (h : 2000 < x.text.length) : deedOk ds i x = false := by
  have : ¬ x.text.length ≤ 2000 := by omega
  simp [deedOk, this]
theorem deedOk_3 {ds : List Deed} {i : Nat} {x : Deed} (h1 : nameOk x.name = true) (h2 : x.text.length ≤ 2000) (h3 : x.kind = 3) (h4 : 0 ≤ x.code) (h5 : x.code ≤ 5) (h6 : validP x.action = true) (h7 : x.links.length ≤ 200) : deedOk ds i x = x.links.all (linkOk ds i) := by
  simp [deedOk, *]
theorem all_bad {ds : List Deed} {i k : Nat} {l : List Lnk} (h : k < l.length) (hb : linkOk ds i l[k] = false) : l.all (linkOk ds i) = false := List.all_eq_false.2 ⟨l[k], List.getElem_mem h, by simp [hb]⟩
set_option maxHeartbeats 2000000 in
theorem right_ac {own own' : Bool} {ds : List Deed} {sd : Value} {F : List Nat} {H : Heap} (hs : DeedsR own H ds [sd] F) {x : Deed} {c : List Value} {Fx : List Nat} (hx : DeedR own' H x c Fx) (p : Nat) (hp : p < ds.length) :
    AC Try.prog ng 57 [.agg c.toArray, int p, sd] H fun v S' => v = .bool (deedOk ds p x) ∧ S' = H := by
  obtain ⟨hk, s1, s2, G1, G2, rfl, rfl, hc1, hc2⟩ := hx
  obtain ⟨hk1, hk2, hk3, hk4⟩ := id hk
  obtain ⟨a1, z1, rfl⟩ := hc1.form
  obtain ⟨a2, z2, rfl⟩ := hc2.form
  obtain ⟨a3, z3, rfl⟩ := hs.form
  have hb2 := hc2.bound
  have hb3 := hs.bound
  refine .flat (AC.go [] Try.func57 rfl Try.ntmps57 rfl ⟨mixed, by kernel_rfl⟩ ?_)
  cases h1 : nameOk x.name
  · rw [deedOk_name h1]
    simp +contextual (dsimp := false)
    refine CallK.fl ⟨_, Try.func48, rfl, rfl⟩ (isName_ac _ hk1 _) ?_
    simp +contextual (dsimp := false) [h1]
  by_cases h2 : 2000 < x.text.length
  · rw [deedOk_text h2]
    simp +contextual (dsimp := false)
    refine CallK.fl ⟨_, Try.func48, rfl, rfl⟩ (isName_ac _ hk1 _) ?_
    simp +contextual (dsimp := false) [h1, show (2000 : Int) < x.text.length by omega]
  have h2' : x.text.length ≤ 2000 := by omega
  have h2n : ¬ (2000 : Int) < x.text.length := by omega
  by_cases q1 : x.kind = 1
  · simp +contextual (dsimp := false)
    refine CallK.fl ⟨_, Try.func48, rfl, rfl⟩ (isName_ac _ hk1 _) ?_
    simp +contextual (dsimp := false) [h1, h2n, q1]
    repeat' refine ifA_dec (fun _ => ?_) (fun _ => ?_)
    all_goals simp_all [deedOk, plainD]
  by_cases q2 : x.kind = 2
  · simp +contextual (dsimp := false)
    refine CallK.fl ⟨_, Try.func48, rfl, rfl⟩ (isName_ac _ hk1 _) ?_
    simp +contextual (dsimp := false) [h1, h2n, q2]
    repeat' refine ifA_dec (fun _ => ?_) (fun _ => ?_)
    all_goals simp_all [deedOk, plainD]
  by_cases q3 : x.kind = 3
  rotate_left
  · simp +contextual (dsimp := false)
    refine CallK.fl ⟨_, Try.func48, rfl, rfl⟩ (isName_ac _ hk1 _) ?_
    simp +contextual (dsimp := false) [h1, h2n, q1, q2, q3]
    repeat' refine ifA_dec (fun _ => ?_) (fun _ => ?_)
    all_goals simp_all [deedOk, plainD]
  by_cases c0 : x.code = 0
  · by_cases l1 : x.action.length = 0
    · have hv : validP x.action = false := by simp [validP, l1]
      by_cases l2 : x.links.length = 0
      all_goals
        simp +contextual (dsimp := false)
        refine CallK.fl ⟨_, Try.func48, rfl, rfl⟩ (isName_ac _ hk1 _) ?_
        simp +contextual (dsimp := false) [h1, h2n, q3, c0, l1, l2]
        refine CallK.fl ⟨_, Try.func50, rfl, rfl⟩ (validProgram_ac (Rp.ext (l1 ▸ hc1) (Ext.app _ _))) ?_
        simp +contextual (dsimp := false) [hv]
        simp [deedOk, hv, q3]
    have h4 : 0 ≤ x.code := by omega
    have h5 : x.code ≤ 5 := by omega
    simp +contextual (dsimp := false)
    refine CallK.fl ⟨_, Try.func48, rfl, rfl⟩ (isName_ac _ hk1 _) ?_
    simp +contextual (dsimp := false) [h1, h2n, q3, c0, l1]
    refine CallK.fl ⟨_, Try.func50, rfl, rfl⟩ (validProgram_ac (Rp.ext hc1 (Ext.app _ _))) ?_
    simp +contextual (dsimp := false)
    refine ifA_intro (fun h6 => ?_) (fun h6 => ?_)
    rotate_left
    · simp [deedOk, h6, q3]
    refine ifA_dec (fun h7 => ?_) (fun h7 => ?_)
    · have : ¬ x.links.length ≤ 200 := by omega
      simp [deedOk, this, q3]
    have h7' : x.links.length ≤ 200 := by omega
    rw [deedOk_3 h1 h2' q3 h4 h5 h6 h7']
    generalize hR : x.links.all (linkOk ds p) = R
    obtain ⟨H0, hH0⟩ : ∃ H0, H0 = H ++ [(⟨.cells #[.string ⟨⟨x.name⟩⟩, .int .i64 x.kind, .int .i64 x.code, .string ⟨⟨x.text⟩⟩, .slice a1 x.action.length z1, .slice a2 x.links.length z2] 91 (0, 0), true, true⟩ : Blk)] := ⟨_, rfl⟩
    have hx0 : Ext H H0 := by rw [hH0]; exact Ext.app _ _
    refine LoopA.up (σ := Nat × Heap) [1, 2, 72, 73, 74] (fun i => [(74, int i.1)]) (fun i => i.2) (fun i => i.1 ≤ x.links.length ∧ Ext H i.2 ∧ ∀ y ∈ x.links.take i.1, linkOk ds p y = true) (fun i => x.links.length - i.1) (0, _) rfl ⟨by simp, Ext.app _ _, by simp⟩ ?_
    rintro ⟨i, hp⟩ ⟨hi, he, hv⟩
    dsimp only at hi he hv
    simp +contextual (dsimp := false)
    refine ifA_dec (fun h3 => ?_) (fun h3 => ?_)
    rotate_left
    · obtain rfl : R = true := by rw [← hR]; exact List.all_eq_true.2 (all_end hv (by omega))
      simp [he]
    obtain ⟨id, o, c, e, f, ow, cs, Fi, E⟩ := SlR.get (Rp.ext hc2 he) i h3
    obtain ⟨rfl, rfl, hok⟩ := E.rep
    simp +contextual (dsimp := false) [E.idx, E.goB, E.le, E.lt, E.ext, Lnk.c]
    refine CallK.fl ⟨_, Try.func48, rfl, rfl⟩ (isName_ac _ hok.1 _) ?_
    generalize hL : x.links[i] = L at *
    cases hn : nameOk L.name
    · simp +contextual (dsimp := false)
      obtain rfl : R = false := by rw [← hR]; exact all_bad h3 (by simp [linkOk, hL, hn])
      simp [he]
    cases ha : L.ask
    · simp +contextual (dsimp := false) [ha, wrap_succ (show i < 9223372036854775807 by omega)]
      refine ifA_dec (fun h8 => ?_) (fun h8 => ?_)
      · exact LoopN.of (i + 1, _) rfl ⟨h3, he.trans (Ext.app _ _), all_take hv h3 (by simp [linkOk, hL, hn, ha, h8])⟩ (by dsimp only; omega)
      · obtain rfl : R = false := by rw [← hR]; exact all_bad h3 (by simp [linkOk, hL, hn, ha, h8])
        simp [he]
    cases hh : L.has
    rotate_left
    · simp +contextual (dsimp := false) [ha, hh]
      obtain rfl : R = false := by rw [← hR]; exact all_bad h3 (by simp [linkOk, hL, hn, ha, hh])
      simp [he]
    by_cases h8 : L.at_ < 0
    · simp +contextual (dsimp := false) [ha, hh, h8]
      obtain rfl : R = false := by rw [← hR]; exact all_bad h3 (by simp [linkOk, hL, hn, ha, hh]; omega)
      simp [he]
    by_cases h9 : (p : Int) ≤ L.at_
    · simp +contextual (dsimp := false) [ha, hh, h8, h9]
      obtain rfl : R = false := by rw [← hR]; exact all_bad h3 (by simp [linkOk, hL, hn, ha, hh]; omega)
      simp [he]
    obtain ⟨j, hj⟩ : ∃ j : Nat, L.at_ = j := ⟨L.at_.toNat, by omega⟩
    have hjl : j < ds.length := by omega
    obtain ⟨id2, o2, c2, e2, f2, ow2, cs2, Fi2, E2⟩ := SlR.get (Rp.ext hs he) j hjl
    obtain ⟨hkk, t1, t2, G1', G2', rfl, hFi, hcc1, hcc2⟩ := E2.rep
    have hd : dAt ds j = ds[j] := dAt_lt hjl
    by_cases h10 : ds[j].name = L.name
    · simp +contextual (dsimp := false) [ha, hh, hj, h10, show ¬ (j : Int) < 0 by omega, show ¬ p ≤ j by omega, E2.idx, E2.goB, E2.le, E2.lt, E2.cell0, wrap_succ (show i < 9223372036854775807 by omega)]
      exact LoopN.of (i + 1, _) rfl ⟨h3, he.trans (Ext.app _ _), all_take hv h3 (by simp [linkOk, hL, hn, ha, hh, hj, hd, h10]; omega)⟩ (by dsimp only; omega)
    · simp +contextual (dsimp := false) [ha, hh, hj, h10, show ¬ (j : Int) < 0 by omega, show ¬ p ≤ j by omega, E2.idx, E2.goB, E2.le, E2.lt, E2.cell0]
      obtain rfl : R = false := by rw [← hR]; exact all_bad h3 (by simp [linkOk, hL, hn, ha, hh, hj, hd, h10])
      simp [he]
  · by_cases h4 : 0 ≤ x.code
    rotate_left
    · simp +contextual (dsimp := false)
      refine CallK.fl ⟨_, Try.func48, rfl, rfl⟩ (isName_ac _ hk1 _) ?_
      simp +contextual (dsimp := false) [h1, h2n, q3, c0, show x.code < 0 by omega]
      simp [deedOk, h4, q3]
    by_cases h5 : x.code ≤ 5
    rotate_left
    · simp +contextual (dsimp := false)
      refine CallK.fl ⟨_, Try.func48, rfl, rfl⟩ (isName_ac _ hk1 _) ?_
      simp +contextual (dsimp := false) [h1, h2n, q3, c0, show ¬ x.code < 0 by omega, show 5 < x.code by omega]
      simp [deedOk, h5, q3]
    simp +contextual (dsimp := false)
    refine CallK.fl ⟨_, Try.func48, rfl, rfl⟩ (isName_ac _ hk1 _) ?_
    simp +contextual (dsimp := false) [h1, h2n, q3, c0, show ¬ x.code < 0 by omega, show ¬ 5 < x.code by omega]
    refine CallK.fl ⟨_, Try.func50, rfl, rfl⟩ (validProgram_ac (Rp.ext hc1 (Ext.app _ _))) ?_
    simp +contextual (dsimp := false)
    refine ifA_intro (fun h6 => ?_) (fun h6 => ?_)
    rotate_left
    · simp [deedOk, h6, q3]
    refine ifA_dec (fun h7 => ?_) (fun h7 => ?_)
    · have : ¬ x.links.length ≤ 200 := by omega
      simp [deedOk, this, q3]
    have h7' : x.links.length ≤ 200 := by omega
    rw [deedOk_3 h1 h2' q3 h4 h5 h6 h7']
    generalize hR : x.links.all (linkOk ds p) = R
    obtain ⟨H0, hH0⟩ : ∃ H0, H0 = H ++ [(⟨.cells #[.string ⟨⟨x.name⟩⟩, .int .i64 x.kind, .int .i64 x.code, .string ⟨⟨x.text⟩⟩, .slice a1 x.action.length z1, .slice a2 x.links.length z2] 91 (0, 0), true, true⟩ : Blk)] := ⟨_, rfl⟩
    have hx0 : Ext H H0 := by rw [hH0]; exact Ext.app _ _
    refine LoopA.up (σ := Nat × Heap) [1, 2, 72, 73, 74] (fun i => [(74, int i.1)]) (fun i => i.2) (fun i => i.1 ≤ x.links.length ∧ Ext H i.2 ∧ ∀ y ∈ x.links.take i.1, linkOk ds p y = true) (fun i => x.links.length - i.1) (0, _) rfl ⟨by simp, Ext.app _ _, by simp⟩ ?_
    rintro ⟨i, hp⟩ ⟨hi, he, hv⟩
    dsimp only at hi he hv
    simp +contextual (dsimp := false)
    refine ifA_dec (fun h3 => ?_) (fun h3 => ?_)
    rotate_left
    · obtain rfl : R = true := by rw [← hR]; exact List.all_eq_true.2 (all_end hv (by omega))
      simp [he]
    obtain ⟨id, o, c, e, f, ow, cs, Fi, E⟩ := SlR.get (Rp.ext hc2 he) i h3
    obtain ⟨rfl, rfl, hok⟩ := E.rep
    simp +contextual (dsimp := false) [E.idx, E.goB, E.le, E.lt, E.ext, Lnk.c]
    refine CallK.fl ⟨_, Try.func48, rfl, rfl⟩ (isName_ac _ hok.1 _) ?_
    generalize hL : x.links[i] = L at *
    cases hn : nameOk L.name
    · simp +contextual (dsimp := false)
      obtain rfl : R = false := by rw [← hR]; exact all_bad h3 (by simp [linkOk, hL, hn])
      simp [he]
    cases ha : L.ask
    · simp +contextual (dsimp := false) [ha, wrap_succ (show i < 9223372036854775807 by omega)]
      refine ifA_dec (fun h8 => ?_) (fun h8 => ?_)
      · exact LoopN.of (i + 1, _) rfl ⟨h3, he.trans (Ext.app _ _), all_take hv h3 (by simp [linkOk, hL, hn, ha, h8])⟩ (by dsimp only; omega)
      · obtain rfl : R = false := by rw [← hR]; exact all_bad h3 (by simp [linkOk, hL, hn, ha, h8])
        simp [he]
    cases hh : L.has
    rotate_left
    · simp +contextual (dsimp := false) [ha, hh]
      obtain rfl : R = false := by rw [← hR]; exact all_bad h3 (by simp [linkOk, hL, hn, ha, hh])
      simp [he]
    by_cases h8 : L.at_ < 0
    · simp +contextual (dsimp := false) [ha, hh, h8]
      obtain rfl : R = false := by rw [← hR]; exact all_bad h3 (by simp [linkOk, hL, hn, ha, hh]; omega)
      simp [he]
    by_cases h9 : (p : Int) ≤ L.at_
    · simp +contextual (dsimp := false) [ha, hh, h8, h9]
      obtain rfl : R = false := by rw [← hR]; exact all_bad h3 (by simp [linkOk, hL, hn, ha, hh]; omega)
      simp [he]
    obtain ⟨j, hj⟩ : ∃ j : Nat, L.at_ = j := ⟨L.at_.toNat, by omega⟩
    have hjl : j < ds.length := by omega
    obtain ⟨id2, o2, c2, e2, f2, ow2, cs2, Fi2, E2⟩ := SlR.get (Rp.ext hs he) j hjl
    obtain ⟨hkk, t1, t2, G1', G2', rfl, hFi, hcc1, hcc2⟩ := E2.rep
    have hd : dAt ds j = ds[j] := dAt_lt hjl
    by_cases h10 : ds[j].name = L.name
    · simp +contextual (dsimp := false) [ha, hh, hj, h10, show ¬ (j : Int) < 0 by omega, show ¬ p ≤ j by omega, E2.idx, E2.goB, E2.le, E2.lt, E2.cell0, wrap_succ (show i < 9223372036854775807 by omega)]
      exact LoopN.of (i + 1, _) rfl ⟨h3, he.trans (Ext.app _ _), all_take hv h3 (by simp [linkOk, hL, hn, ha, hh, hj, hd, h10]; omega)⟩ (by dsimp only; omega)
    · simp +contextual (dsimp := false) [ha, hh, hj, h10, show ¬ (j : Int) < 0 by omega, show ¬ p ≤ j by omega, E2.idx, E2.goB, E2.le, E2.lt, E2.cell0]
      obtain rfl : R = false := by rw [← hR]; exact all_bad h3 (by simp [linkOk, hL, hn, ha, hh, hj, hd, h10])
      simp [he]
end Go.Proofs.Ytehhjbomdohgoaa
