import Derived.Test.YtephpieeibcihaaGreatDoorLai
import Derived.Test.YtephpieeibcihaaGreatDoorNam
set_option linter.all false
namespace Go.Am
open Go
abbrev macC (cv sv : Value) (m : Mst) (t : Trn) : Array Value := #[cv, sv, int m.at_, int m.steps, int m.looks, .bool t.over, int t.code, str t.text, .bool t.ask, str t.name, int t.steps]
def MacR (mt : TypeId) (H : Heap) (k : Nat) (cv : Value) (m : Mst) (t : Trn) (F : List Nat) : Prop :=
  ∃ sv, H[k]? = some ⟨.cells (macC cv sv m t) mt (0, 0), true, true⟩ ∧ StrsR true H m.stk [sv] F ∧ k ∉ F ∧ F.Nodup
theorem MacR.fr {mt : TypeId} {H H' : Heap} {k : Nat} {cv : Value} {m : Mst} {t : Trn} {F : List Nat} (h : MacR mt H k cv m t F) (hk : H'[k]? = H[k]?) (hf : ∀ i ∈ F, H'[i]? = H[i]?) : MacR mt H' k cv m t F := by
  obtain ⟨sv, h1, h2, h3, h4⟩ := h
  exact ⟨sv, hk.trans h1, Rp.fr h2 hf, h3, h4⟩
theorem MacR.lt {mt : TypeId} {H : Heap} {k : Nat} {cv : Value} {m : Mst} {t : Trn} {F : List Nat} (h : MacR mt H k cv m t F) : k < H.length ∧ ∀ i ∈ F, i < H.length := by
  obtain ⟨sv, h1, h2, h3, h4⟩ := h
  exact ⟨(List.getElem?_eq_some_iff.1 h1).1, Rp.lt h2⟩
theorem MacR.ext {mt : TypeId} {H H' : Heap} {k : Nat} {cv : Value} {m : Mst} {t : Trn} {F : List Nat} (h : MacR mt H k cv m t F) (he : Ext H H') : MacR mt H' k cv m t F := h.fr (he k h.lt.1) fun i hi => he i (h.lt.2 i hi)
end Go.Am
namespace Go.Proofs.YtephpieeibcihaaGreatDoor
open Go Go.Am Go.Proofs
set_option maxRecDepth 20000
variable {ng : Nat}
theorem over_ac {H : Heap} {k : Nat} {cv : Value} {m : Mst} {t : Trn} {F : List Nat} (h : MacR 204 H k cv m t F) (c : Int) (s : List UInt8) :
    AC Tryz.prog ng 180 [.pointer (some ⟨k, 0, none⟩), int c, str s] H fun v S' => v = .tuple #[] ∧ MacR 204 S' k cv m ⟨true, c, s, false, [], m.steps⟩ F ∧ S'.length = H.length ∧ ∀ j, j ≠ k → S'[j]? = H[j]? := by
  obtain ⟨sv, hb, hst, hni, hnd⟩ := h
  have hlt := (List.getElem?_eq_some_iff.1 hb).1
  refine AC.go [] Tryz.func180 rfl Tryz.ntmps180 rfl ⟨mixed, by kernel_rfl⟩ ?_
  simp +contextual (dsimp := false) [goB_of hb]
  refine ⟨⟨sv, by rw [List.getElem?_set_self hlt], Rp.fr hst fun j hj => List.getElem?_set_ne (by rintro rfl; exact hni hj), hni, hnd⟩, fun j hj => List.getElem?_set_ne (Ne.symm hj)⟩
theorem stuck_ac {H : Heap} {k : Nat} {cv : Value} {m : Mst} {t : Trn} {F : List Nat} (h : MacR 204 H k cv m t F) (hP : P10 g10 H) (h2 : g10 < ng) (ha : m.at_ ≤ 3000) :
    AC Tryz.prog ng 222 [.pointer (some ⟨k, 0, none⟩)] H fun v S' => v = .tuple #[] ∧ MacR 204 S' k cv m ⟨true, 2, decN m.at_, false, [], m.steps⟩ F ∧ S'.length = H.length ∧ ∀ j, j ≠ k → S'[j]? = H[j]? := by
  have h' := h
  obtain ⟨sv, hb, hst, hni, hnd⟩ := h
  have hlt := (List.getElem?_eq_some_iff.1 hb).1
  refine AC.go [] Tryz.func222 rfl Tryz.ntmps222 rfl ⟨mixed, by kernel_rfl⟩ ?_
  simp +contextual (dsimp := false) [goB_of hb]
  refine CallK.fl ⟨_, Tryz.func99, rfl, rfl⟩ (itoa_ac (n := m.at_) (by omega) hP h2 (by omega)) ?_
  simp +contextual (dsimp := false)
  refine CallK.of ⟨_, Tryz.func180, rfl, rfl⟩ (over_ac h' 2 (decN m.at_)) ?_
  rintro v S' ⟨rfl, q1, q2, q3⟩
  simp +contextual (dsimp := false)
  exact ⟨q1, q2, q3⟩
theorem pop_ac {H : Heap} {k : Nat} {cv : Value} {m : Mst} {t : Trn} {F : List Nat} (h : MacR 204 H k cv m t F) (h0 : 1 ≤ m.stk.length) :
    AC Tryz.prog ng 223 [.pointer (some ⟨k, 0, none⟩)] H fun v S' => v = str (top1 m.stk) ∧ ∃ F', MacR 204 S' k cv { m with stk := cut1 m.stk } t F' ∧ S'.length = H.length ∧ (∀ j, j ≠ k → S'[j]? = H[j]?) ∧ ∀ j ∈ F', j ∈ F := by
  obtain ⟨sv, hb, hst, hni, hnd⟩ := h
  have hlt := (List.getElem?_eq_some_iff.1 hb).1
  have hbd := hst.bound
  obtain ⟨sl, Fl, hcl0⟩ := hst.cut (P := Tryz.prog) (et := 9) 0 (m.stk.length - 1) (by omega) (by omega) siz9
  obtain ⟨hcl, hsub, hnd', -, -, -, hsl⟩ := hcl0 (fun _ => rfl)
  clear hcl0
  replace hsl := hsl rfl
  rw [List.drop_zero] at hcl
  obtain ⟨id, o, c, e, f, ow, cs, Fi, E⟩ := SlR.get hst (m.stk.length - 1) (by omega)
  obtain ⟨rfl, rfl, hok'⟩ := E.rep
  have hc0 := E.cell0 (by omega)
  have htop : m.stk[m.stk.length - 1] = top1 m.stk := by simp [top1, List.getD, show m.stk.length - 1 < m.stk.length by omega]
  obtain ⟨a, z, rfl⟩ := hst.form
  obtain ⟨al, zl, rfl⟩ := hcl.form
  rw [List.length_take, Nat.min_eq_left (by omega)] at hcl hsl
  have hsubw : IntKind.i64.wrap ((m.stk.length : Int) - 1) = ((m.stk.length - 1 : Nat) : Int) := by rw [wrap_of _ (by omega) (by omega)]; omega
  refine AC.go [] Tryz.func223 rfl Tryz.ntmps223 rfl ⟨mixed, by kernel_rfl⟩ ?_
  simp +contextual (dsimp := false) [goB_of hb, hsubw, E.idx, E.goB, E.le, hc0, hsl]
  refine ⟨htop, Fl, ⟨_, by rw [List.getElem?_set_self hlt], Rp.fr hcl fun j hj => List.getElem?_set_ne (by rintro rfl; exact hni (hsub _ hj)), fun hm => hni (hsub _ hm), hnd' hnd⟩, fun j hj => List.getElem?_set_ne (Ne.symm hj), hsub⟩
end Go.Proofs.YtephpieeibcihaaGreatDoor
namespace Go.Am
open Go
def FrM (H : Heap) (k : Nat) (F : List Nat) (S' : Heap) (F' : List Nat) : Prop := H.length ≤ S'.length ∧ (∀ j, j < H.length → j ≠ k → j ∉ F → S'[j]? = H[j]?) ∧ ∀ j ∈ F', H.length ≤ j ∨ j ∈ F
theorem FrM.refl (H : Heap) (k : Nat) (F : List Nat) : FrM H k F H F := ⟨Nat.le_refl _, fun _ _ _ _ => rfl, fun _ h => .inr h⟩
theorem FrM.trans {H H1 H2 : Heap} {k : Nat} {F F1 F2 : List Nat} (h1 : FrM H k F H1 F1) (h2 : FrM H1 k F1 H2 F2) : FrM H k F H2 F2 := by
  obtain ⟨a1, a2, a3⟩ := h1
  obtain ⟨b1, b2, b3⟩ := h2
  refine ⟨by omega, fun j hj hk hF => (b2 j (by omega) hk fun hm => ?_).trans (a2 j hj hk hF), fun j hj => ?_⟩
  · rcases a3 j hm with h | h
    · omega
    · exact hF h
  · rcases b3 j hj with h | h
    · exact .inl (by omega)
    · exact a3 j h
theorem FrM.of_eq {H H' : Heap} {k : Nat} {F F' : List Nat} (h1 : H'.length = H.length) (h2 : ∀ j, j ≠ k → H'[j]? = H[j]?) (h3 : ∀ j ∈ F', j ∈ F) : FrM H k F H' F' := ⟨by omega, fun j _ hk _ => h2 j hk, fun j hj => .inr (h3 j hj)⟩
def AftM (mt : TypeId) (H : Heap) (k : Nat) (cv : Value) (t : Trn) (F : List Nat) (o : Out) (v : Value) (S' : Heap) : Prop := match o with
  | .go m' => v = .bool true ∧ ∃ F', MacR mt S' k cv m' t F' ∧ FrM H k F S' F'
  | .fin c tx n => v = .bool false ∧ ∃ m' F', MacR mt S' k cv m' ⟨true, c, tx, false, [], n⟩ F' ∧ FrM H k F S' F'
  | .look a nm m' => v = .bool false ∧ ∃ F', MacR mt S' k cv m' ⟨false, 0, [], a, nm, m'.steps⟩ F' ∧ FrM H k F S' F'
end Go.Am
namespace Go.Proofs.YtephpieeibcihaaGreatDoor
open Go Go.Am Go.Proofs
set_option maxRecDepth 100000
variable {ng : Nat}
theorem minI_ge {a : Int} {n : Nat} (h : 0 ≤ a) : 0 ≤ minI a n := by unfold minI; split <;> omega
theorem minI_le (a : Int) (n : Nat) : minI a n ≤ n := by unfold minI; split <;> omega
theorem minI_take {a : Int} {l : List UInt8} (h : 0 ≤ a) : l.take (minI a l.length).toNat = l.take a.toNat := by
  unfold minI
  split
  · rw [List.take_of_length_le (by omega), List.take_of_length_le (by omega)]
  · rfl
theorem minI_drop {a : Int} {l : List UInt8} (h : 0 ≤ a) : l.drop (minI a l.length).toNat = l.drop a.toNat := by
  unfold minI
  split
  · rw [List.drop_of_length_le (by omega), List.drop_of_length_le (by omega)]
  · rfl
theorem ifA_t {x y : Prop} : ifA true x y = x := rfl
theorem ifA_f {x y : Prop} : ifA false x y = y := rfl
theorem cut1_cut1 (s : List (List UInt8)) : cut1 (cut1 s) = cut2 s := by
  unfold cut1 cut2
  rw [List.take_take, List.length_take]
  congr 1
  omega
theorem top1_cut1 {s : List (List UInt8)} (h : 2 ≤ s.length) : top1 (cut1 s) = top2 s := by
  unfold top1 top2 cut1
  rw [List.length_take, List.getD_eq_getElem?_getD, List.getD_eq_getElem?_getD, List.getElem?_take, if_pos (by omega)]
  congr 2
  omega
theorem p10_at {g : Nat} {H H' : Heap} (h : P10 g H) (he : H'[g]? = H[g]?) : P10 g H' := by
  obtain ⟨e, f, h⟩ := h
  exact ⟨e, f, he.trans h⟩
set_option maxHeartbeats 4000000 in
theorem step_ac {own : Bool} {H : Heap} {k : Nat} {cv : Value} {code : List Ins} {m : Mst} {t : Trn} {F FC : List Nat} (h : MacR 204 H k cv m t F) (hc : CodeR own H code [cv] FC) (hkC : k ∉ FC)
    (hv : validP code = true) (hk : Mok m) (hP : P10 g10 H) (h2 : g10 < ng) (hgk : g10 ≠ k) (hgF : g10 ∉ F) :
    AC Tryz.prog ng 179 [.pointer (some ⟨k, 0, none⟩)] H fun v S' => AftM 204 H k cv t F (mstep code m) v S' := by
  have h' := h
  have hcl := validP_len hv
  obtain ⟨at1, st1, sp0, lk1⟩ := m
  have hk1 := hk.at_
  have hk2 := hk.steps
  have hk3 := hk.len
  have hk4 := hk.txt
  have hk5 := hk.looks
  dsimp only at hk1 hk2 hk3 hk4 hk5
  obtain ⟨sv, hb, hst, hni, hnd⟩ := h
  dsimp only at hst
  have hlt := (List.getElem?_eq_some_iff.1 hb).1
  obtain ⟨ac, zc, rfl⟩ := hc.form
  refine AC.go [(8, .take 0 <| .take 1 <| .take 2 <| .take 4 <| .take 5 <| .take 6 <| .take 3 <| .take 7 <| .take 8 <| .take 9 <| .one 10 [3, 7, 9] <| .one 11 [] <| .done), (35, .take 0 <| .take 2 <| .take 3 <| .one 1 [3] <| .one 4 [] <| .take 5 <| .done)] Tryz.func179 rfl Tryz.ntmps179 rfl ⟨mixed, by kernel_rfl⟩ ?_
  have hms : mstep code ⟨at1, st1, sp0, lk1⟩ = if code.length ≤ at1 then .fin 2 (decN at1) sp0 else if sp0 = 2000 then .fin 3 [] sp0 else doIns (insAt code at1) ⟨at1, st1, sp0 + 1, lk1⟩ := rfl
  rw [hms]
  have hneg : ¬ (at1 : Int) < 0 := by omega
  by_cases c1 : code.length ≤ at1
  · rw [if_pos c1]
    simp +contextual (dsimp := false) [goB_of hb, hneg, c1]
    refine CallK.of ⟨_, Tryz.func222, rfl, rfl⟩ (stuck_ac h' hP h2 (by dsimp only; omega)) ?_
    rintro v S' ⟨rfl, q1, q2, q3⟩
    simp +contextual (dsimp := false)
    exact ⟨rfl, _, _, q1, FrM.of_eq q2 q3 fun j hj => hj⟩
  · rw [if_neg c1]
    by_cases c2 : sp0 = 2000
    · rw [if_pos c2]
      simp +contextual (dsimp := false) [goB_of hb, hneg, c1, c2]
      refine CallK.of ⟨_, Tryz.func180, rfl, rfl⟩ (over_ac h' _ []) ?_
      rintro v S' ⟨rfl, q1, q2, q3⟩
      simp +contextual (dsimp := false)
      exact ⟨rfl, _, _, q1, FrM.of_eq q2 q3 fun j hj => hj⟩
    · rw [if_neg c2]
      have c3 : ¬ (sp0 : Int) = 2000 := by omega
      simp +contextual (dsimp := false) [goB_of hb, hneg, c1, c3, wrap_succ (show sp0 < 9223372036854775807 by omega)]
      obtain ⟨H0, hH0⟩ : ∃ H0, H0 = H.set k (⟨.cells #[.slice ac code.length zc, sv, int at1, .int .i64 ((sp0 : Int) + 1), int lk1, .bool t.over, int t.code, str t.text, .bool t.ask, str t.name, int t.steps] 204 (0, 0), true, true⟩ : Blk) := ⟨_, rfl⟩
      rw [← hH0]
      obtain ⟨sp1, hsp1⟩ : ∃ n, n = sp0 + 1 := ⟨_, rfl⟩
      rw [← hsp1]
      have hb0 : H0[k]? = some ⟨.cells (macC (.slice ac code.length zc) sv ⟨at1, st1, sp1, lk1⟩ t) 204 (0, 0), true, true⟩ := by
        rw [hH0, List.getElem?_set_self hlt, hsp1]
        simp [macC]
      have ho0 : ∀ j, j ≠ k → H0[j]? = H[j]? := fun j hj => by rw [hH0]; exact List.getElem?_set_ne (Ne.symm hj)
      have hl0 : H0.length = H.length := by rw [hH0]; simp
      have hst0 : StrsR true H0 st1 [sv] F := Rp.fr hst fun j hj => ho0 j (by rintro rfl; exact hni hj)
      have hc' : CodeR own H0 code [.slice ac code.length zc] FC := Rp.fr hc fun j hj => ho0 j (by rintro rfl; exact hkC hj)
      have hP0 : P10 g10 H0 := p10_at hP (ho0 _ hgk)
      clear hH0
      obtain ⟨id, o, c, e, f, ow, cs, Fi, E⟩ := SlR.get hc' at1 (by omega)
      obtain ⟨rfl, rfl, hok⟩ := E.rep
      have hb0T : ∀ T : Heap, (H0 ++ T)[k]? = some (⟨.cells (macC (.slice ac code.length zc) sv ⟨at1, st1, sp1, lk1⟩ t) 204 (0, 0), true, true⟩ : Blk) := fun T => by rw [List.getElem?_append_left (by omega)]; exact hb0
      have hix := E.idx
      have hvx := validP_all hv (List.getElem_mem (show at1 < code.length by omega))
      rw [insAt_lt (by omega)]
      generalize code[at1] = x at E hok hvx ⊢
      obtain ⟨op, tx, xn⟩ := x
      obtain ⟨v1, v2, v3, v4, v5, v6, v7⟩ := valid_parts hvx
      dsimp only at v1 v2 v3 v4 v5 v6 v7
      have hopx : op = 1 ∨ op = 2 ∨ op = 3 ∨ op = 4 ∨ op = 5 ∨ op = 6 ∨ op = 7 ∨ op = 8 ∨ op = 9 ∨ op = 10 ∨ op = 11 ∨ op = 12 ∨ op = 13 ∨ op = 14 ∨ op = 15 := by omega
      obtain ⟨HX, hHX⟩ : ∃ HX, HX = H0 ++ [(⟨.cells #[.int .i64 op, .string ⟨⟨tx⟩⟩, .int .i64 xn] 140 (0, 0), true, true⟩ : Blk)] := ⟨_, rfl⟩
      have hxX : HX[H0.length]? = some ⟨.cells #[.int .i64 op, .string ⟨⟨tx⟩⟩, .int .i64 xn] 140 (0, 0), true, true⟩ := by rw [hHX]; simp
      have hXe : Ext H0 HX := by rw [hHX]; exact Ext.app _ _
      have hmX : MacR 204 HX k (.slice ac code.length zc) ⟨at1, st1, sp1, lk1⟩ t F := MacR.ext ⟨_, hb0, hst0, hni, hnd⟩ hXe
      have hlX : HX.length = H.length + 1 := by rw [hHX]; simp [hl0]
      have hfX : FrM H k F HX F := ⟨by omega, fun j hj hk _ => (hXe j (by omega)).trans (ho0 j hk), fun j hj => .inr hj⟩
      have hPX : P10 g10 HX := hP0.ext hXe
      have hkx : H0.length ≠ k := by omega
      have hn0 : ¬ (st1.length : Int) < 0 := by omega
      have hbX : HX[k]? = some ⟨.cells (macC (.slice ac code.length zc) sv ⟨at1, st1, sp1, lk1⟩ t) 204 (0, 0), true, true⟩ := (hXe k (by omega)).trans hb0
      simp +contextual (dsimp := false) [goB_of hb0, hb0, hb0T, hix, E.goB, E.le, E.lt, E.ext, Ins.c]
      rw [← hHX]
      clear hHX hb0T hb0
      obtain ⟨as0, zs, rfl⟩ := hst0.form
      rcases hopx with rfl | rfl | rfl | rfl | rfl | rfl | rfl | rfl | rfl | rfl | rfl | rfl | rfl | rfl | rfl <;> simp only [Int.reduceEq, decide_true, decide_false, ifA_t, ifA_f]
      · simp +contextual (dsimp := false) [goB_of hxX, hxX, hn0]
        rw [show doIns ⟨1, tx, xn⟩ ⟨at1, st1, sp1, lk1⟩ = pushM ⟨at1, st1, sp1, lk1⟩ st1 tx by simp [doIns, needOf, putOf]]
        have hpx : okS tx := by unfold okS; omega
        generalize tx = px at hpx ⊢
        obtain ⟨stk0, hstk0⟩ : ∃ s, s = st1 := ⟨_, rfl⟩
        have hmz := hmX
        rw [← hstk0] at hmz ⊢
        have hfz := hfX
        have hPz := hPX
        have hlz : stk0.length ≤ 50 := by rw [hstk0]; omega
        have hltz := hmz.lt.1
        obtain ⟨svz, hbz, hstz, hniz, hndz⟩ := hmz
        have hmz : MacR 204 _ k _ _ t _ := ⟨svz, hbz, hstz, hniz, hndz⟩
        obtain ⟨az, zz, rfl⟩ := hstz.form
        dsimp only at hstz
        unfold pushM
        by_cases t1 : 2000 < px.length
        · have t1' : (2000 : Int) < px.length := by omega
          rw [if_pos (Or.inl t1)]
          simp +contextual (dsimp := false) [goB_of hbz, hbz, t1']
          refine CallK.of ⟨_, Tryz.func222, rfl, rfl⟩ (stuck_ac hmz hPz h2 (by dsimp only; omega)) ?_
          rintro v S' ⟨rfl, q1, q2, q3⟩
          simp +contextual (dsimp := false)
          exact ⟨rfl, _, _, q1, hfz.trans (FrM.of_eq q2 q3 fun j hj => hj)⟩
        · have t1' : ¬ (2000 : Int) < px.length := by omega
          by_cases t2 : 50 ≤ stk0.length
          · have t2' : (50 : Int) ≤ stk0.length := by omega
            rw [if_pos (Or.inr t2)]
            simp +contextual (dsimp := false) [goB_of hbz, hbz, t1', t2']
            refine CallK.of ⟨_, Tryz.func222, rfl, rfl⟩ (stuck_ac hmz hPz h2 (by dsimp only; omega)) ?_
            rintro v S' ⟨rfl, q1, q2, q3⟩
            simp +contextual (dsimp := false)
            exact ⟨rfl, _, _, q1, hfz.trans (FrM.of_eq q2 q3 fun j hj => hj)⟩
          · have t2' : ¬ (50 : Int) ≤ stk0.length := by omega
            rw [if_neg (by omega)]
            simp +contextual (dsimp := false) [goB_of hbz, hbz, t1', t2']
            refine AppK.one (R := strR) (l := stk0) (ex := 9) (fx := (0, 0)) (ox := true) (base := 0) (x := px) (cx := [str px]) (Fx := []) slt24 und24 (Rp.ext hstz (Ext.app _ _)) ⟨by simp, hndz⟩ (by simp) ⟨rfl, rfl, hpx⟩ (Fresh.nil _) (by simp) (Nat.zero_le _) (by omega) (by omega) ?_
            intro s1 H1 F1 q1 q2 q3 q4 q5
            simp only [List.length_append, List.length_singleton] at q3 q4 q5
            have e1 : H1[k]? = _ := (q4 k (by omega) hniz).trans ((get_ext hltz).trans hbz)
            obtain ⟨a1, z1, rfl⟩ := q1.form
            have hlt1 : k < H1.length := by omega
            have hset : ∀ b : Blk, (H1.set k b)[k]? = some b := fun b => List.getElem?_set_self hlt1
            simp +contextual (dsimp := false) [goB_of e1, e1, hset, wrap_succ (show at1 < 9223372036854775807 by omega)]
            rw [List.length_append, List.length_singleton] at q1
            have hk1' : k ∉ F1 := fun hm => by
              rcases q5 k hm with h | h | h
              · exact hniz h
              · cases h
              · omega
            refine ⟨rfl, F1, ⟨_, by rw [List.getElem?_set_self hlt1]; simp [macC], Rp.fr q1 fun j hj => List.getElem?_set_ne (by rintro rfl; exact hk1' hj), hk1', q2.2⟩, hfz.trans ⟨by simp; omega, fun j hj h1 h2 => ?_, fun j hj => ?_⟩⟩
            · rw [List.getElem?_set_ne (Ne.symm h1)]
              exact (q4 j (by omega) h2).trans (get_ext hj)
            · rcases q5 j hj with h | h | h
              · exact .inr h
              · cases h
              · exact .inl (by omega)
      · by_cases hn : st1.length < 2
        · have hn' : (st1.length : Int) < 2 := by omega
          simp +contextual (dsimp := false) [goB_of hbX, hbX, goB_of hxX, hxX, hn']
          rw [show doIns ⟨2, tx, xn⟩ ⟨at1, st1, sp1, lk1⟩ = .fin 2 (decN at1) sp1 by simp [doIns, needOf, hn]]
          refine CallK.of ⟨_, Tryz.func222, rfl, rfl⟩ (stuck_ac hmX hPX h2 (by dsimp only; omega)) ?_
          rintro v S' ⟨rfl, q1, q2, q3⟩
          simp +contextual (dsimp := false)
          exact ⟨rfl, _, _, q1, hfX.trans (FrM.of_eq q2 q3 fun j hj => hj)⟩
        · have hn' : ¬ (st1.length : Int) < 2 := by omega
          simp +contextual (dsimp := false) [goB_of hbX, hbX, goB_of hxX, hxX, hn']
          refine CallK.of ⟨_, Tryz.func223, rfl, rfl⟩ (pop_ac hmX (by dsimp only; omega)) ?_
          rintro v S1 ⟨hv1, F1, p1, p2, p3, p4⟩
          dsimp only at p1 hv1
          subst hv1
          have hx1 := (p3 _ hkx).trans hxX
          have hf1 := hfX.trans (FrM.of_eq p2 p3 p4)
          have hP1 := p10_at hPX (p3 _ hgk)
          simp +contextual (dsimp := false) [goB_of hx1, hx1]
          refine CallK.of ⟨_, Tryz.func223, rfl, rfl⟩ (pop_ac p1 (by simp [cut1]; omega)) ?_
          rintro v S2 ⟨hv2, F2, r1, r2, r3, r4⟩
          dsimp only at r1 hv2
          rw [top1_cut1 (by omega)] at hv2
          subst hv2
          rw [cut1_cut1] at r1
          have hx2 := (r3 _ hkx).trans hx1
          have hf2 := hf1.trans (FrM.of_eq r2 r3 r4)
          have hP2 := p10_at hP1 (r3 _ hgk)
          have ht2 := top1_cut1 (s := st1) (by omega)
          simp +contextual (dsimp := false) [goB_of hx2, hx2, ht2]
          have hb1 := top1_len hk4
          have hb2 := top2_len hk4
          have hpx : okS (top2 st1 ++ top1 st1) := by unfold okS; simp; omega
          rw [bin_ladd (by omega), show doIns ⟨2, tx, xn⟩ ⟨at1, st1, sp1, lk1⟩ = pushM ⟨at1, cut2 st1, sp1, lk1⟩ (cut2 st1) (top2 st1 ++ top1 st1) by simp [doIns, needOf, putOf, hn, pushM]]
          generalize top2 st1 ++ top1 st1 = px at hpx ⊢
          simp +contextual (dsimp := false) [goB_of hx2, hx2]
          obtain ⟨stk0, hstk0⟩ : ∃ s, s = cut2 st1 := ⟨_, rfl⟩
          have hmz := r1
          rw [← hstk0] at hmz ⊢
          have hfz := hf2
          have hPz := hP2
          have hlz : stk0.length ≤ 50 := by rw [hstk0, cut2_len]; omega
          have hltz := hmz.lt.1
          obtain ⟨svz, hbz, hstz, hniz, hndz⟩ := hmz
          have hmz : MacR 204 _ k _ _ t _ := ⟨svz, hbz, hstz, hniz, hndz⟩
          obtain ⟨az, zz, rfl⟩ := hstz.form
          dsimp only at hstz
          unfold pushM
          by_cases t1 : 2000 < px.length
          · have t1' : (2000 : Int) < px.length := by omega
            rw [if_pos (Or.inl t1)]
            simp +contextual (dsimp := false) [goB_of hbz, hbz, t1']
            refine CallK.of ⟨_, Tryz.func222, rfl, rfl⟩ (stuck_ac hmz hPz h2 (by dsimp only; omega)) ?_
            rintro v S' ⟨rfl, q1, q2, q3⟩
            simp +contextual (dsimp := false)
            exact ⟨rfl, _, _, q1, hfz.trans (FrM.of_eq q2 q3 fun j hj => hj)⟩
          · have t1' : ¬ (2000 : Int) < px.length := by omega
            by_cases t2 : 50 ≤ stk0.length
            · have t2' : (50 : Int) ≤ stk0.length := by omega
              rw [if_pos (Or.inr t2)]
              simp +contextual (dsimp := false) [goB_of hbz, hbz, t1', t2']
              refine CallK.of ⟨_, Tryz.func222, rfl, rfl⟩ (stuck_ac hmz hPz h2 (by dsimp only; omega)) ?_
              rintro v S' ⟨rfl, q1, q2, q3⟩
              simp +contextual (dsimp := false)
              exact ⟨rfl, _, _, q1, hfz.trans (FrM.of_eq q2 q3 fun j hj => hj)⟩
            · have t2' : ¬ (50 : Int) ≤ stk0.length := by omega
              rw [if_neg (by omega)]
              simp +contextual (dsimp := false) [goB_of hbz, hbz, t1', t2']
              refine AppK.one (R := strR) (l := stk0) (ex := 9) (fx := (0, 0)) (ox := true) (base := 0) (x := px) (cx := [str px]) (Fx := []) slt24 und24 (Rp.ext hstz (Ext.app _ _)) ⟨by simp, hndz⟩ (by simp) ⟨rfl, rfl, hpx⟩ (Fresh.nil _) (by simp) (Nat.zero_le _) (by omega) (by omega) ?_
              intro s1 H1 F1 q1 q2 q3 q4 q5
              simp only [List.length_append, List.length_singleton] at q3 q4 q5
              have e1 : H1[k]? = _ := (q4 k (by omega) hniz).trans ((get_ext hltz).trans hbz)
              obtain ⟨a1, z1, rfl⟩ := q1.form
              have hlt1 : k < H1.length := by omega
              have hset : ∀ b : Blk, (H1.set k b)[k]? = some b := fun b => List.getElem?_set_self hlt1
              simp +contextual (dsimp := false) [goB_of e1, e1, hset, wrap_succ (show at1 < 9223372036854775807 by omega)]
              rw [List.length_append, List.length_singleton] at q1
              have hk1' : k ∉ F1 := fun hm => by
                rcases q5 k hm with h | h | h
                · exact hniz h
                · cases h
                · omega
              refine ⟨rfl, F1, ⟨_, by rw [List.getElem?_set_self hlt1]; simp [macC], Rp.fr q1 fun j hj => List.getElem?_set_ne (by rintro rfl; exact hk1' hj), hk1', q2.2⟩, hfz.trans ⟨by simp; omega, fun j hj h1 h2 => ?_, fun j hj => ?_⟩⟩
              · rw [List.getElem?_set_ne (Ne.symm h1)]
                exact (q4 j (by omega) h2).trans (get_ext hj)
              · rcases q5 j hj with h | h | h
                · exact .inr h
                · cases h
                · exact .inl (by omega)
      · by_cases hn : st1.length < 1
        · have hn' : (st1.length : Int) < 1 := by omega
          simp +contextual (dsimp := false) [goB_of hbX, hbX, goB_of hxX, hxX, hn']
          rw [show doIns ⟨3, tx, xn⟩ ⟨at1, st1, sp1, lk1⟩ = .fin 2 (decN at1) sp1 by simp [doIns, needOf, hn]]
          refine CallK.of ⟨_, Tryz.func222, rfl, rfl⟩ (stuck_ac hmX hPX h2 (by dsimp only; omega)) ?_
          rintro v S' ⟨rfl, q1, q2, q3⟩
          simp +contextual (dsimp := false)
          exact ⟨rfl, _, _, q1, hfX.trans (FrM.of_eq q2 q3 fun j hj => hj)⟩
        · have hn' : ¬ (st1.length : Int) < 1 := by omega
          simp +contextual (dsimp := false) [goB_of hbX, hbX, goB_of hxX, hxX, hn']
          refine CallK.of ⟨_, Tryz.func223, rfl, rfl⟩ (pop_ac hmX (by dsimp only; omega)) ?_
          rintro v S1 ⟨hv1, F1, p1, p2, p3, p4⟩
          dsimp only at p1 hv1
          subst hv1
          have hx1 := (p3 _ hkx).trans hxX
          have hf1 := hfX.trans (FrM.of_eq p2 p3 p4)
          have hP1 := p10_at hPX (p3 _ hgk)
          have hb1 := top1_len hk4
          simp +contextual (dsimp := false) [goB_of hx1, hx1]
          have hpx : okS ((top1 st1).take xn.toNat) := by unfold okS; simp; omega
          rw [sliceZ_to (minI_ge v5) (minI_le _ _), minI_take v5, show doIns ⟨3, tx, xn⟩ ⟨at1, st1, sp1, lk1⟩ = pushM ⟨at1, cut1 st1, sp1, lk1⟩ (cut1 st1) ((top1 st1).take xn.toNat) by simp [doIns, needOf, putOf, hn, pushM]]
          generalize (top1 st1).take xn.toNat = px at hpx ⊢
          simp +contextual (dsimp := false) [goB_of hx1, hx1]
          obtain ⟨stk0, hstk0⟩ : ∃ s, s = cut1 st1 := ⟨_, rfl⟩
          have hmz := p1
          rw [← hstk0] at hmz ⊢
          have hfz := hf1
          have hPz := hP1
          have hlz : stk0.length ≤ 50 := by rw [hstk0, cut1_len]; omega
          have hltz := hmz.lt.1
          obtain ⟨svz, hbz, hstz, hniz, hndz⟩ := hmz
          have hmz : MacR 204 _ k _ _ t _ := ⟨svz, hbz, hstz, hniz, hndz⟩
          obtain ⟨az, zz, rfl⟩ := hstz.form
          dsimp only at hstz
          unfold pushM
          by_cases t1 : 2000 < px.length
          · have t1' : (2000 : Int) < px.length := by omega
            rw [if_pos (Or.inl t1)]
            simp +contextual (dsimp := false) [goB_of hbz, hbz, t1']
            refine CallK.of ⟨_, Tryz.func222, rfl, rfl⟩ (stuck_ac hmz hPz h2 (by dsimp only; omega)) ?_
            rintro v S' ⟨rfl, q1, q2, q3⟩
            simp +contextual (dsimp := false)
            exact ⟨rfl, _, _, q1, hfz.trans (FrM.of_eq q2 q3 fun j hj => hj)⟩
          · have t1' : ¬ (2000 : Int) < px.length := by omega
            by_cases t2 : 50 ≤ stk0.length
            · have t2' : (50 : Int) ≤ stk0.length := by omega
              rw [if_pos (Or.inr t2)]
              simp +contextual (dsimp := false) [goB_of hbz, hbz, t1', t2']
              refine CallK.of ⟨_, Tryz.func222, rfl, rfl⟩ (stuck_ac hmz hPz h2 (by dsimp only; omega)) ?_
              rintro v S' ⟨rfl, q1, q2, q3⟩
              simp +contextual (dsimp := false)
              exact ⟨rfl, _, _, q1, hfz.trans (FrM.of_eq q2 q3 fun j hj => hj)⟩
            · have t2' : ¬ (50 : Int) ≤ stk0.length := by omega
              rw [if_neg (by omega)]
              simp +contextual (dsimp := false) [goB_of hbz, hbz, t1', t2']
              refine AppK.one (R := strR) (l := stk0) (ex := 9) (fx := (0, 0)) (ox := true) (base := 0) (x := px) (cx := [str px]) (Fx := []) slt24 und24 (Rp.ext hstz (Ext.app _ _)) ⟨by simp, hndz⟩ (by simp) ⟨rfl, rfl, hpx⟩ (Fresh.nil _) (by simp) (Nat.zero_le _) (by omega) (by omega) ?_
              intro s1 H1 F1 q1 q2 q3 q4 q5
              simp only [List.length_append, List.length_singleton] at q3 q4 q5
              have e1 : H1[k]? = _ := (q4 k (by omega) hniz).trans ((get_ext hltz).trans hbz)
              obtain ⟨a1, z1, rfl⟩ := q1.form
              have hlt1 : k < H1.length := by omega
              have hset : ∀ b : Blk, (H1.set k b)[k]? = some b := fun b => List.getElem?_set_self hlt1
              simp +contextual (dsimp := false) [goB_of e1, e1, hset, wrap_succ (show at1 < 9223372036854775807 by omega)]
              rw [List.length_append, List.length_singleton] at q1
              have hk1' : k ∉ F1 := fun hm => by
                rcases q5 k hm with h | h | h
                · exact hniz h
                · cases h
                · omega
              refine ⟨rfl, F1, ⟨_, by rw [List.getElem?_set_self hlt1]; simp [macC], Rp.fr q1 fun j hj => List.getElem?_set_ne (by rintro rfl; exact hk1' hj), hk1', q2.2⟩, hfz.trans ⟨by simp; omega, fun j hj h1 h2 => ?_, fun j hj => ?_⟩⟩
              · rw [List.getElem?_set_ne (Ne.symm h1)]
                exact (q4 j (by omega) h2).trans (get_ext hj)
              · rcases q5 j hj with h | h | h
                · exact .inr h
                · cases h
                · exact .inl (by omega)
      · by_cases hn : st1.length < 1
        · have hn' : (st1.length : Int) < 1 := by omega
          simp +contextual (dsimp := false) [goB_of hbX, hbX, goB_of hxX, hxX, hn']
          rw [show doIns ⟨4, tx, xn⟩ ⟨at1, st1, sp1, lk1⟩ = .fin 2 (decN at1) sp1 by simp [doIns, needOf, hn]]
          refine CallK.of ⟨_, Tryz.func222, rfl, rfl⟩ (stuck_ac hmX hPX h2 (by dsimp only; omega)) ?_
          rintro v S' ⟨rfl, q1, q2, q3⟩
          simp +contextual (dsimp := false)
          exact ⟨rfl, _, _, q1, hfX.trans (FrM.of_eq q2 q3 fun j hj => hj)⟩
        · have hn' : ¬ (st1.length : Int) < 1 := by omega
          simp +contextual (dsimp := false) [goB_of hbX, hbX, goB_of hxX, hxX, hn']
          refine CallK.of ⟨_, Tryz.func223, rfl, rfl⟩ (pop_ac hmX (by dsimp only; omega)) ?_
          rintro v S1 ⟨hv1, F1, p1, p2, p3, p4⟩
          dsimp only at p1 hv1
          subst hv1
          have hx1 := (p3 _ hkx).trans hxX
          have hf1 := hfX.trans (FrM.of_eq p2 p3 p4)
          have hP1 := p10_at hPX (p3 _ hgk)
          have hb1 := top1_len hk4
          simp +contextual (dsimp := false) [goB_of hx1, hx1]
          have hpx : okS ((top1 st1).drop xn.toNat) := by unfold okS; simp; omega
          rw [sliceZ_from (minI_ge v5) (minI_le _ _), minI_drop v5, show doIns ⟨4, tx, xn⟩ ⟨at1, st1, sp1, lk1⟩ = pushM ⟨at1, cut1 st1, sp1, lk1⟩ (cut1 st1) ((top1 st1).drop xn.toNat) by simp [doIns, needOf, putOf, hn, pushM]]
          generalize (top1 st1).drop xn.toNat = px at hpx ⊢
          simp +contextual (dsimp := false) [goB_of hx1, hx1]
          obtain ⟨stk0, hstk0⟩ : ∃ s, s = cut1 st1 := ⟨_, rfl⟩
          have hmz := p1
          rw [← hstk0] at hmz ⊢
          have hfz := hf1
          have hPz := hP1
          have hlz : stk0.length ≤ 50 := by rw [hstk0, cut1_len]; omega
          have hltz := hmz.lt.1
          obtain ⟨svz, hbz, hstz, hniz, hndz⟩ := hmz
          have hmz : MacR 204 _ k _ _ t _ := ⟨svz, hbz, hstz, hniz, hndz⟩
          obtain ⟨az, zz, rfl⟩ := hstz.form
          dsimp only at hstz
          unfold pushM
          by_cases t1 : 2000 < px.length
          · have t1' : (2000 : Int) < px.length := by omega
            rw [if_pos (Or.inl t1)]
            simp +contextual (dsimp := false) [goB_of hbz, hbz, t1']
            refine CallK.of ⟨_, Tryz.func222, rfl, rfl⟩ (stuck_ac hmz hPz h2 (by dsimp only; omega)) ?_
            rintro v S' ⟨rfl, q1, q2, q3⟩
            simp +contextual (dsimp := false)
            exact ⟨rfl, _, _, q1, hfz.trans (FrM.of_eq q2 q3 fun j hj => hj)⟩
          · have t1' : ¬ (2000 : Int) < px.length := by omega
            by_cases t2 : 50 ≤ stk0.length
            · have t2' : (50 : Int) ≤ stk0.length := by omega
              rw [if_pos (Or.inr t2)]
              simp +contextual (dsimp := false) [goB_of hbz, hbz, t1', t2']
              refine CallK.of ⟨_, Tryz.func222, rfl, rfl⟩ (stuck_ac hmz hPz h2 (by dsimp only; omega)) ?_
              rintro v S' ⟨rfl, q1, q2, q3⟩
              simp +contextual (dsimp := false)
              exact ⟨rfl, _, _, q1, hfz.trans (FrM.of_eq q2 q3 fun j hj => hj)⟩
            · have t2' : ¬ (50 : Int) ≤ stk0.length := by omega
              rw [if_neg (by omega)]
              simp +contextual (dsimp := false) [goB_of hbz, hbz, t1', t2']
              refine AppK.one (R := strR) (l := stk0) (ex := 9) (fx := (0, 0)) (ox := true) (base := 0) (x := px) (cx := [str px]) (Fx := []) slt24 und24 (Rp.ext hstz (Ext.app _ _)) ⟨by simp, hndz⟩ (by simp) ⟨rfl, rfl, hpx⟩ (Fresh.nil _) (by simp) (Nat.zero_le _) (by omega) (by omega) ?_
              intro s1 H1 F1 q1 q2 q3 q4 q5
              simp only [List.length_append, List.length_singleton] at q3 q4 q5
              have e1 : H1[k]? = _ := (q4 k (by omega) hniz).trans ((get_ext hltz).trans hbz)
              obtain ⟨a1, z1, rfl⟩ := q1.form
              have hlt1 : k < H1.length := by omega
              have hset : ∀ b : Blk, (H1.set k b)[k]? = some b := fun b => List.getElem?_set_self hlt1
              simp +contextual (dsimp := false) [goB_of e1, e1, hset, wrap_succ (show at1 < 9223372036854775807 by omega)]
              rw [List.length_append, List.length_singleton] at q1
              have hk1' : k ∉ F1 := fun hm => by
                rcases q5 k hm with h | h | h
                · exact hniz h
                · cases h
                · omega
              refine ⟨rfl, F1, ⟨_, by rw [List.getElem?_set_self hlt1]; simp [macC], Rp.fr q1 fun j hj => List.getElem?_set_ne (by rintro rfl; exact hk1' hj), hk1', q2.2⟩, hfz.trans ⟨by simp; omega, fun j hj h1 h2 => ?_, fun j hj => ?_⟩⟩
              · rw [List.getElem?_set_ne (Ne.symm h1)]
                exact (q4 j (by omega) h2).trans (get_ext hj)
              · rcases q5 j hj with h | h | h
                · exact .inr h
                · cases h
                · exact .inl (by omega)
      · by_cases hn : st1.length < 1
        · have hn' : (st1.length : Int) < 1 := by omega
          simp +contextual (dsimp := false) [goB_of hbX, hbX, goB_of hxX, hxX, hn']
          rw [show doIns ⟨5, tx, xn⟩ ⟨at1, st1, sp1, lk1⟩ = .fin 2 (decN at1) sp1 by simp [doIns, needOf, hn]]
          refine CallK.of ⟨_, Tryz.func222, rfl, rfl⟩ (stuck_ac hmX hPX h2 (by dsimp only; omega)) ?_
          rintro v S' ⟨rfl, q1, q2, q3⟩
          simp +contextual (dsimp := false)
          exact ⟨rfl, _, _, q1, hfX.trans (FrM.of_eq q2 q3 fun j hj => hj)⟩
        · have hn' : ¬ (st1.length : Int) < 1 := by omega
          simp +contextual (dsimp := false) [goB_of hbX, hbX, goB_of hxX, hxX, hn']
          refine CallK.of ⟨_, Tryz.func223, rfl, rfl⟩ (pop_ac hmX (by dsimp only; omega)) ?_
          rintro v S1 ⟨hv1, F1, p1, p2, p3, p4⟩
          dsimp only at p1 hv1
          subst hv1
          have hx1 := (p3 _ hkx).trans hxX
          have hf1 := hfX.trans (FrM.of_eq p2 p3 p4)
          have hP1 := p10_at hPX (p3 _ hgk)
          have hb1 := top1_len hk4
          simp +contextual (dsimp := false) [goB_of hx1, hx1]
          have hpx : okS (wordAt (top1 st1) xn.toNat) := by have := wordAt_len (top1 st1) xn.toNat; unfold okS; omega
          have hw := fun H => word_ac (ng := ng) (s := top1 st1) (n := xn.toNat) (H := H) (by omega)
          rw [Int.toNat_of_nonneg v5] at hw
          refine CallK.fl ⟨_, Tryz.func224, rfl, rfl⟩ (hw _) ?_
          rw [show doIns ⟨5, tx, xn⟩ ⟨at1, st1, sp1, lk1⟩ = pushM ⟨at1, cut1 st1, sp1, lk1⟩ (cut1 st1) (wordAt (top1 st1) xn.toNat) by simp [doIns, needOf, putOf, hn, pushM]]
          generalize wordAt (top1 st1) xn.toNat = px at hpx ⊢
          simp +contextual (dsimp := false) [goB_of hx1, hx1]
          obtain ⟨stk0, hstk0⟩ : ∃ s, s = cut1 st1 := ⟨_, rfl⟩
          have hmz := p1
          rw [← hstk0] at hmz ⊢
          have hfz := hf1
          have hPz := hP1
          have hlz : stk0.length ≤ 50 := by rw [hstk0, cut1_len]; omega
          have hltz := hmz.lt.1
          obtain ⟨svz, hbz, hstz, hniz, hndz⟩ := hmz
          have hmz : MacR 204 _ k _ _ t _ := ⟨svz, hbz, hstz, hniz, hndz⟩
          obtain ⟨az, zz, rfl⟩ := hstz.form
          dsimp only at hstz
          unfold pushM
          by_cases t1 : 2000 < px.length
          · have t1' : (2000 : Int) < px.length := by omega
            rw [if_pos (Or.inl t1)]
            simp +contextual (dsimp := false) [goB_of hbz, hbz, t1']
            refine CallK.of ⟨_, Tryz.func222, rfl, rfl⟩ (stuck_ac hmz hPz h2 (by dsimp only; omega)) ?_
            rintro v S' ⟨rfl, q1, q2, q3⟩
            simp +contextual (dsimp := false)
            exact ⟨rfl, _, _, q1, hfz.trans (FrM.of_eq q2 q3 fun j hj => hj)⟩
          · have t1' : ¬ (2000 : Int) < px.length := by omega
            by_cases t2 : 50 ≤ stk0.length
            · have t2' : (50 : Int) ≤ stk0.length := by omega
              rw [if_pos (Or.inr t2)]
              simp +contextual (dsimp := false) [goB_of hbz, hbz, t1', t2']
              refine CallK.of ⟨_, Tryz.func222, rfl, rfl⟩ (stuck_ac hmz hPz h2 (by dsimp only; omega)) ?_
              rintro v S' ⟨rfl, q1, q2, q3⟩
              simp +contextual (dsimp := false)
              exact ⟨rfl, _, _, q1, hfz.trans (FrM.of_eq q2 q3 fun j hj => hj)⟩
            · have t2' : ¬ (50 : Int) ≤ stk0.length := by omega
              rw [if_neg (by omega)]
              simp +contextual (dsimp := false) [goB_of hbz, hbz, t1', t2']
              refine AppK.one (R := strR) (l := stk0) (ex := 9) (fx := (0, 0)) (ox := true) (base := 0) (x := px) (cx := [str px]) (Fx := []) slt24 und24 (Rp.ext hstz (Ext.app _ _)) ⟨by simp, hndz⟩ (by simp) ⟨rfl, rfl, hpx⟩ (Fresh.nil _) (by simp) (Nat.zero_le _) (by omega) (by omega) ?_
              intro s1 H1 F1 q1 q2 q3 q4 q5
              simp only [List.length_append, List.length_singleton] at q3 q4 q5
              have e1 : H1[k]? = _ := (q4 k (by omega) hniz).trans ((get_ext hltz).trans hbz)
              obtain ⟨a1, z1, rfl⟩ := q1.form
              have hlt1 : k < H1.length := by omega
              have hset : ∀ b : Blk, (H1.set k b)[k]? = some b := fun b => List.getElem?_set_self hlt1
              simp +contextual (dsimp := false) [goB_of e1, e1, hset, wrap_succ (show at1 < 9223372036854775807 by omega)]
              rw [List.length_append, List.length_singleton] at q1
              have hk1' : k ∉ F1 := fun hm => by
                rcases q5 k hm with h | h | h
                · exact hniz h
                · cases h
                · omega
              refine ⟨rfl, F1, ⟨_, by rw [List.getElem?_set_self hlt1]; simp [macC], Rp.fr q1 fun j hj => List.getElem?_set_ne (by rintro rfl; exact hk1' hj), hk1', q2.2⟩, hfz.trans ⟨by simp; omega, fun j hj h1 h2 => ?_, fun j hj => ?_⟩⟩
              · rw [List.getElem?_set_ne (Ne.symm h1)]
                exact (q4 j (by omega) h2).trans (get_ext hj)
              · rcases q5 j hj with h | h | h
                · exact .inr h
                · cases h
                · exact .inl (by omega)
      · by_cases hn : st1.length < 2
        · have hn' : (st1.length : Int) < 2 := by omega
          simp +contextual (dsimp := false) [goB_of hbX, hbX, goB_of hxX, hxX, hn']
          rw [show doIns ⟨6, tx, xn⟩ ⟨at1, st1, sp1, lk1⟩ = .fin 2 (decN at1) sp1 by simp [doIns, needOf, hn]]
          refine CallK.of ⟨_, Tryz.func222, rfl, rfl⟩ (stuck_ac hmX hPX h2 (by dsimp only; omega)) ?_
          rintro v S' ⟨rfl, q1, q2, q3⟩
          simp +contextual (dsimp := false)
          exact ⟨rfl, _, _, q1, hfX.trans (FrM.of_eq q2 q3 fun j hj => hj)⟩
        · have hn' : ¬ (st1.length : Int) < 2 := by omega
          simp +contextual (dsimp := false) [goB_of hbX, hbX, goB_of hxX, hxX, hn']
          refine CallK.of ⟨_, Tryz.func223, rfl, rfl⟩ (pop_ac hmX (by dsimp only; omega)) ?_
          rintro v S1 ⟨hv1, F1, p1, p2, p3, p4⟩
          dsimp only at p1 hv1
          subst hv1
          have hx1 := (p3 _ hkx).trans hxX
          have hf1 := hfX.trans (FrM.of_eq p2 p3 p4)
          have hP1 := p10_at hPX (p3 _ hgk)
          have hb1 := top1_len hk4
          simp +contextual (dsimp := false) [goB_of hx1, hx1]
          refine CallK.of ⟨_, Tryz.func223, rfl, rfl⟩ (pop_ac p1 (by simp [cut1]; omega)) ?_
          rintro v S2 ⟨hv2, F2, r1, r2, r3, r4⟩
          dsimp only at r1 hv2
          rw [top1_cut1 (by omega)] at hv2
          subst hv2
          rw [cut1_cut1] at r1
          have hx2 := (r3 _ hkx).trans hx1
          have hf2 := hf1.trans (FrM.of_eq r2 r3 r4)
          have hP2 := p10_at hP1 (r3 _ hgk)
          have ht2 := top1_cut1 (s := st1) (by omega)
          have hb2 := top2_len hk4
          simp +contextual (dsimp := false) [goB_of hx2, hx2, ht2]
          have hpx : okS (flagT (decide (top1 st1 = top2 st1))) := by unfold okS flagT; split <;> simp
          rw [show doIns ⟨6, tx, xn⟩ ⟨at1, st1, sp1, lk1⟩ = pushM ⟨at1, cut2 st1, sp1, lk1⟩ (cut2 st1) (flagT (decide (top1 st1 = top2 st1))) by simp [doIns, needOf, putOf, hn, pushM]]
          refine ifA_dec (fun he => ?_) (fun he => ?_)
          · rw [show flagT (decide (top1 st1 = top2 st1)) = [49] by simp [flagT, he], show (Value.string { data := #[49] }) = str [49] from rfl]
            have hps : ([49] : List UInt8).length ≤ 2000 := by simp
            have hpx : okS [49] := by simp [okS]
            generalize ([49] : List UInt8) = px at hps hpx ⊢
            obtain ⟨stk0, hstk0⟩ : ∃ s, s = cut2 st1 := ⟨_, rfl⟩
            have hmz := r1
            rw [← hstk0] at hmz ⊢
            have hfz := hf2
            have hPz := hP2
            have hlz : stk0.length ≤ 50 := by rw [hstk0, cut2_len]; omega
            have hltz := hmz.lt.1
            obtain ⟨svz, hbz, hstz, hniz, hndz⟩ := hmz
            have hmz : MacR 204 _ k _ _ t _ := ⟨svz, hbz, hstz, hniz, hndz⟩
            obtain ⟨az, zz, rfl⟩ := hstz.form
            dsimp only at hstz
            unfold pushM
            have t1 : ¬ 2000 < px.length := by omega
            have t1' : ¬ (2000 : Int) < px.length := by omega
            by_cases t2 : 50 ≤ stk0.length
            · have t2' : (50 : Int) ≤ stk0.length := by omega
              rw [if_pos (Or.inr t2)]
              simp +contextual (dsimp := false) [goB_of hbz, hbz, t1', t2']
              refine CallK.of ⟨_, Tryz.func222, rfl, rfl⟩ (stuck_ac hmz hPz h2 (by dsimp only; omega)) ?_
              rintro v S' ⟨rfl, q1, q2, q3⟩
              simp +contextual (dsimp := false)
              exact ⟨rfl, _, _, q1, hfz.trans (FrM.of_eq q2 q3 fun j hj => hj)⟩
            · have t2' : ¬ (50 : Int) ≤ stk0.length := by omega
              rw [if_neg (by omega)]
              simp +contextual (dsimp := false) [goB_of hbz, hbz, t1', t2']
              refine AppK.one (R := strR) (l := stk0) (ex := 9) (fx := (0, 0)) (ox := true) (base := 0) (x := px) (cx := [str px]) (Fx := []) slt24 und24 (Rp.ext hstz (Ext.app _ _)) ⟨by simp, hndz⟩ (by simp) ⟨rfl, rfl, hpx⟩ (Fresh.nil _) (by simp) (Nat.zero_le _) (by omega) (by omega) ?_
              intro s1 H1 F1 q1 q2 q3 q4 q5
              simp only [List.length_append, List.length_singleton] at q3 q4 q5
              have e1 : H1[k]? = _ := (q4 k (by omega) hniz).trans ((get_ext hltz).trans hbz)
              obtain ⟨a1, z1, rfl⟩ := q1.form
              have hlt1 : k < H1.length := by omega
              have hset : ∀ b : Blk, (H1.set k b)[k]? = some b := fun b => List.getElem?_set_self hlt1
              simp +contextual (dsimp := false) [goB_of e1, e1, hset, wrap_succ (show at1 < 9223372036854775807 by omega)]
              rw [List.length_append, List.length_singleton] at q1
              have hk1' : k ∉ F1 := fun hm => by
                rcases q5 k hm with h | h | h
                · exact hniz h
                · cases h
                · omega
              refine ⟨rfl, F1, ⟨_, by rw [List.getElem?_set_self hlt1]; simp [macC], Rp.fr q1 fun j hj => List.getElem?_set_ne (by rintro rfl; exact hk1' hj), hk1', q2.2⟩, hfz.trans ⟨by simp; omega, fun j hj h1 h2 => ?_, fun j hj => ?_⟩⟩
              · rw [List.getElem?_set_ne (Ne.symm h1)]
                exact (q4 j (by omega) h2).trans (get_ext hj)
              · rcases q5 j hj with h | h | h
                · exact .inr h
                · cases h
                · exact .inl (by omega)
          · rw [show flagT (decide (top1 st1 = top2 st1)) = [48] by simp [flagT, he], show (Value.string { data := #[48] }) = str [48] from rfl]
            have hps : ([48] : List UInt8).length ≤ 2000 := by simp
            have hpx : okS [48] := by simp [okS]
            generalize ([48] : List UInt8) = px at hps hpx ⊢
            obtain ⟨stk0, hstk0⟩ : ∃ s, s = cut2 st1 := ⟨_, rfl⟩
            have hmz := r1
            rw [← hstk0] at hmz ⊢
            have hfz := hf2
            have hPz := hP2
            have hlz : stk0.length ≤ 50 := by rw [hstk0, cut2_len]; omega
            have hltz := hmz.lt.1
            obtain ⟨svz, hbz, hstz, hniz, hndz⟩ := hmz
            have hmz : MacR 204 _ k _ _ t _ := ⟨svz, hbz, hstz, hniz, hndz⟩
            obtain ⟨az, zz, rfl⟩ := hstz.form
            dsimp only at hstz
            unfold pushM
            have t1 : ¬ 2000 < px.length := by omega
            have t1' : ¬ (2000 : Int) < px.length := by omega
            by_cases t2 : 50 ≤ stk0.length
            · have t2' : (50 : Int) ≤ stk0.length := by omega
              rw [if_pos (Or.inr t2)]
              simp +contextual (dsimp := false) [goB_of hbz, hbz, t1', t2']
              refine CallK.of ⟨_, Tryz.func222, rfl, rfl⟩ (stuck_ac hmz hPz h2 (by dsimp only; omega)) ?_
              rintro v S' ⟨rfl, q1, q2, q3⟩
              simp +contextual (dsimp := false)
              exact ⟨rfl, _, _, q1, hfz.trans (FrM.of_eq q2 q3 fun j hj => hj)⟩
            · have t2' : ¬ (50 : Int) ≤ stk0.length := by omega
              rw [if_neg (by omega)]
              simp +contextual (dsimp := false) [goB_of hbz, hbz, t1', t2']
              refine AppK.one (R := strR) (l := stk0) (ex := 9) (fx := (0, 0)) (ox := true) (base := 0) (x := px) (cx := [str px]) (Fx := []) slt24 und24 (Rp.ext hstz (Ext.app _ _)) ⟨by simp, hndz⟩ (by simp) ⟨rfl, rfl, hpx⟩ (Fresh.nil _) (by simp) (Nat.zero_le _) (by omega) (by omega) ?_
              intro s1 H1 F1 q1 q2 q3 q4 q5
              simp only [List.length_append, List.length_singleton] at q3 q4 q5
              have e1 : H1[k]? = _ := (q4 k (by omega) hniz).trans ((get_ext hltz).trans hbz)
              obtain ⟨a1, z1, rfl⟩ := q1.form
              have hlt1 : k < H1.length := by omega
              have hset : ∀ b : Blk, (H1.set k b)[k]? = some b := fun b => List.getElem?_set_self hlt1
              simp +contextual (dsimp := false) [goB_of e1, e1, hset, wrap_succ (show at1 < 9223372036854775807 by omega)]
              rw [List.length_append, List.length_singleton] at q1
              have hk1' : k ∉ F1 := fun hm => by
                rcases q5 k hm with h | h | h
                · exact hniz h
                · cases h
                · omega
              refine ⟨rfl, F1, ⟨_, by rw [List.getElem?_set_self hlt1]; simp [macC], Rp.fr q1 fun j hj => List.getElem?_set_ne (by rintro rfl; exact hk1' hj), hk1', q2.2⟩, hfz.trans ⟨by simp; omega, fun j hj h1 h2 => ?_, fun j hj => ?_⟩⟩
              · rw [List.getElem?_set_ne (Ne.symm h1)]
                exact (q4 j (by omega) h2).trans (get_ext hj)
              · rcases q5 j hj with h | h | h
                · exact .inr h
                · cases h
                · exact .inl (by omega)
      · by_cases hn : st1.length < 1
        · have hn' : (st1.length : Int) < 1 := by omega
          simp +contextual (dsimp := false) [goB_of hbX, hbX, goB_of hxX, hxX, hn']
          rw [show doIns ⟨7, tx, xn⟩ ⟨at1, st1, sp1, lk1⟩ = .fin 2 (decN at1) sp1 by simp [doIns, needOf, hn]]
          refine CallK.of ⟨_, Tryz.func222, rfl, rfl⟩ (stuck_ac hmX hPX h2 (by dsimp only; omega)) ?_
          rintro v S' ⟨rfl, q1, q2, q3⟩
          simp +contextual (dsimp := false)
          exact ⟨rfl, _, _, q1, hfX.trans (FrM.of_eq q2 q3 fun j hj => hj)⟩
        · have hn' : ¬ (st1.length : Int) < 1 := by omega
          simp +contextual (dsimp := false) [goB_of hbX, hbX, goB_of hxX, hxX, hn']
          have hstX : StrsR true HX st1 [.slice as0 st1.length zs] F := Rp.ext hst0 hXe
          have hsubw : IntKind.i64.wrap ((st1.length : Int) - 1) = ((st1.length - 1 : Nat) : Int) := by rw [wrap_of _ (by omega) (by omega)]; omega
          obtain ⟨id7, o7, c7, e7, f7, ow7, cs7, Fi7, E7⟩ := SlR.get hstX (st1.length - 1) (by omega)
          obtain ⟨rfl, rfl, hok7⟩ := E7.rep
          have hc7 := E7.cell0 (by omega)
          have hb1 := top1_len hk4
          have htop : st1[st1.length - 1] = top1 st1 := by simp [top1, List.getD, show st1.length - 1 < st1.length by omega]
          simp +contextual (dsimp := false) [hsubw, E7.idx, E7.goB, E7.le, hc7, htop]
          have hpx : okS (top1 st1) := by unfold okS; omega
          rw [show doIns ⟨7, tx, xn⟩ ⟨at1, st1, sp1, lk1⟩ = pushM ⟨at1, st1, sp1, lk1⟩ st1 (top1 st1) by simp [doIns, needOf, putOf, hn, pushM]]
          generalize top1 st1 = px at hpx ⊢
          obtain ⟨stk0, hstk0⟩ : ∃ s, s = st1 := ⟨_, rfl⟩
          have hmz := hmX
          rw [← hstk0] at hmz ⊢
          have hfz := hfX
          have hPz := hPX
          have hlz : stk0.length ≤ 50 := by rw [hstk0]; omega
          have hltz := hmz.lt.1
          obtain ⟨svz, hbz, hstz, hniz, hndz⟩ := hmz
          have hmz : MacR 204 _ k _ _ t _ := ⟨svz, hbz, hstz, hniz, hndz⟩
          obtain ⟨az, zz, rfl⟩ := hstz.form
          dsimp only at hstz
          unfold pushM
          by_cases t1 : 2000 < px.length
          · have t1' : (2000 : Int) < px.length := by omega
            rw [if_pos (Or.inl t1)]
            simp +contextual (dsimp := false) [goB_of hbz, hbz, t1']
            refine CallK.of ⟨_, Tryz.func222, rfl, rfl⟩ (stuck_ac hmz hPz h2 (by dsimp only; omega)) ?_
            rintro v S' ⟨rfl, q1, q2, q3⟩
            simp +contextual (dsimp := false)
            exact ⟨rfl, _, _, q1, hfz.trans (FrM.of_eq q2 q3 fun j hj => hj)⟩
          · have t1' : ¬ (2000 : Int) < px.length := by omega
            by_cases t2 : 50 ≤ stk0.length
            · have t2' : (50 : Int) ≤ stk0.length := by omega
              rw [if_pos (Or.inr t2)]
              simp +contextual (dsimp := false) [goB_of hbz, hbz, t1', t2']
              refine CallK.of ⟨_, Tryz.func222, rfl, rfl⟩ (stuck_ac hmz hPz h2 (by dsimp only; omega)) ?_
              rintro v S' ⟨rfl, q1, q2, q3⟩
              simp +contextual (dsimp := false)
              exact ⟨rfl, _, _, q1, hfz.trans (FrM.of_eq q2 q3 fun j hj => hj)⟩
            · have t2' : ¬ (50 : Int) ≤ stk0.length := by omega
              rw [if_neg (by omega)]
              simp +contextual (dsimp := false) [goB_of hbz, hbz, t1', t2']
              refine AppK.one (R := strR) (l := stk0) (ex := 9) (fx := (0, 0)) (ox := true) (base := 0) (x := px) (cx := [str px]) (Fx := []) slt24 und24 (Rp.ext hstz (Ext.app _ _)) ⟨by simp, hndz⟩ (by simp) ⟨rfl, rfl, hpx⟩ (Fresh.nil _) (by simp) (Nat.zero_le _) (by omega) (by omega) ?_
              intro s1 H1 F1 q1 q2 q3 q4 q5
              simp only [List.length_append, List.length_singleton] at q3 q4 q5
              have e1 : H1[k]? = _ := (q4 k (by omega) hniz).trans ((get_ext hltz).trans hbz)
              obtain ⟨a1, z1, rfl⟩ := q1.form
              have hlt1 : k < H1.length := by omega
              have hset : ∀ b : Blk, (H1.set k b)[k]? = some b := fun b => List.getElem?_set_self hlt1
              simp +contextual (dsimp := false) [goB_of e1, e1, hset, wrap_succ (show at1 < 9223372036854775807 by omega)]
              rw [List.length_append, List.length_singleton] at q1
              have hk1' : k ∉ F1 := fun hm => by
                rcases q5 k hm with h | h | h
                · exact hniz h
                · cases h
                · omega
              refine ⟨rfl, F1, ⟨_, by rw [List.getElem?_set_self hlt1]; simp [macC], Rp.fr q1 fun j hj => List.getElem?_set_ne (by rintro rfl; exact hk1' hj), hk1', q2.2⟩, hfz.trans ⟨by simp; omega, fun j hj h1 h2 => ?_, fun j hj => ?_⟩⟩
              · rw [List.getElem?_set_ne (Ne.symm h1)]
                exact (q4 j (by omega) h2).trans (get_ext hj)
              · rcases q5 j hj with h | h | h
                · exact .inr h
                · cases h
                · exact .inl (by omega)
      · by_cases hn : st1.length < 2
        · have hn' : (st1.length : Int) < 2 := by omega
          simp +contextual (dsimp := false) [goB_of hbX, hbX, goB_of hxX, hxX, hn']
          rw [show doIns ⟨8, tx, xn⟩ ⟨at1, st1, sp1, lk1⟩ = .fin 2 (decN at1) sp1 by simp [doIns, needOf, hn]]
          refine CallK.of ⟨_, Tryz.func222, rfl, rfl⟩ (stuck_ac hmX hPX h2 (by dsimp only; omega)) ?_
          rintro v S' ⟨rfl, q1, q2, q3⟩
          simp +contextual (dsimp := false)
          exact ⟨rfl, _, _, q1, hfX.trans (FrM.of_eq q2 q3 fun j hj => hj)⟩
        · have hn' : ¬ (st1.length : Int) < 2 := by omega
          simp +contextual (dsimp := false) [goB_of hbX, hbX, goB_of hxX, hxX, hn']
          refine CallK.of ⟨_, Tryz.func223, rfl, rfl⟩ (pop_ac hmX (by dsimp only; omega)) ?_
          rintro v S1 ⟨hv1, F1, p1, p2, p3, p4⟩
          dsimp only at p1 hv1
          subst hv1
          have hx1 := (p3 _ hkx).trans hxX
          have hf1 := hfX.trans (FrM.of_eq p2 p3 p4)
          have hP1 := p10_at hPX (p3 _ hgk)
          have hb1 := top1_len hk4
          simp +contextual (dsimp := false) [goB_of hx1, hx1]
          refine CallK.of ⟨_, Tryz.func223, rfl, rfl⟩ (pop_ac p1 (by simp [cut1]; omega)) ?_
          rintro v S2 ⟨hv2, F2, r1, r2, r3, r4⟩
          dsimp only at r1 hv2
          rw [top1_cut1 (by omega)] at hv2
          subst hv2
          rw [cut1_cut1] at r1
          have hx2 := (r3 _ hkx).trans hx1
          have hf2 := hf1.trans (FrM.of_eq r2 r3 r4)
          have hP2 := p10_at hP1 (r3 _ hgk)
          have ht2 := top1_cut1 (s := st1) (by omega)
          have hb2 := top2_len hk4
          simp +contextual (dsimp := false) [goB_of hx2, hx2, ht2]
          obtain ⟨sv2, hb2', hst2, hni2, hnd2⟩ := r1
          obtain ⟨a2, z2, rfl⟩ := hst2.form
          dsimp only at hst2
          have hltz := (List.getElem?_eq_some_iff.1 hb2').1
          have hlc := cut2_len st1
          simp +contextual (dsimp := false) [goB_of hb2', hb2']
          refine AppK.one (R := strR) (l := cut2 st1) (ex := 9) (fx := (0, 0)) (ox := true) (base := 0) (x := top1 st1) (cx := [str (top1 st1)]) (Fx := []) slt24 und24 (Rp.ext hst2 (Ext.app _ _)) ⟨by simp, hnd2⟩ (by simp) ⟨rfl, rfl, by unfold okS; omega⟩ (Fresh.nil _) (by simp) (Nat.zero_le _) (by omega) (by omega) ?_
          intro s1 H1 F3 q1 q2 q3 q4 q5
          simp only [List.length_append, List.length_singleton] at q3 q4 q5
          have e1 : H1[k]? = _ := (q4 k (by omega) hni2).trans ((get_ext hltz).trans hb2')
          obtain ⟨a1, z1, rfl⟩ := q1.form
          simp +contextual (dsimp := false) [goB_of e1, e1]
          rw [List.length_append, List.length_singleton] at q1
          have hlt1 : k < H1.length := by omega
          have hk1' : k ∉ F3 := fun hm => by
            rcases q5 k hm with h | h | h
            · exact hni2 h
            · cases h
            · omega
          obtain ⟨H4, hH4⟩ : ∃ H4, H4 = H1.set k (⟨.cells #[.slice ac code.length zc, .slice a1 ((cut2 st1).length + 1) z1, int at1, int sp1, int lk1, .bool t.over, int t.code, str t.text, .bool t.ask, str t.name, int t.steps] 204 (0, 0), true, true⟩ : Blk) := ⟨_, rfl⟩
          rw [← hH4]
          have hpx : okS (top2 st1) := by unfold okS; omega
          have h14 : ∀ j, j ≠ k → H4[j]? = H1[j]? := fun j hj => by rw [hH4]; exact List.getElem?_set_ne (Ne.symm hj)
          have hmz : MacR 204 H4 k (.slice ac code.length zc) ⟨at1, cut2 st1 ++ [top1 st1], sp1, lk1⟩ t F3 := ⟨_, by rw [hH4, List.getElem?_set_self hlt1], Rp.fr q1 fun j hj => h14 j (by rintro rfl; exact hk1' hj), hk1', q2.2⟩
          have hfz : FrM H k F H4 F3 := hf2.trans ⟨by rw [hH4]; simp; omega, fun j hj h1 h2 => (h14 j h1).trans ((q4 j (by omega) h2).trans (get_ext hj)), fun j hj => by
            rcases q5 j hj with h | h | h
            · exact .inr h
            · cases h
            · exact .inl (by omega)⟩
          have hg2 : g10 < S2.length := by
            obtain ⟨_, _, hh⟩ := hP2
            exact (List.getElem?_eq_some_iff.1 hh).1
          have hPz : P10 g10 H4 := p10_at hP2 ((h14 _ hgk).trans ((q4 _ (by omega) fun hm => hgF (p4 _ (r4 _ hm))).trans (get_ext hg2)))
          rw [show doIns ⟨8, tx, xn⟩ ⟨at1, st1, sp1, lk1⟩ = pushM ⟨at1, cut2 st1 ++ [top1 st1], sp1, lk1⟩ (cut2 st1 ++ [top1 st1]) (top2 st1) by simp [doIns, needOf, putOf, hn, pushM]]
          have hlz : (cut2 st1 ++ [top1 st1]).length ≤ 50 := by simp; omega
          clear hH4
          generalize top2 st1 = px at hpx ⊢
          generalize cut2 st1 ++ [top1 st1] = stk0 at hmz hlz ⊢
          clear q1 q2 q3 q4 q5 e1
          have hltz := hmz.lt.1
          obtain ⟨svz, hbz, hstz, hniz, hndz⟩ := hmz
          have hmz : MacR 204 _ k _ _ t _ := ⟨svz, hbz, hstz, hniz, hndz⟩
          obtain ⟨az, zz, rfl⟩ := hstz.form
          dsimp only at hstz
          unfold pushM
          by_cases t1 : 2000 < px.length
          · have t1' : (2000 : Int) < px.length := by omega
            rw [if_pos (Or.inl t1)]
            simp +contextual (dsimp := false) [goB_of hbz, hbz, t1']
            refine CallK.of ⟨_, Tryz.func222, rfl, rfl⟩ (stuck_ac hmz hPz h2 (by dsimp only; omega)) ?_
            rintro v S' ⟨rfl, q1, q2, q3⟩
            simp +contextual (dsimp := false)
            exact ⟨rfl, _, _, q1, hfz.trans (FrM.of_eq q2 q3 fun j hj => hj)⟩
          · have t1' : ¬ (2000 : Int) < px.length := by omega
            by_cases t2 : 50 ≤ stk0.length
            · have t2' : (50 : Int) ≤ stk0.length := by omega
              rw [if_pos (Or.inr t2)]
              simp +contextual (dsimp := false) [goB_of hbz, hbz, t1', t2']
              refine CallK.of ⟨_, Tryz.func222, rfl, rfl⟩ (stuck_ac hmz hPz h2 (by dsimp only; omega)) ?_
              rintro v S' ⟨rfl, q1, q2, q3⟩
              simp +contextual (dsimp := false)
              exact ⟨rfl, _, _, q1, hfz.trans (FrM.of_eq q2 q3 fun j hj => hj)⟩
            · have t2' : ¬ (50 : Int) ≤ stk0.length := by omega
              rw [if_neg (by omega)]
              simp +contextual (dsimp := false) [goB_of hbz, hbz, t1', t2']
              refine AppK.one (R := strR) (l := stk0) (ex := 9) (fx := (0, 0)) (ox := true) (base := 0) (x := px) (cx := [str px]) (Fx := []) slt24 und24 (Rp.ext hstz (Ext.app _ _)) ⟨by simp, hndz⟩ (by simp) ⟨rfl, rfl, hpx⟩ (Fresh.nil _) (by simp) (Nat.zero_le _) (by omega) (by omega) ?_
              intro s1 H1 F1 q1 q2 q3 q4 q5
              simp only [List.length_append, List.length_singleton] at q3 q4 q5
              have e1 : H1[k]? = _ := (q4 k (by omega) hniz).trans ((get_ext hltz).trans hbz)
              obtain ⟨a1, z1, rfl⟩ := q1.form
              have hlt1 : k < H1.length := by omega
              have hset : ∀ b : Blk, (H1.set k b)[k]? = some b := fun b => List.getElem?_set_self hlt1
              simp +contextual (dsimp := false) [goB_of e1, e1, hset, wrap_succ (show at1 < 9223372036854775807 by omega)]
              rw [List.length_append, List.length_singleton] at q1
              have hk1' : k ∉ F1 := fun hm => by
                rcases q5 k hm with h | h | h
                · exact hniz h
                · cases h
                · omega
              refine ⟨rfl, F1, ⟨_, by rw [List.getElem?_set_self hlt1]; simp [macC], Rp.fr q1 fun j hj => List.getElem?_set_ne (by rintro rfl; exact hk1' hj), hk1', q2.2⟩, hfz.trans ⟨by simp; omega, fun j hj h1 h2 => ?_, fun j hj => ?_⟩⟩
              · rw [List.getElem?_set_ne (Ne.symm h1)]
                exact (q4 j (by omega) h2).trans (get_ext hj)
              · rcases q5 j hj with h | h | h
                · exact .inr h
                · cases h
                · exact .inl (by omega)
      · by_cases hn : st1.length < 1
        · have hn' : (st1.length : Int) < 1 := by omega
          simp +contextual (dsimp := false) [goB_of hbX, hbX, goB_of hxX, hxX, hn']
          rw [show doIns ⟨9, tx, xn⟩ ⟨at1, st1, sp1, lk1⟩ = .fin 2 (decN at1) sp1 by simp [doIns, needOf, hn]]
          refine CallK.of ⟨_, Tryz.func222, rfl, rfl⟩ (stuck_ac hmX hPX h2 (by dsimp only; omega)) ?_
          rintro v S' ⟨rfl, q1, q2, q3⟩
          simp +contextual (dsimp := false)
          exact ⟨rfl, _, _, q1, hfX.trans (FrM.of_eq q2 q3 fun j hj => hj)⟩
        · have hn' : ¬ (st1.length : Int) < 1 := by omega
          simp +contextual (dsimp := false) [goB_of hbX, hbX, goB_of hxX, hxX, hn']
          refine CallK.of ⟨_, Tryz.func223, rfl, rfl⟩ (pop_ac hmX (by dsimp only; omega)) ?_
          rintro v S1 ⟨hv1, F1, p1, p2, p3, p4⟩
          dsimp only at p1 hv1
          subst hv1
          have hx1 := (p3 _ hkx).trans hxX
          have hf1 := hfX.trans (FrM.of_eq p2 p3 p4)
          have hP1 := p10_at hPX (p3 _ hgk)
          have hb1 := top1_len hk4
          simp +contextual (dsimp := false) [goB_of hx1, hx1]
          obtain ⟨sv1, hb1', hst1, hni1, hnd1⟩ := p1
          have hlt1 := (List.getElem?_eq_some_iff.1 hb1').1
          have hset : ∀ b : Blk, (S1.set k b)[k]? = some b := fun b => List.getElem?_set_self hlt1
          simp +contextual (dsimp := false) [goB_of hb1', hb1', hset, wrap_succ (show at1 < 9223372036854775807 by omega)]
          rw [show doIns ⟨9, tx, xn⟩ ⟨at1, st1, sp1, lk1⟩ = .go ⟨at1 + 1, cut1 st1, sp1, lk1⟩ by simp [doIns, needOf, putOf, moveM, hn]]
          refine ⟨rfl, F1, ⟨_, by rw [List.getElem?_set_self hlt1]; simp [macC], Rp.fr hst1 fun j hj => List.getElem?_set_ne (by rintro rfl; exact hni1 hj), hni1, hnd1⟩, hf1.trans (FrM.of_eq (by simp) (fun j hj => List.getElem?_set_ne (Ne.symm hj)) fun j hj => hj)⟩
      · have hltX : k < HX.length := by omega
        have hset : ∀ b : Blk, (HX.set k b)[k]? = some b := fun b => List.getElem?_set_self hltX
        simp +contextual (dsimp := false) [goB_of hbX, hbX, goB_of hxX, hxX, hn0, hset]
        rw [show doIns ⟨10, tx, xn⟩ ⟨at1, st1, sp1, lk1⟩ = .go ⟨xn.toNat, st1, sp1, lk1⟩ by simp [doIns, needOf, putOf, moveM]]
        refine ⟨rfl, F, ⟨_, by rw [List.getElem?_set_self hltX]; simp [macC, Int.toNat_of_nonneg v5], Rp.fr (Rp.ext hst0 hXe) fun j hj => List.getElem?_set_ne (by rintro rfl; exact hni hj), hni, hnd⟩, hfX.trans (FrM.of_eq (by simp) (fun j hj => List.getElem?_set_ne (Ne.symm hj)) fun j hj => hj)⟩
      · by_cases hn : st1.length < 1
        · have hn' : (st1.length : Int) < 1 := by omega
          simp +contextual (dsimp := false) [goB_of hbX, hbX, goB_of hxX, hxX, hn']
          rw [show doIns ⟨11, tx, xn⟩ ⟨at1, st1, sp1, lk1⟩ = .fin 2 (decN at1) sp1 by simp [doIns, needOf, hn]]
          refine CallK.of ⟨_, Tryz.func222, rfl, rfl⟩ (stuck_ac hmX hPX h2 (by dsimp only; omega)) ?_
          rintro v S' ⟨rfl, q1, q2, q3⟩
          simp +contextual (dsimp := false)
          exact ⟨rfl, _, _, q1, hfX.trans (FrM.of_eq q2 q3 fun j hj => hj)⟩
        · have hn' : ¬ (st1.length : Int) < 1 := by omega
          simp +contextual (dsimp := false) [goB_of hbX, hbX, goB_of hxX, hxX, hn']
          refine CallK.of ⟨_, Tryz.func223, rfl, rfl⟩ (pop_ac hmX (by dsimp only; omega)) ?_
          rintro v S1 ⟨hv1, F1, p1, p2, p3, p4⟩
          dsimp only at p1 hv1
          subst hv1
          have hx1 := (p3 _ hkx).trans hxX
          have hf1 := hfX.trans (FrM.of_eq p2 p3 p4)
          have hP1 := p10_at hPX (p3 _ hgk)
          have hb1 := top1_len hk4
          simp +contextual (dsimp := false) [goB_of hx1, hx1]
          obtain ⟨sv1, hb1', hst1, hni1, hnd1⟩ := p1
          have hlt1 := (List.getElem?_eq_some_iff.1 hb1').1
          have hset : ∀ b : Blk, (S1.set k b)[k]? = some b := fun b => List.getElem?_set_self hlt1
          simp +contextual (dsimp := false) [goB_of hb1', hb1', hset, wrap_succ (show at1 < 9223372036854775807 by omega)]
          rw [show doIns ⟨11, tx, xn⟩ ⟨at1, st1, sp1, lk1⟩ = .go ⟨if falseT (top1 st1) then xn.toNat else at1 + 1, cut1 st1, sp1, lk1⟩ by simp [doIns, needOf, putOf, moveM, hn]]
          have hxt := Int.toNat_of_nonneg v5
          refine ifA_dec (fun ha => ?_) (fun ha => ?_)
          · have hfa : falseT (top1 st1) = true := by simp [falseT, ha]
            refine ⟨rfl, F1, ⟨_, by rw [List.getElem?_set_self hlt1]; simp [macC, hfa, hxt], Rp.fr hst1 fun j hj => List.getElem?_set_ne (by rintro rfl; exact hni1 hj), hni1, hnd1⟩, hf1.trans (FrM.of_eq (by simp) (fun j hj => List.getElem?_set_ne (Ne.symm hj)) fun j hj => hj)⟩
          · refine ifA_dec (fun hb => ?_) (fun hb => ?_)
            · have hfa : falseT (top1 st1) = true := by simp [falseT, hb]
              refine ⟨rfl, F1, ⟨_, by rw [List.getElem?_set_self hlt1]; simp [macC, hfa, hxt], Rp.fr hst1 fun j hj => List.getElem?_set_ne (by rintro rfl; exact hni1 hj), hni1, hnd1⟩, hf1.trans (FrM.of_eq (by simp) (fun j hj => List.getElem?_set_ne (Ne.symm hj)) fun j hj => hj)⟩
            · have hfa : falseT (top1 st1) = false := by simp [falseT, ha, hb]
              refine ⟨rfl, F1, ⟨_, by rw [List.getElem?_set_self hlt1]; simp [macC, hfa], Rp.fr hst1 fun j hj => List.getElem?_set_ne (by rintro rfl; exact hni1 hj), hni1, hnd1⟩, hf1.trans (FrM.of_eq (by simp) (fun j hj => List.getElem?_set_ne (Ne.symm hj)) fun j hj => hj)⟩
      · by_cases hn : st1.length < 1
        · have hn' : (st1.length : Int) < 1 := by omega
          simp +contextual (dsimp := false) [goB_of hbX, hbX, goB_of hxX, hxX, hn']
          rw [show doIns ⟨12, tx, xn⟩ ⟨at1, st1, sp1, lk1⟩ = .fin 2 (decN at1) sp1 by simp [doIns, needOf, hn]]
          refine CallK.of ⟨_, Tryz.func222, rfl, rfl⟩ (stuck_ac hmX hPX h2 (by dsimp only; omega)) ?_
          rintro v S' ⟨rfl, q1, q2, q3⟩
          simp +contextual (dsimp := false)
          exact ⟨rfl, _, _, q1, hfX.trans (FrM.of_eq q2 q3 fun j hj => hj)⟩
        · have hn' : ¬ (st1.length : Int) < 1 := by omega
          simp +contextual (dsimp := false) [goB_of hbX, hbX, goB_of hxX, hxX, hn']
          refine CallK.of ⟨_, Tryz.func223, rfl, rfl⟩ (pop_ac hmX (by dsimp only; omega)) ?_
          rintro v S1 ⟨hv1, F1, p1, p2, p3, p4⟩
          dsimp only at p1 hv1
          subst hv1
          have hx1 := (p3 _ hkx).trans hxX
          have hf1 := hfX.trans (FrM.of_eq p2 p3 p4)
          have hP1 := p10_at hPX (p3 _ hgk)
          have hb1 := top1_len hk4
          simp +contextual (dsimp := false) [goB_of hx1, hx1]
          refine CallK.fl ⟨_, Tryz.func82, rfl, rfl⟩ (isName_ac _ (by unfold okS; omega) _) ?_
          cases hnm : nameOk (top1 st1) with
          | false =>
            simp +contextual (dsimp := false)
            refine CallK.of ⟨_, Tryz.func222, rfl, rfl⟩ (stuck_ac p1 hP1 h2 (by dsimp only; omega)) ?_
            rintro v S' ⟨rfl, q1, q2, q3⟩
            simp +contextual (dsimp := false)
            rw [show doIns ⟨12, tx, xn⟩ ⟨at1, st1, sp1, lk1⟩ = .fin 2 (decN at1) sp1 by simp [doIns, needOf, putOf, moveM, lookM, hn, hnm]]
            exact ⟨rfl, _, _, q1, hf1.trans (FrM.of_eq q2 q3 fun j hj => hj)⟩
          | true =>
            obtain ⟨sv1, hb1', hst1, hni1, hnd1⟩ := p1
            have p1 : MacR 204 S1 k (.slice ac code.length zc) ⟨at1, cut1 st1, sp1, lk1⟩ t F1 := ⟨sv1, hb1', hst1, hni1, hnd1⟩
            have hlt1 := (List.getElem?_eq_some_iff.1 hb1').1
            have hset : ∀ b : Blk, (S1.set k b)[k]? = some b := fun b => List.getElem?_set_self hlt1
            by_cases hlk : lk1 = 200
            · have hlk' : (lk1 : Int) = 200 := by omega
              simp +contextual (dsimp := false) [goB_of hb1', hb1', hlk']
              refine CallK.of ⟨_, Tryz.func180, rfl, rfl⟩ (over_ac p1 3 []) ?_
              rintro v S' ⟨rfl, q1, q2, q3⟩
              simp +contextual (dsimp := false)
              rw [show doIns ⟨12, tx, xn⟩ ⟨at1, st1, sp1, lk1⟩ = .fin 3 [] sp1 by simp [doIns, needOf, putOf, moveM, lookM, hn, hnm, hlk]]
              exact ⟨rfl, _, _, q1, hf1.trans (FrM.of_eq q2 q3 fun j hj => hj)⟩
            · have hlk' : ¬ (lk1 : Int) = 200 := by omega
              have hx1' : ∀ b : Blk, (S1.set k b)[H0.length]? = S1[H0.length]? := fun b => List.getElem?_set_ne (Ne.symm hkx)
              simp +contextual (dsimp := false) [goB_of hb1', hb1', hlk', hset, hx1', hx1, wrap_succ (show lk1 < 9223372036854775807 by omega)]
              rw [show doIns ⟨12, tx, xn⟩ ⟨at1, st1, sp1, lk1⟩ = .look true (top1 st1) ⟨at1, cut1 st1, sp1, lk1 + 1⟩ by simp [doIns, needOf, putOf, moveM, lookM, hn, hnm, hlk]]
              refine ⟨rfl, F1, ⟨_, by rw [List.getElem?_set_self hlt1]; simp [macC, hlk], Rp.fr hst1 fun j hj => List.getElem?_set_ne (by rintro rfl; exact hni1 hj), hni1, hnd1⟩, hf1.trans (FrM.of_eq (by simp) (fun j hj => List.getElem?_set_ne (Ne.symm hj)) fun j hj => hj)⟩
      · by_cases hn : st1.length < 1
        · have hn' : (st1.length : Int) < 1 := by omega
          simp +contextual (dsimp := false) [goB_of hbX, hbX, goB_of hxX, hxX, hn']
          rw [show doIns ⟨13, tx, xn⟩ ⟨at1, st1, sp1, lk1⟩ = .fin 2 (decN at1) sp1 by simp [doIns, needOf, hn]]
          refine CallK.of ⟨_, Tryz.func222, rfl, rfl⟩ (stuck_ac hmX hPX h2 (by dsimp only; omega)) ?_
          rintro v S' ⟨rfl, q1, q2, q3⟩
          simp +contextual (dsimp := false)
          exact ⟨rfl, _, _, q1, hfX.trans (FrM.of_eq q2 q3 fun j hj => hj)⟩
        · have hn' : ¬ (st1.length : Int) < 1 := by omega
          simp +contextual (dsimp := false) [goB_of hbX, hbX, goB_of hxX, hxX, hn']
          refine CallK.of ⟨_, Tryz.func223, rfl, rfl⟩ (pop_ac hmX (by dsimp only; omega)) ?_
          rintro v S1 ⟨hv1, F1, p1, p2, p3, p4⟩
          dsimp only at p1 hv1
          subst hv1
          have hx1 := (p3 _ hkx).trans hxX
          have hf1 := hfX.trans (FrM.of_eq p2 p3 p4)
          have hP1 := p10_at hPX (p3 _ hgk)
          have hb1 := top1_len hk4
          simp +contextual (dsimp := false) [goB_of hx1, hx1]
          refine CallK.fl ⟨_, Tryz.func82, rfl, rfl⟩ (isName_ac _ (by unfold okS; omega) _) ?_
          cases hnm : nameOk (top1 st1) with
          | false =>
            simp +contextual (dsimp := false)
            refine CallK.of ⟨_, Tryz.func222, rfl, rfl⟩ (stuck_ac p1 hP1 h2 (by dsimp only; omega)) ?_
            rintro v S' ⟨rfl, q1, q2, q3⟩
            simp +contextual (dsimp := false)
            rw [show doIns ⟨13, tx, xn⟩ ⟨at1, st1, sp1, lk1⟩ = .fin 2 (decN at1) sp1 by simp [doIns, needOf, putOf, moveM, lookM, hn, hnm]]
            exact ⟨rfl, _, _, q1, hf1.trans (FrM.of_eq q2 q3 fun j hj => hj)⟩
          | true =>
            obtain ⟨sv1, hb1', hst1, hni1, hnd1⟩ := p1
            have p1 : MacR 204 S1 k (.slice ac code.length zc) ⟨at1, cut1 st1, sp1, lk1⟩ t F1 := ⟨sv1, hb1', hst1, hni1, hnd1⟩
            have hlt1 := (List.getElem?_eq_some_iff.1 hb1').1
            have hset : ∀ b : Blk, (S1.set k b)[k]? = some b := fun b => List.getElem?_set_self hlt1
            by_cases hlk : lk1 = 200
            · have hlk' : (lk1 : Int) = 200 := by omega
              simp +contextual (dsimp := false) [goB_of hb1', hb1', hlk']
              refine CallK.of ⟨_, Tryz.func180, rfl, rfl⟩ (over_ac p1 3 []) ?_
              rintro v S' ⟨rfl, q1, q2, q3⟩
              simp +contextual (dsimp := false)
              rw [show doIns ⟨13, tx, xn⟩ ⟨at1, st1, sp1, lk1⟩ = .fin 3 [] sp1 by simp [doIns, needOf, putOf, moveM, lookM, hn, hnm, hlk]]
              exact ⟨rfl, _, _, q1, hf1.trans (FrM.of_eq q2 q3 fun j hj => hj)⟩
            · have hlk' : ¬ (lk1 : Int) = 200 := by omega
              have hx1' : ∀ b : Blk, (S1.set k b)[H0.length]? = S1[H0.length]? := fun b => List.getElem?_set_ne (Ne.symm hkx)
              simp +contextual (dsimp := false) [goB_of hb1', hb1', hlk', hset, hx1', hx1, wrap_succ (show lk1 < 9223372036854775807 by omega)]
              rw [show doIns ⟨13, tx, xn⟩ ⟨at1, st1, sp1, lk1⟩ = .look false (top1 st1) ⟨at1, cut1 st1, sp1, lk1 + 1⟩ by simp [doIns, needOf, putOf, moveM, lookM, hn, hnm, hlk]]
              refine ⟨rfl, F1, ⟨_, by rw [List.getElem?_set_self hlt1]; simp [macC, hlk], Rp.fr hst1 fun j hj => List.getElem?_set_ne (by rintro rfl; exact hni1 hj), hni1, hnd1⟩, hf1.trans (FrM.of_eq (by simp) (fun j hj => List.getElem?_set_ne (Ne.symm hj)) fun j hj => hj)⟩
      · by_cases hn : st1.length < 1
        · have hn' : (st1.length : Int) < 1 := by omega
          simp +contextual (dsimp := false) [goB_of hbX, hbX, goB_of hxX, hxX, hn']
          rw [show doIns ⟨14, tx, xn⟩ ⟨at1, st1, sp1, lk1⟩ = .fin 2 (decN at1) sp1 by simp [doIns, needOf, hn]]
          refine CallK.of ⟨_, Tryz.func222, rfl, rfl⟩ (stuck_ac hmX hPX h2 (by dsimp only; omega)) ?_
          rintro v S' ⟨rfl, q1, q2, q3⟩
          simp +contextual (dsimp := false)
          exact ⟨rfl, _, _, q1, hfX.trans (FrM.of_eq q2 q3 fun j hj => hj)⟩
        · have hn' : ¬ (st1.length : Int) < 1 := by omega
          simp +contextual (dsimp := false) [goB_of hbX, hbX, goB_of hxX, hxX, hn']
          refine CallK.of ⟨_, Tryz.func223, rfl, rfl⟩ (pop_ac hmX (by dsimp only; omega)) ?_
          rintro v S1 ⟨hv1, F1, p1, p2, p3, p4⟩
          dsimp only at p1 hv1
          subst hv1
          have hx1 := (p3 _ hkx).trans hxX
          have hf1 := hfX.trans (FrM.of_eq p2 p3 p4)
          have hP1 := p10_at hPX (p3 _ hgk)
          have hb1 := top1_len hk4
          simp +contextual (dsimp := false)
          refine CallK.of ⟨_, Tryz.func180, rfl, rfl⟩ (over_ac p1 1 _) ?_
          rintro v S' ⟨rfl, q1, q2, q3⟩
          simp +contextual (dsimp := false)
          rw [show doIns ⟨14, tx, xn⟩ ⟨at1, st1, sp1, lk1⟩ = .fin 1 (top1 st1) sp1 by simp [doIns, needOf, putOf, moveM, hn]]
          exact ⟨rfl, _, _, q1, hf1.trans (FrM.of_eq q2 q3 fun j hj => hj)⟩
      · by_cases hn : st1.length < 1
        · have hn' : (st1.length : Int) < 1 := by omega
          simp +contextual (dsimp := false) [goB_of hbX, hbX, goB_of hxX, hxX, hn']
          rw [show doIns ⟨15, tx, xn⟩ ⟨at1, st1, sp1, lk1⟩ = .fin 2 (decN at1) sp1 by simp [doIns, needOf, hn]]
          refine CallK.of ⟨_, Tryz.func222, rfl, rfl⟩ (stuck_ac hmX hPX h2 (by dsimp only; omega)) ?_
          rintro v S' ⟨rfl, q1, q2, q3⟩
          simp +contextual (dsimp := false)
          exact ⟨rfl, _, _, q1, hfX.trans (FrM.of_eq q2 q3 fun j hj => hj)⟩
        · have hn' : ¬ (st1.length : Int) < 1 := by omega
          simp +contextual (dsimp := false) [goB_of hbX, hbX, goB_of hxX, hxX, hn']
          refine CallK.of ⟨_, Tryz.func223, rfl, rfl⟩ (pop_ac hmX (by dsimp only; omega)) ?_
          rintro v S1 ⟨hv1, F1, p1, p2, p3, p4⟩
          dsimp only at p1 hv1
          subst hv1
          have hx1 := (p3 _ hkx).trans hxX
          have hf1 := hfX.trans (FrM.of_eq p2 p3 p4)
          have hP1 := p10_at hPX (p3 _ hgk)
          have hb1 := top1_len hk4
          simp +contextual (dsimp := false)
          refine CallK.of ⟨_, Tryz.func180, rfl, rfl⟩ (over_ac p1 0 _) ?_
          rintro v S' ⟨rfl, q1, q2, q3⟩
          simp +contextual (dsimp := false)
          rw [show doIns ⟨15, tx, xn⟩ ⟨at1, st1, sp1, lk1⟩ = .fin 0 (top1 st1) sp1 by simp [doIns, needOf, putOf, moveM, hn]]
          exact ⟨rfl, _, _, q1, hf1.trans (FrM.of_eq q2 q3 fun j hj => hj)⟩
end Go.Proofs.YtephpieeibcihaaGreatDoor
namespace Go.Am
open Go
def EndM (mt : TypeId) (H : Heap) (k : Nat) (cv : Value) (F : List Nat) (o : Out) (S' : Heap) : Prop := match o with
  | .go _ => False
  | .fin c tx n => ∃ m' F', MacR mt S' k cv m' ⟨true, c, tx, false, [], n⟩ F' ∧ FrM H k F S' F'
  | .look a nm m' => ∃ F', MacR mt S' k cv m' ⟨false, 0, [], a, nm, m'.steps⟩ F' ∧ FrM H k F S' F'
theorem EndM.trans {mt : TypeId} {H H1 S' : Heap} {k : Nat} {cv : Value} {F F1 : List Nat} {o : Out} (h1 : FrM H k F H1 F1) (h : EndM mt H1 k cv F1 o S') : EndM mt H k cv F o S' := by
  cases o with
  | go m => exact h
  | fin c tx n =>
    obtain ⟨m', F', a, b⟩ := h
    exact ⟨m', F', a, h1.trans b⟩
  | look a nm m' =>
    obtain ⟨F', a, b⟩ := h
    exact ⟨F', a, h1.trans b⟩
end Go.Am
namespace Go.Proofs.YtephpieeibcihaaGreatDoor
open Go Go.Am Go.Proofs
set_option maxRecDepth 20000
variable {ng : Nat}
structure NeedM (own : Bool) (H : Heap) (k : Nat) (cv : Value) (code : List Ins) (F FC : List Nat) : Prop where
  code : CodeR own H code [cv] FC
  kC : k ∉ FC
  dC : ∀ j ∈ FC, j ∉ F
  p10 : P10 g10 H
  gk : g10 ≠ k
  gF : g10 ∉ F
theorem NeedM.fr {own : Bool} {H H' : Heap} {k : Nat} {cv : Value} {code : List Ins} {F F' FC : List Nat} (h : NeedM own H k cv code F FC) (hf : FrM H k F H' F') : NeedM own H' k cv code F' FC := by
  obtain ⟨f1, f2, f3⟩ := hf
  have hg : g10 < H.length := by
    obtain ⟨_, _, hh⟩ := h.p10
    exact (List.getElem?_eq_some_iff.1 hh).1
  refine ⟨Rp.fr h.code fun j hj => f2 j (Rp.lt h.code j hj) (by rintro rfl; exact h.kC hj) (h.dC j hj), h.kC, fun j hj hm => ?_, p10_at h.p10 (f2 _ hg h.gk h.gF), h.gk, fun hm => ?_⟩
  · have := Rp.lt h.code j hj
    rcases f3 j hm with h1 | h1
    · omega
    · exact h.dC j hj h1
  · rcases f3 _ hm with h1 | h1
    · omega
    · exact h.gF h1
theorem run_ac {own : Bool} {H : Heap} {k : Nat} {cv : Value} {code : List Ins} {m : Mst} {t : Trn} {F FC : List Nat} (h : MacR 204 H k cv m t F) (hn : NeedM own H k cv code F FC)
    (hv : validP code = true) (hk : Mok m) (h2 : g10 < ng) :
    AC Tryz.prog ng 133 [.pointer (some ⟨k, 0, none⟩)] H fun v S' => v = .tuple #[] ∧ EndM 204 H k cv F (run code m) S' := by
  refine AC.go [] Tryz.func133 rfl Tryz.ntmps133 rfl ⟨mixed, by kernel_rfl⟩ ?_
  simp +contextual (dsimp := false)
  refine LoopA.up (σ := Mst × Heap × List Nat) [0] (fun i => []) (fun i => i.2.1)
    (fun x => MacR 204 x.2.1 k cv x.1 t x.2.2 ∧ FrM H k F x.2.1 x.2.2 ∧ Mok x.1 ∧ run code m = run code x.1) (fun i => 2001 - i.1.steps) (m, H, F) rfl ⟨h, FrM.refl _ _ _, hk, rfl⟩ ?_
  rintro ⟨mi, hp, FB⟩ ⟨hm, hf, hki, hr⟩
  dsimp only at hm hf hki hr
  have hni := hn.fr hf
  have hsi := hki.steps
  simp +contextual (dsimp := false)
  refine CallK.of ⟨_, Tryz.func179, rfl, rfl⟩ (step_ac hm hni.code hni.kC hv hki hni.p10 h2 hni.gk hni.gF) ?_
  intro v S' hS
  rw [run_eq code hsi] at hr
  cases hs : mstep code mi with
  | go m' =>
    rw [hs] at hS hr
    obtain ⟨rfl, F', q1, q2⟩ := hS
    have hg := mstep_go hs
    simp +contextual (dsimp := false)
    exact LoopN.of (m', S', F') rfl ⟨q1, hf.trans q2, mstep_ok hv hki hs, hr⟩ (by dsimp only; omega)
  | fin c tx n =>
    rw [hs] at hS hr
    obtain ⟨rfl, m', F', q1, q2⟩ := hS
    simp +contextual (dsimp := false)
    rw [hr]
    exact ⟨m', F', q1, hf.trans q2⟩
  | look a nm m' =>
    rw [hs] at hS hr
    obtain ⟨rfl, F', q1, q2⟩ := hS
    simp +contextual (dsimp := false)
    rw [hr]
    exact ⟨F', q1, hf.trans q2⟩
theorem answer_ac {own : Bool} {H : Heap} {k : Nat} {cv : Value} {code : List Ins} {m : Mst} {ask : Bool} {name : List UInt8} {r : Rpl} {F FC : List Nat} (h : MacR 204 H k cv m ⟨false, 0, [], ask, name, m.steps⟩ F) (hn : NeedM own H k cv code F FC)
    (hv : validP code = true) (hk : Mok m) (hl : m.stk.length ≤ 49) (ha : m.at_ < 200) (hrp : replyOk r = true) (h2 : g10 < ng) :
    AC Tryz.prog ng 135 [.pointer (some ⟨k, 0, none⟩), .agg r.c.toArray] H fun v S' => v = .tuple #[] ∧ EndM 204 H k cv F (runO code (answ ask name m r)) S' := by
  obtain ⟨at1, st1, sp1, lk1⟩ := m
  obtain ⟨has, rc, tx⟩ := r
  have hr' : tx.length ≤ 2000 := by
    simp only [replyOk, Bool.and_eq_true, decide_eq_true_eq] at hrp
    exact hrp.1.1
  dsimp only at h hl ha
  have hlt := h.lt.1
  refine AC.go [] Tryz.func135 rfl Tryz.ntmps135 rfl ⟨mixed, by kernel_rfl⟩ ?_
  simp +contextual (dsimp := false) [Rpl.c]
  obtain ⟨H1, hH1⟩ : ∃ H1, H1 = H ++ [(⟨.cells #[.bool has, .int .i64 rc, .string ⟨⟨tx⟩⟩] 185 (0, 0), true, true⟩ : Blk)] := ⟨_, rfl⟩
  have hx1 : H1[H.length]? = some ⟨.cells #[.bool has, .int .i64 rc, .string ⟨⟨tx⟩⟩] 185 (0, 0), true, true⟩ := by rw [hH1]; simp
  have he1 : Ext H H1 := by rw [hH1]; exact Ext.app _ _
  have h1 := h.ext he1
  have hf1 : FrM H k F H1 F := ⟨he1.le, fun j hj _ _ => he1 j hj, fun j hj => .inr hj⟩
  have hlt1' : k < H1.length := by have := he1.le; omega
  rw [← hH1]
  have h1' := h1
  obtain ⟨sv, hb1, hst1, hni, hnd⟩ := h1
  dsimp only at hst1
  obtain ⟨a0, z0, rfl⟩ := hst1.form
  clear hH1
  cases ask with
  | false =>
    cases has with
    | true =>
      simp +contextual (dsimp := false) [goB_of hb1, hb1, goB_of hx1, hx1]
      have hgo : answ false name ⟨at1, st1, sp1, lk1⟩ ⟨true, rc, tx⟩ = .go ⟨at1 + 1, st1 ++ [[49]], sp1, lk1⟩ := by simp [answ, flagT]
      have hpx : okS [49] := by simp [okS]
      rw [show (Value.string { data := #[49] }) = str [49] from rfl]
      generalize ([49] : List UInt8) = px at hgo hpx ⊢
      refine AppK.one (R := strR) (l := st1) (ex := 9) (fx := (0, 0)) (ox := true) (base := 0) (x := px) (cx := [str px]) (Fx := []) slt24 und24 (Rp.ext hst1 (Ext.app _ _)) ⟨by simp, hnd⟩ (by simp) ⟨rfl, rfl, hpx⟩ (Fresh.nil _) (by simp) (Nat.zero_le _) (by omega) (by omega) ?_
      intro s1 H2 F2 q1 q2 q3 q4 q5
      simp only [List.length_append, List.length_singleton] at q3 q4 q5
      have e1 : H2[k]? = _ := (q4 k (by omega) hni).trans ((get_ext (by omega)).trans hb1)
      obtain ⟨a1, z1, rfl⟩ := q1.form
      have hlt1 : k < H2.length := by omega
      have hset : ∀ b : Blk, (H2.set k b)[k]? = some b := fun b => List.getElem?_set_self hlt1
      simp +contextual (dsimp := false) [goB_of e1, e1, hset, wrap_succ (show at1 < 9223372036854775807 by omega)]
      rw [List.length_append, List.length_singleton] at q1
      have hk1' : k ∉ F2 := fun hm => by
        rcases q5 k hm with h | h | h
        · exact hni h
        · cases h
        · omega
      obtain ⟨H4, hH4⟩ : ∃ H4, H4 = H2.set k (⟨.cells #[cv, .slice a1 (st1.length + 1) z1, .int .i64 ((at1 : Int) + 1), int sp1, int lk1, .bool false, int 0, str [], (.bool false), str name, int sp1] 204 (0, 0), true, true⟩ : Blk) := ⟨_, rfl⟩
      rw [show H2.set k _ = H4 from hH4.symm]
      have h14 : ∀ j, j ≠ k → H4[j]? = H2[j]? := fun j hj => by rw [hH4]; exact List.getElem?_set_ne (Ne.symm hj)
      have hmz : MacR 204 H4 k cv ⟨at1 + 1, st1 ++ [px], sp1, lk1⟩ ⟨false, 0, [], false, name, sp1⟩ F2 := ⟨_, by rw [hH4, List.getElem?_set_self hlt1]; simp [macC], Rp.fr q1 fun j hj => h14 j (by rintro rfl; exact hk1' hj), hk1', q2.2⟩
      have hfz : FrM H k F H4 F2 := hf1.trans ⟨by rw [hH4]; simp; omega, fun j hj h1 h2 => (h14 j h1).trans ((q4 j (by omega) h2).trans (get_ext hj)), fun j hj => by
        rcases q5 j hj with h | h | h
        · exact .inr h
        · cases h
        · exact .inl (by omega)⟩
      refine CallK.of ⟨_, Tryz.func133, rfl, rfl⟩ (run_ac hmz (hn.fr hfz) hv (answ_ok hk hl ha hrp hgo) h2) ?_
      rintro v S' ⟨rfl, q⟩
      simp +contextual (dsimp := false)
      rw [show answ _ name ⟨at1, st1, sp1, lk1⟩ _ = .go ⟨at1 + 1, st1 ++ [px], sp1, lk1⟩ from hgo]
      exact EndM.trans hfz q
    | false =>
      simp +contextual (dsimp := false) [goB_of hb1, hb1, goB_of hx1, hx1]
      have hgo : answ false name ⟨at1, st1, sp1, lk1⟩ ⟨false, rc, tx⟩ = .go ⟨at1 + 1, st1 ++ [[48]], sp1, lk1⟩ := by simp [answ, flagT]
      have hpx : okS [48] := by simp [okS]
      rw [show (Value.string { data := #[48] }) = str [48] from rfl]
      generalize ([48] : List UInt8) = px at hgo hpx ⊢
      refine AppK.one (R := strR) (l := st1) (ex := 9) (fx := (0, 0)) (ox := true) (base := 0) (x := px) (cx := [str px]) (Fx := []) slt24 und24 (Rp.ext hst1 (Ext.app _ _)) ⟨by simp, hnd⟩ (by simp) ⟨rfl, rfl, hpx⟩ (Fresh.nil _) (by simp) (Nat.zero_le _) (by omega) (by omega) ?_
      intro s1 H2 F2 q1 q2 q3 q4 q5
      simp only [List.length_append, List.length_singleton] at q3 q4 q5
      have e1 : H2[k]? = _ := (q4 k (by omega) hni).trans ((get_ext (by omega)).trans hb1)
      obtain ⟨a1, z1, rfl⟩ := q1.form
      have hlt1 : k < H2.length := by omega
      have hset : ∀ b : Blk, (H2.set k b)[k]? = some b := fun b => List.getElem?_set_self hlt1
      simp +contextual (dsimp := false) [goB_of e1, e1, hset, wrap_succ (show at1 < 9223372036854775807 by omega)]
      rw [List.length_append, List.length_singleton] at q1
      have hk1' : k ∉ F2 := fun hm => by
        rcases q5 k hm with h | h | h
        · exact hni h
        · cases h
        · omega
      obtain ⟨H4, hH4⟩ : ∃ H4, H4 = H2.set k (⟨.cells #[cv, .slice a1 (st1.length + 1) z1, .int .i64 ((at1 : Int) + 1), int sp1, int lk1, .bool false, int 0, str [], (.bool false), str name, int sp1] 204 (0, 0), true, true⟩ : Blk) := ⟨_, rfl⟩
      rw [show H2.set k _ = H4 from hH4.symm]
      have h14 : ∀ j, j ≠ k → H4[j]? = H2[j]? := fun j hj => by rw [hH4]; exact List.getElem?_set_ne (Ne.symm hj)
      have hmz : MacR 204 H4 k cv ⟨at1 + 1, st1 ++ [px], sp1, lk1⟩ ⟨false, 0, [], false, name, sp1⟩ F2 := ⟨_, by rw [hH4, List.getElem?_set_self hlt1]; simp [macC], Rp.fr q1 fun j hj => h14 j (by rintro rfl; exact hk1' hj), hk1', q2.2⟩
      have hfz : FrM H k F H4 F2 := hf1.trans ⟨by rw [hH4]; simp; omega, fun j hj h1 h2 => (h14 j h1).trans ((q4 j (by omega) h2).trans (get_ext hj)), fun j hj => by
        rcases q5 j hj with h | h | h
        · exact .inr h
        · cases h
        · exact .inl (by omega)⟩
      refine CallK.of ⟨_, Tryz.func133, rfl, rfl⟩ (run_ac hmz (hn.fr hfz) hv (answ_ok hk hl ha hrp hgo) h2) ?_
      rintro v S' ⟨rfl, q⟩
      simp +contextual (dsimp := false)
      rw [show answ _ name ⟨at1, st1, sp1, lk1⟩ _ = .go ⟨at1 + 1, st1 ++ [px], sp1, lk1⟩ from hgo]
      exact EndM.trans hfz q
  | true =>
    cases has with
    | false =>
      simp +contextual (dsimp := false) [goB_of hb1, hb1, goB_of hx1, hx1]
      refine CallK.of ⟨_, Tryz.func180, rfl, rfl⟩ (over_ac h1' 4 name) ?_
      rintro v S' ⟨rfl, q1, q2, q3⟩
      simp +contextual (dsimp := false)
      rw [show answ true name ⟨at1, st1, sp1, lk1⟩ ⟨false, rc, tx⟩ = .fin 4 name sp1 by simp [answ]]
      exact ⟨_, _, q1, hf1.trans (FrM.of_eq q2 q3 fun j hj => hj)⟩
    | true =>
      by_cases hc0 : rc = 0
      · subst hc0
        simp +contextual (dsimp := false) [goB_of hb1, hb1, goB_of hx1, hx1]
        have hgo : answ true name ⟨at1, st1, sp1, lk1⟩ ⟨true, 0, tx⟩ = .go ⟨at1 + 1, st1 ++ [tx], sp1, lk1⟩ := by simp [answ]
        obtain ⟨px, hpxe⟩ : ∃ px, px = tx := ⟨_, rfl⟩
        have hpx : okS px := by unfold okS; rw [hpxe]; omega
        rw [← hpxe] at hgo hrp ⊢
        refine AppK.one (R := strR) (l := st1) (ex := 9) (fx := (0, 0)) (ox := true) (base := 0) (x := px) (cx := [str px]) (Fx := []) slt24 und24 (Rp.ext hst1 (Ext.app _ _)) ⟨by simp, hnd⟩ (by simp) ⟨rfl, rfl, hpx⟩ (Fresh.nil _) (by simp) (Nat.zero_le _) (by omega) (by omega) ?_
        intro s1 H2 F2 q1 q2 q3 q4 q5
        simp only [List.length_append, List.length_singleton] at q3 q4 q5
        have e1 : H2[k]? = _ := (q4 k (by omega) hni).trans ((get_ext (by omega)).trans hb1)
        obtain ⟨a1, z1, rfl⟩ := q1.form
        have hlt1 : k < H2.length := by omega
        have hset : ∀ b : Blk, (H2.set k b)[k]? = some b := fun b => List.getElem?_set_self hlt1
        simp +contextual (dsimp := false) [goB_of e1, e1, hset, wrap_succ (show at1 < 9223372036854775807 by omega)]
        rw [List.length_append, List.length_singleton] at q1
        have hk1' : k ∉ F2 := fun hm => by
          rcases q5 k hm with h | h | h
          · exact hni h
          · cases h
          · omega
        obtain ⟨H4, hH4⟩ : ∃ H4, H4 = H2.set k (⟨.cells #[cv, .slice a1 (st1.length + 1) z1, .int .i64 ((at1 : Int) + 1), int sp1, int lk1, .bool false, int 0, str [], (.bool true), str name, int sp1] 204 (0, 0), true, true⟩ : Blk) := ⟨_, rfl⟩
        rw [show H2.set k _ = H4 from hH4.symm]
        have h14 : ∀ j, j ≠ k → H4[j]? = H2[j]? := fun j hj => by rw [hH4]; exact List.getElem?_set_ne (Ne.symm hj)
        have hmz : MacR 204 H4 k cv ⟨at1 + 1, st1 ++ [px], sp1, lk1⟩ ⟨false, 0, [], true, name, sp1⟩ F2 := ⟨_, by rw [hH4, List.getElem?_set_self hlt1]; simp [macC], Rp.fr q1 fun j hj => h14 j (by rintro rfl; exact hk1' hj), hk1', q2.2⟩
        have hfz : FrM H k F H4 F2 := hf1.trans ⟨by rw [hH4]; simp; omega, fun j hj h1 h2 => (h14 j h1).trans ((q4 j (by omega) h2).trans (get_ext hj)), fun j hj => by
          rcases q5 j hj with h | h | h
          · exact .inr h
          · cases h
          · exact .inl (by omega)⟩
        refine CallK.of ⟨_, Tryz.func133, rfl, rfl⟩ (run_ac hmz (hn.fr hfz) hv (answ_ok hk hl ha hrp hgo) h2) ?_
        rintro v S' ⟨rfl, q⟩
        simp +contextual (dsimp := false)
        rw [show answ _ name ⟨at1, st1, sp1, lk1⟩ _ = .go ⟨at1 + 1, st1 ++ [px], sp1, lk1⟩ from hgo]
        exact EndM.trans hfz q
      · simp +contextual (dsimp := false) [goB_of hb1, hb1, goB_of hx1, hx1, hc0]
        refine CallK.of ⟨_, Tryz.func180, rfl, rfl⟩ (over_ac h1' 5 name) ?_
        rintro v S' ⟨rfl, q1, q2, q3⟩
        simp +contextual (dsimp := false)
        rw [show answ true name ⟨at1, st1, sp1, lk1⟩ ⟨true, rc, tx⟩ = .fin 5 name sp1 by simp [answ, hc0]]
        exact ⟨_, _, q1, hf1.trans (FrM.of_eq q2 q3 fun j hj => hj)⟩
end Go.Proofs.YtephpieeibcihaaGreatDoor
namespace Go.Proofs.YtephpieeibcihaaGreatDoor
open Go Go.Am Go.Proofs
set_option maxRecDepth 20000
variable {ng : Nat}
end Go.Proofs.YtephpieeibcihaaGreatDoor
