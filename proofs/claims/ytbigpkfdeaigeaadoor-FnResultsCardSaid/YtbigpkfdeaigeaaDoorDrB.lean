/- A text with one place changed; what is drawn of results. No condition. -/
import Derived.Test.YtbigpkfdeaigeaaDoorDrS
set_option linter.unusedSimpArgs false
set_option linter.unusedVariables false
namespace Go.Proofs.YtbigpkfdeaigeaaDoor
open Go Go.Am Go.Proofs
set_option maxRecDepth 100000
variable {ng : Nat}
theorem cells_str {H : Heap} : ∀ {l : List (List UInt8)}, (∀ x ∈ l, okS x) → RepL strR H l (l.map (fun s => .string ⟨⟨s⟩⟩)) []
  | [], _ => ⟨rfl, rfl⟩
  | x :: l, h => ⟨[.string ⟨⟨x⟩⟩], _, [], [], rfl, rfl, ⟨rfl, rfl, h x (by simp)⟩, cells_str fun y hy => h y (by simp [hy])⟩
theorem u8w (z : Int) : ∃ x : UInt8, IntKind.u8.wrap z = (x.toNat : Int) := by
  have h1 : 0 ≤ IntKind.u8.wrap z ∧ IntKind.u8.wrap z < 256 := by
    unfold IntKind.wrap
    simp [IntKind.signed, IntKind.bits]
    omega
  exact ⟨UInt8.ofNat (IntKind.u8.wrap z).toNat, by
    rw [UInt8.toNat_ofNat']
    omega⟩
set_option maxHeartbeats 2000000 in
theorem l1Bend_ac {s : List UInt8} {H : Heap} {rd n : Nat} (h : RdS H rd n) (hn : 3 ≤ n) (hs : s.length ≤ 100000000) :
    AC Tryd.prog ng 25 [.pointer (some ⟨rd, 0, none⟩), str s] H fun v S' => ∃ t : List UInt8, v = str t ∧ t.length ≤ 2 * s.length + 10 ∧ Dr H rd (n - 3) S' := by
  have hlt := h.lt
  refine AC.go [(6, .take 0 <| .take 1 <| .take 2 <| .take 4 <| .take 9 <| .take 10 <| .take 11 <| .two 3 [] (.one 5 [] <| .take 6 <| .take 7 <| .take 8 <| .take 12 <| .take 13 <| .done) 5 [] (.one 3 [] <| .take 6 <| .take 7 <| .take 8 <| .take 12 <| .take 13 <| .done))] Tryd.func25 rfl Tryd.ntmps25 rfl ⟨mixed, by kernel_rfl⟩ ?_
  simp (dsimp := false)
  have hw : IntKind.i64.wrap ((s.length : Int) + 1) = ((s.length + 1 : Nat) : Int) := wrap_succ (by omega)
  rw [hw]
  refine CallK.of ⟨_, Tryd.func19, rfl, rfl⟩ (pickR h (by omega) ((s.length + 1 : Nat) : Int)) ?_
  rintro v S1 ⟨i, rfl, -, hi, -, hr, h1⟩
  have hi := hi (by omega)
  have hd1 := (Dr.mk0 h).step hr h1
  clear hr h1
  simp (dsimp := false)
  refine CallK.of ⟨_, Tryd.func19, rfl, rfl⟩ (pickR hd1.rdr (by omega) 5) ?_
  rintro v S2 ⟨q, rfl, -, hq, -, hr, h1⟩
  have hq := hq (by decide)
  have hd2 := hd1.step hr h1
  clear hr h1
  have c1 : sliceZ Tryd.prog (some .string) (str s) none (some (.int .i64 (i : Int))) none = some (str (s.take i)) := by
    have := sliceZ_to (P := Tryd.prog) (k := .i64) (l := s) (j := (i : Int)) (by omega) (by omega)
    rwa [Int.toNat_natCast] at this
  have c2 : sliceZ Tryd.prog (some .string) (str s) (some (.int .i64 (i : Int))) none none = some (str (s.drop i)) := by
    have := sliceZ_from (P := Tryd.prog) (k := .i64) (l := s) (j := (i : Int)) (by omega) (by omega)
    rwa [Int.toNat_natCast] at this
  have l1 : (s.take i).length = i := by rw [List.length_take]; omega
  have l2 : (s.drop i).length = s.length - i := List.length_drop ..
  generalize s.take i = A at c1 l1
  generalize hB : s.drop i = B at c2 l2
  have a1 := fun x y => bin_ladd (P := Tryd.prog) (t := 9) (x := x) (y := y) (l := s) (r := B) (by omega)
  have hqq : q = 0 ∨ q = 1 ∨ q = 2 ∨ q = 3 ∨ q = 4 := by omega
  rcases hqq with rfl | rfl | rfl | rfl | rfl
  · simp (dsimp := false) [c1]
    exact ⟨by omega, hd2.weak (by omega)⟩
  · simp (dsimp := false) [c1, c2]
    obtain ⟨LL, hLL⟩ : ∃ LL : List (List UInt8), LL = [[32], [10], [34], [92], [48], [120], [92, 52], [101, 110, 100], [92, 122, 122], [92, 70, 70]] := ⟨_, rfl⟩
    have hL3 : ∀ x ∈ LL, x.length ≤ 3 := by rw [hLL]; decide
    have hLl : LL.length = 10 := by rw [hLL]; rfl
    with_reducible refine And.intro ?_ ?_
    · refine CallK.of ⟨_, Tryd.func19, rfl, rfl⟩ (pickR (hd2.app).rdr (by omega) 10) ?_
      rintro v S3 ⟨p, rfl, -, hp, -, hr, h1⟩
      have hp := hp (by decide)
      have hd3 := hd2.app.step hr h1
      have hbl : S3[S2.length]? = some (⟨.cells (LL.map (fun s => Value.string ⟨⟨s⟩⟩)).toArray 9 (0, 0), true, true⟩ : Blk) := (hr.2 _ (by simp) (by have := hd2.le; omega)).trans (by rw [hLL]; simp)
      have hsl : StrsR true S3 LL [.slice (some ⟨S2.length, 0, none⟩) LL.length 1] [S2.length] := SlR.lit (R := strR) (own := true) (l := LL) (G := []) hbl (cells_str fun x hx => by have := hL3 x hx; unfold okS; omega) (by omega) (fun _ => rfl)
      rw [hLl] at hsl
      obtain ⟨id, o, c, e, f, ow, cs, Fi, E⟩ := SlR.get hsl p (by omega)
      have hX := hL3 _ (List.getElem_mem (show p < LL.length by omega))
      have hE := E.rep
      generalize LL[p]'(by omega) = X at E hX hE
      obtain ⟨rfl, rfl, -⟩ := hE
      have a2 := fun x y => bin_ladd (P := Tryd.prog) (t := 9) (x := x) (y := y) (l := A) (r := X) (by omega)
      have a3 := fun x y => bin_ladd (P := Tryd.prog) (t := 9) (x := x) (y := y) (l := A ++ X) (r := B) (by simp; omega)
      simp (dsimp := false) [E.idx, E.goB, E.le, E.lt, E.cell0, a2, a3]
      exact ⟨by omega, hd3.weak (by omega)⟩
    · refine CallK.of ⟨_, Tryd.func19, rfl, rfl⟩ (pickR hd2.rdr (by omega) 10) ?_
      rintro v S3 ⟨p, rfl, -, hp, -, hr, h1⟩
      have hp := hp (by decide)
      have hd3 := hd2.step hr h1
      simp (dsimp := false)
      obtain ⟨S4, hS4⟩ : ∃ q, q = S3 ++ [(⟨.cells #[str [32], str [10], str [34], str [92], str [48], str [120], str [92, 52], str [101, 110, 100], str [92, 122, 122], str [92, 70, 70]] 9 (0, 0), true, true⟩ : Blk)] := ⟨_, rfl⟩
      have hd4 := hd3.ext (S' := S4) (by rw [hS4]; exact Ext.app _ _)
      have hbl : S4[S3.length]? = some (⟨.cells (LL.map (fun s => Value.string ⟨⟨s⟩⟩)).toArray 9 (0, 0), true, true⟩ : Blk) := by rw [hS4, hLL]; simp
      have hsl : StrsR true S4 LL [.slice (some ⟨S3.length, 0, none⟩) LL.length 1] [S3.length] := SlR.lit (R := strR) (own := true) (l := LL) (G := []) hbl (cells_str fun x hx => by have := hL3 x hx; unfold okS; omega) (by omega) (fun _ => rfl)
      rw [hLl] at hsl
      rw [← hS4]
      clear hS4
      obtain ⟨id, o, c, e, f, ow, cs, Fi, E⟩ := SlR.get hsl p (by omega)
      have hX := hL3 _ (List.getElem_mem (show p < LL.length by omega))
      have hE := E.rep
      generalize LL[p]'(by omega) = X at E hX hE
      obtain ⟨rfl, rfl, -⟩ := hE
      have a2 := fun x y => bin_ladd (P := Tryd.prog) (t := 9) (x := x) (y := y) (l := A) (r := X) (by omega)
      have a3 := fun x y => bin_ladd (P := Tryd.prog) (t := 9) (x := x) (y := y) (l := A ++ X) (r := B) (by simp; omega)
      simp (dsimp := false) [E.idx, E.goB, E.le, E.lt, E.cell0, a2, a3]
      exact ⟨by omega, hd4.weak (by omega)⟩
  · simp (dsimp := false) [c1, c2]
    have hw2 : IntKind.i64.wrap ((i : Int) + 1) = (i : Int) + 1 := wrap_of _ (by omega) (by omega)
    refine ifA_dec (fun h3 => ?_) (fun h3 => ?_)
    · have c3 : sliceZ Tryd.prog (some .string) (str s) (some (.int .i64 ((i : Int) + 1))) none none = some (str (s.drop (i + 1))) := by
        have := sliceZ_from (P := Tryd.prog) (k := .i64) (l := s) (j := (i : Int) + 1) (by omega) (by omega)
        rwa [show ((i : Int) + 1).toNat = i + 1 by omega] at this
      have l3 : (s.drop (i + 1)).length = s.length - (i + 1) := List.length_drop ..
      generalize s.drop (i + 1) = C at c3 l3
      have a2 := fun x y => bin_ladd (P := Tryd.prog) (t := 9) (x := x) (y := y) (l := A) (r := C) (by omega)
      rw [hw2, c3]
      simp (dsimp := false) [a2]
      exact ⟨by omega, hd2.weak (by omega)⟩
    · simp (dsimp := false) [a1]
      exact ⟨by omega, hd2.weak (by omega)⟩
  · simp (dsimp := false) [c1, c2]
    have hw2 : IntKind.i64.wrap ((i : Int) + 1) = (i : Int) + 1 := wrap_of _ (by omega) (by omega)
    refine ifA_dec (fun h3 => ?_) (fun h3 => ?_)
    · have c3 : sliceZ Tryd.prog (some .string) (str s) (some (.int .i64 ((i : Int) + 1))) none none = some (str (s.drop (i + 1))) := by
        have := sliceZ_from (P := Tryd.prog) (k := .i64) (l := s) (j := (i : Int) + 1) (by omega) (by omega)
        rwa [show ((i : Int) + 1).toNat = i + 1 by omega] at this
      have l3 : (s.drop (i + 1)).length = s.length - (i + 1) := List.length_drop ..
      generalize s.drop (i + 1) = C at c3 l3
      refine CallK.of ⟨_, Tryd.func19, rfl, rfl⟩ (pickR hd2.rdr (by omega) 256) ?_
      rintro v S3 ⟨p, rfl, -, hp, -, hr, h1⟩
      have hp := hp (by decide)
      have hd3 := hd2.step hr h1
      obtain ⟨x, hx⟩ := u8w (p : Int)
      have a2 := fun u y => bin_ladd (P := Tryd.prog) (t := 9) (x := u) (y := y) (l := A) (r := [x]) (by simp; omega)
      have a3 := fun u y => bin_ladd (P := Tryd.prog) (t := 9) (x := u) (y := y) (l := A ++ [x]) (r := C) (by simp; omega)
      simp (dsimp := false) [hx, hw2]
      refine ConvK.of (conv_bytes (l := [x]) (F := [S3.length]) und22 und5 und9 (SlR.lit (R := byteR) (own := true) (l := [x]) (e := 5) (f := (0, 0)) (G := []) (by simp) (rep_bytes _) (by simp) (fun _ => rfl))) ?_
      simp (dsimp := false) [a2, a3, c3, hw2]
      exact ⟨by omega, (hd3.weak (by omega)).app⟩
    · simp (dsimp := false) [a1]
      exact ⟨by omega, hd2.weak (by omega)⟩
  · simp (dsimp := false) [c1, c2, a1]
    exact ⟨by omega, hd2.weak (by omega)⟩
theorem Dr.exto {H H0 S : Heap} {rd n : Nat} (h : Dr H rd n S) (hx : Ext H0 H) (hr : H0.length ≤ rd) : Ext H0 S := fun j hj => (h.rdo.2 j (by have := hx.le; omega) (by omega)).trans (hx j hj)
set_option maxHeartbeats 2000000 in
theorem DrawFormResult_ac {own : Bool} {l : List UInt8} {sl : Value} {F : List Nat} {H : Heap} (hs : BytesR own H l [sl] F) : AC Tryd.prog ng 5 [sl] H fun v S' => ∃ (x : Res) (c : List Value) (F' : List Nat), v = .agg c.toArray ∧ Ext H S' ∧ ResR true S' x c F' ∧ Fresh (H.length + 1) F' ∧ x.text.length ≤ 2001 ∧ -1 ≤ x.code ∧ x.code ≤ 9 ∧ x.chain.length ≤ 1 := by
  obtain ⟨a, z, rfl⟩ := hs.form
  refine AC.go [] Tryd.func5 rfl Tryd.ntmps5 rfl ⟨mixed, by kernel_rfl⟩ ?_
  simp (dsimp := false)
  obtain ⟨H0, hH0⟩ : ∃ H0, H0 = H ++ [(⟨.cells #[int 0, str [], .slice none 0 0] 25 (0, 0), true, true⟩ : Blk)] := ⟨_, rfl⟩
  have hx0 : Ext H H0 := by rw [hH0]; exact Ext.app _ _
  have hl0 : H0.length = H.length + 1 := by rw [hH0]; simp
  have hb00 : H0[H.length]? = some (⟨.cells #[int 0, str [], .slice none 0 0] 25 (0, 0), true, true⟩ : Blk) := by rw [hH0]; simp
  rw [← hH0]
  refine CallK.of ⟨_, Tryd.func18, rfl, rfl⟩ (l1Open_ac (Rp.ext hs hx0)) ?_
  rintro v S1 ⟨rd, rfl, hge', he1', h1⟩
  have he1 := hx0.trans he1'
  have hge : H.length ≤ rd := by omega
  have hb0 := (he1' H.length (by omega)).trans hb00
  have hd1 := Dr.mk0 h1
  have hlt := hd1.lt
  have hle1 := he1'.le
  clear hb00 hH0
  simp (dsimp := false)
  refine CallK.of ⟨_, Tryd.func19, rfl, rfl⟩ (pickR hd1.rdr (by omega) 11) ?_
  rintro v S2 ⟨k, rfl, -, hk, -, hr, h1⟩
  have hk := hk (by decide)
  have hd2 := hd1.step hr h1
  clear hr h1
  have wk : IntKind.i64.wrap ((k : Int) - 1) = (k : Int) - 1 := wrap_of _ (by omega) (by omega)
  simp (dsimp := false) [wk]
  refine CallK.of ⟨_, Tryd.func20, rfl, rfl⟩ (l1Text_ac hd2.rdr (by omega)) ?_
  rintro v S3 ⟨s, rfl, hsl, hr, h1⟩
  have hd3 := hd2.step hr h1
  clear hr h1
  simp (dsimp := false)
  obtain ⟨S4, hS4⟩ : ∃ q, q = S3 ++ [(⟨.cells #[int ((k : Int) - 1), str s, .slice none 0 0] 25 (0, 0), true, true⟩ : Blk)] := ⟨_, rfl⟩
  have hd4 := hd3.ext (S' := S4) (by rw [hS4]; exact Ext.app _ _)
  obtain ⟨xb, hxb⟩ : ∃ q, q = S3.length := ⟨_, rfl⟩
  have hb4 : S4[xb]? = some (⟨.cells #[int ((k : Int) - 1), str s, .slice none 0 0] 25 (0, 0), true, true⟩ : Blk) := by rw [hS4, hxb]; simp
  have hl4 : S4.length = xb + 1 := by rw [hS4, hxb]; simp
  have hx3 := hd3.le
  have hxr : xb ≠ rd := by omega
  rw [← hS4, ← hxb]
  clear hS4
  refine CallK.of ⟨_, Tryd.func19, rfl, rfl⟩ (pickR hd4.rdr (by omega) 6) ?_
  rintro v S5 ⟨m, rfl, -, hm, -, hr, h1⟩
  have hd5 := hd4.step hr h1
  have hb5 := (hr.2 _ (by omega) hxr).trans hb4
  have hl5 := hr.1
  clear hr h1
  simp (dsimp := false)
  refine ifA_dec (fun hm0 => ?_) (fun hm0 => ?_)
  · have hbT := fun T : Heap => (get_ext (T := T) (show xb < S5.length by omega)).trans hb5
    simp (dsimp := false) [hbT, fun T => goB_of (hbT T)]
    obtain ⟨S6, hS6⟩ : ∃ q, q = (S5 ++ [(⟨.cells #[str [116, 48]] 9 (0, 0), true, true⟩ : Blk)]).set xb (⟨.cells #[int ((k : Int) - 1), str s, .slice (some ⟨S5.length, 0, none⟩) 1 1] 25 (0, 0), true, true⟩ : Blk) := ⟨_, rfl⟩
    obtain ⟨cv, hcv⟩ : ∃ q, q = Value.slice (some ⟨S5.length, 0, none⟩) 1 1 := ⟨_, rfl⟩
    have hd6 := (hd5.app (T := [(⟨.cells #[str [116, 48]] 9 (0, 0), true, true⟩ : Blk)])).keep (S' := S6) (by rw [hS6]; simp) (fun j hj => by rw [hS6]; exact List.getElem?_set_ne (by omega))
    have hb6 : S6[xb]? = some (⟨.cells #[int ((k : Int) - 1), str s, .slice (some ⟨S5.length, 0, none⟩) 1 1] 25 (0, 0), true, true⟩ : Blk) := by rw [hS6]; exact List.getElem?_set_self (by simp; omega)
    have hbs : S6[S5.length]? = some (⟨.cells #[str [116, 48]] 9 (0, 0), true, true⟩ : Blk) := by rw [hS6, List.getElem?_set_ne (by omega)]; simp
    have hl6 : xb < S6.length := by rw [hS6]; simp; omega
    rw [← hS6, ← hcv]
    rw [← hcv] at hb6
    obtain ⟨ch, hch⟩ : ∃ q, q = ([[116, 48]] : List (List UInt8)) := ⟨_, rfl⟩
    obtain ⟨Fc, hFc⟩ : ∃ q, q = [S5.length] := ⟨_, rfl⟩
    have hc6 : StrsR true S6 ch [cv] Fc := by
      rw [hch, hcv, hFc]
      exact SlR.lit (R := strR) (own := true) (l := [[116, 48]]) (G := []) (c := [str [116, 48]]) hbs (cells_str (l := [[116, 48]]) (by simp [okS])) (by simp) (fun _ => rfl)
    have hrc : rd ∉ Fc := by rw [hFc]; simp; omega
    have hfc : Fresh (H.length + 1) Fc := by rw [hFc]; exact Fresh.one (by omega)
    have hnc : ∀ j ∈ Fc, j ≠ xb := by rw [hFc]; simp; omega
    have hcl : ch.length ≤ 1 := by rw [hch]; simp
    have hone : onesV [cv] = true := by rw [hcv]; rfl
    clear hS6 hcv hch hFc hbs
    refine CallK.of ⟨_, Tryd.func19, rfl, rfl⟩ (pickR hd6.rdr (by omega) 8) ?_
    rintro v S7 ⟨p, rfl, -, hp, -, hr, h1⟩
    have hd7 := hd6.step hr h1
    have hb7 := (hr.2 _ hl6 hxr).trans hb6
    have hc7 := Rdo.rp hc6 hr hrc
    have hl7 := Nat.lt_of_lt_of_le hl6 hr.1
    have hr7 := (hd7.rdo.2 H.length (by omega) (by omega)).trans hb0
    clear hr h1
    simp (dsimp := false)
    refine ifA_dec (fun hp0 => ?_) (fun hp0 => ?_)
    · refine CallK.of ⟨_, Tryd.func19, rfl, rfl⟩ (pickR hd7.rdr (by omega) 2) ?_
      rintro v S8 ⟨p2, rfl, -, hp2, -, hr, h1⟩
      have hp2 := hp2 (by decide)
      have hd8 := hd7.step hr h1
      have hb8 := (hr.2 _ hl7 hxr).trans hb7
      have hc8 := Rdo.rp hc7 hr hrc
      have hr8 := (hd8.rdo.2 H.length (by omega) (by omega)).trans hb0
      have hl8 := Nat.lt_of_lt_of_le hl7 hr.1
      clear hr h1
      have wp : IntKind.i64.wrap (2000 + (p2 : Int)) = ((p2 + 2000 : Nat) : Int) := (wrap_of _ (by omega) (by omega)).trans (by omega)
      simp (dsimp := false) [wp]
      refine CallK.of ⟨_, Tryd.func21, rfl, rfl⟩ (l1Many_ac (s := [102]) (n := p2 + 2000) (by simp) (by omega)) ?_
      rintro v S9 ⟨⟨t, rfl, ht⟩, hS⟩
      subst hS
      simp at ht
      have hself := fun b : Blk => List.getElem?_set_self (l := S9) (i := xb) (a := b) hl8
      have hr9 := fun b : Blk => (List.getElem?_set_ne (l := S9) (i := xb) (j := H.length) (a := b) (by omega)).trans hr8
      have hse2 := fun b b' : Blk => List.getElem?_set_self (l := S9.set xb b') (i := H.length) (a := b) (by simp; omega)
      simp (dsimp := false) [hb8, goB_of hb8, hself, hr9, hse2, fun b => goB_of (hr9 b), fun b => goB_of (hself b)]
      refine ⟨hone, fun j hj => ?_, ⟨(k : Int) - 1, t, ch⟩, Fc, ⟨cv, rfl, Rp.fr hc8 fun j hj => ?_⟩, hfc, ?_⟩
      · rw [List.getElem?_set_ne (by omega), List.getElem?_set_ne (by omega)]
        exact hd8.exto he1 hge j hj
      · rw [List.getElem?_set_ne (by have := hfc.1 j hj; omega), List.getElem?_set_ne (by have := hnc j hj; omega)]
      · dsimp only
        exact ⟨by omega, by omega, by omega, hcl⟩
    · have hse2 := fun b : Blk => List.getElem?_set_self (l := S7) (i := H.length) (a := b) (by omega)
      simp (dsimp := false) [hb7, goB_of hb7, hr7, goB_of hr7, hse2]
      refine ⟨hone, fun j hj => ?_, ⟨(k : Int) - 1, s, ch⟩, Fc, ⟨cv, rfl, Rp.fr hc7 fun j hj => ?_⟩, hfc, ?_⟩
      · rw [List.getElem?_set_ne (by omega)]
        exact hd7.exto he1 hge j hj
      · rw [List.getElem?_set_ne (by have := hfc.1 j hj; omega)]
      · dsimp only
        exact ⟨by omega, by omega, by omega, hcl⟩
  · obtain ⟨ch, hch⟩ : ∃ q, q = ([] : List (List UInt8)) := ⟨_, rfl⟩
    obtain ⟨Fc, hFc⟩ : ∃ q, q = ([] : List Nat) := ⟨_, rfl⟩
    obtain ⟨S6, hS6⟩ : ∃ q, q = S5 := ⟨_, rfl⟩
    obtain ⟨cv, hcv⟩ : ∃ q, q = Value.slice none 0 0 := ⟨_, rfl⟩
    have hb6 := hb5
    have hd6 := hd5
    rw [← hS6] at hb6 hd6 ⊢
    rw [← hcv] at hb6
    have hc6 : StrsR true S6 ch [cv] Fc := by rw [hch, hcv, hFc]; exact SlR.nil
    have hl6 : xb < S6.length := by rw [hS6]; omega
    have hrc : rd ∉ Fc := by rw [hFc]; simp
    have hfc : Fresh (H.length + 1) Fc := by rw [hFc]; exact Fresh.nil _
    have hnc : ∀ j ∈ Fc, j ≠ xb := by rw [hFc]; simp
    have hcl : ch.length ≤ 1 := by rw [hch]; simp
    have hone : onesV [cv] = true := by rw [hcv]; rfl
    refine CallK.of ⟨_, Tryd.func19, rfl, rfl⟩ (pickR hd6.rdr (by omega) 8) ?_
    rintro v S7 ⟨p, rfl, -, hp, -, hr, h1⟩
    have hd7 := hd6.step hr h1
    have hb7 := (hr.2 _ hl6 hxr).trans hb6
    have hc7 := Rdo.rp hc6 hr hrc
    have hl7 := Nat.lt_of_lt_of_le hl6 hr.1
    have hr7 := (hd7.rdo.2 H.length (by omega) (by omega)).trans hb0
    clear hr h1
    simp (dsimp := false)
    refine ifA_dec (fun hp0 => ?_) (fun hp0 => ?_)
    · refine CallK.of ⟨_, Tryd.func19, rfl, rfl⟩ (pickR hd7.rdr (by omega) 2) ?_
      rintro v S8 ⟨p2, rfl, -, hp2, -, hr, h1⟩
      have hp2 := hp2 (by decide)
      have hd8 := hd7.step hr h1
      have hb8 := (hr.2 _ hl7 hxr).trans hb7
      have hc8 := Rdo.rp hc7 hr hrc
      have hr8 := (hd8.rdo.2 H.length (by omega) (by omega)).trans hb0
      have hl8 := Nat.lt_of_lt_of_le hl7 hr.1
      clear hr h1
      have wp : IntKind.i64.wrap (2000 + (p2 : Int)) = ((p2 + 2000 : Nat) : Int) := (wrap_of _ (by omega) (by omega)).trans (by omega)
      simp (dsimp := false) [wp]
      refine CallK.of ⟨_, Tryd.func21, rfl, rfl⟩ (l1Many_ac (s := [102]) (n := p2 + 2000) (by simp) (by omega)) ?_
      rintro v S9 ⟨⟨t, rfl, ht⟩, hS⟩
      subst hS
      simp at ht
      have hself := fun b : Blk => List.getElem?_set_self (l := S9) (i := xb) (a := b) hl8
      have hr9 := fun b : Blk => (List.getElem?_set_ne (l := S9) (i := xb) (j := H.length) (a := b) (by omega)).trans hr8
      have hse2 := fun b b' : Blk => List.getElem?_set_self (l := S9.set xb b') (i := H.length) (a := b) (by simp; omega)
      simp (dsimp := false) [hb8, goB_of hb8, hself, hr9, hse2, fun b => goB_of (hr9 b), fun b => goB_of (hself b)]
      refine ⟨hone, fun j hj => ?_, ⟨(k : Int) - 1, t, ch⟩, Fc, ⟨cv, rfl, Rp.fr hc8 fun j hj => ?_⟩, hfc, ?_⟩
      · rw [List.getElem?_set_ne (by omega), List.getElem?_set_ne (by omega)]
        exact hd8.exto he1 hge j hj
      · rw [List.getElem?_set_ne (by have := hfc.1 j hj; omega), List.getElem?_set_ne (by have := hnc j hj; omega)]
      · dsimp only
        exact ⟨by omega, by omega, by omega, hcl⟩
    · have hse2 := fun b : Blk => List.getElem?_set_self (l := S7) (i := H.length) (a := b) (by omega)
      simp (dsimp := false) [hb7, goB_of hb7, hr7, goB_of hr7, hse2]
      refine ⟨hone, fun j hj => ?_, ⟨(k : Int) - 1, s, ch⟩, Fc, ⟨cv, rfl, Rp.fr hc7 fun j hj => ?_⟩, hfc, ?_⟩
      · rw [List.getElem?_set_ne (by omega)]
        exact hd7.exto he1 hge j hj
      · rw [List.getElem?_set_ne (by have := hfc.1 j hj; omega)]
      · dsimp only
        exact ⟨by omega, by omega, by omega, hcl⟩
end Go.Proofs.YtbigpkfdeaigeaaDoor
