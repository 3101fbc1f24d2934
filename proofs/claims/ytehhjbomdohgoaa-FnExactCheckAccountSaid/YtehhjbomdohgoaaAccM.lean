/- The listing of deeds, the reference's. No condition. -/
import Derived.Test.YtehhjbomdohgoaaAccE
import Derived.Test.YtehhjbomdohgoaaAccC
import Derived.Test.YtehhjbomdohgoaaAm23
set_option linter.unusedSimpArgs false
set_option linter.unusedVariables false
namespace Go.Proofs.Ytehhjbomdohgoaa
open Go Go.Am Go.Proofs
set_option maxRecDepth 20000
variable {ng : Nat}
abbrev BoolsR (own : Bool) : RepT (List Bool) := SlR own 1 boolR
/-- Who was met, as a row of marks. -/
def metL (n : Nat) (vis : List (Int × Int)) : List Bool := (List.range n).map fun (j : Nat) => decide ((j : Int) ∈ vis.map (·.1))
theorem metL_len (n : Nat) (vis : List (Int × Int)) : (metL n vis).length = n := by simp [metL]
theorem metL_get (n : Nat) (vis : List (Int × Int)) (j : Nat) (h : j < n) : (metL n vis)[j]'(by rw [metL_len]; exact h) = decide ((j : Int) ∈ vis.map (·.1)) := by simp [metL]
theorem metL_set (n : Nat) (vis : List (Int × Int)) (i : Nat) (d : Int) (h : i < n) : (metL n vis).set i true = metL n (vis ++ [((i : Int), d)]) := by
  apply List.ext_getElem
  · simp [metL]
  · intro j h1 h2
    rw [List.getElem_set]
    simp only [metL, List.getElem_map, List.getElem_range, List.map_append, List.mem_append]
    by_cases hj : i = j
    · subst hj; simp
    · rw [if_neg hj]
      have : ¬ (j : Int) = (i : Int) := fun hc => hj (by omega)
      simp [this]
/-- The first of those that are too deep. -/
def deepS (ds : List Deed) (m : Int) (p : Int × Int) : Int := if (dAt ds p.1.toNat).kind = 3 ∧ 60 ≤ p.2 ∧ (m < 0 ∨ p.1 < m) then p.1 else m
def deepM (ds : List Deed) (vis : List (Int × Int)) : Int := vis.foldl (deepS ds) (-1)
theorem deepM_s (ds : List Deed) (vis : List (Int × Int)) (p : Int × Int) : deepM ds (vis ++ [p]) = deepS ds (deepM ds vis) p := by simp [deepM, List.foldl_append]
theorem dfs_in {ds : List Deed} {f i : Nat} {d : Int} {st : List (Int × Int) × List Int} (h : (i : Int) ∈ st.1.map (·.1)) : dfs ds f i d st = st := by
  cases f with
  | zero => rfl
  | succ f => rw [dfs, if_pos h]
structure ListS (own : Bool) (H : Heap) (ds : List Deed) (sd : Value) (FD : List Nat) (ph base : Nat) (sl : Value) (Fl : List Nat) (st : List (Int × Int) × List Int) (so : Value) (Fo : List Nat) : Prop where
  bh : H[ph]? = some ⟨.cells #[sd, sl, so, .int .i64 (deepM ds st.1)] 97 (0, 0), true, true⟩
  ls : BoolsR true H (metL ds.length st.1) [sl] Fl
  fl : Fl.Nodup ∧ ∀ j ∈ Fl, j < base ∧ j ≠ ph
  ord : IntsR true H st.2 [so] Fo
  fr : Fresh base Fo
  le : ph < base ∧ base ≤ H.length
  dd : DeedsR own H ds [sd] FD
  df : ∀ j ∈ FD, j < base ∧ j ≠ ph ∧ j ∉ Fl
theorem ListS.ext {own : Bool} {H : Heap} {ds : List Deed} {sd : Value} {FD : List Nat} {ph base : Nat} {sl : Value} {Fl : List Nat} {st : List (Int × Int) × List Int} {so : Value} {Fo : List Nat} (W : ListS own H ds sd FD ph base sl Fl st so Fo) {H' : Heap} (he : Ext H H') : ListS own H' ds sd FD ph base sl Fl st so Fo := by
  obtain ⟨h1, h2⟩ := W.le
  have := he.le
  exact ⟨(he _ (by omega)).trans W.bh, Rp.ext W.ls he, W.fl, Rp.ext W.ord he, W.fr, ⟨h1, by omega⟩, Rp.ext W.dd he, W.df⟩
theorem _root_.Go.Am.LOk.push {n : Nat} {st : List (Int × Int) × List Int} (hok : LOk n st) {i : Nat} {d : Int} (hi : i < n) (hm : (i : Int) ∉ st.1.map (·.1)) : LOk n (st.1 ++ [((i : Int), d)], st.2) := by
  refine ⟨?_, ?_, ?_, ?_, hok.nd2⟩
  · rw [List.map_append, List.nodup_append]
    refine ⟨hok.nd, by simp, fun a ha b hb hab => hm ?_⟩
    simp at hb
    rw [← hb, ← hab]
    exact ha
  · intro p hp
    rcases List.mem_append.1 hp with hp | hp
    · exact hok.lt p hp
    · simp at hp
      subst hp
      exact ⟨by simp, by simpa using hi⟩
  · intro k hk
    rw [List.map_append]
    exact List.mem_append_left _ (hok.sub k hk)
  · have := hok.len
    simp only [List.length_append, List.length_singleton]
    omega
set_option maxHeartbeats 2000000 in
theorem list_ac {own : Bool} {ds : List Deed} {sd : Value} {FD : List Nat} {ph base : Nat} {sl : Value} {Fl : List Nat} (hbk : back ds) (hdl : ds.length ≤ 400) : ∀ (f i : Nat) (d : Int) (H : Heap) (st : List (Int × Int) × List Int) (so : Value) (Fo : List Nat),
    i < f → i < ds.length → 0 ≤ d → d + i ≤ 1000000 → LOk ds.length st → (i : Int) ∉ st.1.map (·.1) → ListS own H ds sd FD ph base sl Fl st so Fo →
    AC Try.prog ng 102 [.pointer (some ⟨ph, 0, none⟩), int i, int d] H fun v S' => v = .tuple #[] ∧ ∃ so' Fo', ListS own S' ds sd FD ph base sl Fl (dfs ds f i d st) so' Fo' ∧
      (∀ j, j < H.length → j ≠ ph → j ∉ Fl → j ∉ Fo → S'[j]? = H[j]?) ∧ (∀ j ∈ Fo', j ∈ Fo ∨ H.length ≤ j) ∧ H.length ≤ S'.length := by
  intro f
  induction f with
  | zero => intro i d H st so Fo h; omega
  | succ f ih =>
    intro i d H st so Fo hf hi hd0 hd1 hok hm W
    obtain ⟨hl1, hl2⟩ := W.le
    obtain ⟨ad, zd, rfl⟩ := W.dd.form
    obtain ⟨al, zl, rfl⟩ := W.ls.form
    obtain ⟨ao, zo, rfl⟩ := W.ord.form
    obtain ⟨id, o, c, e, f', ow, cs, Fi, E⟩ := SlR.get W.ls i (by rw [metL_len]; exact hi)
    obtain ⟨rfl, rfl, -⟩ := E.rep
    obtain rfl := E.own' rfl
    refine AC.go [] Try.func102 rfl Try.ntmps102 rfl ⟨mixed, by kernel_rfl⟩ ?_
    simp +contextual (dsimp := false) [W.bh, E.idx, E.goB, E.le]
    have hidl := W.fl.2 _ E.mem
    obtain ⟨H1, hH1⟩ : ∃ H1, H1 = H.set id ⟨.cells (setL c o [.bool true]) e f', true, true⟩ := ⟨_, rfl⟩
    rw [← hH1]
    have hlen : H1.length = H.length := by rw [hH1]; simp
    have hne : ∀ j, j ≠ id → H1[j]? = H[j]? := fun j hj => by rw [hH1]; exact List.getElem?_set_ne (Ne.symm hj)
    have hls := E.set W.fl.1 rfl rfl (show boolR H true [.bool true] [] from ⟨rfl, rfl, trivial⟩)
    rw [metL_set _ _ _ d hi, ← hH1] at hls
    have hbh1 := (hne ph (Ne.symm hidl.2)).trans W.bh
    have hdd1 : DeedsR own H1 ds [.slice ad ds.length zd] FD := Rp.fr W.dd fun j hj => hne j (fun hc => (W.df j hj).2.2 (hc ▸ E.mem))
    obtain ⟨id2, o2, c2, e2, f2, ow2, cs2, Fi2, E2⟩ := SlR.get hdd1 i hi
    obtain ⟨hkk, s1, s2, G1, G2, rfl, hFi, hc1, hc2⟩ := E2.rep
    obtain ⟨a1, z1, rfl⟩ := hc1.form
    obtain ⟨a2, z2, rfl⟩ := hc2.form
    have hda : dAt ds i = ds[i] := dAt_lt hi
    simp +contextual (dsimp := false) [hbh1, E2.idx, E2.goB, E2.le, E2.lt, E2.ext]
    have hph1 : ph < H1.length := by omega
    have hb2 : ∀ T : Heap, (H1 ++ T)[ph]? = _ := fun T => (get_ext hph1).trans hbh1
    have hgs : ∀ (T : Heap) (b : Blk) (k : Heap → Prop), goSB (H1 ++ T) ph b k = k (H1.set ph b ++ T) := fun T b k => goSB_old hph1
    have hnb : deepM ds (st.1 ++ [((i : Int), d)]) = if ds[i].kind = 3 ∧ 60 ≤ d ∧ (deepM ds st.1 < 0 ∨ (i : Int) < deepM ds st.1) then (i : Int) else deepM ds st.1 := by
      rw [deepM_s, deepS]
      simp only [Int.toNat_natCast, hda]
    clear hph1
    have hok1 := hok.push hi hm (d := d)
    have hsub2 : ∀ j ∈ G2, j ∈ FD := fun j hj => E2.sub j (by rw [hFi]; simp [hj])
    have hat : ∀ (K : Heap) (B : Blk), K.length = H1.length → (K ++ [B])[H1.length]? = some B := fun K B hK => by rw [← hK]; simp
    have prep : ∀ (K : Heap) (B : Blk), (∀ j, j ≠ ph → K[j]? = H1[j]?) → K.length = H1.length → K[ph]? = some ⟨.cells #[.slice ad ds.length zd, .slice al (metL ds.length st.1).length zl, .slice ao st.2.length zo, .int .i64 (deepM ds (st.1 ++ [((i : Int), d)]))] 97 (0, 0), true, true⟩ →
        ListS own (K ++ [B]) ds (.slice ad ds.length zd) FD ph base (.slice al (metL ds.length st.1).length zl) Fl (st.1 ++ [((i : Int), d)], st.2) (.slice ao st.2.length zo) Fo ∧ (∀ j, j < H.length → j ≠ ph → j ∉ Fl → j ∉ Fo → (K ++ [B])[j]? = H[j]?) := by
      intro K B k1 k2 k3
      have hx : ∀ j, j < H.length → (K ++ [B])[j]? = K[j]? := fun j hj => get_ext (by omega)
      refine ⟨⟨(hx ph (by omega)).trans k3, ?_, W.fl, ?_, W.fr, ⟨hl1, by simp; omega⟩, ?_, W.df⟩, fun j hj hj1 hj2 hj3 => (hx j hj).trans ((k1 j hj1).trans (hne j fun hc => hj2 (hc ▸ E.mem)))⟩
      · exact Rp.fr hls fun j hj => (hx j (by have := W.fl.2 j hj; omega)).trans (k1 j (W.fl.2 j hj).2)
      · exact Rp.fr W.ord fun j hj => by
          have h1 := W.fr.1 j hj
          have h2 := Rp.lt W.ord j hj
          exact (hx j h2).trans ((k1 j (by omega)).trans (hne j (by omega)))
      · exact Rp.fr hdd1 fun j hj => (hx j (by have := W.df j hj; omega)).trans (k1 j (W.df j hj).2.1)
    have hset : ∀ (b : Blk) (j : Nat), j ≠ ph → (H1.set ph b)[j]? = H1[j]? := fun b j hj => List.getElem?_set_ne (Ne.symm hj)
    have hsetl : ∀ (b : Blk), (H1.set ph b).length = H1.length := fun b => by simp
    have hsets : ∀ (b : Blk), (H1.set ph b)[ph]? = some b := fun b => List.getElem?_set_self (by omega)
    have fin : ∀ (K : Heap) (x0 x1 x2 x3 x4 : Value), (∀ j, j ≠ ph → K[j]? = H1[j]?) → K.length = H1.length → K[ph]? = some ⟨.cells #[.slice ad ds.length zd, .slice al (metL ds.length st.1).length zl, .slice ao st.2.length zo, .int .i64 (deepM ds (st.1 ++ [((i : Int), d)]))] 97 (0, 0), true, true⟩ →
        0 ≤ ds[i].links.length ∧ ListS own (K ++ [⟨.cells #[x0, x1, x2, x3, x4, .slice a2 ds[i].links.length z2] 91 (0, 0), true, true⟩]) ds (.slice ad ds.length zd) FD ph base (.slice al (metL ds.length st.1).length zl) Fl (st.1 ++ [((i : Int), d)], st.2) (.slice ao st.2.length zo) Fo ∧ LOk ds.length (st.1 ++ [((i : Int), d)], st.2) ∧
          (st.1 ++ [((i : Int), d)], st.2) = (ds[i].links.take 0).foldl (fun s l => if l.ask then dfs ds f l.at_.toNat (d + 1) s else s) (st.1 ++ [((i : Int), d)], st.2) ∧
          (∃ y0 y1 y2 y3 y4, (K ++ [(⟨.cells #[x0, x1, x2, x3, x4, .slice a2 ds[i].links.length z2] 91 (0, 0), true, true⟩ : Blk)])[H1.length]? = some ⟨.cells #[y0, y1, y2, y3, y4, .slice a2 ds[i].links.length z2] 91 (0, 0), true, true⟩) ∧
          (∀ j, j < H.length → j ≠ ph → j ∉ Fl → j ∉ Fo → (K ++ [(⟨.cells #[x0, x1, x2, x3, x4, .slice a2 ds[i].links.length z2] 91 (0, 0), true, true⟩ : Blk)])[j]? = H[j]?) ∧ (∀ j ∈ Fo, j ∈ Fo ∨ H.length + 1 ≤ j) ∧ H.length + 1 ≤ (K ++ [(⟨.cells #[x0, x1, x2, x3, x4, .slice a2 ds[i].links.length z2] 91 (0, 0), true, true⟩ : Blk)]).length := by
      intro K x0 x1 x2 x3 x4 k1 k2 k3
      obtain ⟨p1, p2⟩ := prep K ⟨.cells #[x0, x1, x2, x3, x4, .slice a2 ds[i].links.length z2] 91 (0, 0), true, true⟩ k1 k2 k3
      exact ⟨Nat.zero_le _, p1, hok1, by simp, ⟨_, _, _, _, _, hat _ _ k2⟩, p2, fun j hj => .inl hj, by simp; omega⟩
    have hnb2 := hnb
    by_cases hC : ds[i].kind = 3 ∧ 60 ≤ d ∧ (deepM ds st.1 < 0 ∨ (i : Int) < deepM ds st.1)
    · rw [if_pos hC] at hnb
      have fin1 := fun x0 x1 x2 x3 x4 => fin _ x0 x1 x2 x3 x4 (hset _) (hsetl _) (hsets _)
      rw [hnb] at fin1
      obtain ⟨k3, h60, hdd⟩ := hC
      by_cases hdn : deepM ds st.1 < 0
      · simp +contextual (dsimp := false) [k3, h60, hb2, hdn, hgs]
        refine LoopA.up (σ := Nat × Heap × (List (Int × Int) × List Int) × Value × List Nat) [0, 1, 2, 6, 7] (fun x => [(7, int x.1)]) (fun x => x.2.1)
          (fun x => x.1 ≤ ds[i].links.length ∧ ListS own x.2.1 ds (.slice ad ds.length zd) FD ph base (.slice al (metL ds.length st.1).length zl) Fl x.2.2.1 x.2.2.2.1 x.2.2.2.2 ∧ LOk ds.length x.2.2.1 ∧
            x.2.2.1 = (ds[i].links.take x.1).foldl (fun s l => if l.ask then dfs ds f l.at_.toNat (d + 1) s else s) (st.1 ++ [((i : Int), d)], st.2) ∧
            (∃ x0 x1 x2 x3 x4, x.2.1[H1.length]? = some ⟨.cells #[x0, x1, x2, x3, x4, .slice a2 ds[i].links.length z2] 91 (0, 0), true, true⟩) ∧
            (∀ j, j < H.length → j ≠ ph → j ∉ Fl → j ∉ Fo → x.2.1[j]? = H[j]?) ∧ (∀ j ∈ x.2.2.2.2, j ∈ Fo ∨ H.length + 1 ≤ j) ∧ H.length + 1 ≤ x.2.1.length)
          (fun x => ds[i].links.length - x.1) (0, _, (st.1 ++ [((i : Int), d)], st.2), .slice ao st.2.length zo, Fo) rfl (fin1 _ _ _ _ _) ?_
        rintro ⟨k, hp, st', s', F'⟩ ⟨hk, W2, hok2, hst, ⟨x0, x1, x2, x3, x4, hbc⟩, hfr, hFs, hle⟩
        dsimp only at hk W2 hok2 hst hbc hfr hFs hle
        simp +contextual (dsimp := false) [hbc]
        refine ifA_dec (fun h9 => ?_) (fun h9 => ?_)
        · obtain ⟨id5, o5, c5, e5, f5, ow5, cs5, Fi5, E5⟩ := SlR.get (Rp.fr hc2 (H' := hp) fun j hj => by
            have h1 := W.df j (hsub2 j hj)
            have h2 := Rp.lt hc2 j hj
            rw [hfr j (by omega) h1.2.1 h1.2.2 (fun hc => by have := W.fr.1 j hc; omega), hne j (fun hc => h1.2.2 (hc ▸ E.mem))]) k h9
          obtain ⟨rfl, rfl, hokL⟩ := E5.rep
          have hbkL := hbk i hi
          rw [hda] at hbkL
          have hbkk := hbkL _ (List.getElem_mem h9)
          have hnext := foldl_take_s (fun s l => if l.ask then dfs ds f l.at_.toNat (d + 1) s else s) ds[i].links (st.1 ++ [((i : Int), d)], st.2) k h9
          rw [← hst] at hnext
          have hbc2 : ∀ T : Heap, (hp ++ T)[H1.length]? = _ := fun T => (get_ext (by omega)).trans hbc
          have hbh2 : ∀ T : Heap, (hp ++ T)[ph]? = _ := fun T => (get_ext (by omega)).trans W2.bh
          have hbh0 := W2.bh
          have hbnd2 := hc2.bound
          generalize ds[i].links[k] = L at *
          cases ha : L.ask
          · simp +contextual (dsimp := false) [E5.idx, E5.goB, E5.blk, E5.le, E5.lt, E5.ext, E5.cell 1 (by omega), E5.cell 3 (by omega), Lnk.c, ha, hbc, hbc2, wrap_succ (show k < 9223372036854775807 by omega)]
            exact LoopN.of (k + 1, _, st', s', F') rfl ⟨h9, W2, hok2, by rw [hnext, ha]; rfl, ⟨x0, x1, x2, x3, x4, hbc⟩, hfr, hFs, hle⟩ (by dsimp only; omega)
          · obtain ⟨g1, g2⟩ := hbkk ha
            obtain ⟨q, hq⟩ : ∃ q : Nat, L.at_ = q := ⟨L.at_.toNat, by omega⟩
            obtain ⟨id6, o6, c6, e6, f6, ow6, cs6, Fi6, E6⟩ := SlR.get W2.ls q (by rw [metL_len]; omega)
            obtain ⟨rfl, rfl, -⟩ := E6.rep
            have hx6 := metL_get ds.length st'.1 q (by omega)
            have hwd : IntKind.i64.wrap (d + 1) = d + 1 := wrap_of (d + 1) (by omega) (by omega)
            by_cases hmq : (q : Int) ∈ st'.1.map (·.1)
            · rw [decide_eq_true hmq] at hx6
              simp +contextual (dsimp := false) [E5.idx, E5.goB, E5.blk, E5.le, E5.lt, E5.ext, E5.cell 1 (by omega), E5.cell 3 (by omega), E6.idx, E6.goB, E6.blk, E6.le, E6.lt, E6.ext, E6.cell0 (by decide), Lnk.c, ha, hbc, hbc2, hbh0, hbh2, hwd, hq, hx6, wrap_succ (show k < 9223372036854775807 by omega)]
              exact LoopN.of (k + 1, _, st', s', F') rfl ⟨h9, W2, hok2, by rw [hnext, ha, hq]; exact (dfs_in hmq).symm, ⟨x0, x1, x2, x3, x4, hbc⟩, hfr, hFs, hle⟩ (by dsimp only; omega)
            · rw [decide_eq_false hmq] at hx6
              simp +contextual (dsimp := false) [E5.idx, E5.goB, E5.blk, E5.le, E5.lt, E5.ext, E5.cell 1 (by omega), E5.cell 3 (by omega), E6.idx, E6.goB, E6.blk, E6.le, E6.lt, E6.ext, E6.cell0 (by decide), Lnk.c, ha, hbc, hbc2, hbh0, hbh2, hwd, hq, hx6, wrap_succ (show k < 9223372036854775807 by omega)]
              refine CallK.of ⟨_, Try.func102, rfl, rfl⟩ (ih q (d + 1) _ st' s' F' (by omega) (by omega) (by omega) (by omega) hok2 hmq W2) ?_
              rintro v S' ⟨rfl, s'', F'', W3, hfr3, hFs3, hle3⟩
              simp +contextual (dsimp := false) [wrap_succ (show k < 9223372036854775807 by omega)]
              have hnF : ∀ j, j < H.length + 1 → j ∉ Fo → j ∉ F' := fun j h1 h2 h3 => (hFs j h3).elim h2 fun h => by omega
              refine LoopN.of (k + 1, S', dfs ds f q (d + 1) st', s'', F'') rfl ⟨h9, W3, (dfs_ok hbk f q (d + 1) st' (by omega) (by omega) hok2).1, by rw [hnext, ha, hq]; rfl, ⟨x0, x1, x2, x3, x4, (hfr3 _ (by omega) (by omega) (fun hc => by have := W.fl.2 _ hc; omega) (hnF _ (by omega) fun hc => by have := Rp.lt W.ord _ hc; omega)).trans hbc⟩,
                fun j h1 h2 h3 h4 => (hfr3 j (by omega) h2 h3 (hnF j (by omega) h4)).trans (hfr j h1 h2 h3 h4), fun j hj => (hFs3 j hj).elim (hFs j) fun h => .inr (by omega), by dsimp only; omega⟩ (by dsimp only; omega)
        · rw [List.take_of_length_le (by omega)] at hst
          have hD : dfs ds (f + 1) i d st = (st'.1, st'.2 ++ [(i : Int)]) := by rw [dfs, if_neg hm, hst, hda]
          rw [hD]
          obtain ⟨as', zs', rfl⟩ := W2.ord.form
          have hbnd3 := hok2.bound
          simp +contextual (dsimp := false) [W2.bh]
          refine AppK.one (R := intR') (l := st'.2) (ex := 3) (fx := (0, 0)) (ox := true) (base := base) (x := (i : Int)) (cx := [.int .i64 (i : Int)]) (Fx := []) slt95 und95 ?_ W2.fr ?_ ?_ (Fresh.nil _) (by simp) ?_ ?_ (by decide) ?_
          · exact Rp.ext W2.ord (Ext.app _ _)
          · simp
          · exact ⟨rfl, rfl, by omega, by omega⟩
          · simp; omega
          · omega
          intro s4 H4 F4 q1 q2 q3 q4 q5
          simp at q3
          have hnF : ∀ j, j < H.length + 1 → j ∉ Fo → j ∉ F' := fun j h1 h2 h3 => (hFs j h3).elim h2 fun h => by omega
          have hq : ∀ j, j < hp.length → j ∉ F' → H4[j]? = hp[j]? := fun j hj hn => (q4 j (by simp; omega) hn).trans (get_ext hj)
          have hnb' : ∀ j, j < base → j ∉ F' := fun j h1 h2 => by have := W2.fr.1 j h2; omega
          have e4 := (hq ph (by omega) (hnb' _ hl1)).trans W2.bh
          obtain ⟨a4, z4, rfl⟩ := q1.form
          simp +contextual (dsimp := false) [e4]
          have hne4 : ∀ (b : Blk) (j : Nat), j ≠ ph → (H4.set ph b)[j]? = H4[j]? := fun b j hj => List.getElem?_set_ne (Ne.symm hj)
          refine ⟨.slice a4 (st'.2.length + 1) z4, F4, ⟨?_, ?_, W.fl, ?_, q2, ⟨hl1, by simp; omega⟩, ?_, W.df⟩, fun j hj h1 h2 h3 => ((hne4 _ j h1).trans ((hq j (by omega) (hnF j (by omega) h3)).trans (hfr j hj h1 h2 h3))).trans (List.getElem?_eq_getElem hj), fun j hj => ?_, by omega⟩
          · exact List.getElem?_set_self (by omega)
          · exact Rp.fr W2.ls fun j hj => (hne4 _ j (W.fl.2 j hj).2).trans (hq j (Rp.lt W2.ls j hj) (hnb' j (W.fl.2 j hj).1))
          · simp only [List.length_append, List.length_singleton] at q1
            exact Rp.fr q1 fun j hj => hne4 _ j (by have := q2.1 j hj; omega)
          · exact Rp.fr W2.dd fun j hj => (hne4 _ j (W.df j hj).2.1).trans (hq j (Rp.lt W2.dd j hj) (hnb' j (W.df j hj).1))
          · rcases q5 j hj with h | h | h
            · exact (hFs j h).imp_right (by omega)
            · cases h
            · simp at h
              exact .inr (by omega)
      · have hdn2 : (i : Int) < deepM ds st.1 := by omega
        simp +contextual (dsimp := false) [k3, h60, hb2, hdn, hdn2, hgs]
        refine LoopA.up (σ := Nat × Heap × (List (Int × Int) × List Int) × Value × List Nat) [0, 1, 2, 6, 7] (fun x => [(7, int x.1)]) (fun x => x.2.1)
          (fun x => x.1 ≤ ds[i].links.length ∧ ListS own x.2.1 ds (.slice ad ds.length zd) FD ph base (.slice al (metL ds.length st.1).length zl) Fl x.2.2.1 x.2.2.2.1 x.2.2.2.2 ∧ LOk ds.length x.2.2.1 ∧
            x.2.2.1 = (ds[i].links.take x.1).foldl (fun s l => if l.ask then dfs ds f l.at_.toNat (d + 1) s else s) (st.1 ++ [((i : Int), d)], st.2) ∧
            (∃ x0 x1 x2 x3 x4, x.2.1[H1.length]? = some ⟨.cells #[x0, x1, x2, x3, x4, .slice a2 ds[i].links.length z2] 91 (0, 0), true, true⟩) ∧
            (∀ j, j < H.length → j ≠ ph → j ∉ Fl → j ∉ Fo → x.2.1[j]? = H[j]?) ∧ (∀ j ∈ x.2.2.2.2, j ∈ Fo ∨ H.length + 1 ≤ j) ∧ H.length + 1 ≤ x.2.1.length)
          (fun x => ds[i].links.length - x.1) (0, _, (st.1 ++ [((i : Int), d)], st.2), .slice ao st.2.length zo, Fo) rfl (fin1 _ _ _ _ _) ?_
        rintro ⟨k, hp, st', s', F'⟩ ⟨hk, W2, hok2, hst, ⟨x0, x1, x2, x3, x4, hbc⟩, hfr, hFs, hle⟩
        dsimp only at hk W2 hok2 hst hbc hfr hFs hle
        simp +contextual (dsimp := false) [hbc]
        refine ifA_dec (fun h9 => ?_) (fun h9 => ?_)
        · obtain ⟨id5, o5, c5, e5, f5, ow5, cs5, Fi5, E5⟩ := SlR.get (Rp.fr hc2 (H' := hp) fun j hj => by
            have h1 := W.df j (hsub2 j hj)
            have h2 := Rp.lt hc2 j hj
            rw [hfr j (by omega) h1.2.1 h1.2.2 (fun hc => by have := W.fr.1 j hc; omega), hne j (fun hc => h1.2.2 (hc ▸ E.mem))]) k h9
          obtain ⟨rfl, rfl, hokL⟩ := E5.rep
          have hbkL := hbk i hi
          rw [hda] at hbkL
          have hbkk := hbkL _ (List.getElem_mem h9)
          have hnext := foldl_take_s (fun s l => if l.ask then dfs ds f l.at_.toNat (d + 1) s else s) ds[i].links (st.1 ++ [((i : Int), d)], st.2) k h9
          rw [← hst] at hnext
          have hbc2 : ∀ T : Heap, (hp ++ T)[H1.length]? = _ := fun T => (get_ext (by omega)).trans hbc
          have hbh2 : ∀ T : Heap, (hp ++ T)[ph]? = _ := fun T => (get_ext (by omega)).trans W2.bh
          have hbh0 := W2.bh
          have hbnd2 := hc2.bound
          generalize ds[i].links[k] = L at *
          cases ha : L.ask
          · simp +contextual (dsimp := false) [E5.idx, E5.goB, E5.blk, E5.le, E5.lt, E5.ext, E5.cell 1 (by omega), E5.cell 3 (by omega), Lnk.c, ha, hbc, hbc2, wrap_succ (show k < 9223372036854775807 by omega)]
            exact LoopN.of (k + 1, _, st', s', F') rfl ⟨h9, W2, hok2, by rw [hnext, ha]; rfl, ⟨x0, x1, x2, x3, x4, hbc⟩, hfr, hFs, hle⟩ (by dsimp only; omega)
          · obtain ⟨g1, g2⟩ := hbkk ha
            obtain ⟨q, hq⟩ : ∃ q : Nat, L.at_ = q := ⟨L.at_.toNat, by omega⟩
            obtain ⟨id6, o6, c6, e6, f6, ow6, cs6, Fi6, E6⟩ := SlR.get W2.ls q (by rw [metL_len]; omega)
            obtain ⟨rfl, rfl, -⟩ := E6.rep
            have hx6 := metL_get ds.length st'.1 q (by omega)
            have hwd : IntKind.i64.wrap (d + 1) = d + 1 := wrap_of (d + 1) (by omega) (by omega)
            by_cases hmq : (q : Int) ∈ st'.1.map (·.1)
            · rw [decide_eq_true hmq] at hx6
              simp +contextual (dsimp := false) [E5.idx, E5.goB, E5.blk, E5.le, E5.lt, E5.ext, E5.cell 1 (by omega), E5.cell 3 (by omega), E6.idx, E6.goB, E6.blk, E6.le, E6.lt, E6.ext, E6.cell0 (by decide), Lnk.c, ha, hbc, hbc2, hbh0, hbh2, hwd, hq, hx6, wrap_succ (show k < 9223372036854775807 by omega)]
              exact LoopN.of (k + 1, _, st', s', F') rfl ⟨h9, W2, hok2, by rw [hnext, ha, hq]; exact (dfs_in hmq).symm, ⟨x0, x1, x2, x3, x4, hbc⟩, hfr, hFs, hle⟩ (by dsimp only; omega)
            · rw [decide_eq_false hmq] at hx6
              simp +contextual (dsimp := false) [E5.idx, E5.goB, E5.blk, E5.le, E5.lt, E5.ext, E5.cell 1 (by omega), E5.cell 3 (by omega), E6.idx, E6.goB, E6.blk, E6.le, E6.lt, E6.ext, E6.cell0 (by decide), Lnk.c, ha, hbc, hbc2, hbh0, hbh2, hwd, hq, hx6, wrap_succ (show k < 9223372036854775807 by omega)]
              refine CallK.of ⟨_, Try.func102, rfl, rfl⟩ (ih q (d + 1) _ st' s' F' (by omega) (by omega) (by omega) (by omega) hok2 hmq W2) ?_
              rintro v S' ⟨rfl, s'', F'', W3, hfr3, hFs3, hle3⟩
              simp +contextual (dsimp := false) [wrap_succ (show k < 9223372036854775807 by omega)]
              have hnF : ∀ j, j < H.length + 1 → j ∉ Fo → j ∉ F' := fun j h1 h2 h3 => (hFs j h3).elim h2 fun h => by omega
              refine LoopN.of (k + 1, S', dfs ds f q (d + 1) st', s'', F'') rfl ⟨h9, W3, (dfs_ok hbk f q (d + 1) st' (by omega) (by omega) hok2).1, by rw [hnext, ha, hq]; rfl, ⟨x0, x1, x2, x3, x4, (hfr3 _ (by omega) (by omega) (fun hc => by have := W.fl.2 _ hc; omega) (hnF _ (by omega) fun hc => by have := Rp.lt W.ord _ hc; omega)).trans hbc⟩,
                fun j h1 h2 h3 h4 => (hfr3 j (by omega) h2 h3 (hnF j (by omega) h4)).trans (hfr j h1 h2 h3 h4), fun j hj => (hFs3 j hj).elim (hFs j) fun h => .inr (by omega), by dsimp only; omega⟩ (by dsimp only; omega)
        · rw [List.take_of_length_le (by omega)] at hst
          have hD : dfs ds (f + 1) i d st = (st'.1, st'.2 ++ [(i : Int)]) := by rw [dfs, if_neg hm, hst, hda]
          rw [hD]
          obtain ⟨as', zs', rfl⟩ := W2.ord.form
          have hbnd3 := hok2.bound
          simp +contextual (dsimp := false) [W2.bh]
          refine AppK.one (R := intR') (l := st'.2) (ex := 3) (fx := (0, 0)) (ox := true) (base := base) (x := (i : Int)) (cx := [.int .i64 (i : Int)]) (Fx := []) slt95 und95 ?_ W2.fr ?_ ?_ (Fresh.nil _) (by simp) ?_ ?_ (by decide) ?_
          · exact Rp.ext W2.ord (Ext.app _ _)
          · simp
          · exact ⟨rfl, rfl, by omega, by omega⟩
          · simp; omega
          · omega
          intro s4 H4 F4 q1 q2 q3 q4 q5
          simp at q3
          have hnF : ∀ j, j < H.length + 1 → j ∉ Fo → j ∉ F' := fun j h1 h2 h3 => (hFs j h3).elim h2 fun h => by omega
          have hq : ∀ j, j < hp.length → j ∉ F' → H4[j]? = hp[j]? := fun j hj hn => (q4 j (by simp; omega) hn).trans (get_ext hj)
          have hnb' : ∀ j, j < base → j ∉ F' := fun j h1 h2 => by have := W2.fr.1 j h2; omega
          have e4 := (hq ph (by omega) (hnb' _ hl1)).trans W2.bh
          obtain ⟨a4, z4, rfl⟩ := q1.form
          simp +contextual (dsimp := false) [e4]
          have hne4 : ∀ (b : Blk) (j : Nat), j ≠ ph → (H4.set ph b)[j]? = H4[j]? := fun b j hj => List.getElem?_set_ne (Ne.symm hj)
          refine ⟨.slice a4 (st'.2.length + 1) z4, F4, ⟨?_, ?_, W.fl, ?_, q2, ⟨hl1, by simp; omega⟩, ?_, W.df⟩, fun j hj h1 h2 h3 => ((hne4 _ j h1).trans ((hq j (by omega) (hnF j (by omega) h3)).trans (hfr j hj h1 h2 h3))).trans (List.getElem?_eq_getElem hj), fun j hj => ?_, by omega⟩
          · exact List.getElem?_set_self (by omega)
          · exact Rp.fr W2.ls fun j hj => (hne4 _ j (W.fl.2 j hj).2).trans (hq j (Rp.lt W2.ls j hj) (hnb' j (W.fl.2 j hj).1))
          · simp only [List.length_append, List.length_singleton] at q1
            exact Rp.fr q1 fun j hj => hne4 _ j (by have := q2.1 j hj; omega)
          · exact Rp.fr W2.dd fun j hj => (hne4 _ j (W.df j hj).2.1).trans (hq j (Rp.lt W2.dd j hj) (hnb' j (W.df j hj).1))
          · rcases q5 j hj with h | h | h
            · exact (hFs j h).imp_right (by omega)
            · cases h
            · simp at h
              exact .inr (by omega)
    · rw [if_neg hC] at hnb
      rw [hnb] at fin
      have fin1 := fun x0 x1 x2 x3 x4 => fin H1 x0 x1 x2 x3 x4 (fun _ _ => rfl) rfl hbh1
      by_cases k3 : ds[i].kind = 3
      · by_cases h60 : 60 ≤ d
        · have hdn : ¬ deepM ds st.1 < 0 := fun h => hC ⟨k3, h60, .inl h⟩
          have hdn2 : ¬ (i : Int) < deepM ds st.1 := fun h => hC ⟨k3, h60, .inr h⟩
          simp +contextual (dsimp := false) [k3, h60, hb2, hdn, hdn2, hgs]
          refine LoopA.up (σ := Nat × Heap × (List (Int × Int) × List Int) × Value × List Nat) [0, 1, 2, 6, 7] (fun x => [(7, int x.1)]) (fun x => x.2.1)
            (fun x => x.1 ≤ ds[i].links.length ∧ ListS own x.2.1 ds (.slice ad ds.length zd) FD ph base (.slice al (metL ds.length st.1).length zl) Fl x.2.2.1 x.2.2.2.1 x.2.2.2.2 ∧ LOk ds.length x.2.2.1 ∧
              x.2.2.1 = (ds[i].links.take x.1).foldl (fun s l => if l.ask then dfs ds f l.at_.toNat (d + 1) s else s) (st.1 ++ [((i : Int), d)], st.2) ∧
              (∃ x0 x1 x2 x3 x4, x.2.1[H1.length]? = some ⟨.cells #[x0, x1, x2, x3, x4, .slice a2 ds[i].links.length z2] 91 (0, 0), true, true⟩) ∧
              (∀ j, j < H.length → j ≠ ph → j ∉ Fl → j ∉ Fo → x.2.1[j]? = H[j]?) ∧ (∀ j ∈ x.2.2.2.2, j ∈ Fo ∨ H.length + 1 ≤ j) ∧ H.length + 1 ≤ x.2.1.length)
            (fun x => ds[i].links.length - x.1) (0, _, (st.1 ++ [((i : Int), d)], st.2), .slice ao st.2.length zo, Fo) rfl (fin1 _ _ _ _ _) ?_
          rintro ⟨k, hp, st', s', F'⟩ ⟨hk, W2, hok2, hst, ⟨x0, x1, x2, x3, x4, hbc⟩, hfr, hFs, hle⟩
          dsimp only at hk W2 hok2 hst hbc hfr hFs hle
          simp +contextual (dsimp := false) [hbc]
          refine ifA_dec (fun h9 => ?_) (fun h9 => ?_)
          · obtain ⟨id5, o5, c5, e5, f5, ow5, cs5, Fi5, E5⟩ := SlR.get (Rp.fr hc2 (H' := hp) fun j hj => by
              have h1 := W.df j (hsub2 j hj)
              have h2 := Rp.lt hc2 j hj
              rw [hfr j (by omega) h1.2.1 h1.2.2 (fun hc => by have := W.fr.1 j hc; omega), hne j (fun hc => h1.2.2 (hc ▸ E.mem))]) k h9
            obtain ⟨rfl, rfl, hokL⟩ := E5.rep
            have hbkL := hbk i hi
            rw [hda] at hbkL
            have hbkk := hbkL _ (List.getElem_mem h9)
            have hnext := foldl_take_s (fun s l => if l.ask then dfs ds f l.at_.toNat (d + 1) s else s) ds[i].links (st.1 ++ [((i : Int), d)], st.2) k h9
            rw [← hst] at hnext
            have hbc2 : ∀ T : Heap, (hp ++ T)[H1.length]? = _ := fun T => (get_ext (by omega)).trans hbc
            have hbh2 : ∀ T : Heap, (hp ++ T)[ph]? = _ := fun T => (get_ext (by omega)).trans W2.bh
            have hbh0 := W2.bh
            have hbnd2 := hc2.bound
            generalize ds[i].links[k] = L at *
            cases ha : L.ask
            · simp +contextual (dsimp := false) [E5.idx, E5.goB, E5.blk, E5.le, E5.lt, E5.ext, E5.cell 1 (by omega), E5.cell 3 (by omega), Lnk.c, ha, hbc, hbc2, wrap_succ (show k < 9223372036854775807 by omega)]
              exact LoopN.of (k + 1, _, st', s', F') rfl ⟨h9, W2, hok2, by rw [hnext, ha]; rfl, ⟨x0, x1, x2, x3, x4, hbc⟩, hfr, hFs, hle⟩ (by dsimp only; omega)
            · obtain ⟨g1, g2⟩ := hbkk ha
              obtain ⟨q, hq⟩ : ∃ q : Nat, L.at_ = q := ⟨L.at_.toNat, by omega⟩
              obtain ⟨id6, o6, c6, e6, f6, ow6, cs6, Fi6, E6⟩ := SlR.get W2.ls q (by rw [metL_len]; omega)
              obtain ⟨rfl, rfl, -⟩ := E6.rep
              have hx6 := metL_get ds.length st'.1 q (by omega)
              have hwd : IntKind.i64.wrap (d + 1) = d + 1 := wrap_of (d + 1) (by omega) (by omega)
              by_cases hmq : (q : Int) ∈ st'.1.map (·.1)
              · rw [decide_eq_true hmq] at hx6
                simp +contextual (dsimp := false) [E5.idx, E5.goB, E5.blk, E5.le, E5.lt, E5.ext, E5.cell 1 (by omega), E5.cell 3 (by omega), E6.idx, E6.goB, E6.blk, E6.le, E6.lt, E6.ext, E6.cell0 (by decide), Lnk.c, ha, hbc, hbc2, hbh0, hbh2, hwd, hq, hx6, wrap_succ (show k < 9223372036854775807 by omega)]
                exact LoopN.of (k + 1, _, st', s', F') rfl ⟨h9, W2, hok2, by rw [hnext, ha, hq]; exact (dfs_in hmq).symm, ⟨x0, x1, x2, x3, x4, hbc⟩, hfr, hFs, hle⟩ (by dsimp only; omega)
              · rw [decide_eq_false hmq] at hx6
                simp +contextual (dsimp := false) [E5.idx, E5.goB, E5.blk, E5.le, E5.lt, E5.ext, E5.cell 1 (by omega), E5.cell 3 (by omega), E6.idx, E6.goB, E6.blk, E6.le, E6.lt, E6.ext, E6.cell0 (by decide), Lnk.c, ha, hbc, hbc2, hbh0, hbh2, hwd, hq, hx6, wrap_succ (show k < 9223372036854775807 by omega)]
                refine CallK.of ⟨_, Try.func102, rfl, rfl⟩ (ih q (d + 1) _ st' s' F' (by omega) (by omega) (by omega) (by omega) hok2 hmq W2) ?_
                rintro v S' ⟨rfl, s'', F'', W3, hfr3, hFs3, hle3⟩
                simp +contextual (dsimp := false) [wrap_succ (show k < 9223372036854775807 by omega)]
                have hnF : ∀ j, j < H.length + 1 → j ∉ Fo → j ∉ F' := fun j h1 h2 h3 => (hFs j h3).elim h2 fun h => by omega
                refine LoopN.of (k + 1, S', dfs ds f q (d + 1) st', s'', F'') rfl ⟨h9, W3, (dfs_ok hbk f q (d + 1) st' (by omega) (by omega) hok2).1, by rw [hnext, ha, hq]; rfl, ⟨x0, x1, x2, x3, x4, (hfr3 _ (by omega) (by omega) (fun hc => by have := W.fl.2 _ hc; omega) (hnF _ (by omega) fun hc => by have := Rp.lt W.ord _ hc; omega)).trans hbc⟩,
                  fun j h1 h2 h3 h4 => (hfr3 j (by omega) h2 h3 (hnF j (by omega) h4)).trans (hfr j h1 h2 h3 h4), fun j hj => (hFs3 j hj).elim (hFs j) fun h => .inr (by omega), by dsimp only; omega⟩ (by dsimp only; omega)
          · rw [List.take_of_length_le (by omega)] at hst
            have hD : dfs ds (f + 1) i d st = (st'.1, st'.2 ++ [(i : Int)]) := by rw [dfs, if_neg hm, hst, hda]
            rw [hD]
            obtain ⟨as', zs', rfl⟩ := W2.ord.form
            have hbnd3 := hok2.bound
            simp +contextual (dsimp := false) [W2.bh]
            refine AppK.one (R := intR') (l := st'.2) (ex := 3) (fx := (0, 0)) (ox := true) (base := base) (x := (i : Int)) (cx := [.int .i64 (i : Int)]) (Fx := []) slt95 und95 ?_ W2.fr ?_ ?_ (Fresh.nil _) (by simp) ?_ ?_ (by decide) ?_
            · exact Rp.ext W2.ord (Ext.app _ _)
            · simp
            · exact ⟨rfl, rfl, by omega, by omega⟩
            · simp; omega
            · omega
            intro s4 H4 F4 q1 q2 q3 q4 q5
            simp at q3
            have hnF : ∀ j, j < H.length + 1 → j ∉ Fo → j ∉ F' := fun j h1 h2 h3 => (hFs j h3).elim h2 fun h => by omega
            have hq : ∀ j, j < hp.length → j ∉ F' → H4[j]? = hp[j]? := fun j hj hn => (q4 j (by simp; omega) hn).trans (get_ext hj)
            have hnb' : ∀ j, j < base → j ∉ F' := fun j h1 h2 => by have := W2.fr.1 j h2; omega
            have e4 := (hq ph (by omega) (hnb' _ hl1)).trans W2.bh
            obtain ⟨a4, z4, rfl⟩ := q1.form
            simp +contextual (dsimp := false) [e4]
            have hne4 : ∀ (b : Blk) (j : Nat), j ≠ ph → (H4.set ph b)[j]? = H4[j]? := fun b j hj => List.getElem?_set_ne (Ne.symm hj)
            refine ⟨.slice a4 (st'.2.length + 1) z4, F4, ⟨?_, ?_, W.fl, ?_, q2, ⟨hl1, by simp; omega⟩, ?_, W.df⟩, fun j hj h1 h2 h3 => ((hne4 _ j h1).trans ((hq j (by omega) (hnF j (by omega) h3)).trans (hfr j hj h1 h2 h3))).trans (List.getElem?_eq_getElem hj), fun j hj => ?_, by omega⟩
            · exact List.getElem?_set_self (by omega)
            · exact Rp.fr W2.ls fun j hj => (hne4 _ j (W.fl.2 j hj).2).trans (hq j (Rp.lt W2.ls j hj) (hnb' j (W.fl.2 j hj).1))
            · simp only [List.length_append, List.length_singleton] at q1
              exact Rp.fr q1 fun j hj => hne4 _ j (by have := q2.1 j hj; omega)
            · exact Rp.fr W2.dd fun j hj => (hne4 _ j (W.df j hj).2.1).trans (hq j (Rp.lt W2.dd j hj) (hnb' j (W.df j hj).1))
            · rcases q5 j hj with h | h | h
              · exact (hFs j h).imp_right (by omega)
              · cases h
              · simp at h
                exact .inr (by omega)
        · simp +contextual (dsimp := false) [k3, h60, hb2, hgs]
          refine LoopA.up (σ := Nat × Heap × (List (Int × Int) × List Int) × Value × List Nat) [0, 1, 2, 6, 7] (fun x => [(7, int x.1)]) (fun x => x.2.1)
            (fun x => x.1 ≤ ds[i].links.length ∧ ListS own x.2.1 ds (.slice ad ds.length zd) FD ph base (.slice al (metL ds.length st.1).length zl) Fl x.2.2.1 x.2.2.2.1 x.2.2.2.2 ∧ LOk ds.length x.2.2.1 ∧
              x.2.2.1 = (ds[i].links.take x.1).foldl (fun s l => if l.ask then dfs ds f l.at_.toNat (d + 1) s else s) (st.1 ++ [((i : Int), d)], st.2) ∧
              (∃ x0 x1 x2 x3 x4, x.2.1[H1.length]? = some ⟨.cells #[x0, x1, x2, x3, x4, .slice a2 ds[i].links.length z2] 91 (0, 0), true, true⟩) ∧
              (∀ j, j < H.length → j ≠ ph → j ∉ Fl → j ∉ Fo → x.2.1[j]? = H[j]?) ∧ (∀ j ∈ x.2.2.2.2, j ∈ Fo ∨ H.length + 1 ≤ j) ∧ H.length + 1 ≤ x.2.1.length)
            (fun x => ds[i].links.length - x.1) (0, _, (st.1 ++ [((i : Int), d)], st.2), .slice ao st.2.length zo, Fo) rfl (fin1 _ _ _ _ _) ?_
          rintro ⟨k, hp, st', s', F'⟩ ⟨hk, W2, hok2, hst, ⟨x0, x1, x2, x3, x4, hbc⟩, hfr, hFs, hle⟩
          dsimp only at hk W2 hok2 hst hbc hfr hFs hle
          simp +contextual (dsimp := false) [hbc]
          refine ifA_dec (fun h9 => ?_) (fun h9 => ?_)
          · obtain ⟨id5, o5, c5, e5, f5, ow5, cs5, Fi5, E5⟩ := SlR.get (Rp.fr hc2 (H' := hp) fun j hj => by
              have h1 := W.df j (hsub2 j hj)
              have h2 := Rp.lt hc2 j hj
              rw [hfr j (by omega) h1.2.1 h1.2.2 (fun hc => by have := W.fr.1 j hc; omega), hne j (fun hc => h1.2.2 (hc ▸ E.mem))]) k h9
            obtain ⟨rfl, rfl, hokL⟩ := E5.rep
            have hbkL := hbk i hi
            rw [hda] at hbkL
            have hbkk := hbkL _ (List.getElem_mem h9)
            have hnext := foldl_take_s (fun s l => if l.ask then dfs ds f l.at_.toNat (d + 1) s else s) ds[i].links (st.1 ++ [((i : Int), d)], st.2) k h9
            rw [← hst] at hnext
            have hbc2 : ∀ T : Heap, (hp ++ T)[H1.length]? = _ := fun T => (get_ext (by omega)).trans hbc
            have hbh2 : ∀ T : Heap, (hp ++ T)[ph]? = _ := fun T => (get_ext (by omega)).trans W2.bh
            have hbh0 := W2.bh
            have hbnd2 := hc2.bound
            generalize ds[i].links[k] = L at *
            cases ha : L.ask
            · simp +contextual (dsimp := false) [E5.idx, E5.goB, E5.blk, E5.le, E5.lt, E5.ext, E5.cell 1 (by omega), E5.cell 3 (by omega), Lnk.c, ha, hbc, hbc2, wrap_succ (show k < 9223372036854775807 by omega)]
              exact LoopN.of (k + 1, _, st', s', F') rfl ⟨h9, W2, hok2, by rw [hnext, ha]; rfl, ⟨x0, x1, x2, x3, x4, hbc⟩, hfr, hFs, hle⟩ (by dsimp only; omega)
            · obtain ⟨g1, g2⟩ := hbkk ha
              obtain ⟨q, hq⟩ : ∃ q : Nat, L.at_ = q := ⟨L.at_.toNat, by omega⟩
              obtain ⟨id6, o6, c6, e6, f6, ow6, cs6, Fi6, E6⟩ := SlR.get W2.ls q (by rw [metL_len]; omega)
              obtain ⟨rfl, rfl, -⟩ := E6.rep
              have hx6 := metL_get ds.length st'.1 q (by omega)
              have hwd : IntKind.i64.wrap (d + 1) = d + 1 := wrap_of (d + 1) (by omega) (by omega)
              by_cases hmq : (q : Int) ∈ st'.1.map (·.1)
              · rw [decide_eq_true hmq] at hx6
                simp +contextual (dsimp := false) [E5.idx, E5.goB, E5.blk, E5.le, E5.lt, E5.ext, E5.cell 1 (by omega), E5.cell 3 (by omega), E6.idx, E6.goB, E6.blk, E6.le, E6.lt, E6.ext, E6.cell0 (by decide), Lnk.c, ha, hbc, hbc2, hbh0, hbh2, hwd, hq, hx6, wrap_succ (show k < 9223372036854775807 by omega)]
                exact LoopN.of (k + 1, _, st', s', F') rfl ⟨h9, W2, hok2, by rw [hnext, ha, hq]; exact (dfs_in hmq).symm, ⟨x0, x1, x2, x3, x4, hbc⟩, hfr, hFs, hle⟩ (by dsimp only; omega)
              · rw [decide_eq_false hmq] at hx6
                simp +contextual (dsimp := false) [E5.idx, E5.goB, E5.blk, E5.le, E5.lt, E5.ext, E5.cell 1 (by omega), E5.cell 3 (by omega), E6.idx, E6.goB, E6.blk, E6.le, E6.lt, E6.ext, E6.cell0 (by decide), Lnk.c, ha, hbc, hbc2, hbh0, hbh2, hwd, hq, hx6, wrap_succ (show k < 9223372036854775807 by omega)]
                refine CallK.of ⟨_, Try.func102, rfl, rfl⟩ (ih q (d + 1) _ st' s' F' (by omega) (by omega) (by omega) (by omega) hok2 hmq W2) ?_
                rintro v S' ⟨rfl, s'', F'', W3, hfr3, hFs3, hle3⟩
                simp +contextual (dsimp := false) [wrap_succ (show k < 9223372036854775807 by omega)]
                have hnF : ∀ j, j < H.length + 1 → j ∉ Fo → j ∉ F' := fun j h1 h2 h3 => (hFs j h3).elim h2 fun h => by omega
                refine LoopN.of (k + 1, S', dfs ds f q (d + 1) st', s'', F'') rfl ⟨h9, W3, (dfs_ok hbk f q (d + 1) st' (by omega) (by omega) hok2).1, by rw [hnext, ha, hq]; rfl, ⟨x0, x1, x2, x3, x4, (hfr3 _ (by omega) (by omega) (fun hc => by have := W.fl.2 _ hc; omega) (hnF _ (by omega) fun hc => by have := Rp.lt W.ord _ hc; omega)).trans hbc⟩,
                  fun j h1 h2 h3 h4 => (hfr3 j (by omega) h2 h3 (hnF j (by omega) h4)).trans (hfr j h1 h2 h3 h4), fun j hj => (hFs3 j hj).elim (hFs j) fun h => .inr (by omega), by dsimp only; omega⟩ (by dsimp only; omega)
          · rw [List.take_of_length_le (by omega)] at hst
            have hD : dfs ds (f + 1) i d st = (st'.1, st'.2 ++ [(i : Int)]) := by rw [dfs, if_neg hm, hst, hda]
            rw [hD]
            obtain ⟨as', zs', rfl⟩ := W2.ord.form
            have hbnd3 := hok2.bound
            simp +contextual (dsimp := false) [W2.bh]
            refine AppK.one (R := intR') (l := st'.2) (ex := 3) (fx := (0, 0)) (ox := true) (base := base) (x := (i : Int)) (cx := [.int .i64 (i : Int)]) (Fx := []) slt95 und95 ?_ W2.fr ?_ ?_ (Fresh.nil _) (by simp) ?_ ?_ (by decide) ?_
            · exact Rp.ext W2.ord (Ext.app _ _)
            · simp
            · exact ⟨rfl, rfl, by omega, by omega⟩
            · simp; omega
            · omega
            intro s4 H4 F4 q1 q2 q3 q4 q5
            simp at q3
            have hnF : ∀ j, j < H.length + 1 → j ∉ Fo → j ∉ F' := fun j h1 h2 h3 => (hFs j h3).elim h2 fun h => by omega
            have hq : ∀ j, j < hp.length → j ∉ F' → H4[j]? = hp[j]? := fun j hj hn => (q4 j (by simp; omega) hn).trans (get_ext hj)
            have hnb' : ∀ j, j < base → j ∉ F' := fun j h1 h2 => by have := W2.fr.1 j h2; omega
            have e4 := (hq ph (by omega) (hnb' _ hl1)).trans W2.bh
            obtain ⟨a4, z4, rfl⟩ := q1.form
            simp +contextual (dsimp := false) [e4]
            have hne4 : ∀ (b : Blk) (j : Nat), j ≠ ph → (H4.set ph b)[j]? = H4[j]? := fun b j hj => List.getElem?_set_ne (Ne.symm hj)
            refine ⟨.slice a4 (st'.2.length + 1) z4, F4, ⟨?_, ?_, W.fl, ?_, q2, ⟨hl1, by simp; omega⟩, ?_, W.df⟩, fun j hj h1 h2 h3 => ((hne4 _ j h1).trans ((hq j (by omega) (hnF j (by omega) h3)).trans (hfr j hj h1 h2 h3))).trans (List.getElem?_eq_getElem hj), fun j hj => ?_, by omega⟩
            · exact List.getElem?_set_self (by omega)
            · exact Rp.fr W2.ls fun j hj => (hne4 _ j (W.fl.2 j hj).2).trans (hq j (Rp.lt W2.ls j hj) (hnb' j (W.fl.2 j hj).1))
            · simp only [List.length_append, List.length_singleton] at q1
              exact Rp.fr q1 fun j hj => hne4 _ j (by have := q2.1 j hj; omega)
            · exact Rp.fr W2.dd fun j hj => (hne4 _ j (W.df j hj).2.1).trans (hq j (Rp.lt W2.dd j hj) (hnb' j (W.df j hj).1))
            · rcases q5 j hj with h | h | h
              · exact (hFs j h).imp_right (by omega)
              · cases h
              · simp at h
                exact .inr (by omega)
      · simp +contextual (dsimp := false) [k3, hb2, hgs]
        refine LoopA.up (σ := Nat × Heap × (List (Int × Int) × List Int) × Value × List Nat) [0, 1, 2, 6, 7] (fun x => [(7, int x.1)]) (fun x => x.2.1)
          (fun x => x.1 ≤ ds[i].links.length ∧ ListS own x.2.1 ds (.slice ad ds.length zd) FD ph base (.slice al (metL ds.length st.1).length zl) Fl x.2.2.1 x.2.2.2.1 x.2.2.2.2 ∧ LOk ds.length x.2.2.1 ∧
            x.2.2.1 = (ds[i].links.take x.1).foldl (fun s l => if l.ask then dfs ds f l.at_.toNat (d + 1) s else s) (st.1 ++ [((i : Int), d)], st.2) ∧
            (∃ x0 x1 x2 x3 x4, x.2.1[H1.length]? = some ⟨.cells #[x0, x1, x2, x3, x4, .slice a2 ds[i].links.length z2] 91 (0, 0), true, true⟩) ∧
            (∀ j, j < H.length → j ≠ ph → j ∉ Fl → j ∉ Fo → x.2.1[j]? = H[j]?) ∧ (∀ j ∈ x.2.2.2.2, j ∈ Fo ∨ H.length + 1 ≤ j) ∧ H.length + 1 ≤ x.2.1.length)
          (fun x => ds[i].links.length - x.1) (0, _, (st.1 ++ [((i : Int), d)], st.2), .slice ao st.2.length zo, Fo) rfl (fin1 _ _ _ _ _) ?_
        rintro ⟨k, hp, st', s', F'⟩ ⟨hk, W2, hok2, hst, ⟨x0, x1, x2, x3, x4, hbc⟩, hfr, hFs, hle⟩
        dsimp only at hk W2 hok2 hst hbc hfr hFs hle
        simp +contextual (dsimp := false) [hbc]
        refine ifA_dec (fun h9 => ?_) (fun h9 => ?_)
        · obtain ⟨id5, o5, c5, e5, f5, ow5, cs5, Fi5, E5⟩ := SlR.get (Rp.fr hc2 (H' := hp) fun j hj => by
            have h1 := W.df j (hsub2 j hj)
            have h2 := Rp.lt hc2 j hj
            rw [hfr j (by omega) h1.2.1 h1.2.2 (fun hc => by have := W.fr.1 j hc; omega), hne j (fun hc => h1.2.2 (hc ▸ E.mem))]) k h9
          obtain ⟨rfl, rfl, hokL⟩ := E5.rep
          have hbkL := hbk i hi
          rw [hda] at hbkL
          have hbkk := hbkL _ (List.getElem_mem h9)
          have hnext := foldl_take_s (fun s l => if l.ask then dfs ds f l.at_.toNat (d + 1) s else s) ds[i].links (st.1 ++ [((i : Int), d)], st.2) k h9
          rw [← hst] at hnext
          have hbc2 : ∀ T : Heap, (hp ++ T)[H1.length]? = _ := fun T => (get_ext (by omega)).trans hbc
          have hbh2 : ∀ T : Heap, (hp ++ T)[ph]? = _ := fun T => (get_ext (by omega)).trans W2.bh
          have hbh0 := W2.bh
          have hbnd2 := hc2.bound
          generalize ds[i].links[k] = L at *
          cases ha : L.ask
          · simp +contextual (dsimp := false) [E5.idx, E5.goB, E5.blk, E5.le, E5.lt, E5.ext, E5.cell 1 (by omega), E5.cell 3 (by omega), Lnk.c, ha, hbc, hbc2, wrap_succ (show k < 9223372036854775807 by omega)]
            exact LoopN.of (k + 1, _, st', s', F') rfl ⟨h9, W2, hok2, by rw [hnext, ha]; rfl, ⟨x0, x1, x2, x3, x4, hbc⟩, hfr, hFs, hle⟩ (by dsimp only; omega)
          · obtain ⟨g1, g2⟩ := hbkk ha
            obtain ⟨q, hq⟩ : ∃ q : Nat, L.at_ = q := ⟨L.at_.toNat, by omega⟩
            obtain ⟨id6, o6, c6, e6, f6, ow6, cs6, Fi6, E6⟩ := SlR.get W2.ls q (by rw [metL_len]; omega)
            obtain ⟨rfl, rfl, -⟩ := E6.rep
            have hx6 := metL_get ds.length st'.1 q (by omega)
            have hwd : IntKind.i64.wrap (d + 1) = d + 1 := wrap_of (d + 1) (by omega) (by omega)
            by_cases hmq : (q : Int) ∈ st'.1.map (·.1)
            · rw [decide_eq_true hmq] at hx6
              simp +contextual (dsimp := false) [E5.idx, E5.goB, E5.blk, E5.le, E5.lt, E5.ext, E5.cell 1 (by omega), E5.cell 3 (by omega), E6.idx, E6.goB, E6.blk, E6.le, E6.lt, E6.ext, E6.cell0 (by decide), Lnk.c, ha, hbc, hbc2, hbh0, hbh2, hwd, hq, hx6, wrap_succ (show k < 9223372036854775807 by omega)]
              exact LoopN.of (k + 1, _, st', s', F') rfl ⟨h9, W2, hok2, by rw [hnext, ha, hq]; exact (dfs_in hmq).symm, ⟨x0, x1, x2, x3, x4, hbc⟩, hfr, hFs, hle⟩ (by dsimp only; omega)
            · rw [decide_eq_false hmq] at hx6
              simp +contextual (dsimp := false) [E5.idx, E5.goB, E5.blk, E5.le, E5.lt, E5.ext, E5.cell 1 (by omega), E5.cell 3 (by omega), E6.idx, E6.goB, E6.blk, E6.le, E6.lt, E6.ext, E6.cell0 (by decide), Lnk.c, ha, hbc, hbc2, hbh0, hbh2, hwd, hq, hx6, wrap_succ (show k < 9223372036854775807 by omega)]
              refine CallK.of ⟨_, Try.func102, rfl, rfl⟩ (ih q (d + 1) _ st' s' F' (by omega) (by omega) (by omega) (by omega) hok2 hmq W2) ?_
              rintro v S' ⟨rfl, s'', F'', W3, hfr3, hFs3, hle3⟩
              simp +contextual (dsimp := false) [wrap_succ (show k < 9223372036854775807 by omega)]
              have hnF : ∀ j, j < H.length + 1 → j ∉ Fo → j ∉ F' := fun j h1 h2 h3 => (hFs j h3).elim h2 fun h => by omega
              refine LoopN.of (k + 1, S', dfs ds f q (d + 1) st', s'', F'') rfl ⟨h9, W3, (dfs_ok hbk f q (d + 1) st' (by omega) (by omega) hok2).1, by rw [hnext, ha, hq]; rfl, ⟨x0, x1, x2, x3, x4, (hfr3 _ (by omega) (by omega) (fun hc => by have := W.fl.2 _ hc; omega) (hnF _ (by omega) fun hc => by have := Rp.lt W.ord _ hc; omega)).trans hbc⟩,
                fun j h1 h2 h3 h4 => (hfr3 j (by omega) h2 h3 (hnF j (by omega) h4)).trans (hfr j h1 h2 h3 h4), fun j hj => (hFs3 j hj).elim (hFs j) fun h => .inr (by omega), by dsimp only; omega⟩ (by dsimp only; omega)
        · rw [List.take_of_length_le (by omega)] at hst
          have hD : dfs ds (f + 1) i d st = (st'.1, st'.2 ++ [(i : Int)]) := by rw [dfs, if_neg hm, hst, hda]
          rw [hD]
          obtain ⟨as', zs', rfl⟩ := W2.ord.form
          have hbnd3 := hok2.bound
          simp +contextual (dsimp := false) [W2.bh]
          refine AppK.one (R := intR') (l := st'.2) (ex := 3) (fx := (0, 0)) (ox := true) (base := base) (x := (i : Int)) (cx := [.int .i64 (i : Int)]) (Fx := []) slt95 und95 ?_ W2.fr ?_ ?_ (Fresh.nil _) (by simp) ?_ ?_ (by decide) ?_
          · exact Rp.ext W2.ord (Ext.app _ _)
          · simp
          · exact ⟨rfl, rfl, by omega, by omega⟩
          · simp; omega
          · omega
          intro s4 H4 F4 q1 q2 q3 q4 q5
          simp at q3
          have hnF : ∀ j, j < H.length + 1 → j ∉ Fo → j ∉ F' := fun j h1 h2 h3 => (hFs j h3).elim h2 fun h => by omega
          have hq : ∀ j, j < hp.length → j ∉ F' → H4[j]? = hp[j]? := fun j hj hn => (q4 j (by simp; omega) hn).trans (get_ext hj)
          have hnb' : ∀ j, j < base → j ∉ F' := fun j h1 h2 => by have := W2.fr.1 j h2; omega
          have e4 := (hq ph (by omega) (hnb' _ hl1)).trans W2.bh
          obtain ⟨a4, z4, rfl⟩ := q1.form
          simp +contextual (dsimp := false) [e4]
          have hne4 : ∀ (b : Blk) (j : Nat), j ≠ ph → (H4.set ph b)[j]? = H4[j]? := fun b j hj => List.getElem?_set_ne (Ne.symm hj)
          refine ⟨.slice a4 (st'.2.length + 1) z4, F4, ⟨?_, ?_, W.fl, ?_, q2, ⟨hl1, by simp; omega⟩, ?_, W.df⟩, fun j hj h1 h2 h3 => ((hne4 _ j h1).trans ((hq j (by omega) (hnF j (by omega) h3)).trans (hfr j hj h1 h2 h3))).trans (List.getElem?_eq_getElem hj), fun j hj => ?_, by omega⟩
          · exact List.getElem?_set_self (by omega)
          · exact Rp.fr W2.ls fun j hj => (hne4 _ j (W.fl.2 j hj).2).trans (hq j (Rp.lt W2.ls j hj) (hnb' j (W.fl.2 j hj).1))
          · simp only [List.length_append, List.length_singleton] at q1
            exact Rp.fr q1 fun j hj => hne4 _ j (by have := q2.1 j hj; omega)
          · exact Rp.fr W2.dd fun j hj => (hne4 _ j (W.df j hj).2.1).trans (hq j (Rp.lt W2.dd j hj) (hnb' j (W.df j hj).1))
          · rcases q5 j hj with h | h | h
            · exact (hFs j h).imp_right (by omega)
            · cases h
            · simp at h
              exact .inr (by omega)
end Go.Proofs.Ytehhjbomdohgoaa
