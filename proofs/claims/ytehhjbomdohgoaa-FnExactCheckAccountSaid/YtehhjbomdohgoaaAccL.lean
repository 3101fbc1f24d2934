/- The listing of deeds, the program's. No condition. -/
import Derived.Test.YtehhjbomdohgoaaAccD
set_option linter.unusedSimpArgs false
set_option linter.unusedVariables false
namespace Go.Proofs.Ytehhjbomdohgoaa
open Go Go.Am Go.Proofs
set_option maxRecDepth 20000
variable {ng : Nat}
abbrev kI : Int → Value := fun k => .int .i64 k
theorem keyI : KeyT Try.prog 101 kI 3 3 (.int .i64) (.int .i64 0) :=
  ⟨und101, und3, zer3, rfl, fun _ => rfl, fun a b => sameNow_int .i64 a b⟩
/-- Pairs, as the map holds them. -/
def vI (l : List (Int × Int)) : List (Int × Value) := l.map fun p => (p.1, int p.2)
theorem putP_new {κ : Type} [DecidableEq κ] (a : κ) (v : Value) : ∀ (l : List (κ × Value)), a ∉ l.map (·.1) → putP a v l = l ++ [(a, v)]
  | [], _ => rfl
  | p :: l, h => by
    simp only [List.map_cons, List.mem_cons, not_or] at h
    rw [putP, if_neg h.1, putP_new a v l h.2]
    rfl
theorem getP_none {κ : Type} [DecidableEq κ] (a : κ) : ∀ (l : List (κ × Value)), (getP a l = none) ↔ a ∉ l.map (·.1)
  | [] => by simp [getP_nil]
  | p :: l => by
    rw [getP_cons]
    by_cases h : a = p.1
    · simp [h]
    · rw [if_neg h, getP_none a l]
      simp [h]
theorem vI_keys (l : List (Int × Int)) : (vI l).map (·.1) = l.map (·.1) := by simp [vI]
/-- What the walk's blocks hold. -/
structure WalkS (own : Bool) (H : Heap) (ds : List Deed) (sd : Value) (FD : List Nat) (pd pb pw po m base : Nat) (st : List (Int × Int) × List Int) (s : Value) (F : List Nat) : Prop where
  bd : H[pd]? = some ⟨.cells #[.map (some m)] 101 (0, 0), true, true⟩
  bb : H[pb]? = some ⟨.cells #[sd] 41 (0, 0), true, true⟩
  bw : H[pw]? = some ⟨.cells #[.func (.func 104) #[] #[.pointer (some ⟨pd, 0, none⟩), .pointer (some ⟨pb, 0, none⟩), .pointer (some ⟨pw, 0, none⟩), .pointer (some ⟨po, 0, none⟩)]] 151 (0, 0), true, true⟩
  bo : H[po]? = some ⟨.cells #[s] 95 (0, 0), true, true⟩
  mp : MapR kI H m (vI st.1)
  ord : IntsR true H st.2 [s] F
  fr : Fresh base F
  le : pd < base ∧ pb < base ∧ pw < base ∧ po < base ∧ m < base ∧ base ≤ H.length
  ne : m ≠ pd ∧ m ≠ pb ∧ m ≠ pw ∧ m ≠ po ∧ po ≠ pd ∧ po ≠ pb ∧ po ≠ pw
  dd : DeedsR own H ds [sd] FD
  df : ∀ j ∈ FD, j < base ∧ j ≠ m ∧ j ≠ po
theorem WalkS.ext {own : Bool} {H : Heap} {ds : List Deed} {sd : Value} {FD : List Nat} {pd pb pw po m base : Nat} {st : List (Int × Int) × List Int} {s : Value} {F : List Nat} (W : WalkS own H ds sd FD pd pb pw po m base st s F) {H' : Heap} (he : Ext H H') : WalkS own H' ds sd FD pd pb pw po m base st s F := by
  obtain ⟨h1, h2, h3, h4, h5, h6⟩ := W.le
  have hle := he.le
  exact ⟨(he _ (by omega)).trans W.bd, (he _ (by omega)).trans W.bb, (he _ (by omega)).trans W.bw, (he _ (by omega)).trans W.bo, W.mp.fr (he _ (by omega)), Rp.ext W.ord he, W.fr, ⟨h1, h2, h3, h4, h5, by omega⟩, W.ne, Rp.ext W.dd he, W.df⟩
theorem foldl_take_s {α β : Type} (f : β → α → β) (l : List α) (b : β) (i : Nat) (h : i < l.length) : (l.take (i + 1)).foldl f b = f ((l.take i).foldl f b) l[i] := by
  rw [List.take_succ_eq_append_getElem h, List.foldl_append]; rfl
theorem walk_ac {own : Bool} {ds : List Deed} {sd : Value} {FD : List Nat} {pd pb pw po m base : Nat} (hbk : back ds) (hdl : ds.length ≤ 400) : ∀ (f i : Nat) (d : Int) (H : Heap) (st : List (Int × Int) × List Int) (s : Value) (F : List Nat),
    i < f → i < ds.length → 0 ≤ d → d + i ≤ 1000000 → LOk ds.length st → WalkS own H ds sd FD pd pb pw po m base st s F →
    AC Try.prog ng 104 [int i, int d, .pointer (some ⟨pd, 0, none⟩), .pointer (some ⟨pb, 0, none⟩), .pointer (some ⟨pw, 0, none⟩), .pointer (some ⟨po, 0, none⟩)] H fun v S' => v = .tuple #[] ∧ ∃ s' F', WalkS own S' ds sd FD pd pb pw po m base (dfs ds f i d st) s' F' ∧
      (∀ j, j < base → j ≠ m → j ≠ po → S'[j]? = H[j]?)
  | 0, i, d, H, st, s, F, h, _, _, _, _, _ => by omega
  | f + 1, i, d, H, st, s, F, hf, hi, hd0, hd1, hok, W => by
    obtain ⟨⟨h1, h2, h3, h4, h5, h6⟩, ⟨n1, n2, n3, n4, n5, n6, n7⟩⟩ := And.intro W.le W.ne
    have hsd := W.dd.form
    obtain ⟨ad, zd, rfl⟩ := hsd
    refine AC.go [] Try.func104 rfl Try.ntmps104 rfl ⟨mixed, by kernel_rfl⟩ ?_
    simp +contextual (dsimp := false) [W.bd]
    refine LookK.map (a := (i : Int)) keyI W.mp ?_
    by_cases hm : (i : Int) ∈ st.1.map (·.1)
    · have hg : getP (i : Int) (vI st.1) ≠ none := fun hc => ((getP_none _ _).1 hc) (by rw [vI_keys]; exact hm)
      obtain ⟨v, hv⟩ := Option.ne_none_iff_exists'.1 hg
      rw [dfs, if_pos hm]
      simp +contextual (dsimp := false) [hv]
      exact ⟨s, F, W⟩
    · have hg : getP (i : Int) (vI st.1) = none := (getP_none _ _).2 (by rw [vI_keys]; exact hm)
      have hWd := W.bd
      simp +contextual (dsimp := false) [hg, W.bd]
      refine UpdK.map (a := (i : Int)) keyI W.mp rfl ?_
      intro es cl hmp
      rw [putP_new _ _ _ (by rw [vI_keys]; exact hm)] at hmp
      obtain ⟨H1, hH1⟩ : ∃ H1, H1 = H.set m ⟨.map es cl, true, true⟩ := ⟨_, rfl⟩
      rw [← hH1] at hmp ⊢
      have hlen : H1.length = H.length := by rw [hH1]; simp
      have hne : ∀ j, j ≠ m → H1[j]? = H[j]? := fun j hj => by rw [hH1]; exact List.getElem?_set_ne (Ne.symm hj)
      have W1 : WalkS own H1 ds (.slice ad ds.length zd) FD pd pb pw po m base (st.1 ++ [((i : Int), d)], st.2) s F :=
        ⟨(hne _ (Ne.symm n1)).trans W.bd, (hne _ (Ne.symm n2)).trans W.bb, (hne _ (Ne.symm n3)).trans W.bw, (hne _ (Ne.symm n4)).trans W.bo, by simpa [vI] using hmp, Rp.fr W.ord fun j hj => hne j (by have := W.fr.1 j hj; omega), W.fr, ⟨h1, h2, h3, h4, h5, by omega⟩, W.ne,
          Rp.fr W.dd fun j hj => hne j (W.df j hj).2.1, W.df⟩
      have hok1 : LOk ds.length (st.1 ++ [((i : Int), d)], st.2) := by
        refine ⟨?_, ?_, ?_, ?_, hok.nd2⟩
        · rw [List.map_append, List.nodup_append]
          refine ⟨hok.nd, by simp, fun a ha b hb hab => hm ?_⟩
          simp at hb
          rw [← hb, ← hab]
          exact ha
        · intro p hp
          rcases List.mem_append.1 hp with hp | hp
          · exact hok.lt p hp
          · simp at hp
            subst hp
            exact ⟨by simp, by simpa using hi⟩
        · intro k hk
          rw [List.map_append]
          exact List.mem_append_left _ (hok.sub k hk)
        · have := hok.len
          simp only [List.length_append, List.length_singleton]
          omega
      obtain ⟨id, o, c, e, f', ow, cs, Fi, E⟩ := SlR.get W1.dd i hi
      obtain ⟨hkk, s1, s2, G1, G2, rfl, hFi, hc1, hc2⟩ := E.rep
      obtain ⟨a2, z2, rfl⟩ := hc2.form
      have hb2 := hc2.bound
      have hda : dAt ds i = ds[i] := dAt_lt hi
      have hsub2 : ∀ j ∈ G2, j ∈ FD := fun j hj => E.sub j (by rw [hFi]; simp [hj])
      simp +contextual (dsimp := false) [W1.bb, E.idx, E.goB, E.le, E.cell 5 (by omega)]
      refine LoopA.up (σ := Nat × Heap × (List (Int × Int) × List Int) × Value × List Nat) [0, 1, 4, 5, 26, 27, 28] (fun x => [(28, int x.1)]) (fun x => x.2.1)
        (fun x => x.1 ≤ ds[i].links.length ∧ WalkS own x.2.1 ds (.slice ad ds.length zd) FD pd pb pw po m base x.2.2.1 x.2.2.2.1 x.2.2.2.2 ∧ LOk ds.length x.2.2.1 ∧
          x.2.2.1 = (ds[i].links.take x.1).foldl (fun s l => if l.ask then dfs ds f l.at_.toNat (d + 1) s else s) (st.1 ++ [((i : Int), d)], st.2) ∧ (∀ j, j < base → j ≠ m → j ≠ po → x.2.1[j]? = H[j]?))
        (fun x => ds[i].links.length - x.1) (0, H1, (st.1 ++ [((i : Int), d)], st.2), s, F) rfl ⟨by simp, W1, hok1, by simp, fun j hj hj1 hj2 => hne j hj1⟩ ?_
      rintro ⟨k, hp, st', s', F'⟩ ⟨hk, W2, hok2, hst, hfr⟩
      dsimp only at hk W2 hok2 hst hfr
      simp +contextual (dsimp := false)
      have hbl := hok2.bound
      refine ifA_dec (fun h9 => ?_) (fun h9 => ?_)
      · obtain ⟨id2, o2, c2, e2, f2, ow2, cs2, Fi2, E2⟩ := SlR.get (Rp.fr hc2 (H' := hp) fun j hj => by
            have := W.df j (hsub2 j hj)
            rw [hfr j this.1 this.2.1 this.2.2, hne j this.2.1]) k h9
        obtain ⟨rfl, rfl, hokL⟩ := E2.rep
        have hbkL := hbk i hi
        rw [hda] at hbkL
        have hbkk := hbkL _ (List.getElem_mem h9)
        have hnext := foldl_take_s (fun s l => if l.ask then dfs ds f l.at_.toNat (d + 1) s else s) ds[i].links (st.1 ++ [((i : Int), d)], st.2) k h9
        rw [← hst] at hnext
        generalize ds[i].links[k] = L at *
        cases ha : L.ask
        · simp +contextual (dsimp := false) [E2.idx, E2.goB, E2.blk, E2.le, E2.lt, E2.ext, Lnk.c, ha, wrap_succ (show k < 9223372036854775807 by omega)]
          refine LoopN.of (k + 1, _, st', s', F') rfl ⟨h9, W2.ext (Ext.app _ _), hok2, by rw [hnext, ha]; rfl, fun j hj hj1 hj2 => (get_ext (by have := W2.le; omega)).trans (hfr j hj hj1 hj2)⟩ (by dsimp only; omega)
        · obtain ⟨g1, g2⟩ := hbkk ha
          obtain ⟨q, hq⟩ : ∃ q : Nat, L.at_ = q := ⟨L.at_.toNat, by omega⟩
          have hwd : IntKind.i64.wrap (d + 1) = d + 1 := wrap_of (d + 1) (by omega) (by omega)
          have hbw : ∀ T : Heap, (hp ++ T)[pw]? = _ := fun T => (get_ext (by have := W2.le; omega)).trans W2.bw
          simp +contextual (dsimp := false) [E2.idx, E2.goB, E2.blk, E2.le, E2.lt, E2.ext, Lnk.c, ha, hbw, hwd, hq]
          refine CallK.of ⟨_, Try.func104, rfl, rfl⟩ (walk_ac hbk hdl f q (d + 1) _ st' s' F' (by omega) (by omega) (by omega) (by omega) hok2 (W2.ext (Ext.app _ _))) ?_
          rintro v S' ⟨rfl, s'', F'', W3, hfr3⟩
          simp +contextual (dsimp := false) [wrap_succ (show k < 9223372036854775807 by omega)]
          refine LoopN.of (k + 1, S', dfs ds f q (d + 1) st', s'', F'') rfl ⟨h9, W3, (dfs_ok hbk f q (d + 1) st' (by omega) (by omega) hok2).1, by rw [hnext, ha, hq]; rfl, fun j hj hj1 hj2 => ((hfr3 j hj hj1 hj2).trans (get_ext (by have := W2.le; omega))).trans (hfr j hj hj1 hj2)⟩ (by dsimp only; omega)
      · rw [List.take_of_length_le (by omega)] at hst
        have hD : dfs ds (f + 1) i d st = (st'.1, st'.2 ++ [(i : Int)]) := by rw [dfs, if_neg hm, hst, hda]
        rw [hD]
        obtain ⟨as', zs', rfl⟩ := W2.ord.form
        simp +contextual (dsimp := false) [W2.bo]
        refine AppK.one (R := intR') (l := st'.2) (ex := 3) (fx := (0, 0)) (ox := true) (base := base) (x := (i : Int)) (cx := [.int .i64 (i : Int)]) (Fx := []) slt95 und95 ?_ W2.fr ?_ ?_ (Fresh.nil _) (by simp) ?_ ?_ (by decide) ?_
        · exact Rp.ext W2.ord (Ext.app _ _)
        · simp
        · exact ⟨rfl, rfl, by omega, by omega⟩
        · have := W2.le; simp; omega
        · omega
        intro s4 H4 F4 q1 q2 q3 q4 q5
        simp at q3
        have hq : ∀ j, j < base → H4[j]? = hp[j]? := fun j hj => (q4 j (by have := W2.le; simp; omega) (fun hm => by have := W2.fr.1 j hm; omega)).trans (get_ext (by have := W2.le; omega))
        have e4 := (hq po (by omega)).trans W2.bo
        obtain ⟨a4, z4, rfl⟩ := q1.form
        simp +contextual (dsimp := false) [e4]
        have hle4 : base ≤ H4.length := by have := W2.le; omega
        refine ⟨⟨.slice a4 (st'.2.length + 1) z4, F4, ⟨?_, ?_, ?_, ?_, ?_, ?_, q2, ⟨h1, h2, h3, h4, h5, by simpa using hle4⟩, W2.ne, ?_, W2.df⟩⟩, fun j hj hj1 hj2 => (List.getElem?_set_ne (Ne.symm hj2)).trans ((hq j hj).trans (hfr j hj hj1 hj2))⟩
        · exact (List.getElem?_set_ne n5).trans ((hq pd h1).trans W2.bd)
        · exact (List.getElem?_set_ne n6).trans ((hq pb h2).trans W2.bb)
        · exact (List.getElem?_set_ne n7).trans ((hq pw h3).trans W2.bw)
        · rw [List.getElem?_set_self (by omega)]
        · exact W2.mp.fr ((List.getElem?_set_ne (Ne.symm n4)).trans (hq m h5))
        · simp only [List.length_append, List.length_singleton] at q1
          exact Rp.fr q1 fun j hj => List.getElem?_set_ne (by rintro rfl; have := q2.1 _ hj; omega)
        · exact Rp.fr W2.dd fun j hj => (List.getElem?_set_ne (Ne.symm (W2.df j hj).2.2)).trans (hq j (W2.df j hj).1)
theorem listing_ac {own : Bool} {ds : List Deed} {sd : Value} {FD : List Nat} {H : Heap} (hbk : back ds) (hdl : ds.length ≤ 400) (hs : DeedsR own H ds [sd] FD) (root : Nat) (hr : root < ds.length) :
    AC Try.prog ng 58 [sd, int root] H fun v S' => ∃ so m Fo, v = .tuple #[so, .map (some m)] ∧ Ext H S' ∧ IntsR true S' (listing ds root).2 [so] Fo ∧ Fresh H.length Fo ∧ MapR kI S' m (vI (listing ds root).1) ∧ H.length ≤ m := by
  obtain ⟨ad, zd, rfl⟩ := hs.form
  refine AC.go [(5, .take 0 <| .take 1 <| .one 2 [1] <| .one 3 [] <| .done)] Try.func58 rfl Try.ntmps58 rfl ⟨mixed, by kernel_rfl⟩ ?_
  simp +contextual (dsimp := false)
  refine CallK.of ⟨_, Try.func104, rfl, rfl⟩ (walk_ac (own := own) (sd := .slice ad ds.length zd) (FD := FD) (pd := H.length + 2) (pb := H.length) (pw := H.length + 4) (po := H.length + 1) (m := H.length + 3) (base := H.length + 5) hbk hdl ds.length root 0 _ ([], []) (.slice none 0 0) [] hr hr (by omega) (by omega) (LOk.start _)
    ⟨by simp, by simp, by simp, by simp, MapR.new (by simp), SlR.nil, Fresh.nil _, by simp, by simp, Rp.ext hs (Ext.app _ _), fun j hj => by have := Rp.lt hs j hj; omega⟩) ?_
  rintro v S' ⟨rfl, so, Fo, W, hfr⟩
  have hl := W.le
  obtain ⟨ao, zo, rfl⟩ := W.ord.form
  have e1 : ∀ b : Blk, (S'.set (H.length + 1) b)[H.length + 1]? = some b := fun b => List.getElem?_set_self (by omega)
  have e2 : ∀ (b : Blk), (S'.set (H.length + 1) b)[H.length + 2]? = S'[H.length + 2]? := fun b => List.getElem?_set_ne (by omega)
  have e3 : ∀ (S : Heap) (b : Blk), (S.set (H.length + 2) b)[H.length + 1]? = S[H.length + 1]? := fun S b => List.getElem?_set_ne (by omega)
  have e4 : ∀ (b b' : Blk), ((S'.set (H.length + 1) b').set (H.length + 2) b)[H.length + 2]? = some b := fun b b' => List.getElem?_set_self (by simp; omega)
  simp +contextual (dsimp := false) [W.bo, W.bd, e1, e2, e3, e4]
  have hk : ∀ (b b' : Blk) (j : Nat), j ≠ H.length + 1 → j ≠ H.length + 2 → ((S'.set (H.length + 1) b).set (H.length + 2) b')[j]? = S'[j]? := fun b b' j h1 h2 => (List.getElem?_set_ne (Ne.symm h2)).trans (List.getElem?_set_ne (Ne.symm h1))
  exact ⟨_, _, ⟨rfl, rfl⟩, fun j hj => (hk _ _ j (by omega) (by omega)).trans ((hfr j (by omega) (by omega) (by omega)).trans (get_ext hj)), Fo, Rp.fr W.ord fun j hj => hk _ _ j (by have := W.fr.1 j hj; omega) (by have := W.fr.1 j hj; omega), W.fr.weak (by omega), W.mp.fr (hk _ _ _ (by omega) (by omega)), by omega⟩
end Go.Proofs.Ytehhjbomdohgoaa
